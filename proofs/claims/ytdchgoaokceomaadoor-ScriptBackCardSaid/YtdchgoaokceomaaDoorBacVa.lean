/- Printed by tr.py: Go functions as Lean functions, with the proofs that they walk so. -/
import Derived.Test.YtdchgoaokceomaaDoorProg
import Derived.Test.YtdchgoaokceomaaDoorCnW
import Derived.Shelf.Strings.OnBuilder
import Derived.WalkKit
import Derived.TacticsInMore
import Derived.RegionIn
import Derived.LoopNIn
import Derived.LoopIn
import Derived.ControlIn
import Derived.Shelf.Strings.OnBuilder
import Derived.Deep.LoopGhost
import Derived.Lib.AppendZeros
namespace Go.Proofs.YtdchgoaokceomaaDoor.Wk
open Go Go.Cn Go.RowKit
set_option maxRecDepth 100000
set_option maxHeartbeats 4000000
set_option linter.unusedVariables false
set_option linter.unusedSimpArgs false
noncomputable section
theorem mixed : Tryd.prog.follows .mixedOrders = true := by kernel_rfl
structure T_api_Tx where
  f_Node : Int
  f_Boot : Int
  f_Num : Int
  deriving DecidableEq, Inhabited

def c_T_api_Tx (x : T_api_Tx) : List LV := [.int .u8 x.f_Node, .int .u32 x.f_Boot, .int .u32 x.f_Num]

def v_T_api_Tx (x : T_api_Tx) : LV := .agg (c_T_api_Tx x)

theorem x_T_api_Tx (a b : T_api_Tx) : a = b ↔ a.f_Node = b.f_Node ∧ a.f_Boot = b.f_Boot ∧ a.f_Num = b.f_Num := by
  cases a; cases b; simp

theorem k_T_api_Tx (a b : T_api_Tx) : eqK (v_T_api_Tx a) (v_T_api_Tx b) = decide (a = b) := by
  rw [Bool.eq_iff_iff, decide_eq_true_eq]
  simp only [x_T_api_Tx, v_T_api_Tx, c_T_api_Tx, eqK, eqCs, eqC, Bool.and_eq_true, beq_iff_eq, and_assoc, and_true]

structure T_parrelref27_Call where
  f_Client : Int
  f_Seq : Int
  f_Kind : Int
  f_Tx : T_api_Tx
  f_Key : A8 (Int)
  f_Value : List UInt8
  f_R : Int
  f_W : Int
  f_Votes : List (Int)
  deriving DecidableEq, Inhabited

def c_T_parrelref27_Call (x : T_parrelref27_Call) : List LV := [.int .u8 x.f_Client, .int .u32 x.f_Seq, .int .u8 x.f_Kind, .int .u8 x.f_Tx.f_Node, .int .u32 x.f_Tx.f_Boot, .int .u32 x.f_Tx.f_Num, .int .u8 x.f_Key.a0, .int .u8 x.f_Key.a1, .int .u8 x.f_Key.a2, .int .u8 x.f_Key.a3, .int .u8 x.f_Key.a4, .int .u8 x.f_Key.a5, .int .u8 x.f_Key.a6, .int .u8 x.f_Key.a7, .str x.f_Value, .int .u8 x.f_R, .int .u8 x.f_W, .ds 1 (x.f_Votes).length (rowF (cInt .u8) default x.f_Votes)]

def v_T_parrelref27_Call (x : T_parrelref27_Call) : LV := .agg (c_T_parrelref27_Call x)

structure T_parrelref27_Step where
  f_Kind : Int
  f_Node : Int
  f_Wire : Int
  f_N : Int
  f_Cut : Bool
  f_Call : T_parrelref27_Call
  f_To : Int
  f_Bytes : List (Int)
  deriving DecidableEq, Inhabited

def c_T_parrelref27_Step (x : T_parrelref27_Step) : List LV := [.int .u8 x.f_Kind, .int .i64 x.f_Node, .int .i64 x.f_Wire, .int .i64 x.f_N, .bool x.f_Cut, .int .u8 x.f_Call.f_Client, .int .u32 x.f_Call.f_Seq, .int .u8 x.f_Call.f_Kind, .int .u8 x.f_Call.f_Tx.f_Node, .int .u32 x.f_Call.f_Tx.f_Boot, .int .u32 x.f_Call.f_Tx.f_Num, .int .u8 x.f_Call.f_Key.a0, .int .u8 x.f_Call.f_Key.a1, .int .u8 x.f_Call.f_Key.a2, .int .u8 x.f_Call.f_Key.a3, .int .u8 x.f_Call.f_Key.a4, .int .u8 x.f_Call.f_Key.a5, .int .u8 x.f_Call.f_Key.a6, .int .u8 x.f_Call.f_Key.a7, .str x.f_Call.f_Value, .int .u8 x.f_Call.f_R, .int .u8 x.f_Call.f_W, .ds 1 (x.f_Call.f_Votes).length (rowF (cInt .u8) default x.f_Call.f_Votes), .int .i64 x.f_To, .ds 1 (x.f_Bytes).length (rowF (cInt .u8) default x.f_Bytes)]

def v_T_parrelref27_Step (x : T_parrelref27_Step) : LV := .agg (c_T_parrelref27_Step x)

structure T_sess_Call where
  f_Client : Int
  f_Seq : Int
  deriving DecidableEq, Inhabited

def c_T_sess_Call (x : T_sess_Call) : List LV := [.int .u8 x.f_Client, .int .u32 x.f_Seq]

def v_T_sess_Call (x : T_sess_Call) : LV := .agg (c_T_sess_Call x)

theorem x_T_sess_Call (a b : T_sess_Call) : a = b ↔ a.f_Client = b.f_Client ∧ a.f_Seq = b.f_Seq := by
  cases a; cases b; simp

theorem k_T_sess_Call (a b : T_sess_Call) : eqK (v_T_sess_Call a) (v_T_sess_Call b) = decide (a = b) := by
  rw [Bool.eq_iff_iff, decide_eq_true_eq]
  simp only [x_T_sess_Call, v_T_sess_Call, c_T_sess_Call, eqK, eqCs, eqC, Bool.and_eq_true, beq_iff_eq, and_assoc, and_true]

structure T_node_Call where
  f_Call : T_sess_Call
  f_Kind : Int
  f_Tx : T_api_Tx
  f_Key : A8 (Int)
  f_Value : List UInt8
  f_R : Int
  f_W : Int
  f_Votes : List (Int)
  deriving DecidableEq, Inhabited

def c_T_node_Call (x : T_node_Call) : List LV := [.int .u8 x.f_Call.f_Client, .int .u32 x.f_Call.f_Seq, .int .u8 x.f_Kind, .int .u8 x.f_Tx.f_Node, .int .u32 x.f_Tx.f_Boot, .int .u32 x.f_Tx.f_Num, .int .u8 x.f_Key.a0, .int .u8 x.f_Key.a1, .int .u8 x.f_Key.a2, .int .u8 x.f_Key.a3, .int .u8 x.f_Key.a4, .int .u8 x.f_Key.a5, .int .u8 x.f_Key.a6, .int .u8 x.f_Key.a7, .str x.f_Value, .int .u8 x.f_R, .int .u8 x.f_W, .ds 1 (x.f_Votes).length (rowF (cInt .u8) default x.f_Votes)]

def v_T_node_Call (x : T_node_Call) : LV := .agg (c_T_node_Call x)

structure T_script_Step where
  f_Kind : Int
  f_Node : Int
  f_Wire : Int
  f_N : Int
  f_Cut : Bool
  f_Call : T_node_Call
  f_To : Int
  f_Bytes : List (Int)
  deriving DecidableEq, Inhabited

def c_T_script_Step (x : T_script_Step) : List LV := [.int .u8 x.f_Kind, .int .i64 x.f_Node, .int .i64 x.f_Wire, .int .i64 x.f_N, .bool x.f_Cut, .int .u8 x.f_Call.f_Call.f_Client, .int .u32 x.f_Call.f_Call.f_Seq, .int .u8 x.f_Call.f_Kind, .int .u8 x.f_Call.f_Tx.f_Node, .int .u32 x.f_Call.f_Tx.f_Boot, .int .u32 x.f_Call.f_Tx.f_Num, .int .u8 x.f_Call.f_Key.a0, .int .u8 x.f_Call.f_Key.a1, .int .u8 x.f_Call.f_Key.a2, .int .u8 x.f_Call.f_Key.a3, .int .u8 x.f_Call.f_Key.a4, .int .u8 x.f_Call.f_Key.a5, .int .u8 x.f_Call.f_Key.a6, .int .u8 x.f_Call.f_Key.a7, .str x.f_Call.f_Value, .int .u8 x.f_Call.f_R, .int .u8 x.f_Call.f_W, .ds 1 (x.f_Call.f_Votes).length (rowF (cInt .u8) default x.f_Call.f_Votes), .int .i64 x.f_To, .ds 1 (x.f_Bytes).length (rowF (cInt .u8) default x.f_Bytes)]

def v_T_script_Step (x : T_script_Step) : LV := .agg (c_T_script_Step x)

structure T_script_reader where
  f_l : List (List UInt8)
  f_bad : Bool
  deriving DecidableEq, Inhabited

def c_T_script_reader (x : T_script_reader) : List LV := [.ds 1 (x.f_l).length (rowF cStr default x.f_l), .bool x.f_bad]

def v_T_script_reader (x : T_script_reader) : LV := .agg (c_T_script_reader x)

structure T_api_Fault where
  f_Why : Int
  f_At : Int
  deriving DecidableEq, Inhabited

def c_T_api_Fault (x : T_api_Fault) : List LV := [.int .i64 x.f_Why, .int .i64 x.f_At]

def v_T_api_Fault (x : T_api_Fault) : LV := .agg (c_T_api_Fault x)

theorem x_T_api_Fault (a b : T_api_Fault) : a = b ↔ a.f_Why = b.f_Why ∧ a.f_At = b.f_At := by
  cases a; cases b; simp

theorem k_T_api_Fault (a b : T_api_Fault) : eqK (v_T_api_Fault a) (v_T_api_Fault b) = decide (a = b) := by
  rw [Bool.eq_iff_iff, decide_eq_true_eq]
  simp only [x_T_api_Fault, v_T_api_Fault, c_T_api_Fault, eqK, eqCs, eqC, Bool.and_eq_true, beq_iff_eq, and_assoc, and_true]

theorem ext90 (l : List UInt8) (c : Int) : ExtTri Tryd.prog 90 [.str l, .int .u8 c] (.int .i64 (Lib.countByte l c.toNat.toUInt8 : Nat)) := ext_countByte Tryd.func90 (by kernel_rfl) (by kernel_rfl) (by kernel_rfl) (by kernel_rfl) l c

theorem ext94 (l : List UInt8) (c : Int) : ExtTri Tryd.prog 94 [.str l, .int .u8 c] (.int .i64 (Lib.indexByte l c.toNat.toUInt8)) := ext_indexByte Tryd.func94 (by kernel_rfl) (by kernel_rfl) (by kernel_rfl) (by kernel_rfl) l c

/-- strings.Count -/

def strings_Count_v (r : (Int)) : LV := .int .i64 r

def strings_Count (s : List UInt8) : Option ((Int)) :=
  some ((Lib.countByte s ((32 : Int)).toNat.toUInt8 : Nat) : Int)

theorem strings_Count_ok (s : List UInt8) (r : (Int)) (h : strings_Count s = some r) : ∀ σ, Inj 0 σ → FnTri Tryd.prog 69 (renL σ [.str s, .str ([32] : List UInt8)]) (preOf σ 0 []) ((strings_Count_v r).ren σ) (upOf σ []) := by
  refine fn_of Tryd.func69 (by kernel_rfl) (by kernel_rfl) (by kernel_rfl) trivial (by kernel_rfl) trivial (by kernel_rfl) ?_
  intro w0 W μ0 hμ
  unfold strings_Count at h
  obtain rfl := Option.some.inj h
  exact run_ret mixed (L := []) (n := 26) (s := [.reg [], .reg [], .reg [], .reg [(3, { ext := some (.int .i64 ((Lib.countByte s ((32 : Int)).toNat.toUInt8 : Nat) : Int)) })]])
    (a_ (a_ (r1_ tr) (a_ (r1_ (r2_ tr)) (a_ (r1_ (r2_ tr)) (a_ (r2_ (a_ (a_ (a_ (lei_ 0 0 rfl) (lti_ 0 1 rfl)) tr) (a_ (a_ (ext90 s (32 : Int)) tr) (r1_ tr)))) tr)))) tr) (by kernel_rfl) rfl

theorem strings_Count_tri (s : List UInt8) (r : (Int)) (h : strings_Count s = some r) : FnTri Tryd.prog 69 [.str s, .str ([32] : List UInt8)] [] (strings_Count_v r) [] := FnTri.none (strings_Count_ok s r h) rfl rfl

/-- internal/stringslite.IndexByte -/

def internal_stringslite_IndexByte_v (r : (Int)) : LV := .int .i64 r

def internal_stringslite_IndexByte (s : List UInt8) (c : Int) : Option ((Int)) :=
  some (Lib.indexByte s (c).toNat.toUInt8)

theorem internal_stringslite_IndexByte_ok (s : List UInt8) (c : Int) (r : (Int)) (h : internal_stringslite_IndexByte s c = some r) : ∀ σ, Inj 0 σ → FnTri Tryd.prog 84 (renL σ [.str s, .int .u8 c]) (preOf σ 0 []) ((internal_stringslite_IndexByte_v r).ren σ) (upOf σ []) := by
  refine fn_of Tryd.func84 (by kernel_rfl) (by kernel_rfl) (by kernel_rfl) trivial (by kernel_rfl) trivial (by kernel_rfl) ?_
  intro w0 W μ0 hμ
  unfold internal_stringslite_IndexByte at h
  obtain rfl := Option.some.inj h
  exact run_ret mixed (L := []) (n := 15) (s := [.reg [], .reg [(2, { ext := some (.int .i64 (Lib.indexByte s (c).toNat.toUInt8)) })]])
    (a_ (a_ (r1_ tr) (a_ (r2_ (a_ (a_ (ext94 s c) tr) (r1_ tr))) tr)) tr) (by kernel_rfl) rfl

theorem internal_stringslite_IndexByte_tri (s : List UInt8) (c : Int) (r : (Int)) (h : internal_stringslite_IndexByte s c = some r) : FnTri Tryd.prog 84 [.str s, .int .u8 c] [] (internal_stringslite_IndexByte_v r) [] := FnTri.none (internal_stringslite_IndexByte_ok s c r h) rfl rfl

/-- internal/stringslite.Index -/

def internal_stringslite_Index_v (r : (Int)) : LV := .int .i64 r

def internal_stringslite_Index (s : List UInt8) : Option ((Int)) :=
  if ((([32] : List UInt8) == s) : Bool) then
    some 0
  else
    (internal_stringslite_IndexByte s 32).bind fun y3 =>
    some y3

theorem internal_stringslite_Index_ok (s : List UInt8) (r : (Int)) (h : internal_stringslite_Index s = some r) : ∀ σ, Inj 0 σ → FnTri Tryd.prog 67 (renL σ [.str s, .str ([32] : List UInt8)]) (preOf σ 0 []) ((internal_stringslite_Index_v r).ren σ) (upOf σ []) := by
  refine fn_of Tryd.func67 (by kernel_rfl) (by kernel_rfl) (by kernel_rfl) trivial (by kernel_rfl) trivial (by kernel_rfl) ?_
  intro w0 W μ0 hμ
  unfold internal_stringslite_Index at h
  rcases itb_some h with ⟨c1, h⟩ | ⟨c1, h⟩
  · skip
    obtain rfl := Option.some.inj h
    exact run_ret mixed (L := []) (n := 24) (s := [.reg [], .reg [], .reg [(7, hT)], .reg []])
      (a_ (a_ (r1_ tr) (a_ (r1_ (r2_ tr)) (a_ (r1_ (r2_ (r4_ (f_ c1 tr)))) (a_ (r1_ tr) tr)))) tr) (by kernel_rfl) rfl
  · skip
    obtain ⟨y3, e2, h⟩ := bind_some h
    obtain rfl := Option.some.inj h
    exact run_ret mixed (L := []) (n := 28) (s := [.reg [], .reg [], .reg [(7, hF)], .reg [], .reg [(3, hC (internal_stringslite_IndexByte_v y3))]])
      (a_ (a_ (r1_ tr) (a_ (r1_ (r2_ tr)) (a_ (r1_ (r2_ (r4_ (f_ c1 tr)))) (a_ (r1_ (r2_ tr)) (a_ (r2_ (a_ (a_ (a_ (lei_ 0 0 rfl) (lti_ 0 1 rfl)) tr) (c_ (internal_stringslite_IndexByte_tri s 32 y3 e2) (r1_ tr)))) tr))))) tr) (by kernel_rfl) rfl

theorem internal_stringslite_Index_tri (s : List UInt8) (r : (Int)) (h : internal_stringslite_Index s = some r) : FnTri Tryd.prog 67 [.str s, .str ([32] : List UInt8)] [] (internal_stringslite_Index_v r) [] := FnTri.none (internal_stringslite_Index_ok s r h) rfl rfl

/-- strings.Index -/

def strings_Index_v (r : (Int)) : LV := .int .i64 r

def strings_Index (s : List UInt8) : Option ((Int)) :=
  (internal_stringslite_Index s).bind fun y2 =>
  some y2

theorem strings_Index_ok (s : List UInt8) (r : (Int)) (h : strings_Index s = some r) : ∀ σ, Inj 0 σ → FnTri Tryd.prog 70 (renL σ [.str s, .str ([32] : List UInt8)]) (preOf σ 0 []) ((strings_Index_v r).ren σ) (upOf σ []) := by
  refine fn_of Tryd.func70 (by kernel_rfl) (by kernel_rfl) (by kernel_rfl) trivial (by kernel_rfl) trivial (by kernel_rfl) ?_
  intro w0 W μ0 hμ
  unfold strings_Index at h
  obtain ⟨y2, e1, h⟩ := bind_some h
  obtain rfl := Option.some.inj h
  exact run_ret mixed (L := []) (n := 15) (s := [.reg [], .reg [(2, hC (internal_stringslite_Index_v y2))]])
    (a_ (a_ (r1_ tr) (a_ (r2_ (c_ (internal_stringslite_Index_tri s y2 e1) (r1_ tr))) tr)) tr) (by kernel_rfl) rfl

theorem strings_Index_tri (s : List UInt8) (r : (Int)) (h : strings_Index s = some r) : FnTri Tryd.prog 70 [.str s, .str ([32] : List UInt8)] [] (strings_Index_v r) [] := FnTri.none (strings_Index_ok s r h) rfl rfl

/-- strings.genSplit -/

def strings_genSplit_v (r : (List (List UInt8))) : LV := .ds 1 (r).length (rowF cStr default r)

def strings_genSplit_T1000018 (s : List UInt8) (s2 : List UInt8) (i : Int) (l : List (List UInt8)) (y2 : (Int))  : List LV := [.any, .any, .any, .any, .any, .any, .any, .any, .any, .sl 0 0 0 false (((if (IntKind.wrap .i64 (((s).length : Int) + 1)) < (IntKind.wrap .i64 (y2 + 1)) then (IntKind.wrap .i64 (((s).length : Int) + 1)) else (IntKind.wrap .i64 (y2 + 1)))).toNat) none, .int .i64 i, .any, .any, .any, .any, .any, .any, .any, .any, .any, .any, .any, .any, .any, .any, .any, .any, .any, .any, .any, .any, .any, .any, .any, .any, .any, .any, .any, .any, .any, .any, .any, .any, .any, .any, .any, .any, .any, .any, .any, .any, .any, .any, .any, .any, .any, .any, .any, .any, .any, .any, .any, .any, .any, .any, .any]

def strings_genSplit_H1000018 (s : List UInt8) (s2 : List UInt8) (i : Int) (l : List (List UInt8)) (y2 : (Int))  : Heap := [some (.row 1 ((l.set (0 + i.toNat) s2)).length (rowF cStr default (l.set (0 + i.toNat) s2)) true)]

def strings_genSplit_T0 (s : List UInt8) (y2 : (Int)) (s2 : List UInt8) (i : Int) (l : List (List UInt8)) : List LV := [.str s2, .str ([32] : List UInt8), .int .i64 0, .int .i64 (IntKind.wrap .i64 ((if (IntKind.wrap .i64 (((s).length : Int) + 1)) < (IntKind.wrap .i64 (y2 + 1)) then (IntKind.wrap .i64 (((s).length : Int) + 1)) else (IntKind.wrap .i64 (y2 + 1))) - 1)), .any, .any, .any, .any, .any, .sl 0 0 0 false (((if (IntKind.wrap .i64 (((s).length : Int) + 1)) < (IntKind.wrap .i64 (y2 + 1)) then (IntKind.wrap .i64 (((s).length : Int) + 1)) else (IntKind.wrap .i64 (y2 + 1)))).toNat) none, .int .i64 i, .any, .any, .any, .any, .any, .any, .any, .any, .any, .any, .any, .any, .any, .any, .any, .any, .any, .any, .any, .any, .any, .any, .any, .any, .any, .any, .any, .any, .any, .any, .any, .any, .any, .any, .any, .any, .any, .any, .any, .any, .any, .any, .any, .any, .any, .any, .any, .any, .any, .any, .any, .any, .any, .any, .any]

def strings_genSplit_H0 (s : List UInt8) (y2 : (Int)) (s2 : List UInt8) (i : Int) (l : List (List UInt8)) : Heap := [some (.row 1 (l).length (rowF cStr default l) true)]

def strings_genSplit_c18 (s : List UInt8) (s2 : List UInt8) (i : Int) (l : List (List UInt8)) (y2 : (Int))   : Option ((List (List UInt8))) :=
  if (((if (IntKind.wrap .i64 (((s).length : Int) + 1)) < (IntKind.wrap .i64 (y2 + 1)) then (IntKind.wrap .i64 (((s).length : Int) + 1)) else (IntKind.wrap .i64 (y2 + 1)))).toNat) = ((l.set (0 + i.toNat) s2)).length then
  if 0 ≤ (0 : Int) ∧ 0 ≤ (IntKind.wrap .i64 (i + 1)) ∧ (IntKind.wrap .i64 (i + 1)) ≤ ((((l.set (0 + i.toNat) s2)).length : Nat) : Int) then
  some ((l.set (0 + i.toNat) s2).take ((IntKind.wrap .i64 (i + 1))).toNat)
  else none
  else none

def strings_genSplit_l0 (s : List UInt8) (y2 : (Int))  : Nat → (List UInt8) → (Int) → (List (List UInt8)) → Option ((List (List UInt8)))
  | 0, _, _, _ => none
  | fuel + 1, s2, i, l =>
    if ((decide (i < (IntKind.wrap .i64 ((if (IntKind.wrap .i64 (((s).length : Int) + 1)) < (IntKind.wrap .i64 (y2 + 1)) then (IntKind.wrap .i64 (((s).length : Int) + 1)) else (IntKind.wrap .i64 (y2 + 1))) - 1)))) : Bool) then
      (strings_Index s2).bind fun yL0_3 =>
      if ((decide (yL0_3 < 0)) : Bool) then
        if 0 ≤ i ∧ i < (((((if (IntKind.wrap .i64 (((s).length : Int) + 1)) < (IntKind.wrap .i64 (y2 + 1)) then (IntKind.wrap .i64 (((s).length : Int) + 1)) else (IntKind.wrap .i64 (y2 + 1)))).toNat) : Nat) : Int) then
        if (0 + i.toNat) < (l).length then
        strings_genSplit_c18 s s2 i l y2  
        else none
        else none
      else
        if 0 ≤ (0 : Int) ∧ (0 : Int) ≤ (IntKind.wrap .i64 (yL0_3 + 0)) ∧ (IntKind.wrap .i64 (yL0_3 + 0)) ≤ (((s2).length : Nat) : Int) then
        if 0 ≤ i ∧ i < (((((if (IntKind.wrap .i64 (((s).length : Int) + 1)) < (IntKind.wrap .i64 (y2 + 1)) then (IntKind.wrap .i64 (((s).length : Int) + 1)) else (IntKind.wrap .i64 (y2 + 1)))).toNat) : Nat) : Int) then
        if (0 + i.toNat) < (l).length then
        if 0 ≤ (IntKind.wrap .i64 (yL0_3 + 1)) ∧ (IntKind.wrap .i64 (yL0_3 + 1)) ≤ (((s2).length : Nat) : Int) ∧ (((s2).length : Nat) : Int) ≤ (((s2).length : Nat) : Int) then
        strings_genSplit_l0 s y2  fuel ((s2.drop ((IntKind.wrap .i64 (yL0_3 + 1))).toNat).take (((s2).length) - ((IntKind.wrap .i64 (yL0_3 + 1))).toNat)) (IntKind.wrap .i64 (i + 1)) (l.set (0 + i.toNat) ((s2.drop 0).take (((IntKind.wrap .i64 (yL0_3 + 0))).toNat - 0)))
        else none
        else none
        else none
        else none
    else
      if 0 ≤ i ∧ i < (((((if (IntKind.wrap .i64 (((s).length : Int) + 1)) < (IntKind.wrap .i64 (y2 + 1)) then (IntKind.wrap .i64 (((s).length : Int) + 1)) else (IntKind.wrap .i64 (y2 + 1)))).toNat) : Nat) : Int) then
      if (0 + i.toNat) < (l).length then
      if (((if (IntKind.wrap .i64 (((s).length : Int) + 1)) < (IntKind.wrap .i64 (y2 + 1)) then (IntKind.wrap .i64 (((s).length : Int) + 1)) else (IntKind.wrap .i64 (y2 + 1)))).toNat) = ((l.set (0 + i.toNat) s2)).length then
      if 0 ≤ (0 : Int) ∧ 0 ≤ (IntKind.wrap .i64 (i + 1)) ∧ (IntKind.wrap .i64 (i + 1)) ≤ ((((l.set (0 + i.toNat) s2)).length : Nat) : Int) then
      some ((l.set (0 + i.toNat) s2).take ((IntKind.wrap .i64 (i + 1))).toNat)
      else none
      else none
      else none
      else none

def strings_genSplit (s : List UInt8) : Option ((List (List UInt8))) :=
  (strings_Count s).bind fun y2 =>
  if 0 ≤ (if (IntKind.wrap .i64 (((s).length : Int) + 1)) < (IntKind.wrap .i64 (y2 + 1)) then (IntKind.wrap .i64 (((s).length : Int) + 1)) else (IntKind.wrap .i64 (y2 + 1))) ∧ (if (IntKind.wrap .i64 (((s).length : Int) + 1)) < (IntKind.wrap .i64 (y2 + 1)) then (IntKind.wrap .i64 (((s).length : Int) + 1)) else (IntKind.wrap .i64 (y2 + 1))) ≤ (if (IntKind.wrap .i64 (((s).length : Int) + 1)) < (IntKind.wrap .i64 (y2 + 1)) then (IntKind.wrap .i64 (((s).length : Int) + 1)) else (IntKind.wrap .i64 (y2 + 1))) ∧ (if (IntKind.wrap .i64 (((s).length : Int) + 1)) < (IntKind.wrap .i64 (y2 + 1)) then (IntKind.wrap .i64 (((s).length : Int) + 1)) else (IntKind.wrap .i64 (y2 + 1))) * 16 ≤ 140737488351232 ∧ (if (IntKind.wrap .i64 (((s).length : Int) + 1)) < (IntKind.wrap .i64 (y2 + 1)) then (IntKind.wrap .i64 (((s).length : Int) + 1)) else (IntKind.wrap .i64 (y2 + 1))) ≤ 9223372036854775807 then
  strings_genSplit_l0 s y2  big s 0 (List.replicate (((if (IntKind.wrap .i64 (((s).length : Int) + 1)) < (IntKind.wrap .i64 (y2 + 1)) then (IntKind.wrap .i64 (((s).length : Int) + 1)) else (IntKind.wrap .i64 (y2 + 1)))).toNat) ([]) : List (List UInt8))
  else none

theorem strings_genSplit_c18_ok {w0 : World} {W : Nat → Prop} {μ0 : Emb} (hμ : ∀ c p, μ0 c = some p → c < 0) (s : List UInt8) (s2 : List UInt8) (i : Int) (l : List (List UInt8)) (y2 : (Int))   (r : (List (List UInt8))) (h : strings_genSplit_c18 s s2 i l y2   = some r) : kont Tryd.prog w0 W μ0 (FnPost Tryd.prog Tryd.f57 0 0 (strings_genSplit_v r) []) (kAtR (bodyOf Tryd.f57) 18) none (strings_genSplit_T1000018 s s2 i l y2 ) (strings_genSplit_H1000018 s s2 i l y2 ) := by
  unfold strings_genSplit_c18 at h
  obtain ⟨gC18_1, h⟩ := guard_some h
  obtain ⟨gC18_2, h⟩ := guard_some h
  obtain rfl := Option.some.inj h
  exact run_ret mixed (L := []) (n := 13) (s := [.frz 0, .wk [(9, .ds 1 ((l.set (0 + i.toNat) s2)).length (rowF cStr default (l.set (0 + i.toNat) s2)))] [], .reg [(3, { v := some (.ds 1 (((l.set (0 + i.toNat) s2).take ((IntKind.wrap .i64 (i + 1))).toNat)).length (rowF cStr default ((l.set (0 + i.toNat) s2).take ((IntKind.wrap .i64 (i + 1))).toNat))) })]])
    (a_ (a_ (a_ (fz_row (enc := cStr) (d := default) (fun _ => rfl) (l.set (0 + i.toNat) s2)) (a_ (fz_sl gC18_1) (a_ (ob_row cStr default (l.set (0 + i.toNat) s2) 0 1 ((l.set (0 + i.toNat) s2)).length (rowF cStr default (l.set (0 + i.toNat) s2)) ((l.set (0 + i.toNat) s2)).length (fun _ => rfl)) tr))) (a_ (a_ (a_ (le_fz_sl cStr 1 (d := default) (l := (l.set (0 + i.toNat) s2)) gC18_1) tr) tr) (a_ (r1_ (r2_ (a_ (a_ (a_ (Eq.refl 1) gC18_2) (a_ (le_take cStr default 1 (l.set (0 + i.toNat) s2) ((IntKind.wrap .i64 (i + 1))).toNat (toN_le gC18_2.2.2)) tr)) (r1_ tr)))) tr))) tr) (by kernel_rfl) rfl

theorem strings_genSplit_l0_ok {w0 : World} {W : Nat → Prop} {μ0 : Emb} (hμ : ∀ c p, μ0 c = some p → c < 0) (s : List UInt8) (y2 : (Int))  : ∀ (fuel : Nat) (s2 : List UInt8) (i : Int) (l : List (List UInt8)) (r : (List (List UInt8))), strings_genSplit_l0 s y2  fuel s2 i l = some r → kont Tryd.prog w0 W μ0 (FnPost Tryd.prog Tryd.f57 0 0 (strings_genSplit_v r) []) (kAt (bodyOf Tryd.f57) 0) none (strings_genSplit_T0 s y2 s2 i l) (strings_genSplit_H0 s y2 s2 i l) := by
  intro fuel
  induction fuel with
  | zero => intro s2 i l r h; rw [strings_genSplit_l0] at h; cases h
  | succ fuel ih =>
    intro s2 i l r h
    rw [strings_genSplit_l0] at h
    rcases itb_some h with ⟨cL0_1, h⟩ | ⟨cL0_1, h⟩
    · skip
      obtain ⟨yL0_3, eL0_2, h⟩ := bind_some h
      rcases itb_some h with ⟨cL0_4, h⟩ | ⟨cL0_4, h⟩
      · skip
        obtain ⟨gL0_5, h⟩ := guard_some h
        obtain ⟨gL0_6, h⟩ := guard_some h
        exact run_to mixed hμ (L := [0]) (n := 30) (s := [.go, .reg [(2, hT)], .reg [(2, hC (strings_Index_v yL0_3))], .reg [(1, hT)], .reg [(4, { os := [(0, .row 1 ((l.set (0 + i.toNat) s2)).length (rowF cStr default (l.set (0 + i.toNat) s2)) true)] })]])
          (a_ (r2_ (f_ cL0_1 tr)) (a_ (r2_ (c_ (strings_Index_tri s2 yL0_3 eL0_2) (r1_ tr))) (a_ (r1_ (f_ cL0_4 tr)) (a_ (r1_ (r2_ (a_ (a_ (a_ (Eq.refl 1) gL0_5) tr) (a_ (a_ (a_ (Eq.refl 1) (a_ (le_ 1 1 rfl) gL0_6)) (a_ (sub_set_row cStr default 1 l (0 + i.toNat) s2 gL0_6 (splL (rowF cStr default l (0 + i.toNat)) 0 [.str s2]) (by kernel_rfl)) tr)) tr)))) tr)))) (strings_genSplit_c18_ok hμ s s2 i l y2   r h) (by kernel_rfl) ⟨fun _ _ => rfl, trivial⟩
      · skip
        obtain ⟨gL0_5, h⟩ := guard_some h
        obtain ⟨gL0_6, h⟩ := guard_some h
        obtain ⟨gL0_7, h⟩ := guard_some h
        obtain ⟨gL0_8, h⟩ := guard_some h
        exact run_to mixed hμ (L := [0]) (n := 35) (s := [.go, .reg [(2, hT)], .reg [(2, hC (strings_Index_v yL0_3))], .reg [(1, hF)], .reg [(8, { os := [(0, .row 1 ((l.set (0 + i.toNat) ((s2.drop 0).take (((IntKind.wrap .i64 (yL0_3 + 0))).toNat - 0)))).length (rowF cStr default (l.set (0 + i.toNat) ((s2.drop 0).take (((IntKind.wrap .i64 (yL0_3 + 0))).toNat - 0)))) true)] })], .reg [], .reg []])
          (a_ (r2_ (f_ cL0_1 tr)) (a_ (r2_ (c_ (strings_Index_tri s2 yL0_3 eL0_2) (r1_ tr))) (a_ (r1_ (f_ cL0_4 tr)) (a_ (r2_ (r4_ (a_ (a_ gL0_5 tr) (a_ (a_ (a_ (Eq.refl 1) gL0_6) tr) (a_ (a_ (a_ (Eq.refl 1) (a_ (le_ 1 1 rfl) gL0_7)) (a_ (sub_set_row cStr default 1 l (0 + i.toNat) ((s2.drop 0).take (((IntKind.wrap .i64 (yL0_3 + 0))).toNat - 0)) gL0_7 (splL (rowF cStr default l (0 + i.toNat)) 0 [.str ((s2.drop 0).take (((IntKind.wrap .i64 (yL0_3 + 0))).toNat - 0))]) (by kernel_rfl)) tr)) tr))))) (a_ (r1_ (r4_ (a_ (a_ gL0_8 tr) (r1_ tr)))) (a_ (r1_ (r2_ tr)) tr)))))) (ih _ _ _ r h) (by kernel_rfl) ⟨fun _ _ => rfl, trivial⟩
    · skip
      obtain ⟨gL0_2, h⟩ := guard_some h
      obtain ⟨gL0_3, h⟩ := guard_some h
      obtain ⟨gL0_4, h⟩ := guard_some h
      obtain ⟨gL0_5, h⟩ := guard_some h
      obtain rfl := Option.some.inj h
      exact run_ret mixed (L := []) (n := 24) (s := [.go, .reg [(2, hF)], .reg [(4, { os := [(0, .row 1 ((l.set (0 + i.toNat) s2)).length (rowF cStr default (l.set (0 + i.toNat) s2)) true)] })], .frz 0, .wk [(9, .ds 1 ((l.set (0 + i.toNat) s2)).length (rowF cStr default (l.set (0 + i.toNat) s2))), (58, .ds 1 ((l.set (0 + i.toNat) s2)).length (rowF cStr default (l.set (0 + i.toNat) s2)))] [], .reg [(3, { v := some (.ds 1 (((l.set (0 + i.toNat) s2).take ((IntKind.wrap .i64 (i + 1))).toNat)).length (rowF cStr default ((l.set (0 + i.toNat) s2).take ((IntKind.wrap .i64 (i + 1))).toNat))) })]])
        (a_ (a_ (r2_ (f_ cL0_1 tr)) (a_ (r1_ (r2_ (a_ (a_ (a_ (Eq.refl 1) gL0_2) tr) (a_ (a_ (a_ (Eq.refl 1) (a_ (le_ 1 1 rfl) gL0_3)) (a_ (sub_set_row cStr default 1 l (0 + i.toNat) s2 gL0_3 (splL (rowF cStr default l (0 + i.toNat)) 0 [.str s2]) (by kernel_rfl)) tr)) tr)))) (a_ (a_ (fz_row (enc := cStr) (d := default) (fun _ => rfl) (l.set (0 + i.toNat) s2)) (a_ (fz_sl gL0_4) (a_ (fz_sl gL0_4) (a_ (ob_row cStr default (l.set (0 + i.toNat) s2) 0 1 ((l.set (0 + i.toNat) s2)).length (rowF cStr default (l.set (0 + i.toNat) s2)) ((l.set (0 + i.toNat) s2)).length (fun _ => rfl)) tr)))) (a_ (a_ (a_ (le_fz_sl cStr 1 (d := default) (l := (l.set (0 + i.toNat) s2)) gL0_4) (a_ (le_fz_sl cStr 1 (d := default) (l := (l.set (0 + i.toNat) s2)) gL0_4) tr)) tr) (a_ (r1_ (r2_ (a_ (a_ (a_ (Eq.refl 1) gL0_5) (a_ (le_take cStr default 1 (l.set (0 + i.toNat) s2) ((IntKind.wrap .i64 (i + 1))).toNat (toN_le gL0_5.2.2)) tr)) (r1_ tr)))) tr))))) tr) (by kernel_rfl) rfl

theorem strings_genSplit_ok (s : List UInt8) (r : (List (List UInt8))) (h : strings_genSplit s = some r) : ∀ σ, Inj 0 σ → FnTri Tryd.prog 57 (renL σ [.str s, .str ([32] : List UInt8), .int .i64 0, .int .i64 (-1)]) (preOf σ 0 []) ((strings_genSplit_v r).ren σ) (upOf σ []) := by
  refine fn_of Tryd.func57 (by kernel_rfl) (by kernel_rfl) (by kernel_rfl) trivial (by kernel_rfl) trivial (by kernel_rfl) ?_
  intro w0 W μ0 hμ
  unfold strings_genSplit at h
  obtain ⟨y2, e1, h⟩ := bind_some h
  obtain ⟨g3, h⟩ := guard_some h
  exact run_to mixed hμ (L := [0]) (n := 46) (s := [.reg [(0, { v := some (.ds 1 (([] : List (List UInt8))).length (rowF cStr default ([] : List (List UInt8)))) })], .reg [], .reg [], .reg [], .reg [(2, hC (strings_Count_v y2))], .reg [], .reg [(1, { os := [(0, .row 1 ((List.replicate (((if (IntKind.wrap .i64 (((s).length : Int) + 1)) < (IntKind.wrap .i64 (y2 + 1)) then (IntKind.wrap .i64 (((s).length : Int) + 1)) else (IntKind.wrap .i64 (y2 + 1)))).toNat) ([]) : List (List UInt8))).length (rowF cStr default (List.replicate (((if (IntKind.wrap .i64 (((s).length : Int) + 1)) < (IntKind.wrap .i64 (y2 + 1)) then (IntKind.wrap .i64 (((s).length : Int) + 1)) else (IntKind.wrap .i64 (y2 + 1)))).toNat) ([]) : List (List UInt8))) true)], v := some (.sl 0 0 0 false (((if (IntKind.wrap .i64 (((s).length : Int) + 1)) < (IntKind.wrap .i64 (y2 + 1)) then (IntKind.wrap .i64 (((s).length : Int) + 1)) else (IntKind.wrap .i64 (y2 + 1)))).toNat) none) })], .reg [], .reg []])
    (a_ (a_ (a_ tr (a_ (le_nil_ds 1 (rowF cStr default [])) tr)) tr) (a_ (r2_ tr) (a_ (r2_ tr) (a_ (r2_ tr) (a_ (r2_ (c_ (strings_Count_tri s y2 e1) (r2_ tr))) (a_ (r2_ (r4_ tr)) (a_ (r1_ (a_ (a_ (a_ g3.1 (a_ g3.2.1 (a_ g3.2.2.1 (a_ g3.2.2.2 (a_ (Eq.refl true) (a_ (Eq.refl 1) (lt_ 0 1 rfl))))))) (a_ (le_cap 0 0 0 false (((if (IntKind.wrap .i64 (((s).length : Int) + 1)) < (IntKind.wrap .i64 (y2 + 1)) then (IntKind.wrap .i64 (((s).length : Int) + 1)) else (IntKind.wrap .i64 (y2 + 1)))).toNat) (((if (IntKind.wrap .i64 (((s).length : Int) + 1)) < (IntKind.wrap .i64 (y2 + 1)) then (IntKind.wrap .i64 (((s).length : Int) + 1)) else (IntKind.wrap .i64 (y2 + 1)))).toNat)) (a_ (sub_made cStr default 1 (((if (IntKind.wrap .i64 (((s).length : Int) + 1)) < (IntKind.wrap .i64 (y2 + 1)) then (IntKind.wrap .i64 (((s).length : Int) + 1)) else (IntKind.wrap .i64 (y2 + 1)))).toNat) ([])) tr))) (r1_ tr))) (a_ (r1_ (r2_ tr)) (a_ (r1_ tr) tr))))))))) (strings_genSplit_l0_ok hμ s y2  big _ _ _ r h) (by kernel_rfl) ⟨fun _ _ => rfl, trivial⟩

theorem strings_genSplit_tri (s : List UInt8) (r : (List (List UInt8))) (h : strings_genSplit s = some r) : FnTri Tryd.prog 57 [.str s, .str ([32] : List UInt8), .int .i64 0, .int .i64 (-1)] [] (strings_genSplit_v r) [] := FnTri.none (strings_genSplit_ok s r h) rfl rfl

/-- strings.Split -/

def strings_Split_v (r : (List (List UInt8))) : LV := .ds 1 (r).length (rowF cStr default r)

def strings_Split (s : List UInt8) : Option ((List (List UInt8))) :=
  (strings_genSplit s).bind fun y2 =>
  some y2

theorem strings_Split_ok (s : List UInt8) (r : (List (List UInt8))) (h : strings_Split s = some r) : ∀ σ, Inj 0 σ → FnTri Tryd.prog 38 (renL σ [.str s, .str ([32] : List UInt8)]) (preOf σ 0 []) ((strings_Split_v r).ren σ) (upOf σ []) := by
  refine fn_of Tryd.func38 (by kernel_rfl) (by kernel_rfl) (by kernel_rfl) trivial (by kernel_rfl) trivial (by kernel_rfl) ?_
  intro w0 W μ0 hμ
  unfold strings_Split at h
  obtain ⟨y2, e1, h⟩ := bind_some h
  obtain rfl := Option.some.inj h
  exact run_ret mixed (L := []) (n := 15) (s := [.reg [(0, { v := some (.ds 1 (([] : List (List UInt8))).length (rowF cStr default ([] : List (List UInt8)))) })], .reg [(2, hC (strings_genSplit_v y2))]])
    (a_ (a_ (a_ (a_ tr (a_ (le_nil_ds 1 (rowF cStr default [])) tr)) tr) (a_ (r2_ (c_ (strings_genSplit_tri s y2 e1) (r1_ tr))) tr)) tr) (by kernel_rfl) rfl

theorem strings_Split_tri (s : List UInt8) (r : (List (List UInt8))) (h : strings_Split s = some r) : FnTri Tryd.prog 38 [.str s, .str ([32] : List UInt8)] [] (strings_Split_v r) [] := FnTri.none (strings_Split_ok s r h) rfl rfl

/-- parrel/script.verbs -/

def script_verbs_v (r : (List (List UInt8))) : LV := .ds 1 (r).length (rowF cStr default r)

def script_verbs  : Option ((List (List UInt8))) :=
  some ([[], ([100, 111] : List UInt8), ([100, 101, 108, 105, 118, 101, 114] : List UInt8), ([100, 114, 111, 112] : List UInt8), ([116, 119, 105, 99, 101] : List UInt8), ([108, 97, 116, 101] : List UInt8), ([116, 105, 99, 107] : List UInt8), ([99, 114, 97, 115, 104] : List UInt8), ([115, 116, 97, 114, 116] : List UInt8), ([97, 114, 109] : List UInt8), ([105, 110, 106, 101, 99, 116] : List UInt8)] : List (List UInt8))

theorem script_verbs_ok  (r : (List (List UInt8))) (h : script_verbs  = some r) : ∀ σ, Inj 0 σ → FnTri Tryd.prog 19 (renL σ []) (preOf σ 0 []) ((script_verbs_v r).ren σ) (upOf σ []) := by
  refine fn_of Tryd.func19 (by kernel_rfl) (by kernel_rfl) (by kernel_rfl) trivial (by kernel_rfl) trivial (by kernel_rfl) ?_
  intro w0 W μ0 hμ
  unfold script_verbs at h
  obtain rfl := Option.some.inj h
  exact run_ret mixed (L := []) (n := 16) (s := [.reg [(0, { v := some (.ds 1 (([] : List (List UInt8))).length (rowF cStr default ([] : List (List UInt8)))) })], .reg [(0, { os := [(0, .gr 1 (([[], ([100, 111] : List UInt8), ([100, 101, 108, 105, 118, 101, 114] : List UInt8), ([100, 114, 111, 112] : List UInt8), ([116, 119, 105, 99, 101] : List UInt8), ([108, 97, 116, 101] : List UInt8), ([116, 105, 99, 107] : List UInt8), ([99, 114, 97, 115, 104] : List UInt8), ([115, 116, 97, 114, 116] : List UInt8), ([97, 114, 109] : List UInt8), ([105, 110, 106, 101, 99, 116] : List UInt8)] : List (List UInt8))).length (rowF cStr default ([[], ([100, 111] : List UInt8), ([100, 101, 108, 105, 118, 101, 114] : List UInt8), ([100, 114, 111, 112] : List UInt8), ([116, 119, 105, 99, 101] : List UInt8), ([108, 97, 116, 101] : List UInt8), ([116, 105, 99, 107] : List UInt8), ([99, 114, 97, 115, 104] : List UInt8), ([115, 116, 97, 114, 116] : List UInt8), ([97, 114, 109] : List UInt8), ([105, 110, 106, 101, 99, 116] : List UInt8)] : List (List UInt8))))], v := some (.gs 0 (([[], ([100, 111] : List UInt8), ([100, 101, 108, 105, 118, 101, 114] : List UInt8), ([100, 114, 111, 112] : List UInt8), ([116, 119, 105, 99, 101] : List UInt8), ([108, 97, 116, 101] : List UInt8), ([116, 105, 99, 107] : List UInt8), ([99, 114, 97, 115, 104] : List UInt8), ([115, 116, 97, 114, 116] : List UInt8), ([97, 114, 109] : List UInt8), ([105, 110, 106, 101, 99, 116] : List UInt8)] : List (List UInt8))).length) })], .frz 0])
    (a_ (a_ (a_ (a_ tr (a_ (le_nil_ds 1 (rowF cStr default [])) tr)) tr) (a_ (a_ (a_ (a_ (Eq.refl true) (a_ (Eq.refl 1) (a_ (lt_ 0 1 rfl) (le_ 11 16777216 rfl)))) (a_ (le_sl_gs 0 11 (some 11) rfl) (a_ (sub_lit cStr default 1 (fun _ => rfl) ([[], ([100, 111] : List UInt8), ([100, 101, 108, 105, 118, 101, 114] : List UInt8), ([100, 114, 111, 112] : List UInt8), ([116, 119, 105, 99, 101] : List UInt8), ([108, 97, 116, 101] : List UInt8), ([116, 105, 99, 107] : List UInt8), ([99, 114, 97, 115, 104] : List UInt8), ([115, 116, 97, 114, 116] : List UInt8), ([97, 114, 109] : List UInt8), ([105, 110, 106, 101, 99, 116] : List UInt8)] : List (List UInt8))) tr))) (r1_ tr)) (a_ (a_ (fz_row (enc := cStr) (d := default) (fun _ => rfl) ([[], ([100, 111] : List UInt8), ([100, 101, 108, 105, 118, 101, 114] : List UInt8), ([100, 114, 111, 112] : List UInt8), ([116, 119, 105, 99, 101] : List UInt8), ([108, 97, 116, 101] : List UInt8), ([116, 105, 99, 107] : List UInt8), ([99, 114, 97, 115, 104] : List UInt8), ([115, 116, 97, 114, 116] : List UInt8), ([97, 114, 109] : List UInt8), ([105, 110, 106, 101, 99, 116] : List UInt8)] : List (List UInt8))) (a_ (Nat.le_refl (([[], ([100, 111] : List UInt8), ([100, 101, 108, 105, 118, 101, 114] : List UInt8), ([100, 114, 111, 112] : List UInt8), ([116, 119, 105, 99, 101] : List UInt8), ([108, 97, 116, 101] : List UInt8), ([116, 105, 99, 107] : List UInt8), ([99, 114, 97, 115, 104] : List UInt8), ([115, 116, 97, 114, 116] : List UInt8), ([97, 114, 109] : List UInt8), ([105, 110, 106, 101, 99, 116] : List UInt8)] : List (List UInt8))).length) (a_ (Nat.le_refl (([[], ([100, 111] : List UInt8), ([100, 101, 108, 105, 118, 101, 114] : List UInt8), ([100, 114, 111, 112] : List UInt8), ([116, 119, 105, 99, 101] : List UInt8), ([108, 97, 116, 101] : List UInt8), ([116, 105, 99, 107] : List UInt8), ([99, 114, 97, 115, 104] : List UInt8), ([115, 116, 97, 114, 116] : List UInt8), ([97, 114, 109] : List UInt8), ([105, 110, 106, 101, 99, 116] : List UInt8)] : List (List UInt8))).length) tr))) tr))) tr) (by kernel_rfl) rfl

theorem script_verbs_tri  (r : (List (List UInt8))) (h : script_verbs  = some r) : FnTri Tryd.prog 19 [] [] (script_verbs_v r) [] := FnTri.none (script_verbs_ok  r h) rfl rfl

/-- (*parrel/script.reader).word -/

def script_reader_word_v (r : (List UInt8) × (List (List UInt8)) × (Bool)) : LV := .str r.1

def script_reader_word_up (x_r : T_script_reader) (r : (List UInt8) × (List (List UInt8)) × (Bool)) : Upd := [(0, some (.var (c_T_script_reader (T_script_reader.mk r.2.1 r.2.2))))]

def script_reader_word_objs (x_r : T_script_reader) : List LO := [.var (c_T_script_reader x_r)]

def script_reader_word (x_r : T_script_reader) : Option ((List UInt8) × (List (List UInt8)) × (Bool)) :=
  if ((((x_r.f_l).length : Int) == 0) : Bool) then
    some ([], x_r.f_l, true)
  else
    if 0 ≤ (0 : Int) ∧ (0 : Int) < (((x_r.f_l).length : Nat) : Int) then
    if 0 ≤ (1 : Int) ∧ (1 : Int) ≤ (((x_r.f_l).length : Nat) : Int) ∧ (((x_r.f_l).length : Nat) : Int) ≤ (((x_r.f_l).length : Nat) : Int) then
    some ((x_r.f_l.getD 0 default), (x_r.f_l.drop 1), x_r.f_bad)
    else none
    else none

theorem script_reader_word_ok (x_r : T_script_reader) (r : (List UInt8) × (List (List UInt8)) × (Bool)) (h : script_reader_word x_r = some r) : ∀ σ, Inj 1 σ → FnTri Tryd.prog 72 (renL σ [.ptr 0 0 0]) (preOf σ 0 (script_reader_word_objs x_r)) ((script_reader_word_v r).ren σ) (upOf σ (script_reader_word_up x_r r)) := by
  refine fn_of Tryd.func72 (by kernel_rfl) (by kernel_rfl) (by kernel_rfl) ⟨rfl, trivial⟩ (by kernel_rfl) ⟨rfl, trivial⟩ (by kernel_rfl) ?_
  intro w0 W μ0 hμ
  unfold script_reader_word at h
  rcases itb_some h with ⟨c1, h⟩ | ⟨c1, h⟩
  · skip
    obtain rfl := Option.some.inj h
    exact run_ret mixed (L := []) (n := 23) (s := [.reg [], .reg [(5, hT)], .reg [], .reg []])
      (a_ (a_ (r1_ tr) (a_ (r1_ (r2_ (l_ 0 2 rfl (r1_ (f_ c1 tr))))) (a_ (r1_ (r2_ (a_ (a_ (a_ (Eq.refl 1) (a_ (le_ 2 2 rfl) (Eq.refl 0))) tr) tr))) (a_ (r1_ tr) tr)))) tr) (by kernel_rfl) rfl
  · skip
    obtain ⟨g2, h⟩ := guard_some h
    obtain ⟨g3, h⟩ := guard_some h
    obtain rfl := Option.some.inj h
    exact run_ret mixed (L := []) (n := 27) (s := [.reg [], .reg [(5, hF)], .reg [], .reg [(5, { v := some (.ds 1 ((x_r.f_l.drop 1)).length (rowF cStr default (x_r.f_l.drop 1))) })], .reg []])
      (a_ (a_ (r1_ tr) (a_ (r1_ (r2_ (l_ 0 2 rfl (r1_ (f_ c1 tr))))) (a_ (r1_ (r2_ (l_ 0 2 rfl (a_ (a_ (a_ (Eq.refl 1) g2) tr) (a_ (a_ (lt_ 0 1 rfl) tr) (r1_ tr)))))) (a_ (r4_ (l_ 0 2 rfl (a_ (a_ (a_ (Eq.refl 1) g3) (a_ (le_drop cStr default 1 x_r.f_l 1 (toN_le g3.2.1)) tr)) (r2_ (a_ (a_ (a_ (Eq.refl 1) (a_ (le_ 1 2 rfl) (Eq.refl 0))) tr) tr))))) (a_ (r2_ tr) tr))))) tr) (by kernel_rfl) rfl

/-- slices.Index[[]string,string] -/

def slices_Index_string_string_v (r : (Int)) : LV := .int .i64 r

def slices_Index_string_string_T0 (s : List (List UInt8)) (v : List UInt8) (t8 : Int) : List LV := [.ds 1 (s).length (rowF cStr default s), .str v, .any, .any, .any, .any, .any, .int .i64 ((s).length : Int), .int .i64 t8, .any, .any, .any, .any, .any, .any, .any, .any, .any, .any]

def slices_Index_string_string_H0 (s : List (List UInt8)) (v : List UInt8) (t8 : Int) : Heap := []

def slices_Index_string_string_l0 (s : List (List UInt8)) (v : List UInt8)  : Nat → (Int) → Option ((Int))
  | 0, _ => none
  | fuel + 1, t8 =>
    if ((decide (t8 < ((s).length : Int))) : Bool) then
      if 0 ≤ t8 ∧ t8 < (((s).length : Nat) : Int) then
      if ((v == (s.getD t8.toNat default)) : Bool) then
        some t8
      else
        slices_Index_string_string_l0 s v  fuel (IntKind.wrap .i64 (t8 + 1))
      else none
    else
      some (-1)

def slices_Index_string_string (s : List (List UInt8)) (v : List UInt8) : Option ((Int)) :=
  slices_Index_string_string_l0 s v  big 0

theorem slices_Index_string_string_l0_ok {w0 : World} {W : Nat → Prop} {μ0 : Emb} (hμ : ∀ c p, μ0 c = some p → c < 0) (s : List (List UInt8)) (v : List UInt8)  : ∀ (fuel : Nat) (t8 : Int) (r : (Int)), slices_Index_string_string_l0 s v  fuel t8 = some r → kont Tryd.prog w0 W μ0 (FnPost Tryd.prog Tryd.f71 0 0 (slices_Index_string_string_v r) []) (kAt (bodyOf Tryd.f71) 0) none (slices_Index_string_string_T0 s v t8) (slices_Index_string_string_H0 s v t8) := by
  intro fuel
  induction fuel with
  | zero => intro t8 r h; rw [slices_Index_string_string_l0] at h; cases h
  | succ fuel ih =>
    intro t8 r h
    rw [slices_Index_string_string_l0] at h
    rcases itb_some h with ⟨cL0_1, h⟩ | ⟨cL0_1, h⟩
    · skip
      obtain ⟨gL0_2, h⟩ := guard_some h
      rcases itb_some h with ⟨cL0_3, h⟩ | ⟨cL0_3, h⟩
      · skip
        obtain rfl := Option.some.inj h
        exact run_ret mixed (L := []) (n := 28) (s := [.go, .reg [(0, hT)], .reg [], .reg [(5, hT)], .reg []])
          (a_ (a_ (f_ cL0_1 tr) (a_ (r2_ tr) (a_ (r1_ (r2_ (a_ (a_ (a_ (Eq.refl 1) gL0_2) tr) (a_ (a_ (lt_ 0 1 rfl) tr) (f_ cL0_3 tr))))) (a_ (r2_ tr) tr)))) tr) (by kernel_rfl) rfl
      · skip
        exact run_to mixed hμ (L := []) (n := 29) (s := [.go, .reg [(0, hT)], .reg [], .reg [(5, hF)], .reg []])
          (a_ (f_ cL0_1 tr) (a_ (r2_ tr) (a_ (r1_ (r2_ (a_ (a_ (a_ (Eq.refl 1) gL0_2) tr) (a_ (a_ (lt_ 0 1 rfl) tr) (f_ cL0_3 tr))))) (a_ (r2_ tr) tr)))) (ih _ r h) (by kernel_rfl) trivial
    · skip
      obtain rfl := Option.some.inj h
      exact run_ret mixed (L := []) (n := 19) (s := [.go, .reg [(0, hF)], .reg []])
        (a_ (a_ (f_ cL0_1 tr) (a_ (r1_ tr) tr)) tr) (by kernel_rfl) rfl

theorem slices_Index_string_string_ok (s : List (List UInt8)) (v : List UInt8) (r : (Int)) (h : slices_Index_string_string s v = some r) : ∀ σ, Inj 0 σ → FnTri Tryd.prog 71 (renL σ [.ds 1 (s).length (rowF cStr default s), .str v]) (preOf σ 0 []) ((slices_Index_string_string_v r).ren σ) (upOf σ []) := by
  refine fn_of Tryd.func71 (by kernel_rfl) (by kernel_rfl) (by kernel_rfl) trivial (by kernel_rfl) trivial (by kernel_rfl) ?_
  intro w0 W μ0 hμ
  unfold slices_Index_string_string at h
  exact run_to mixed hμ (L := []) (n := 18) (s := [.reg [], .reg []])
    (a_ (r1_ tr) (a_ (r1_ (r2_ tr)) tr)) (slices_Index_string_string_l0_ok hμ s v  big _ r h) (by kernel_rfl) trivial

theorem slices_Index_string_string_tri (s : List (List UInt8)) (v : List UInt8) (r : (Int)) (h : slices_Index_string_string s v = some r) : FnTri Tryd.prog 71 [.ds 1 (s).length (rowF cStr default s), .str v] [] (slices_Index_string_string_v r) [] := FnTri.none (slices_Index_string_string_ok s v r h) rfl rfl

/-- (*parrel/script.reader).of -/

def script_reader_of_v (r : (Int) × (List (List UInt8)) × (Bool)) : LV := .int .i64 r.1

def script_reader_of_up (x_r : T_script_reader) (l : List (List UInt8)) (r : (Int) × (List (List UInt8)) × (Bool)) : Upd := [(0, some (.var (c_T_script_reader (T_script_reader.mk r.2.1 r.2.2))))]

def script_reader_of_objs (x_r : T_script_reader) (l : List (List UInt8)) : List LO := [.var (c_T_script_reader x_r)]

def script_reader_of (x_r : T_script_reader) (l : List (List UInt8)) : Option ((Int) × (List (List UInt8)) × (Bool)) :=
  (script_reader_word x_r).bind fun y2 =>
  (slices_Index_string_string l y2.1).bind fun y4 =>
  if ((decide (y4 < 1)) : Bool) then
    some (0, y2.2.1, true)
  else
    some (y4, y2.2.1, y2.2.2)

theorem script_reader_of_ok (x_r : T_script_reader) (l : List (List UInt8)) (r : (Int) × (List (List UInt8)) × (Bool)) (h : script_reader_of x_r l = some r) : ∀ σ, Inj 1 σ → FnTri Tryd.prog 58 (renL σ [.ptr 0 0 0, .ds 1 (l).length (rowF cStr default l)]) (preOf σ 0 (script_reader_of_objs x_r l)) ((script_reader_of_v r).ren σ) (upOf σ (script_reader_of_up x_r l r)) := by
  refine fn_of Tryd.func58 (by kernel_rfl) (by kernel_rfl) (by kernel_rfl) ⟨rfl, trivial⟩ (by kernel_rfl) ⟨rfl, trivial⟩ (by kernel_rfl) ?_
  intro w0 W μ0 hμ
  unfold script_reader_of at h
  obtain ⟨y2, e1, h⟩ := bind_some h
  obtain ⟨y4, e3, h⟩ := bind_some h
  rcases itb_some h with ⟨c5, h⟩ | ⟨c5, h⟩
  · skip
    obtain rfl := Option.some.inj h
    exact run_ret mixed (L := []) (n := 26) (s := [.reg [], .reg [(2, { call := some ((script_reader_word_v y2).ren (sel [0]), preOf (sel [0]) 0 (script_reader_word_objs x_r), upOf (sel [0]) (script_reader_word_up x_r y2)) }), (3, hC (slices_Index_string_string_v y4))], .reg [(1, hT)], .reg [], .reg []])
      (a_ (a_ (r1_ tr) (a_ (r2_ (a_ (a_ (a_ (script_reader_word_ok x_r y2 e1 (sel [0]) (sel_inj rfl rfl)) (a_ (LO.Le.refl (.var (c_T_script_reader x_r))) tr)) tr) (c_ (slices_Index_string_string_tri l y2.1 y4 e3) (r1_ tr)))) (a_ (r1_ (f_ c5 tr)) (a_ (r1_ (r2_ (a_ (a_ (a_ (Eq.refl 1) (a_ (le_ 2 2 rfl) (Eq.refl 0))) tr) tr))) (a_ (r1_ tr) tr))))) tr) (by kernel_rfl) rfl
  · skip
    obtain rfl := Option.some.inj h
    exact run_ret mixed (L := []) (n := 24) (s := [.reg [], .reg [(2, { call := some ((script_reader_word_v y2).ren (sel [0]), preOf (sel [0]) 0 (script_reader_word_objs x_r), upOf (sel [0]) (script_reader_word_up x_r y2)) }), (3, hC (slices_Index_string_string_v y4))], .reg [(1, hF)], .reg []])
      (a_ (a_ (r1_ tr) (a_ (r2_ (a_ (a_ (a_ (script_reader_word_ok x_r y2 e1 (sel [0]) (sel_inj rfl rfl)) (a_ (LO.Le.refl (.var (c_T_script_reader x_r))) tr)) tr) (c_ (slices_Index_string_string_tri l y2.1 y4 e3) (r1_ tr)))) (a_ (r1_ (f_ c5 tr)) (a_ (r2_ tr) tr)))) tr) (by kernel_rfl) rfl

/-- (*parrel/script.reader).number -/

def script_reader_number_v (r : (Int) × (List (List UInt8)) × (Bool)) : LV := .int .i64 r.1

def script_reader_number_up (x_r : T_script_reader) (s : List UInt8) (most : Int) (r : (Int) × (List (List UInt8)) × (Bool)) : Upd := [(0, some (.var (c_T_script_reader (T_script_reader.mk r.2.1 r.2.2))))]

def script_reader_number_objs (x_r : T_script_reader) (s : List UInt8) (most : Int) : List LO := [.var (c_T_script_reader x_r)]

def script_reader_number_T0 (x_r : T_script_reader) (s : List UInt8) (most : Int) (x_n : Int) (pos : Nat) : List LV := [.ptr 0 0 0, .str s, .int .i64 most, .any, .any, .any, .any, .int .i64 x_n, .any, .any, .any, .ptr 1 0 0, .any, .any, .any, .any, .any, .any, .any, .any, .any, .any, .any, .any, .any, .any, .any, .any, .any, .any, .any, .any, .any, .any, .any, .any, .any, .any, .any, .any, .any, .any, .any, .any, .any, .any, .any, .any, .any, .any, .any, .any, .any, .any, .any]

def script_reader_number_H0 (x_r : T_script_reader) (s : List UInt8) (most : Int) (x_n : Int) (pos : Nat) : Heap := [some (.var (c_T_script_reader x_r)), some (.sit s pos)]

def script_reader_number_l0 (x_r : T_script_reader) (s : List UInt8) (most : Int)  : Nat → (Int) → (Nat) → Option ((Int) × (List (List UInt8)) × (Bool))
  | 0, _, _ => none
  | fuel + 1, x_n, pos =>
    if ((decide (pos < (s).length)) : Bool) then
      if ((decide (((runeAt s pos : Nat) : Int) < 48)) : Bool) then
        some (0, x_r.f_l, true)
      else
        if ((decide (57 < ((runeAt s pos : Nat) : Int))) : Bool) then
          some (0, x_r.f_l, true)
        else
          if ((decide (2147483647 < x_n)) : Bool) then
            some (0, x_r.f_l, true)
          else
            script_reader_number_l0 x_r s most  fuel (IntKind.wrap .i64 ((IntKind.wrap .i64 (x_n * 10)) + (IntKind.wrap .i64 (IntKind.wrap .i32 (((runeAt s pos : Nat) : Int) - 48))))) (pos + widAt s pos)
    else
      if ((s == []) : Bool) then
        some (0, x_r.f_l, true)
      else
        if ((decide (1 < ((s).length : Int))) : Bool) then
          if 0 ≤ (0 : Int) ∧ (0 : Int) < (((s).length : Nat) : Int) then
          if ((((s.getD 0 0).toNat : Int) == 48) : Bool) then
            some (0, x_r.f_l, true)
          else
            if ((decide (most < x_n)) : Bool) then
              some (0, x_r.f_l, true)
            else
              some (x_n, x_r.f_l, x_r.f_bad)
          else none
        else
          if ((decide (most < x_n)) : Bool) then
            some (0, x_r.f_l, true)
          else
            some (x_n, x_r.f_l, x_r.f_bad)

def script_reader_number (x_r : T_script_reader) (s : List UInt8) (most : Int) : Option ((Int) × (List (List UInt8)) × (Bool)) :=
  script_reader_number_l0 x_r s most  big 0 0

theorem script_reader_number_l0_ok {w0 : World} {W : Nat → Prop} {μ0 : Emb} (hμ : ∀ c p, μ0 c = some p → c < 1) (x_r : T_script_reader) (s : List UInt8) (most : Int)  : ∀ (fuel : Nat) (x_n : Int) (pos : Nat) (r : (Int) × (List (List UInt8)) × (Bool)), script_reader_number_l0 x_r s most  fuel x_n pos = some r → kont Tryd.prog w0 W μ0 (FnPost Tryd.prog Tryd.f73 1 1 (script_reader_number_v r) (script_reader_number_up x_r s most r)) (kAt (bodyOf Tryd.f73) 0) none (script_reader_number_T0 x_r s most x_n pos) (script_reader_number_H0 x_r s most x_n pos) := by
  intro fuel
  induction fuel with
  | zero => intro x_n pos r h; rw [script_reader_number_l0] at h; cases h
  | succ fuel ih =>
    intro x_n pos r h
    rw [script_reader_number_l0] at h
    rcases itb_some h with ⟨cL0_1, h⟩ | ⟨cL0_1, h⟩
    · skip
      rcases itb_some h with ⟨cL0_2, h⟩ | ⟨cL0_2, h⟩
      · skip
        obtain rfl := Option.some.inj h
        exact run_ret mixed (L := []) (n := 31) (s := [.go, .reg [(0, { app := 6 })], .reg [], .reg [(2, hT)], .reg [], .reg []])
          (a_ (a_ (a_ (a_ (of_decide_eq_true cL0_1) tr) (r1_ tr)) (a_ (r2_ tr) (a_ (r2_ (f_ cL0_2 (t2_ (r2_ (t2_ (r1_ tr)))))) (a_ (r1_ (r2_ (a_ (a_ (a_ (Eq.refl 1) (a_ (le_ 2 2 rfl) (Eq.refl 0))) tr) tr))) (a_ (r1_ tr) tr))))) tr) (by kernel_rfl) rfl
      · skip
        rcases itb_some h with ⟨cL0_3, h⟩ | ⟨cL0_3, h⟩
        · skip
          obtain rfl := Option.some.inj h
          exact run_ret mixed (L := []) (n := 31) (s := [.go, .reg [(0, { app := 6 })], .reg [], .reg [(2, hF), (6, hT)], .reg [], .reg []])
            (a_ (a_ (a_ (a_ (of_decide_eq_true cL0_1) tr) (r1_ tr)) (a_ (r2_ tr) (a_ (r2_ (f_ cL0_2 (r1_ (r2_ (f_ cL0_3 (t2_ (r1_ tr))))))) (a_ (r1_ (r2_ (a_ (a_ (a_ (Eq.refl 1) (a_ (le_ 2 2 rfl) (Eq.refl 0))) tr) tr))) (a_ (r1_ tr) tr))))) tr) (by kernel_rfl) rfl
        · skip
          rcases itb_some h with ⟨cL0_4, h⟩ | ⟨cL0_4, h⟩
          · skip
            obtain rfl := Option.some.inj h
            exact run_ret mixed (L := []) (n := 31) (s := [.go, .reg [(0, { app := 6 })], .reg [], .reg [(2, hF), (6, hF), (9, hT)], .reg [], .reg []])
              (a_ (a_ (a_ (a_ (of_decide_eq_true cL0_1) tr) (r1_ tr)) (a_ (r2_ tr) (a_ (r2_ (f_ cL0_2 (r1_ (r2_ (f_ cL0_3 (r2_ (f_ cL0_4 tr))))))) (a_ (r1_ (r2_ (a_ (a_ (a_ (Eq.refl 1) (a_ (le_ 2 2 rfl) (Eq.refl 0))) tr) tr))) (a_ (r1_ tr) tr))))) tr) (by kernel_rfl) rfl
          · skip
            exact run_to mixed hμ (L := [1]) (n := 29) (s := [.go, .reg [(0, { app := 6 })], .reg [], .reg [(2, hF), (6, hF), (9, hF)], .reg []])
              (a_ (a_ (a_ (of_decide_eq_true cL0_1) tr) (r1_ tr)) (a_ (r2_ tr) (a_ (r2_ (f_ cL0_2 (r1_ (r2_ (f_ cL0_3 (r2_ (f_ cL0_4 tr))))))) (a_ (r1_ (r2_ (r4_ tr))) tr)))) (ih _ _ r h) (by kernel_rfl) ⟨rfl, trivial, trivial⟩
    · skip
      rcases itb_some h with ⟨cL0_2, h⟩ | ⟨cL0_2, h⟩
      · skip
        obtain rfl := Option.some.inj h
        exact run_ret mixed (L := []) (n := 27) (s := [.go, .reg [(0, { app := 7 })], .reg [(2, hT)], .reg [], .reg []])
          (a_ (a_ (a_ (a_ (of_decide_eq_false cL0_1) tr) (r1_ tr)) (a_ (r2_ (f_ cL0_2 (t8_ (r2_ (a_ tr (t2_ (r1_ tr))))))) (a_ (r1_ (r2_ (a_ (a_ (a_ (Eq.refl 1) (a_ (le_ 2 2 rfl) (Eq.refl 0))) tr) tr))) (a_ (r1_ tr) tr)))) tr) (by kernel_rfl) rfl
      · skip
        rcases itb_some h with ⟨cL0_3, h⟩ | ⟨cL0_3, h⟩
        · skip
          obtain ⟨gL0_4, h⟩ := guard_some h
          rcases itb_some h with ⟨cL0_5, h⟩ | ⟨cL0_5, h⟩
          · skip
            obtain rfl := Option.some.inj h
            exact run_ret mixed (L := []) (n := 27) (s := [.go, .reg [(0, { app := 7 })], .reg [(2, hF), (6, hT), (12, hT)], .reg [], .reg []])
              (a_ (a_ (a_ (a_ (of_decide_eq_false cL0_1) tr) (r1_ tr)) (a_ (r2_ (f_ cL0_2 (r1_ (r2_ (f_ cL0_3 (r1_ (a_ (a_ gL0_4 tr) (r1_ (r2_ (f_ cL0_5 (a_ tr (t2_ (r1_ tr))))))))))))) (a_ (r1_ (r2_ (a_ (a_ (a_ (Eq.refl 1) (a_ (le_ 2 2 rfl) (Eq.refl 0))) tr) tr))) (a_ (r1_ tr) tr)))) tr) (by kernel_rfl) rfl
          · skip
            rcases itb_some h with ⟨cL0_6, h⟩ | ⟨cL0_6, h⟩
            · skip
              obtain rfl := Option.some.inj h
              exact run_ret mixed (L := []) (n := 27) (s := [.go, .reg [(0, { app := 7 })], .reg [(2, hF), (6, hT), (12, hF), (16, hT)], .reg [], .reg []])
                (a_ (a_ (a_ (a_ (of_decide_eq_false cL0_1) tr) (r1_ tr)) (a_ (r2_ (f_ cL0_2 (r1_ (r2_ (f_ cL0_3 (r1_ (a_ (a_ gL0_4 tr) (r1_ (r2_ (f_ cL0_5 (r1_ (r2_ (f_ cL0_6 tr))))))))))))) (a_ (r1_ (r2_ (a_ (a_ (a_ (Eq.refl 1) (a_ (le_ 2 2 rfl) (Eq.refl 0))) tr) tr))) (a_ (r1_ tr) tr)))) tr) (by kernel_rfl) rfl
            · skip
              obtain rfl := Option.some.inj h
              exact run_ret mixed (L := []) (n := 25) (s := [.go, .reg [(0, { app := 7 })], .reg [(2, hF), (6, hT), (12, hF), (16, hF)], .reg []])
                (a_ (a_ (a_ (a_ (of_decide_eq_false cL0_1) tr) (r1_ tr)) (a_ (r2_ (f_ cL0_2 (r1_ (r2_ (f_ cL0_3 (r1_ (a_ (a_ gL0_4 tr) (r1_ (r2_ (f_ cL0_5 (r1_ (r2_ (f_ cL0_6 tr))))))))))))) (a_ (r2_ tr) tr))) tr) (by kernel_rfl) rfl
        · skip
          rcases itb_some h with ⟨cL0_4, h⟩ | ⟨cL0_4, h⟩
          · skip
            obtain rfl := Option.some.inj h
            exact run_ret mixed (L := []) (n := 27) (s := [.go, .reg [(0, { app := 7 })], .reg [(2, hF), (6, hF), (16, hT)], .reg [], .reg []])
              (a_ (a_ (a_ (a_ (of_decide_eq_false cL0_1) tr) (r1_ tr)) (a_ (r2_ (f_ cL0_2 (r1_ (r2_ (f_ cL0_3 (a_ tr (t2_ (r2_ (r4_ (f_ cL0_4 tr)))))))))) (a_ (r1_ (r2_ (a_ (a_ (a_ (Eq.refl 1) (a_ (le_ 2 2 rfl) (Eq.refl 0))) tr) tr))) (a_ (r1_ tr) tr)))) tr) (by kernel_rfl) rfl
          · skip
            obtain rfl := Option.some.inj h
            exact run_ret mixed (L := []) (n := 25) (s := [.go, .reg [(0, { app := 7 })], .reg [(2, hF), (6, hF), (16, hF)], .reg []])
              (a_ (a_ (a_ (a_ (of_decide_eq_false cL0_1) tr) (r1_ tr)) (a_ (r2_ (f_ cL0_2 (r1_ (r2_ (f_ cL0_3 (a_ tr (t2_ (r2_ (r4_ (f_ cL0_4 tr)))))))))) (a_ (r2_ tr) tr))) tr) (by kernel_rfl) rfl

theorem script_reader_number_ok (x_r : T_script_reader) (s : List UInt8) (most : Int) (r : (Int) × (List (List UInt8)) × (Bool)) (h : script_reader_number x_r s most = some r) : ∀ σ, Inj 1 σ → FnTri Tryd.prog 73 (renL σ [.ptr 0 0 0, .str s, .int .i64 most]) (preOf σ 0 (script_reader_number_objs x_r s most)) ((script_reader_number_v r).ren σ) (upOf σ (script_reader_number_up x_r s most r)) := by
  refine fn_of Tryd.func73 (by kernel_rfl) (by kernel_rfl) (by kernel_rfl) ⟨rfl, trivial⟩ (by kernel_rfl) ⟨rfl, trivial⟩ (by kernel_rfl) ?_
  intro w0 W μ0 hμ
  unfold script_reader_number at h
  exact run_to mixed hμ (L := [1]) (n := 21) (s := [.reg [], .reg [], .reg []])
    (a_ (r1_ tr) (a_ (r1_ tr) (a_ (r2_ tr) tr))) (script_reader_number_l0_ok hμ x_r s most  big _ _ r h) (by kernel_rfl) ⟨rfl, trivial, trivial⟩

/-- (*parrel/script.reader).num -/

def script_reader_num_v (r : (Int) × (List (List UInt8)) × (Bool)) : LV := .int .i64 r.1

def script_reader_num_up (x_r : T_script_reader) (r : (Int) × (List (List UInt8)) × (Bool)) : Upd := [(0, some (.var (c_T_script_reader (T_script_reader.mk r.2.1 r.2.2))))]

def script_reader_num_objs (x_r : T_script_reader) : List LO := [.var (c_T_script_reader x_r)]

def script_reader_num (x_r : T_script_reader) : Option ((Int) × (List (List UInt8)) × (Bool)) :=
  (script_reader_word x_r).bind fun y2 =>
  (script_reader_number (T_script_reader.mk y2.2.1 y2.2.2) y2.1 2147483647).bind fun y4 =>
  some (y4.1, y4.2.1, y4.2.2)

theorem script_reader_num_ok (x_r : T_script_reader) (r : (Int) × (List (List UInt8)) × (Bool)) (h : script_reader_num x_r = some r) : ∀ σ, Inj 1 σ → FnTri Tryd.prog 59 (renL σ [.ptr 0 0 0]) (preOf σ 0 (script_reader_num_objs x_r)) ((script_reader_num_v r).ren σ) (upOf σ (script_reader_num_up x_r r)) := by
  refine fn_of Tryd.func59 (by kernel_rfl) (by kernel_rfl) (by kernel_rfl) ⟨rfl, trivial⟩ (by kernel_rfl) ⟨rfl, trivial⟩ (by kernel_rfl) ?_
  intro w0 W μ0 hμ
  unfold script_reader_num at h
  obtain ⟨y2, e1, h⟩ := bind_some h
  obtain ⟨y4, e3, h⟩ := bind_some h
  obtain rfl := Option.some.inj h
  exact run_ret mixed (L := []) (n := 15) (s := [.reg [], .reg [(2, { call := some ((script_reader_word_v y2).ren (sel [0]), preOf (sel [0]) 0 (script_reader_word_objs x_r), upOf (sel [0]) (script_reader_word_up x_r y2)) }), (3, { call := some ((script_reader_number_v y4).ren (sel [0]), preOf (sel [0]) 0 (script_reader_number_objs (T_script_reader.mk y2.2.1 y2.2.2) y2.1 2147483647), upOf (sel [0]) (script_reader_number_up (T_script_reader.mk y2.2.1 y2.2.2) y2.1 2147483647 y4)) })]])
    (a_ (a_ (r1_ tr) (a_ (r2_ (a_ (a_ (a_ (script_reader_word_ok x_r y2 e1 (sel [0]) (sel_inj rfl rfl)) (a_ (LO.Le.refl (.var (c_T_script_reader x_r))) tr)) tr) (a_ (a_ (a_ (script_reader_number_ok (T_script_reader.mk y2.2.1 y2.2.2) y2.1 2147483647 y4 e3 (sel [0]) (sel_inj rfl rfl)) (a_ (LO.Le.refl (.var (c_T_script_reader (T_script_reader.mk y2.2.1 y2.2.2)))) tr)) tr) (r1_ tr)))) tr)) tr) (by kernel_rfl) rfl

/-- (*parrel/script.reader).small -/

def script_reader_small_v (r : (Int) × (List (List UInt8)) × (Bool)) : LV := .int .u8 r.1

def script_reader_small_up (x_r : T_script_reader) (r : (Int) × (List (List UInt8)) × (Bool)) : Upd := [(0, some (.var (c_T_script_reader (T_script_reader.mk r.2.1 r.2.2))))]

def script_reader_small_objs (x_r : T_script_reader) : List LO := [.var (c_T_script_reader x_r)]

def script_reader_small (x_r : T_script_reader) : Option ((Int) × (List (List UInt8)) × (Bool)) :=
  (script_reader_word x_r).bind fun y2 =>
  (script_reader_number (T_script_reader.mk y2.2.1 y2.2.2) y2.1 255).bind fun y4 =>
  some ((IntKind.wrap .u8 y4.1), y4.2.1, y4.2.2)

theorem script_reader_small_ok (x_r : T_script_reader) (r : (Int) × (List (List UInt8)) × (Bool)) (h : script_reader_small x_r = some r) : ∀ σ, Inj 1 σ → FnTri Tryd.prog 74 (renL σ [.ptr 0 0 0]) (preOf σ 0 (script_reader_small_objs x_r)) ((script_reader_small_v r).ren σ) (upOf σ (script_reader_small_up x_r r)) := by
  refine fn_of Tryd.func74 (by kernel_rfl) (by kernel_rfl) (by kernel_rfl) ⟨rfl, trivial⟩ (by kernel_rfl) ⟨rfl, trivial⟩ (by kernel_rfl) ?_
  intro w0 W μ0 hμ
  unfold script_reader_small at h
  obtain ⟨y2, e1, h⟩ := bind_some h
  obtain ⟨y4, e3, h⟩ := bind_some h
  obtain rfl := Option.some.inj h
  exact run_ret mixed (L := []) (n := 15) (s := [.reg [], .reg [(2, { call := some ((script_reader_word_v y2).ren (sel [0]), preOf (sel [0]) 0 (script_reader_word_objs x_r), upOf (sel [0]) (script_reader_word_up x_r y2)) }), (3, { call := some ((script_reader_number_v y4).ren (sel [0]), preOf (sel [0]) 0 (script_reader_number_objs (T_script_reader.mk y2.2.1 y2.2.2) y2.1 255), upOf (sel [0]) (script_reader_number_up (T_script_reader.mk y2.2.1 y2.2.2) y2.1 255 y4)) })]])
    (a_ (a_ (r1_ tr) (a_ (r2_ (a_ (a_ (a_ (script_reader_word_ok x_r y2 e1 (sel [0]) (sel_inj rfl rfl)) (a_ (LO.Le.refl (.var (c_T_script_reader x_r))) tr)) tr) (a_ (a_ (a_ (script_reader_number_ok (T_script_reader.mk y2.2.1 y2.2.2) y2.1 255 y4 e3 (sel [0]) (sel_inj rfl rfl)) (a_ (LO.Le.refl (.var (c_T_script_reader (T_script_reader.mk y2.2.1 y2.2.2)))) tr)) tr) (r2_ tr)))) tr)) tr) (by kernel_rfl) rfl

/-- parrel/script.calls -/

def script_calls_v (r : (List (List UInt8))) : LV := .ds 1 (r).length (rowF cStr default r)

def script_calls  : Option ((List (List UInt8))) :=
  some ([[], ([98, 101, 103, 105, 110] : List UInt8), ([114, 101, 97, 100] : List UInt8), ([119, 114, 105, 116, 101] : List UInt8), ([99, 111, 109, 109, 105, 116] : List UInt8), ([97, 98, 111, 114, 116] : List UInt8), ([99, 104, 97, 110, 103, 101] : List UInt8)] : List (List UInt8))

theorem script_calls_ok  (r : (List (List UInt8))) (h : script_calls  = some r) : ∀ σ, Inj 0 σ → FnTri Tryd.prog 44 (renL σ []) (preOf σ 0 []) ((script_calls_v r).ren σ) (upOf σ []) := by
  refine fn_of Tryd.func44 (by kernel_rfl) (by kernel_rfl) (by kernel_rfl) trivial (by kernel_rfl) trivial (by kernel_rfl) ?_
  intro w0 W μ0 hμ
  unfold script_calls at h
  obtain rfl := Option.some.inj h
  exact run_ret mixed (L := []) (n := 16) (s := [.reg [(0, { v := some (.ds 1 (([] : List (List UInt8))).length (rowF cStr default ([] : List (List UInt8)))) })], .reg [(0, { os := [(0, .gr 1 (([[], ([98, 101, 103, 105, 110] : List UInt8), ([114, 101, 97, 100] : List UInt8), ([119, 114, 105, 116, 101] : List UInt8), ([99, 111, 109, 109, 105, 116] : List UInt8), ([97, 98, 111, 114, 116] : List UInt8), ([99, 104, 97, 110, 103, 101] : List UInt8)] : List (List UInt8))).length (rowF cStr default ([[], ([98, 101, 103, 105, 110] : List UInt8), ([114, 101, 97, 100] : List UInt8), ([119, 114, 105, 116, 101] : List UInt8), ([99, 111, 109, 109, 105, 116] : List UInt8), ([97, 98, 111, 114, 116] : List UInt8), ([99, 104, 97, 110, 103, 101] : List UInt8)] : List (List UInt8))))], v := some (.gs 0 (([[], ([98, 101, 103, 105, 110] : List UInt8), ([114, 101, 97, 100] : List UInt8), ([119, 114, 105, 116, 101] : List UInt8), ([99, 111, 109, 109, 105, 116] : List UInt8), ([97, 98, 111, 114, 116] : List UInt8), ([99, 104, 97, 110, 103, 101] : List UInt8)] : List (List UInt8))).length) })], .frz 0])
    (a_ (a_ (a_ (a_ tr (a_ (le_nil_ds 1 (rowF cStr default [])) tr)) tr) (a_ (a_ (a_ (a_ (Eq.refl true) (a_ (Eq.refl 1) (a_ (lt_ 0 1 rfl) (le_ 7 16777216 rfl)))) (a_ (le_sl_gs 0 7 (some 7) rfl) (a_ (sub_lit cStr default 1 (fun _ => rfl) ([[], ([98, 101, 103, 105, 110] : List UInt8), ([114, 101, 97, 100] : List UInt8), ([119, 114, 105, 116, 101] : List UInt8), ([99, 111, 109, 109, 105, 116] : List UInt8), ([97, 98, 111, 114, 116] : List UInt8), ([99, 104, 97, 110, 103, 101] : List UInt8)] : List (List UInt8))) tr))) (r1_ tr)) (a_ (a_ (fz_row (enc := cStr) (d := default) (fun _ => rfl) ([[], ([98, 101, 103, 105, 110] : List UInt8), ([114, 101, 97, 100] : List UInt8), ([119, 114, 105, 116, 101] : List UInt8), ([99, 111, 109, 109, 105, 116] : List UInt8), ([97, 98, 111, 114, 116] : List UInt8), ([99, 104, 97, 110, 103, 101] : List UInt8)] : List (List UInt8))) (a_ (Nat.le_refl (([[], ([98, 101, 103, 105, 110] : List UInt8), ([114, 101, 97, 100] : List UInt8), ([119, 114, 105, 116, 101] : List UInt8), ([99, 111, 109, 109, 105, 116] : List UInt8), ([97, 98, 111, 114, 116] : List UInt8), ([99, 104, 97, 110, 103, 101] : List UInt8)] : List (List UInt8))).length) (a_ (Nat.le_refl (([[], ([98, 101, 103, 105, 110] : List UInt8), ([114, 101, 97, 100] : List UInt8), ([119, 114, 105, 116, 101] : List UInt8), ([99, 111, 109, 109, 105, 116] : List UInt8), ([97, 98, 111, 114, 116] : List UInt8), ([99, 104, 97, 110, 103, 101] : List UInt8)] : List (List UInt8))).length) tr))) tr))) tr) (by kernel_rfl) rfl

theorem script_calls_tri  (r : (List (List UInt8))) (h : script_calls  = some r) : FnTri Tryd.prog 44 [] [] (script_calls_v r) [] := FnTri.none (script_calls_ok  r h) rfl rfl

/-- strings.Count -/

def strings_Count_2_v (r : (Int)) : LV := .int .i64 r

def strings_Count_2 (s : List UInt8) : Option ((Int)) :=
  some ((Lib.countByte s ((46 : Int)).toNat.toUInt8 : Nat) : Int)

theorem strings_Count_2_ok (s : List UInt8) (r : (Int)) (h : strings_Count_2 s = some r) : ∀ σ, Inj 0 σ → FnTri Tryd.prog 69 (renL σ [.str s, .str ([46] : List UInt8)]) (preOf σ 0 []) ((strings_Count_2_v r).ren σ) (upOf σ []) := by
  refine fn_of Tryd.func69 (by kernel_rfl) (by kernel_rfl) (by kernel_rfl) trivial (by kernel_rfl) trivial (by kernel_rfl) ?_
  intro w0 W μ0 hμ
  unfold strings_Count_2 at h
  obtain rfl := Option.some.inj h
  exact run_ret mixed (L := []) (n := 26) (s := [.reg [], .reg [], .reg [], .reg [(3, { ext := some (.int .i64 ((Lib.countByte s ((46 : Int)).toNat.toUInt8 : Nat) : Int)) })]])
    (a_ (a_ (r1_ tr) (a_ (r1_ (r2_ tr)) (a_ (r1_ (r2_ tr)) (a_ (r2_ (a_ (a_ (a_ (lei_ 0 0 rfl) (lti_ 0 1 rfl)) tr) (a_ (a_ (ext90 s (46 : Int)) tr) (r1_ tr)))) tr)))) tr) (by kernel_rfl) rfl

theorem strings_Count_2_tri (s : List UInt8) (r : (Int)) (h : strings_Count_2 s = some r) : FnTri Tryd.prog 69 [.str s, .str ([46] : List UInt8)] [] (strings_Count_2_v r) [] := FnTri.none (strings_Count_2_ok s r h) rfl rfl

/-- internal/stringslite.Index -/

def internal_stringslite_Index_2_v (r : (Int)) : LV := .int .i64 r

def internal_stringslite_Index_2 (s : List UInt8) : Option ((Int)) :=
  if ((([46] : List UInt8) == s) : Bool) then
    some 0
  else
    (internal_stringslite_IndexByte s 46).bind fun y3 =>
    some y3

theorem internal_stringslite_Index_2_ok (s : List UInt8) (r : (Int)) (h : internal_stringslite_Index_2 s = some r) : ∀ σ, Inj 0 σ → FnTri Tryd.prog 67 (renL σ [.str s, .str ([46] : List UInt8)]) (preOf σ 0 []) ((internal_stringslite_Index_2_v r).ren σ) (upOf σ []) := by
  refine fn_of Tryd.func67 (by kernel_rfl) (by kernel_rfl) (by kernel_rfl) trivial (by kernel_rfl) trivial (by kernel_rfl) ?_
  intro w0 W μ0 hμ
  unfold internal_stringslite_Index_2 at h
  rcases itb_some h with ⟨c1, h⟩ | ⟨c1, h⟩
  · skip
    obtain rfl := Option.some.inj h
    exact run_ret mixed (L := []) (n := 24) (s := [.reg [], .reg [], .reg [(7, hT)], .reg []])
      (a_ (a_ (r1_ tr) (a_ (r1_ (r2_ tr)) (a_ (r1_ (r2_ (r4_ (f_ c1 tr)))) (a_ (r1_ tr) tr)))) tr) (by kernel_rfl) rfl
  · skip
    obtain ⟨y3, e2, h⟩ := bind_some h
    obtain rfl := Option.some.inj h
    exact run_ret mixed (L := []) (n := 28) (s := [.reg [], .reg [], .reg [(7, hF)], .reg [], .reg [(3, hC (internal_stringslite_IndexByte_v y3))]])
      (a_ (a_ (r1_ tr) (a_ (r1_ (r2_ tr)) (a_ (r1_ (r2_ (r4_ (f_ c1 tr)))) (a_ (r1_ (r2_ tr)) (a_ (r2_ (a_ (a_ (a_ (lei_ 0 0 rfl) (lti_ 0 1 rfl)) tr) (c_ (internal_stringslite_IndexByte_tri s 46 y3 e2) (r1_ tr)))) tr))))) tr) (by kernel_rfl) rfl

theorem internal_stringslite_Index_2_tri (s : List UInt8) (r : (Int)) (h : internal_stringslite_Index_2 s = some r) : FnTri Tryd.prog 67 [.str s, .str ([46] : List UInt8)] [] (internal_stringslite_Index_2_v r) [] := FnTri.none (internal_stringslite_Index_2_ok s r h) rfl rfl

/-- strings.Index -/

def strings_Index_2_v (r : (Int)) : LV := .int .i64 r

def strings_Index_2 (s : List UInt8) : Option ((Int)) :=
  (internal_stringslite_Index_2 s).bind fun y2 =>
  some y2

theorem strings_Index_2_ok (s : List UInt8) (r : (Int)) (h : strings_Index_2 s = some r) : ∀ σ, Inj 0 σ → FnTri Tryd.prog 70 (renL σ [.str s, .str ([46] : List UInt8)]) (preOf σ 0 []) ((strings_Index_2_v r).ren σ) (upOf σ []) := by
  refine fn_of Tryd.func70 (by kernel_rfl) (by kernel_rfl) (by kernel_rfl) trivial (by kernel_rfl) trivial (by kernel_rfl) ?_
  intro w0 W μ0 hμ
  unfold strings_Index_2 at h
  obtain ⟨y2, e1, h⟩ := bind_some h
  obtain rfl := Option.some.inj h
  exact run_ret mixed (L := []) (n := 15) (s := [.reg [], .reg [(2, hC (internal_stringslite_Index_2_v y2))]])
    (a_ (a_ (r1_ tr) (a_ (r2_ (c_ (internal_stringslite_Index_2_tri s y2 e1) (r1_ tr))) tr)) tr) (by kernel_rfl) rfl

theorem strings_Index_2_tri (s : List UInt8) (r : (Int)) (h : strings_Index_2 s = some r) : FnTri Tryd.prog 70 [.str s, .str ([46] : List UInt8)] [] (strings_Index_2_v r) [] := FnTri.none (strings_Index_2_ok s r h) rfl rfl

/-- strings.genSplit -/

def strings_genSplit_2_v (r : (List (List UInt8))) : LV := .ds 1 (r).length (rowF cStr default r)

def strings_genSplit_2_T1000018 (s : List UInt8) (s2 : List UInt8) (i : Int) (l : List (List UInt8)) (y2 : (Int))  : List LV := [.any, .any, .any, .any, .any, .any, .any, .any, .any, .sl 0 0 0 false (((if (IntKind.wrap .i64 (((s).length : Int) + 1)) < (IntKind.wrap .i64 (y2 + 1)) then (IntKind.wrap .i64 (((s).length : Int) + 1)) else (IntKind.wrap .i64 (y2 + 1)))).toNat) none, .int .i64 i, .any, .any, .any, .any, .any, .any, .any, .any, .any, .any, .any, .any, .any, .any, .any, .any, .any, .any, .any, .any, .any, .any, .any, .any, .any, .any, .any, .any, .any, .any, .any, .any, .any, .any, .any, .any, .any, .any, .any, .any, .any, .any, .any, .any, .any, .any, .any, .any, .any, .any, .any, .any, .any, .any, .any]

def strings_genSplit_2_H1000018 (s : List UInt8) (s2 : List UInt8) (i : Int) (l : List (List UInt8)) (y2 : (Int))  : Heap := [some (.row 1 ((l.set (0 + i.toNat) s2)).length (rowF cStr default (l.set (0 + i.toNat) s2)) true)]

def strings_genSplit_2_T0 (s : List UInt8) (y2 : (Int)) (s2 : List UInt8) (i : Int) (l : List (List UInt8)) : List LV := [.str s2, .str ([46] : List UInt8), .int .i64 0, .int .i64 (IntKind.wrap .i64 ((if (IntKind.wrap .i64 (((s).length : Int) + 1)) < (IntKind.wrap .i64 (y2 + 1)) then (IntKind.wrap .i64 (((s).length : Int) + 1)) else (IntKind.wrap .i64 (y2 + 1))) - 1)), .any, .any, .any, .any, .any, .sl 0 0 0 false (((if (IntKind.wrap .i64 (((s).length : Int) + 1)) < (IntKind.wrap .i64 (y2 + 1)) then (IntKind.wrap .i64 (((s).length : Int) + 1)) else (IntKind.wrap .i64 (y2 + 1)))).toNat) none, .int .i64 i, .any, .any, .any, .any, .any, .any, .any, .any, .any, .any, .any, .any, .any, .any, .any, .any, .any, .any, .any, .any, .any, .any, .any, .any, .any, .any, .any, .any, .any, .any, .any, .any, .any, .any, .any, .any, .any, .any, .any, .any, .any, .any, .any, .any, .any, .any, .any, .any, .any, .any, .any, .any, .any, .any, .any]

def strings_genSplit_2_H0 (s : List UInt8) (y2 : (Int)) (s2 : List UInt8) (i : Int) (l : List (List UInt8)) : Heap := [some (.row 1 (l).length (rowF cStr default l) true)]

def strings_genSplit_2_c18 (s : List UInt8) (s2 : List UInt8) (i : Int) (l : List (List UInt8)) (y2 : (Int))   : Option ((List (List UInt8))) :=
  if (((if (IntKind.wrap .i64 (((s).length : Int) + 1)) < (IntKind.wrap .i64 (y2 + 1)) then (IntKind.wrap .i64 (((s).length : Int) + 1)) else (IntKind.wrap .i64 (y2 + 1)))).toNat) = ((l.set (0 + i.toNat) s2)).length then
  if 0 ≤ (0 : Int) ∧ 0 ≤ (IntKind.wrap .i64 (i + 1)) ∧ (IntKind.wrap .i64 (i + 1)) ≤ ((((l.set (0 + i.toNat) s2)).length : Nat) : Int) then
  some ((l.set (0 + i.toNat) s2).take ((IntKind.wrap .i64 (i + 1))).toNat)
  else none
  else none

def strings_genSplit_2_l0 (s : List UInt8) (y2 : (Int))  : Nat → (List UInt8) → (Int) → (List (List UInt8)) → Option ((List (List UInt8)))
  | 0, _, _, _ => none
  | fuel + 1, s2, i, l =>
    if ((decide (i < (IntKind.wrap .i64 ((if (IntKind.wrap .i64 (((s).length : Int) + 1)) < (IntKind.wrap .i64 (y2 + 1)) then (IntKind.wrap .i64 (((s).length : Int) + 1)) else (IntKind.wrap .i64 (y2 + 1))) - 1)))) : Bool) then
      (strings_Index_2 s2).bind fun yL0_3 =>
      if ((decide (yL0_3 < 0)) : Bool) then
        if 0 ≤ i ∧ i < (((((if (IntKind.wrap .i64 (((s).length : Int) + 1)) < (IntKind.wrap .i64 (y2 + 1)) then (IntKind.wrap .i64 (((s).length : Int) + 1)) else (IntKind.wrap .i64 (y2 + 1)))).toNat) : Nat) : Int) then
        if (0 + i.toNat) < (l).length then
        strings_genSplit_2_c18 s s2 i l y2  
        else none
        else none
      else
        if 0 ≤ (0 : Int) ∧ (0 : Int) ≤ (IntKind.wrap .i64 (yL0_3 + 0)) ∧ (IntKind.wrap .i64 (yL0_3 + 0)) ≤ (((s2).length : Nat) : Int) then
        if 0 ≤ i ∧ i < (((((if (IntKind.wrap .i64 (((s).length : Int) + 1)) < (IntKind.wrap .i64 (y2 + 1)) then (IntKind.wrap .i64 (((s).length : Int) + 1)) else (IntKind.wrap .i64 (y2 + 1)))).toNat) : Nat) : Int) then
        if (0 + i.toNat) < (l).length then
        if 0 ≤ (IntKind.wrap .i64 (yL0_3 + 1)) ∧ (IntKind.wrap .i64 (yL0_3 + 1)) ≤ (((s2).length : Nat) : Int) ∧ (((s2).length : Nat) : Int) ≤ (((s2).length : Nat) : Int) then
        strings_genSplit_2_l0 s y2  fuel ((s2.drop ((IntKind.wrap .i64 (yL0_3 + 1))).toNat).take (((s2).length) - ((IntKind.wrap .i64 (yL0_3 + 1))).toNat)) (IntKind.wrap .i64 (i + 1)) (l.set (0 + i.toNat) ((s2.drop 0).take (((IntKind.wrap .i64 (yL0_3 + 0))).toNat - 0)))
        else none
        else none
        else none
        else none
    else
      if 0 ≤ i ∧ i < (((((if (IntKind.wrap .i64 (((s).length : Int) + 1)) < (IntKind.wrap .i64 (y2 + 1)) then (IntKind.wrap .i64 (((s).length : Int) + 1)) else (IntKind.wrap .i64 (y2 + 1)))).toNat) : Nat) : Int) then
      if (0 + i.toNat) < (l).length then
      if (((if (IntKind.wrap .i64 (((s).length : Int) + 1)) < (IntKind.wrap .i64 (y2 + 1)) then (IntKind.wrap .i64 (((s).length : Int) + 1)) else (IntKind.wrap .i64 (y2 + 1)))).toNat) = ((l.set (0 + i.toNat) s2)).length then
      if 0 ≤ (0 : Int) ∧ 0 ≤ (IntKind.wrap .i64 (i + 1)) ∧ (IntKind.wrap .i64 (i + 1)) ≤ ((((l.set (0 + i.toNat) s2)).length : Nat) : Int) then
      some ((l.set (0 + i.toNat) s2).take ((IntKind.wrap .i64 (i + 1))).toNat)
      else none
      else none
      else none
      else none

def strings_genSplit_2 (s : List UInt8) : Option ((List (List UInt8))) :=
  (strings_Count_2 s).bind fun y2 =>
  if 0 ≤ (if (IntKind.wrap .i64 (((s).length : Int) + 1)) < (IntKind.wrap .i64 (y2 + 1)) then (IntKind.wrap .i64 (((s).length : Int) + 1)) else (IntKind.wrap .i64 (y2 + 1))) ∧ (if (IntKind.wrap .i64 (((s).length : Int) + 1)) < (IntKind.wrap .i64 (y2 + 1)) then (IntKind.wrap .i64 (((s).length : Int) + 1)) else (IntKind.wrap .i64 (y2 + 1))) ≤ (if (IntKind.wrap .i64 (((s).length : Int) + 1)) < (IntKind.wrap .i64 (y2 + 1)) then (IntKind.wrap .i64 (((s).length : Int) + 1)) else (IntKind.wrap .i64 (y2 + 1))) ∧ (if (IntKind.wrap .i64 (((s).length : Int) + 1)) < (IntKind.wrap .i64 (y2 + 1)) then (IntKind.wrap .i64 (((s).length : Int) + 1)) else (IntKind.wrap .i64 (y2 + 1))) * 16 ≤ 140737488351232 ∧ (if (IntKind.wrap .i64 (((s).length : Int) + 1)) < (IntKind.wrap .i64 (y2 + 1)) then (IntKind.wrap .i64 (((s).length : Int) + 1)) else (IntKind.wrap .i64 (y2 + 1))) ≤ 9223372036854775807 then
  strings_genSplit_2_l0 s y2  big s 0 (List.replicate (((if (IntKind.wrap .i64 (((s).length : Int) + 1)) < (IntKind.wrap .i64 (y2 + 1)) then (IntKind.wrap .i64 (((s).length : Int) + 1)) else (IntKind.wrap .i64 (y2 + 1)))).toNat) ([]) : List (List UInt8))
  else none

theorem strings_genSplit_2_c18_ok {w0 : World} {W : Nat → Prop} {μ0 : Emb} (hμ : ∀ c p, μ0 c = some p → c < 0) (s : List UInt8) (s2 : List UInt8) (i : Int) (l : List (List UInt8)) (y2 : (Int))   (r : (List (List UInt8))) (h : strings_genSplit_2_c18 s s2 i l y2   = some r) : kont Tryd.prog w0 W μ0 (FnPost Tryd.prog Tryd.f57 0 0 (strings_genSplit_2_v r) []) (kAtR (bodyOf Tryd.f57) 18) none (strings_genSplit_2_T1000018 s s2 i l y2 ) (strings_genSplit_2_H1000018 s s2 i l y2 ) := by
  unfold strings_genSplit_2_c18 at h
  obtain ⟨gC18_1, h⟩ := guard_some h
  obtain ⟨gC18_2, h⟩ := guard_some h
  obtain rfl := Option.some.inj h
  exact run_ret mixed (L := []) (n := 13) (s := [.frz 0, .wk [(9, .ds 1 ((l.set (0 + i.toNat) s2)).length (rowF cStr default (l.set (0 + i.toNat) s2)))] [], .reg [(3, { v := some (.ds 1 (((l.set (0 + i.toNat) s2).take ((IntKind.wrap .i64 (i + 1))).toNat)).length (rowF cStr default ((l.set (0 + i.toNat) s2).take ((IntKind.wrap .i64 (i + 1))).toNat))) })]])
    (a_ (a_ (a_ (fz_row (enc := cStr) (d := default) (fun _ => rfl) (l.set (0 + i.toNat) s2)) (a_ (fz_sl gC18_1) (a_ (ob_row cStr default (l.set (0 + i.toNat) s2) 0 1 ((l.set (0 + i.toNat) s2)).length (rowF cStr default (l.set (0 + i.toNat) s2)) ((l.set (0 + i.toNat) s2)).length (fun _ => rfl)) tr))) (a_ (a_ (a_ (le_fz_sl cStr 1 (d := default) (l := (l.set (0 + i.toNat) s2)) gC18_1) tr) tr) (a_ (r1_ (r2_ (a_ (a_ (a_ (Eq.refl 1) gC18_2) (a_ (le_take cStr default 1 (l.set (0 + i.toNat) s2) ((IntKind.wrap .i64 (i + 1))).toNat (toN_le gC18_2.2.2)) tr)) (r1_ tr)))) tr))) tr) (by kernel_rfl) rfl

theorem strings_genSplit_2_l0_ok {w0 : World} {W : Nat → Prop} {μ0 : Emb} (hμ : ∀ c p, μ0 c = some p → c < 0) (s : List UInt8) (y2 : (Int))  : ∀ (fuel : Nat) (s2 : List UInt8) (i : Int) (l : List (List UInt8)) (r : (List (List UInt8))), strings_genSplit_2_l0 s y2  fuel s2 i l = some r → kont Tryd.prog w0 W μ0 (FnPost Tryd.prog Tryd.f57 0 0 (strings_genSplit_2_v r) []) (kAt (bodyOf Tryd.f57) 0) none (strings_genSplit_2_T0 s y2 s2 i l) (strings_genSplit_2_H0 s y2 s2 i l) := by
  intro fuel
  induction fuel with
  | zero => intro s2 i l r h; rw [strings_genSplit_2_l0] at h; cases h
  | succ fuel ih =>
    intro s2 i l r h
    rw [strings_genSplit_2_l0] at h
    rcases itb_some h with ⟨cL0_1, h⟩ | ⟨cL0_1, h⟩
    · skip
      obtain ⟨yL0_3, eL0_2, h⟩ := bind_some h
      rcases itb_some h with ⟨cL0_4, h⟩ | ⟨cL0_4, h⟩
      · skip
        obtain ⟨gL0_5, h⟩ := guard_some h
        obtain ⟨gL0_6, h⟩ := guard_some h
        exact run_to mixed hμ (L := [0]) (n := 30) (s := [.go, .reg [(2, hT)], .reg [(2, hC (strings_Index_2_v yL0_3))], .reg [(1, hT)], .reg [(4, { os := [(0, .row 1 ((l.set (0 + i.toNat) s2)).length (rowF cStr default (l.set (0 + i.toNat) s2)) true)] })]])
          (a_ (r2_ (f_ cL0_1 tr)) (a_ (r2_ (c_ (strings_Index_2_tri s2 yL0_3 eL0_2) (r1_ tr))) (a_ (r1_ (f_ cL0_4 tr)) (a_ (r1_ (r2_ (a_ (a_ (a_ (Eq.refl 1) gL0_5) tr) (a_ (a_ (a_ (Eq.refl 1) (a_ (le_ 1 1 rfl) gL0_6)) (a_ (sub_set_row cStr default 1 l (0 + i.toNat) s2 gL0_6 (splL (rowF cStr default l (0 + i.toNat)) 0 [.str s2]) (by kernel_rfl)) tr)) tr)))) tr)))) (strings_genSplit_2_c18_ok hμ s s2 i l y2   r h) (by kernel_rfl) ⟨fun _ _ => rfl, trivial⟩
      · skip
        obtain ⟨gL0_5, h⟩ := guard_some h
        obtain ⟨gL0_6, h⟩ := guard_some h
        obtain ⟨gL0_7, h⟩ := guard_some h
        obtain ⟨gL0_8, h⟩ := guard_some h
        exact run_to mixed hμ (L := [0]) (n := 35) (s := [.go, .reg [(2, hT)], .reg [(2, hC (strings_Index_2_v yL0_3))], .reg [(1, hF)], .reg [(8, { os := [(0, .row 1 ((l.set (0 + i.toNat) ((s2.drop 0).take (((IntKind.wrap .i64 (yL0_3 + 0))).toNat - 0)))).length (rowF cStr default (l.set (0 + i.toNat) ((s2.drop 0).take (((IntKind.wrap .i64 (yL0_3 + 0))).toNat - 0)))) true)] })], .reg [], .reg []])
          (a_ (r2_ (f_ cL0_1 tr)) (a_ (r2_ (c_ (strings_Index_2_tri s2 yL0_3 eL0_2) (r1_ tr))) (a_ (r1_ (f_ cL0_4 tr)) (a_ (r2_ (r4_ (a_ (a_ gL0_5 tr) (a_ (a_ (a_ (Eq.refl 1) gL0_6) tr) (a_ (a_ (a_ (Eq.refl 1) (a_ (le_ 1 1 rfl) gL0_7)) (a_ (sub_set_row cStr default 1 l (0 + i.toNat) ((s2.drop 0).take (((IntKind.wrap .i64 (yL0_3 + 0))).toNat - 0)) gL0_7 (splL (rowF cStr default l (0 + i.toNat)) 0 [.str ((s2.drop 0).take (((IntKind.wrap .i64 (yL0_3 + 0))).toNat - 0))]) (by kernel_rfl)) tr)) tr))))) (a_ (r1_ (r4_ (a_ (a_ gL0_8 tr) (r1_ tr)))) (a_ (r1_ (r2_ tr)) tr)))))) (ih _ _ _ r h) (by kernel_rfl) ⟨fun _ _ => rfl, trivial⟩
    · skip
      obtain ⟨gL0_2, h⟩ := guard_some h
      obtain ⟨gL0_3, h⟩ := guard_some h
      obtain ⟨gL0_4, h⟩ := guard_some h
      obtain ⟨gL0_5, h⟩ := guard_some h
      obtain rfl := Option.some.inj h
      exact run_ret mixed (L := []) (n := 24) (s := [.go, .reg [(2, hF)], .reg [(4, { os := [(0, .row 1 ((l.set (0 + i.toNat) s2)).length (rowF cStr default (l.set (0 + i.toNat) s2)) true)] })], .frz 0, .wk [(9, .ds 1 ((l.set (0 + i.toNat) s2)).length (rowF cStr default (l.set (0 + i.toNat) s2))), (58, .ds 1 ((l.set (0 + i.toNat) s2)).length (rowF cStr default (l.set (0 + i.toNat) s2)))] [], .reg [(3, { v := some (.ds 1 (((l.set (0 + i.toNat) s2).take ((IntKind.wrap .i64 (i + 1))).toNat)).length (rowF cStr default ((l.set (0 + i.toNat) s2).take ((IntKind.wrap .i64 (i + 1))).toNat))) })]])
        (a_ (a_ (r2_ (f_ cL0_1 tr)) (a_ (r1_ (r2_ (a_ (a_ (a_ (Eq.refl 1) gL0_2) tr) (a_ (a_ (a_ (Eq.refl 1) (a_ (le_ 1 1 rfl) gL0_3)) (a_ (sub_set_row cStr default 1 l (0 + i.toNat) s2 gL0_3 (splL (rowF cStr default l (0 + i.toNat)) 0 [.str s2]) (by kernel_rfl)) tr)) tr)))) (a_ (a_ (fz_row (enc := cStr) (d := default) (fun _ => rfl) (l.set (0 + i.toNat) s2)) (a_ (fz_sl gL0_4) (a_ (fz_sl gL0_4) (a_ (ob_row cStr default (l.set (0 + i.toNat) s2) 0 1 ((l.set (0 + i.toNat) s2)).length (rowF cStr default (l.set (0 + i.toNat) s2)) ((l.set (0 + i.toNat) s2)).length (fun _ => rfl)) tr)))) (a_ (a_ (a_ (le_fz_sl cStr 1 (d := default) (l := (l.set (0 + i.toNat) s2)) gL0_4) (a_ (le_fz_sl cStr 1 (d := default) (l := (l.set (0 + i.toNat) s2)) gL0_4) tr)) tr) (a_ (r1_ (r2_ (a_ (a_ (a_ (Eq.refl 1) gL0_5) (a_ (le_take cStr default 1 (l.set (0 + i.toNat) s2) ((IntKind.wrap .i64 (i + 1))).toNat (toN_le gL0_5.2.2)) tr)) (r1_ tr)))) tr))))) tr) (by kernel_rfl) rfl

theorem strings_genSplit_2_ok (s : List UInt8) (r : (List (List UInt8))) (h : strings_genSplit_2 s = some r) : ∀ σ, Inj 0 σ → FnTri Tryd.prog 57 (renL σ [.str s, .str ([46] : List UInt8), .int .i64 0, .int .i64 (-1)]) (preOf σ 0 []) ((strings_genSplit_2_v r).ren σ) (upOf σ []) := by
  refine fn_of Tryd.func57 (by kernel_rfl) (by kernel_rfl) (by kernel_rfl) trivial (by kernel_rfl) trivial (by kernel_rfl) ?_
  intro w0 W μ0 hμ
  unfold strings_genSplit_2 at h
  obtain ⟨y2, e1, h⟩ := bind_some h
  obtain ⟨g3, h⟩ := guard_some h
  exact run_to mixed hμ (L := [0]) (n := 46) (s := [.reg [(0, { v := some (.ds 1 (([] : List (List UInt8))).length (rowF cStr default ([] : List (List UInt8)))) })], .reg [], .reg [], .reg [], .reg [(2, hC (strings_Count_2_v y2))], .reg [], .reg [(1, { os := [(0, .row 1 ((List.replicate (((if (IntKind.wrap .i64 (((s).length : Int) + 1)) < (IntKind.wrap .i64 (y2 + 1)) then (IntKind.wrap .i64 (((s).length : Int) + 1)) else (IntKind.wrap .i64 (y2 + 1)))).toNat) ([]) : List (List UInt8))).length (rowF cStr default (List.replicate (((if (IntKind.wrap .i64 (((s).length : Int) + 1)) < (IntKind.wrap .i64 (y2 + 1)) then (IntKind.wrap .i64 (((s).length : Int) + 1)) else (IntKind.wrap .i64 (y2 + 1)))).toNat) ([]) : List (List UInt8))) true)], v := some (.sl 0 0 0 false (((if (IntKind.wrap .i64 (((s).length : Int) + 1)) < (IntKind.wrap .i64 (y2 + 1)) then (IntKind.wrap .i64 (((s).length : Int) + 1)) else (IntKind.wrap .i64 (y2 + 1)))).toNat) none) })], .reg [], .reg []])
    (a_ (a_ (a_ tr (a_ (le_nil_ds 1 (rowF cStr default [])) tr)) tr) (a_ (r2_ tr) (a_ (r2_ tr) (a_ (r2_ tr) (a_ (r2_ (c_ (strings_Count_2_tri s y2 e1) (r2_ tr))) (a_ (r2_ (r4_ tr)) (a_ (r1_ (a_ (a_ (a_ g3.1 (a_ g3.2.1 (a_ g3.2.2.1 (a_ g3.2.2.2 (a_ (Eq.refl true) (a_ (Eq.refl 1) (lt_ 0 1 rfl))))))) (a_ (le_cap 0 0 0 false (((if (IntKind.wrap .i64 (((s).length : Int) + 1)) < (IntKind.wrap .i64 (y2 + 1)) then (IntKind.wrap .i64 (((s).length : Int) + 1)) else (IntKind.wrap .i64 (y2 + 1)))).toNat) (((if (IntKind.wrap .i64 (((s).length : Int) + 1)) < (IntKind.wrap .i64 (y2 + 1)) then (IntKind.wrap .i64 (((s).length : Int) + 1)) else (IntKind.wrap .i64 (y2 + 1)))).toNat)) (a_ (sub_made cStr default 1 (((if (IntKind.wrap .i64 (((s).length : Int) + 1)) < (IntKind.wrap .i64 (y2 + 1)) then (IntKind.wrap .i64 (((s).length : Int) + 1)) else (IntKind.wrap .i64 (y2 + 1)))).toNat) ([])) tr))) (r1_ tr))) (a_ (r1_ (r2_ tr)) (a_ (r1_ tr) tr))))))))) (strings_genSplit_2_l0_ok hμ s y2  big _ _ _ r h) (by kernel_rfl) ⟨fun _ _ => rfl, trivial⟩

theorem strings_genSplit_2_tri (s : List UInt8) (r : (List (List UInt8))) (h : strings_genSplit_2 s = some r) : FnTri Tryd.prog 57 [.str s, .str ([46] : List UInt8), .int .i64 0, .int .i64 (-1)] [] (strings_genSplit_2_v r) [] := FnTri.none (strings_genSplit_2_ok s r h) rfl rfl

/-- strings.Split -/

def strings_Split_2_v (r : (List (List UInt8))) : LV := .ds 1 (r).length (rowF cStr default r)

def strings_Split_2 (s : List UInt8) : Option ((List (List UInt8))) :=
  (strings_genSplit_2 s).bind fun y2 =>
  some y2

theorem strings_Split_2_ok (s : List UInt8) (r : (List (List UInt8))) (h : strings_Split_2 s = some r) : ∀ σ, Inj 0 σ → FnTri Tryd.prog 38 (renL σ [.str s, .str ([46] : List UInt8)]) (preOf σ 0 []) ((strings_Split_2_v r).ren σ) (upOf σ []) := by
  refine fn_of Tryd.func38 (by kernel_rfl) (by kernel_rfl) (by kernel_rfl) trivial (by kernel_rfl) trivial (by kernel_rfl) ?_
  intro w0 W μ0 hμ
  unfold strings_Split_2 at h
  obtain ⟨y2, e1, h⟩ := bind_some h
  obtain rfl := Option.some.inj h
  exact run_ret mixed (L := []) (n := 15) (s := [.reg [(0, { v := some (.ds 1 (([] : List (List UInt8))).length (rowF cStr default ([] : List (List UInt8)))) })], .reg [(2, hC (strings_genSplit_2_v y2))]])
    (a_ (a_ (a_ (a_ tr (a_ (le_nil_ds 1 (rowF cStr default [])) tr)) tr) (a_ (r2_ (c_ (strings_genSplit_2_tri s y2 e1) (r1_ tr))) tr)) tr) (by kernel_rfl) rfl

theorem strings_Split_2_tri (s : List UInt8) (r : (List (List UInt8))) (h : strings_Split_2 s = some r) : FnTri Tryd.prog 38 [.str s, .str ([46] : List UInt8)] [] (strings_Split_2_v r) [] := FnTri.none (strings_Split_2_ok s r h) rfl rfl

/-- (*parrel/script.reader).tx -/

def script_reader_tx_v (r : (T_api_Tx) × (List (List UInt8)) × (Bool)) : LV := v_T_api_Tx r.1

def script_reader_tx_up (x_r : T_script_reader) (r : (T_api_Tx) × (List (List UInt8)) × (Bool)) : Upd := [(0, some (.var (c_T_script_reader (T_script_reader.mk r.2.1 r.2.2))))]

def script_reader_tx_objs (x_r : T_script_reader) : List LO := [.var (c_T_script_reader x_r)]

def script_reader_tx (x_r : T_script_reader) : Option ((T_api_Tx) × (List (List UInt8)) × (Bool)) :=
  (script_reader_word x_r).bind fun y2 =>
  (strings_Split_2 y2.1).bind fun y4 =>
  if ((((y4).length : Int) != 3) : Bool) then
    some ((T_api_Tx.mk 0 0 0), y2.2.1, true)
  else
    if 0 ≤ (0 : Int) ∧ (0 : Int) < (((y4).length : Nat) : Int) then
    (script_reader_number (T_script_reader.mk y2.2.1 y2.2.2) (y4.getD 0 default) 255).bind fun y8 =>
    if 0 ≤ (1 : Int) ∧ (1 : Int) < (((y4).length : Nat) : Int) then
    (script_reader_number (T_script_reader.mk y8.2.1 y8.2.2) (y4.getD 1 default) 2147483647).bind fun y11 =>
    if 0 ≤ (2 : Int) ∧ (2 : Int) < (((y4).length : Nat) : Int) then
    (script_reader_number (T_script_reader.mk y11.2.1 y11.2.2) (y4.getD 2 default) 2147483647).bind fun y14 =>
    some ((T_api_Tx.mk (IntKind.wrap .u8 y8.1) (IntKind.wrap .u32 y11.1) (IntKind.wrap .u32 y14.1)), y14.2.1, y14.2.2)
    else none
    else none
    else none

theorem script_reader_tx_ok (x_r : T_script_reader) (r : (T_api_Tx) × (List (List UInt8)) × (Bool)) (h : script_reader_tx x_r = some r) : ∀ σ, Inj 1 σ → FnTri Tryd.prog 75 (renL σ [.ptr 0 0 0]) (preOf σ 0 (script_reader_tx_objs x_r)) ((script_reader_tx_v r).ren σ) (upOf σ (script_reader_tx_up x_r r)) := by
  refine fn_of Tryd.func75 (by kernel_rfl) (by kernel_rfl) (by kernel_rfl) ⟨rfl, trivial⟩ (by kernel_rfl) ⟨rfl, trivial⟩ (by kernel_rfl) ?_
  intro w0 W μ0 hμ
  unfold script_reader_tx at h
  obtain ⟨y2, e1, h⟩ := bind_some h
  obtain ⟨y4, e3, h⟩ := bind_some h
  rcases itb_some h with ⟨c5, h⟩ | ⟨c5, h⟩
  · skip
    obtain rfl := Option.some.inj h
    exact run_ret mixed (L := []) (n := 26) (s := [.reg [], .reg [(1, { call := some ((script_reader_word_v y2).ren (sel [0]), preOf (sel [0]) 0 (script_reader_word_objs x_r), upOf (sel [0]) (script_reader_word_up x_r y2)) }), (2, hC (strings_Split_2_v y4))], .reg [(2, hT)], .reg [], .reg []])
      (a_ (a_ (r1_ tr) (a_ (r1_ (a_ (a_ (a_ (script_reader_word_ok x_r y2 e1 (sel [0]) (sel_inj rfl rfl)) (a_ (LO.Le.refl (.var (c_T_script_reader x_r))) tr)) tr) (c_ (strings_Split_2_tri y2.1 y4 e3) (r1_ tr)))) (a_ (r2_ (f_ c5 tr)) (a_ (r1_ (r2_ (a_ (a_ (a_ (Eq.refl 1) (a_ (le_ 2 2 rfl) (Eq.refl 0))) tr) tr))) (a_ (a_ (a_ (Eq.refl true) tr) (a_ (a_ (a_ (Eq.refl 3) (a_ (le_ 3 3 rfl) (Eq.refl 0))) tr) tr)) tr))))) (a_ (a_ tr (le_ 3 3 rfl)) tr)) (by kernel_rfl) rfl
  · skip
    obtain ⟨g6, h⟩ := guard_some h
    obtain ⟨y8, e7, h⟩ := bind_some h
    obtain ⟨g9, h⟩ := guard_some h
    obtain ⟨y11, e10, h⟩ := bind_some h
    obtain ⟨g12, h⟩ := guard_some h
    obtain ⟨y14, e13, h⟩ := bind_some h
    obtain rfl := Option.some.inj h
    exact run_ret mixed (L := []) (n := 24) (s := [.reg [], .reg [(1, { call := some ((script_reader_word_v y2).ren (sel [0]), preOf (sel [0]) 0 (script_reader_word_objs x_r), upOf (sel [0]) (script_reader_word_up x_r y2)) }), (2, hC (strings_Split_2_v y4))], .reg [(2, hF)], .reg [(4, { call := some ((script_reader_number_v y8).ren (sel [0]), preOf (sel [0]) 0 (script_reader_number_objs (T_script_reader.mk y2.2.1 y2.2.2) (y4.getD 0 default) 255), upOf (sel [0]) (script_reader_number_up (T_script_reader.mk y2.2.1 y2.2.2) (y4.getD 0 default) 255 y8)) }), (10, { call := some ((script_reader_number_v y11).ren (sel [0]), preOf (sel [0]) 0 (script_reader_number_objs (T_script_reader.mk y8.2.1 y8.2.2) (y4.getD 1 default) 2147483647), upOf (sel [0]) (script_reader_number_up (T_script_reader.mk y8.2.1 y8.2.2) (y4.getD 1 default) 2147483647 y11)) }), (16, { call := some ((script_reader_number_v y14).ren (sel [0]), preOf (sel [0]) 0 (script_reader_number_objs (T_script_reader.mk y11.2.1 y11.2.2) (y4.getD 2 default) 2147483647), upOf (sel [0]) (script_reader_number_up (T_script_reader.mk y11.2.1 y11.2.2) (y4.getD 2 default) 2147483647 y14)) })]])
      (a_ (a_ (r1_ tr) (a_ (r1_ (a_ (a_ (a_ (script_reader_word_ok x_r y2 e1 (sel [0]) (sel_inj rfl rfl)) (a_ (LO.Le.refl (.var (c_T_script_reader x_r))) tr)) tr) (c_ (strings_Split_2_tri y2.1 y4 e3) (r1_ tr)))) (a_ (r2_ (f_ c5 tr)) (a_ (r2_ (a_ (a_ (a_ (Eq.refl 1) g6) tr) (a_ (a_ (lt_ 0 1 rfl) tr) (a_ (a_ (a_ (script_reader_number_ok (T_script_reader.mk y2.2.1 y2.2.2) (y4.getD 0 default) 255 y8 e7 (sel [0]) (sel_inj rfl rfl)) (a_ (LO.Le.refl (.var (c_T_script_reader (T_script_reader.mk y2.2.1 y2.2.2)))) tr)) tr) (r1_ (r2_ (a_ (a_ (a_ (Eq.refl 1) g9) tr) (a_ (a_ (lt_ 0 1 rfl) tr) (a_ (a_ (a_ (script_reader_number_ok (T_script_reader.mk y8.2.1 y8.2.2) (y4.getD 1 default) 2147483647 y11 e10 (sel [0]) (sel_inj rfl rfl)) (a_ (LO.Le.refl (.var (c_T_script_reader (T_script_reader.mk y8.2.1 y8.2.2)))) tr)) tr) (r1_ (r2_ (a_ (a_ (a_ (Eq.refl 1) g12) tr) (a_ (a_ (lt_ 0 1 rfl) tr) (a_ (a_ (a_ (script_reader_number_ok (T_script_reader.mk y11.2.1 y11.2.2) (y4.getD 2 default) 2147483647 y14 e13 (sel [0]) (sel_inj rfl rfl)) (a_ (LO.Le.refl (.var (c_T_script_reader (T_script_reader.mk y11.2.1 y11.2.2)))) tr)) tr) (r1_ (a_ (a_ (Eq.refl true) tr) (a_ (a_ (a_ (Eq.refl 3) (a_ (le_ 3 3 rfl) (Eq.refl 0))) tr) tr))))))))))))))))) tr)))) (a_ (a_ tr (le_ 3 3 rfl)) tr)) (by kernel_rfl) rfl

/-- parrel/script.hasKey -/

def script_hasKey_v (r : (Bool)) : LV := .bool r

def script_hasKey (kind : Int) : Option ((Bool)) :=
  if ((kind == 2) : Bool) then
    some true
  else
    if ((kind == 3) : Bool) then
      some true
    else
      some (kind == 6)

theorem script_hasKey_ok (kind : Int) (r : (Bool)) (h : script_hasKey kind = some r) : ∀ σ, Inj 0 σ → FnTri Tryd.prog 46 (renL σ [.int .u8 kind]) (preOf σ 0 []) ((script_hasKey_v r).ren σ) (upOf σ []) := by
  refine fn_of Tryd.func46 (by kernel_rfl) (by kernel_rfl) (by kernel_rfl) trivial (by kernel_rfl) trivial (by kernel_rfl) ?_
  intro w0 W μ0 hμ
  unfold script_hasKey at h
  rcases itb_some h with ⟨c1, h⟩ | ⟨c1, h⟩
  · skip
    obtain rfl := Option.some.inj h
    exact run_ret mixed (L := []) (n := 15) (s := [.reg [], .reg [(2, hT)]])
      (a_ (a_ (r1_ tr) (a_ (r2_ (f_ c1 (t2_ (r2_ (t2_ (r2_ tr)))))) tr)) tr) (by kernel_rfl) rfl
  · skip
    rcases itb_some h with ⟨c2, h⟩ | ⟨c2, h⟩
    · skip
      obtain rfl := Option.some.inj h
      exact run_ret mixed (L := []) (n := 15) (s := [.reg [], .reg [(2, hF), (6, hT)]])
        (a_ (a_ (r1_ tr) (a_ (r2_ (f_ c1 (r1_ (r2_ (f_ c2 (t2_ (r2_ tr))))))) tr)) tr) (by kernel_rfl) rfl
    · skip
      obtain rfl := Option.some.inj h
      exact run_ret mixed (L := []) (n := 15) (s := [.reg [], .reg [(2, hF), (6, hF)]])
        (a_ (a_ (r1_ tr) (a_ (r2_ (f_ c1 (r1_ (r2_ (f_ c2 (r4_ tr)))))) tr)) tr) (by kernel_rfl) rfl

theorem script_hasKey_tri (kind : Int) (r : (Bool)) (h : script_hasKey kind = some r) : FnTri Tryd.prog 46 [.int .u8 kind] [] (script_hasKey_v r) [] := FnTri.none (script_hasKey_ok kind r h) rfl rfl

/-- strings.IndexByte -/

def strings_IndexByte_v (r : (Int)) : LV := .int .i64 r

def strings_IndexByte (s : List UInt8) (c : Int) : Option ((Int)) :=
  (internal_stringslite_IndexByte s c).bind fun y2 =>
  some y2

theorem strings_IndexByte_ok (s : List UInt8) (c : Int) (r : (Int)) (h : strings_IndexByte s c = some r) : ∀ σ, Inj 0 σ → FnTri Tryd.prog 77 (renL σ [.str s, .int .u8 c]) (preOf σ 0 []) ((strings_IndexByte_v r).ren σ) (upOf σ []) := by
  refine fn_of Tryd.func77 (by kernel_rfl) (by kernel_rfl) (by kernel_rfl) trivial (by kernel_rfl) trivial (by kernel_rfl) ?_
  intro w0 W μ0 hμ
  unfold strings_IndexByte at h
  obtain ⟨y2, e1, h⟩ := bind_some h
  obtain rfl := Option.some.inj h
  exact run_ret mixed (L := []) (n := 15) (s := [.reg [], .reg [(2, hC (internal_stringslite_IndexByte_v y2))]])
    (a_ (a_ (r1_ tr) (a_ (r2_ (c_ (internal_stringslite_IndexByte_tri s c y2 e1) (r1_ tr))) tr)) tr) (by kernel_rfl) rfl

theorem strings_IndexByte_tri (s : List UInt8) (c : Int) (r : (Int)) (h : strings_IndexByte s c = some r) : FnTri Tryd.prog 77 [.str s, .int .u8 c] [] (strings_IndexByte_v r) [] := FnTri.none (strings_IndexByte_ok s c r h) rfl rfl

/-- (*parrel/script.reader).bytes -/

def script_reader_bytes_v (r : (List (Int)) × (List (List UInt8)) × (Bool)) : LV := .ds 1 (r.1).length (rowF (cInt .u8) default r.1)

def script_reader_bytes_up (x_r : T_script_reader) (r : (List (Int)) × (List (List UInt8)) × (Bool)) : Upd := [(0, some (.var (c_T_script_reader (T_script_reader.mk r.2.1 r.2.2))))]

def script_reader_bytes_objs (x_r : T_script_reader) : List LO := [.var (c_T_script_reader x_r)]

def script_reader_bytes_T0 (y2 : (List UInt8) × (List (List UInt8)) × (Bool)) (i : Int) (bad2 : Bool) (l : List (Int)) : List LV := [.ptr 0 0 0, .any, .any, .str y2.1, .gs 1 (l).length, .int .i64 i, .any, .any, .any, .any, .any, .any, .any, .any, .any, .any, .any, .any, .any, .any, .any, .any, .any, .any, .any, .any, .any, .any, .any, .any, .any, .any, .any, .any, .any, .any, .any, .any, .any, .any, .any, .any, .any, .any, .any, .any, .any, .any, .any, .any, .any, .any, .any, .any, .any, .any, .any, .any, .any, .any, .any, .any, .any, .any, .any, .any, .any, .any, .any, .any]

def script_reader_bytes_H0 (y2 : (List UInt8) × (List (List UInt8)) × (Bool)) (i : Int) (bad2 : Bool) (l : List (Int)) : Heap := [some (.var (c_T_script_reader (T_script_reader.mk y2.2.1 bad2))), some (.gr 1 (l).length (rowF (cInt .u8) default l))]

def script_reader_bytes_T1000005 (y2 : (List UInt8) × (List (List UInt8)) × (Bool)) (bad : Bool) : List LV := [.ptr 0 0 0, .any, .any, .str y2.1, .any, .any, .any, .any, .any, .any, .any, .any, .any, .any, .any, .any, .any, .any, .any, .any, .any, .any, .any, .any, .any, .any, .any, .any, .any, .any, .any, .any, .any, .any, .any, .any, .any, .any, .any, .any, .any, .any, .any, .any, .any, .any, .any, .any, .any, .any, .any, .any, .any, .any, .any, .any, .any, .any, .any, .any, .any, .any, .any, .any, .any, .any, .any, .any, .any, .any]

def script_reader_bytes_H1000005 (y2 : (List UInt8) × (List (List UInt8)) × (Bool)) (bad : Bool) : Heap := [some (.var (c_T_script_reader (T_script_reader.mk y2.2.1 bad)))]

def script_reader_bytes_l0 (x_r : T_script_reader) (y2 : (List UInt8) × (List (List UInt8)) × (Bool))  : Nat → (Int) → (Bool) → (List (Int)) → Option ((List (Int)) × (List (List UInt8)) × (Bool))
  | 0, _, _, _ => none
  | fuel + 1, i, bad2, l =>
    if ((decide ((IntKind.wrap .i64 (i + 1)) < ((y2.1).length : Int))) : Bool) then
      if ((!bad2) : Bool) then
        if 0 ≤ i ∧ i < (((y2.1).length : Nat) : Int) then
        (strings_IndexByte ([48, 49, 50, 51, 52, 53, 54, 55, 56, 57, 97, 98, 99, 100, 101, 102] : List UInt8) ((y2.1.getD i.toNat 0).toNat : Int)).bind fun yL0_5 =>
        if 0 ≤ (IntKind.wrap .i64 (i + 1)) ∧ (IntKind.wrap .i64 (i + 1)) < (((y2.1).length : Nat) : Int) then
        (strings_IndexByte ([48, 49, 50, 51, 52, 53, 54, 55, 56, 57, 97, 98, 99, 100, 101, 102] : List UInt8) ((y2.1.getD ((IntKind.wrap .i64 (i + 1))).toNat 0).toNat : Int)).bind fun yL0_8 =>
        if ((decide (yL0_5 < 0)) : Bool) then
          some (([] : List (Int)), y2.2.1, true)
        else
          if ((decide (yL0_8 < 0)) : Bool) then
            some (([] : List (Int)), y2.2.1, true)
          else
            if ((l).length + (([(IntKind.wrap .u8 (IntKind.wrap .i64 ((BitVec.ofInt (IntKind.bits .i64) (IntKind.wrap .i64 (yL0_5 * 2 ^ (min (Int.toNat 4) (IntKind.bits .i64)))) ||| BitVec.ofInt (IntKind.bits .i64) yL0_8).toNat : Int)))] : List (Int))).length) * 1 ≤ 140737488351232 then
            script_reader_bytes_l0 x_r y2  fuel (IntKind.wrap .i64 (i + 2)) bad2 (l ++ ([(IntKind.wrap .u8 (IntKind.wrap .i64 ((BitVec.ofInt (IntKind.bits .i64) (IntKind.wrap .i64 (yL0_5 * 2 ^ (min (Int.toNat 4) (IntKind.bits .i64)))) ||| BitVec.ofInt (IntKind.bits .i64) yL0_8).toNat : Int)))] : List (Int)))
            else none
        else none
        else none
      else
        some (l, y2.2.1, bad2)
    else
      some (l, y2.2.1, bad2)

def script_reader_bytes_c5 (x_r : T_script_reader) (y2 : (List UInt8) × (List (List UInt8)) × (Bool))  (bad : Bool) : Option ((List (Int)) × (List (List UInt8)) × (Bool)) :=
  script_reader_bytes_l0 x_r y2  big 0 bad ([] : List (Int))

def script_reader_bytes (x_r : T_script_reader) : Option ((List (Int)) × (List (List UInt8)) × (Bool)) :=
  (script_reader_word x_r).bind fun y2 =>
  if ((y2.1 == ([45] : List UInt8)) : Bool) then
    some (([] : List (Int)), y2.2.1, y2.2.2)
  else
    if (y2.2.2 : Bool) then
      script_reader_bytes_c5 x_r y2  true
    else
      if ((y2.1 == []) : Bool) then
        script_reader_bytes_c5 x_r y2  true
      else
        script_reader_bytes_c5 x_r y2  ((Int.tmod ((y2.1).length : Int) 2) != 0)

theorem script_reader_bytes_l0_ok {w0 : World} {W : Nat → Prop} {μ0 : Emb} (hμ : ∀ c p, μ0 c = some p → c < 1) (x_r : T_script_reader) (y2 : (List UInt8) × (List (List UInt8)) × (Bool))  : ∀ (fuel : Nat) (i : Int) (bad2 : Bool) (l : List (Int)) (r : (List (Int)) × (List (List UInt8)) × (Bool)), script_reader_bytes_l0 x_r y2  fuel i bad2 l = some r → kont Tryd.prog w0 W μ0 (FnPost Tryd.prog Tryd.f62 1 1 (script_reader_bytes_v r) (script_reader_bytes_up x_r r)) (kAt (bodyOf Tryd.f62) 0) none (script_reader_bytes_T0 y2 i bad2 l) (script_reader_bytes_H0 y2 i bad2 l) := by
  intro fuel
  induction fuel with
  | zero => intro i bad2 l r h; rw [script_reader_bytes_l0] at h; cases h
  | succ fuel ih =>
    intro i bad2 l r h
    rw [script_reader_bytes_l0] at h
    rcases itb_some h with ⟨cL0_1, h⟩ | ⟨cL0_1, h⟩
    · skip
      rcases itb_some h with ⟨cL0_2, h⟩ | ⟨cL0_2, h⟩
      · skip
        obtain ⟨gL0_3, h⟩ := guard_some h
        obtain ⟨yL0_5, eL0_4, h⟩ := bind_some h
        obtain ⟨gL0_6, h⟩ := guard_some h
        obtain ⟨yL0_8, eL0_7, h⟩ := bind_some h
        rcases itb_some h with ⟨cL0_9, h⟩ | ⟨cL0_9, h⟩
        · skip
          obtain rfl := Option.some.inj h
          exact run_ret mixed (L := []) (n := 32) (s := [.go, .reg [(5, hT), (11, hT)], .reg [(3, hC (strings_IndexByte_v yL0_5)), (8, hC (strings_IndexByte_v yL0_8))], .reg [(2, hT)], .reg [], .reg [(0, { v := some (.ds 1 (([] : List (Int))).length (rowF (cInt .u8) default ([] : List (Int)))) })]])
            (a_ (a_ (r1_ (r4_ (f_ cL0_1 (r1_ (r2_ (l_ 1 2 rfl (r1_ (f_ cL0_2 tr)))))))) (a_ (r2_ (a_ (a_ gL0_3 tr) (a_ (a_ (a_ (strings_IndexByte_tri ([48, 49, 50, 51, 52, 53, 54, 55, 56, 57, 97, 98, 99, 100, 101, 102] : List UInt8) ((y2.1.getD i.toNat 0).toNat : Int) yL0_5 eL0_4) tr) tr) (r1_ (r2_ (a_ (a_ gL0_6 tr) (a_ (a_ (a_ (strings_IndexByte_tri ([48, 49, 50, 51, 52, 53, 54, 55, 56, 57, 97, 98, 99, 100, 101, 102] : List UInt8) ((y2.1.getD ((IntKind.wrap .i64 (i + 1))).toNat 0).toNat : Int) yL0_8 eL0_7) tr) tr) (r2_ tr)))))))) (a_ (r2_ (f_ cL0_9 (t2_ (r1_ tr)))) (a_ (r1_ (r2_ (a_ (a_ (a_ (Eq.refl 1) (a_ (le_ 2 2 rfl) (Eq.refl 0))) tr) tr))) (a_ (a_ (a_ tr (a_ (le_nil_ds 1 (rowF (cInt .u8) default [])) tr)) tr) tr))))) tr) (by kernel_rfl) rfl
        · skip
          rcases itb_some h with ⟨cL0_10, h⟩ | ⟨cL0_10, h⟩
          · skip
            obtain rfl := Option.some.inj h
            exact run_ret mixed (L := []) (n := 32) (s := [.go, .reg [(5, hT), (11, hT)], .reg [(3, hC (strings_IndexByte_v yL0_5)), (8, hC (strings_IndexByte_v yL0_8))], .reg [(2, hF), (5, hT)], .reg [], .reg [(0, { v := some (.ds 1 (([] : List (Int))).length (rowF (cInt .u8) default ([] : List (Int)))) })]])
              (a_ (a_ (r1_ (r4_ (f_ cL0_1 (r1_ (r2_ (l_ 1 2 rfl (r1_ (f_ cL0_2 tr)))))))) (a_ (r2_ (a_ (a_ gL0_3 tr) (a_ (a_ (a_ (strings_IndexByte_tri ([48, 49, 50, 51, 52, 53, 54, 55, 56, 57, 97, 98, 99, 100, 101, 102] : List UInt8) ((y2.1.getD i.toNat 0).toNat : Int) yL0_5 eL0_4) tr) tr) (r1_ (r2_ (a_ (a_ gL0_6 tr) (a_ (a_ (a_ (strings_IndexByte_tri ([48, 49, 50, 51, 52, 53, 54, 55, 56, 57, 97, 98, 99, 100, 101, 102] : List UInt8) ((y2.1.getD ((IntKind.wrap .i64 (i + 1))).toNat 0).toNat : Int) yL0_8 eL0_7) tr) tr) (r2_ tr)))))))) (a_ (r2_ (f_ cL0_9 (r2_ (f_ cL0_10 tr)))) (a_ (r1_ (r2_ (a_ (a_ (a_ (Eq.refl 1) (a_ (le_ 2 2 rfl) (Eq.refl 0))) tr) tr))) (a_ (a_ (a_ tr (a_ (le_nil_ds 1 (rowF (cInt .u8) default [])) tr)) tr) tr))))) tr) (by kernel_rfl) rfl
          · skip
            obtain ⟨gL0_11, h⟩ := guard_some h
            exact run_to mixed hμ (L := [3]) (n := 32) (s := [.go, .reg [(5, hT), (11, hT)], .reg [(3, hC (strings_IndexByte_v yL0_5)), (8, hC (strings_IndexByte_v yL0_8))], .reg [(2, hF), (5, hF)], .reg [(6, { os := [(2, .gr 1 (([(IntKind.wrap .u8 (IntKind.wrap .i64 ((BitVec.ofInt (IntKind.bits .i64) (IntKind.wrap .i64 (yL0_5 * 2 ^ (min (Int.toNat 4) (IntKind.bits .i64)))) ||| BitVec.ofInt (IntKind.bits .i64) yL0_8).toNat : Int)))] : List (Int))).length (rowF (cInt .u8) default ([(IntKind.wrap .u8 (IntKind.wrap .i64 ((BitVec.ofInt (IntKind.bits .i64) (IntKind.wrap .i64 (yL0_5 * 2 ^ (min (Int.toNat 4) (IntKind.bits .i64)))) ||| BitVec.ofInt (IntKind.bits .i64) yL0_8).toNat : Int)))] : List (Int))))], v := some (.gs 2 (([(IntKind.wrap .u8 (IntKind.wrap .i64 ((BitVec.ofInt (IntKind.bits .i64) (IntKind.wrap .i64 (yL0_5 * 2 ^ (min (Int.toNat 4) (IntKind.bits .i64)))) ||| BitVec.ofInt (IntKind.bits .i64) yL0_8).toNat : Int)))] : List (Int))).length) }), (7, { app := 3, os := [(3, .gr 1 ((l ++ ([(IntKind.wrap .u8 (IntKind.wrap .i64 ((BitVec.ofInt (IntKind.bits .i64) (IntKind.wrap .i64 (yL0_5 * 2 ^ (min (Int.toNat 4) (IntKind.bits .i64)))) ||| BitVec.ofInt (IntKind.bits .i64) yL0_8).toNat : Int)))] : List (Int)))).length (rowF (cInt .u8) default (l ++ ([(IntKind.wrap .u8 (IntKind.wrap .i64 ((BitVec.ofInt (IntKind.bits .i64) (IntKind.wrap .i64 (yL0_5 * 2 ^ (min (Int.toNat 4) (IntKind.bits .i64)))) ||| BitVec.ofInt (IntKind.bits .i64) yL0_8).toNat : Int)))] : List (Int)))))], v := some (.gs 3 ((l ++ ([(IntKind.wrap .u8 (IntKind.wrap .i64 ((BitVec.ofInt (IntKind.bits .i64) (IntKind.wrap .i64 (yL0_5 * 2 ^ (min (Int.toNat 4) (IntKind.bits .i64)))) ||| BitVec.ofInt (IntKind.bits .i64) yL0_8).toNat : Int)))] : List (Int)))).length) })], .reg []])
              (a_ (r1_ (r4_ (f_ cL0_1 (r1_ (r2_ (l_ 1 2 rfl (r1_ (f_ cL0_2 tr)))))))) (a_ (r2_ (a_ (a_ gL0_3 tr) (a_ (a_ (a_ (strings_IndexByte_tri ([48, 49, 50, 51, 52, 53, 54, 55, 56, 57, 97, 98, 99, 100, 101, 102] : List UInt8) ((y2.1.getD i.toNat 0).toNat : Int) yL0_5 eL0_4) tr) tr) (r1_ (r2_ (a_ (a_ gL0_6 tr) (a_ (a_ (a_ (strings_IndexByte_tri ([48, 49, 50, 51, 52, 53, 54, 55, 56, 57, 97, 98, 99, 100, 101, 102] : List UInt8) ((y2.1.getD ((IntKind.wrap .i64 (i + 1))).toNat 0).toNat : Int) yL0_8 eL0_7) tr) tr) (r2_ tr)))))))) (a_ (r2_ (f_ cL0_9 (r2_ (f_ cL0_10 tr)))) (a_ (r2_ (a_ (a_ (lei_ 0 4 rfl) tr) (r1_ (r2_ (a_ (a_ (a_ (Eq.refl true) (a_ (Eq.refl 1) (a_ (lt_ 0 1 rfl) (le_ 1 16777216 rfl)))) (a_ (le_sl_gs 2 1 (some 1) rfl) (a_ (sub_lit (cInt .u8) default 1 (fun _ => rfl) ([(IntKind.wrap .u8 (IntKind.wrap .i64 ((BitVec.ofInt (IntKind.bits .i64) (IntKind.wrap .i64 (yL0_5 * 2 ^ (min (Int.toNat 4) (IntKind.bits .i64)))) ||| BitVec.ofInt (IntKind.bits .i64) yL0_8).toNat : Int)))] : List (Int))) tr))) (a_ (a_ (a_ (a_ (Eq.refl 1) (Nat.le_refl (([(IntKind.wrap .u8 (IntKind.wrap .i64 ((BitVec.ofInt (IntKind.bits .i64) (IntKind.wrap .i64 (yL0_5 * 2 ^ (min (Int.toNat 4) (IntKind.bits .i64)))) ||| BitVec.ofInt (IntKind.bits .i64) yL0_8).toNat : Int)))] : List (Int))).length)) (a_ (a_ (lt_ 0 1 rfl) (a_ (lt_ 0 1 rfl) (a_ gL0_11 (a_ (Eq.refl 1) (Eq.refl true))))) (a_ (Eq.refl 1) (Nat.le_refl (l).length)))) (a_ (le_gs_app 3 l ([(IntKind.wrap .u8 (IntKind.wrap .i64 ((BitVec.ofInt (IntKind.bits .i64) (IntKind.wrap .i64 (yL0_5 * 2 ^ (min (Int.toNat 4) (IntKind.bits .i64)))) ||| BitVec.ofInt (IntKind.bits .i64) yL0_8).toNat : Int)))] : List (Int))) (a_ (sub_app (cInt .u8) default 1 l ([(IntKind.wrap .u8 (IntKind.wrap .i64 ((BitVec.ofInt (IntKind.bits .i64) (IntKind.wrap .i64 (yL0_5 * 2 ^ (min (Int.toNat 4) (IntKind.bits .i64)))) ||| BitVec.ofInt (IntKind.bits .i64) yL0_8).toNat : Int)))] : List (Int))) tr))) (r1_ tr))))))) (a_ (r1_ (r2_ tr)) tr))))) (ih _ _ _ r h) (by kernel_rfl) ⟨rfl, fun _ _ => rfl, trivial⟩
      · skip
        obtain rfl := Option.some.inj h
        exact run_ret mixed (L := []) (n := 20) (s := [.go, .reg [(5, hT), (11, hF)], .reg [], .frz 1])
          (a_ (a_ (r1_ (r4_ (f_ cL0_1 (r1_ (r2_ (l_ 1 2 rfl (r1_ (f_ cL0_2 tr)))))))) (a_ (r2_ tr) (a_ (a_ (fz_row (enc := (cInt .u8)) (d := default) (fun _ => rfl) l) (a_ (Nat.le_refl (l).length) (a_ (Nat.le_refl (l).length) (a_ (Nat.le_refl (l).length) tr)))) tr))) tr) (by kernel_rfl) rfl
    · skip
      obtain rfl := Option.some.inj h
      exact run_ret mixed (L := []) (n := 20) (s := [.go, .reg [(5, hF)], .reg [], .frz 1])
        (a_ (a_ (r1_ (r4_ (f_ cL0_1 (a_ tr (t4_ (r1_ tr)))))) (a_ (r2_ tr) (a_ (a_ (fz_row (enc := (cInt .u8)) (d := default) (fun _ => rfl) l) (a_ (Nat.le_refl (l).length) (a_ (Nat.le_refl (l).length) (a_ (Nat.le_refl (l).length) tr)))) tr))) tr) (by kernel_rfl) rfl

theorem script_reader_bytes_c5_ok {w0 : World} {W : Nat → Prop} {μ0 : Emb} (hμ : ∀ c p, μ0 c = some p → c < 1) (x_r : T_script_reader) (y2 : (List UInt8) × (List (List UInt8)) × (Bool))  (bad : Bool) (r : (List (Int)) × (List (List UInt8)) × (Bool)) (h : script_reader_bytes_c5 x_r y2  bad = some r) : kont Tryd.prog w0 W μ0 (FnPost Tryd.prog Tryd.f62 1 1 (script_reader_bytes_v r) (script_reader_bytes_up x_r r)) (kAtR (bodyOf Tryd.f62) 5) none (script_reader_bytes_T1000005 y2 bad) (script_reader_bytes_H1000005 y2 bad) := by
  unfold script_reader_bytes_c5 at h
  exact run_to mixed hμ (L := [1]) (n := 18) (s := [.void (.gr 1 (([] : List (Int))).length (rowF (cInt .u8) default ([] : List (Int)))), .reg [(0, { v := some (.gs 1 (([] : List (Int))).length) })], .reg []])
    (a_ (Eq.refl 0) (a_ (a_ (a_ tr (a_ (le_nil_gs 1) tr)) tr) (a_ (r1_ tr) tr))) (script_reader_bytes_l0_ok hμ x_r y2  big _ _ _ r h) (by kernel_rfl) ⟨rfl, fun _ _ => rfl, trivial⟩

theorem script_reader_bytes_ok (x_r : T_script_reader) (r : (List (Int)) × (List (List UInt8)) × (Bool)) (h : script_reader_bytes x_r = some r) : ∀ σ, Inj 1 σ → FnTri Tryd.prog 62 (renL σ [.ptr 0 0 0]) (preOf σ 0 (script_reader_bytes_objs x_r)) ((script_reader_bytes_v r).ren σ) (upOf σ (script_reader_bytes_up x_r r)) := by
  refine fn_of Tryd.func62 (by kernel_rfl) (by kernel_rfl) (by kernel_rfl) ⟨rfl, trivial⟩ (by kernel_rfl) ⟨rfl, trivial⟩ (by kernel_rfl) ?_
  intro w0 W μ0 hμ
  unfold script_reader_bytes at h
  obtain ⟨y2, e1, h⟩ := bind_some h
  rcases itb_some h with ⟨c3, h⟩ | ⟨c3, h⟩
  · skip
    obtain rfl := Option.some.inj h
    exact run_ret mixed (L := []) (n := 23) (s := [.reg [(0, { v := some (.ds 1 (([] : List (Int))).length (rowF (cInt .u8) default ([] : List (Int)))) })], .reg [(1, { call := some ((script_reader_word_v y2).ren (sel [0]), preOf (sel [0]) 0 (script_reader_word_objs x_r), upOf (sel [0]) (script_reader_word_up x_r y2)) })], .reg [(1, hT)], .reg [(0, { v := some (.ds 1 (([] : List (Int))).length (rowF (cInt .u8) default ([] : List (Int)))) })]])
      (a_ (a_ (a_ (a_ tr (a_ (le_nil_ds 1 (rowF (cInt .u8) default [])) tr)) tr) (a_ (r1_ (a_ (a_ (a_ (script_reader_word_ok x_r y2 e1 (sel [0]) (sel_inj rfl rfl)) (a_ (LO.Le.refl (.var (c_T_script_reader x_r))) tr)) tr) (r1_ tr))) (a_ (r1_ (f_ c3 tr)) (a_ (a_ (a_ tr (a_ (le_nil_ds 1 (rowF (cInt .u8) default [])) tr)) tr) tr)))) tr) (by kernel_rfl) rfl
  · skip
    rcases itb_some h with ⟨c4, h⟩ | ⟨c4, h⟩
    · skip
      exact run_to mixed hμ (L := []) (n := 25) (s := [.reg [(0, { v := some (.ds 1 (([] : List (Int))).length (rowF (cInt .u8) default ([] : List (Int)))) })], .reg [(1, { call := some ((script_reader_word_v y2).ren (sel [0]), preOf (sel [0]) 0 (script_reader_word_objs x_r), upOf (sel [0]) (script_reader_word_up x_r y2)) })], .reg [(1, hF)], .reg [(5, hT)]])
        (a_ (a_ (a_ tr (a_ (le_nil_ds 1 (rowF (cInt .u8) default [])) tr)) tr) (a_ (r1_ (a_ (a_ (a_ (script_reader_word_ok x_r y2 e1 (sel [0]) (sel_inj rfl rfl)) (a_ (LO.Le.refl (.var (c_T_script_reader x_r))) tr)) tr) (r1_ tr))) (a_ (r1_ (f_ c3 tr)) (a_ (r4_ (l_ 1 2 rfl (f_ c4 (t2_ (r2_ (t4_ (r1_ (r2_ (a_ (a_ (a_ (Eq.refl 1) (a_ (le_ 2 2 rfl) (Eq.refl 0))) tr) tr))))))))) tr)))) (script_reader_bytes_c5_ok hμ x_r y2  _ r h) (by kernel_rfl) ⟨rfl, trivial⟩
    · skip
      rcases itb_some h with ⟨c5, h⟩ | ⟨c5, h⟩
      · skip
        exact run_to mixed hμ (L := []) (n := 25) (s := [.reg [(0, { v := some (.ds 1 (([] : List (Int))).length (rowF (cInt .u8) default ([] : List (Int)))) })], .reg [(1, { call := some ((script_reader_word_v y2).ren (sel [0]), preOf (sel [0]) 0 (script_reader_word_objs x_r), upOf (sel [0]) (script_reader_word_up x_r y2)) })], .reg [(1, hF)], .reg [(5, hF), (9, hT)]])
          (a_ (a_ (a_ tr (a_ (le_nil_ds 1 (rowF (cInt .u8) default [])) tr)) tr) (a_ (r1_ (a_ (a_ (a_ (script_reader_word_ok x_r y2 e1 (sel [0]) (sel_inj rfl rfl)) (a_ (LO.Le.refl (.var (c_T_script_reader x_r))) tr)) tr) (r1_ tr))) (a_ (r1_ (f_ c3 tr)) (a_ (r4_ (l_ 1 2 rfl (f_ c4 (r1_ (r2_ (f_ c5 (t4_ (r1_ (r2_ (a_ (a_ (a_ (Eq.refl 1) (a_ (le_ 2 2 rfl) (Eq.refl 0))) tr) tr)))))))))) tr)))) (script_reader_bytes_c5_ok hμ x_r y2  _ r h) (by kernel_rfl) ⟨rfl, trivial⟩
      · skip
        exact run_to mixed hμ (L := []) (n := 25) (s := [.reg [(0, { v := some (.ds 1 (([] : List (Int))).length (rowF (cInt .u8) default ([] : List (Int)))) })], .reg [(1, { call := some ((script_reader_word_v y2).ren (sel [0]), preOf (sel [0]) 0 (script_reader_word_objs x_r), upOf (sel [0]) (script_reader_word_up x_r y2)) })], .reg [(1, hF)], .reg [(5, hF), (9, hF)]])
          (a_ (a_ (a_ tr (a_ (le_nil_ds 1 (rowF (cInt .u8) default [])) tr)) tr) (a_ (r1_ (a_ (a_ (a_ (script_reader_word_ok x_r y2 e1 (sel [0]) (sel_inj rfl rfl)) (a_ (LO.Le.refl (.var (c_T_script_reader x_r))) tr)) tr) (r1_ tr))) (a_ (r1_ (f_ c3 tr)) (a_ (r4_ (l_ 1 2 rfl (f_ c4 (r1_ (r2_ (f_ c5 (r2_ (a_ (a_ (ne0 2 rfl) tr) (r4_ (a_ (a_ (a_ (Eq.refl 1) (a_ (le_ 2 2 rfl) (Eq.refl 0))) tr) tr)))))))))) tr)))) (script_reader_bytes_c5_ok hμ x_r y2  _ r h) (by kernel_rfl) ⟨rfl, trivial⟩

/-- parrel/ids.KeyOf -/

def ids_KeyOf_v (r : (A8 (Int)) × (Int)) : LV := .tup [.agg [.int .u8 r.1.a0, .int .u8 r.1.a1, .int .u8 r.1.a2, .int .u8 r.1.a3, .int .u8 r.1.a4, .int .u8 r.1.a5, .int .u8 r.1.a6, .int .u8 r.1.a7], .int .i64 r.2]

def ids_KeyOf (s : List UInt8) : Option ((A8 (Int)) × (Int)) :=
  if ((s == []) : Bool) then
    some ((A8.mk 0 0 0 0 0 0 0 0), 1)
  else
    if ((decide (8 < ((s).length : Int))) : Bool) then
      some ((A8.mk 0 0 0 0 0 0 0 0), 1)
    else
      (strings_IndexByte s 0).bind fun y4 =>
      if ((decide (0 ≤ y4)) : Bool) then
        some ((A8.mk 0 0 0 0 0 0 0 0), 1)
      else
        some ((A8.mk (if 0 < (s).length then ((s.getD 0 0).toNat : Int) else 0) (if 1 < (s).length then ((s.getD 1 0).toNat : Int) else 0) (if 2 < (s).length then ((s.getD 2 0).toNat : Int) else 0) (if 3 < (s).length then ((s.getD 3 0).toNat : Int) else 0) (if 4 < (s).length then ((s.getD 4 0).toNat : Int) else 0) (if 5 < (s).length then ((s.getD 5 0).toNat : Int) else 0) (if 6 < (s).length then ((s.getD 6 0).toNat : Int) else 0) (if 7 < (s).length then ((s.getD 7 0).toNat : Int) else 0)), 0)

theorem ids_KeyOf_ok (s : List UInt8) (r : (A8 (Int)) × (Int)) (h : ids_KeyOf s = some r) : ∀ σ, Inj 0 σ → FnTri Tryd.prog 65 (renL σ [.str s]) (preOf σ 0 []) ((ids_KeyOf_v r).ren σ) (upOf σ []) := by
  refine fn_of Tryd.func65 (by kernel_rfl) (by kernel_rfl) (by kernel_rfl) trivial (by kernel_rfl) trivial (by kernel_rfl) ?_
  intro w0 W μ0 hμ
  unfold ids_KeyOf at h
  rcases itb_some h with ⟨c1, h⟩ | ⟨c1, h⟩
  · skip
    obtain rfl := Option.some.inj h
    exact run_ret mixed (L := []) (n := 23) (s := [.reg [], .reg [], .reg [(2, hT)], .reg []])
      (a_ (a_ (r2_ tr) (a_ (r1_ tr) (a_ (r2_ (f_ c1 (a_ tr (t2_ (r2_ (a_ tr (t2_ (r1_ tr)))))))) (a_ (m_ 8 8 rfl (a_ (a_ (a_ (Eq.refl 8) (a_ (le_ 8 8 rfl) (Eq.refl 0))) tr) (r1_ tr))) tr)))) (a_ (a_ tr (le_ 8 8 rfl)) tr)) (by kernel_rfl) rfl
  · skip
    rcases itb_some h with ⟨c2, h⟩ | ⟨c2, h⟩
    · skip
      obtain rfl := Option.some.inj h
      exact run_ret mixed (L := []) (n := 23) (s := [.reg [], .reg [], .reg [(2, hF), (7, hT)], .reg []])
        (a_ (a_ (r2_ tr) (a_ (r1_ tr) (a_ (r2_ (f_ c1 (r4_ (f_ c2 (a_ tr (t2_ (r1_ tr))))))) (a_ (m_ 8 8 rfl (a_ (a_ (a_ (Eq.refl 8) (a_ (le_ 8 8 rfl) (Eq.refl 0))) tr) (r1_ tr))) tr)))) (a_ (a_ tr (le_ 8 8 rfl)) tr)) (by kernel_rfl) rfl
    · skip
      obtain ⟨y4, e3, h⟩ := bind_some h
      rcases itb_some h with ⟨c5, h⟩ | ⟨c5, h⟩
      · skip
        obtain rfl := Option.some.inj h
        exact run_ret mixed (L := []) (n := 23) (s := [.reg [], .reg [], .reg [(2, hF), (7, hF), (9, hC (strings_IndexByte_v y4)), (11, hT)], .reg []])
          (a_ (a_ (r2_ tr) (a_ (r1_ tr) (a_ (r2_ (f_ c1 (r4_ (f_ c2 (r1_ (c_ (strings_IndexByte_tri s 0 y4 e3) (r1_ (f_ c5 tr)))))))) (a_ (m_ 8 8 rfl (a_ (a_ (a_ (Eq.refl 8) (a_ (le_ 8 8 rfl) (Eq.refl 0))) tr) (r1_ tr))) tr)))) (a_ (a_ tr (le_ 8 8 rfl)) tr)) (by kernel_rfl) rfl
      · skip
        obtain rfl := Option.some.inj h
        exact run_ret mixed (L := []) (n := 27) (s := [.reg [], .reg [], .reg [(2, hF), (7, hF), (9, hC (strings_IndexByte_v y4)), (11, hF)], .reg [], .reg []])
          (a_ (a_ (r2_ tr) (a_ (r1_ tr) (a_ (r2_ (f_ c1 (r4_ (f_ c2 (r1_ (c_ (strings_IndexByte_tri s 0 y4 e3) (r1_ (f_ c5 tr)))))))) (a_ (a_ (a_ (a_ (lei_ 0 0 rfl) (a_ (lei_ 0 8 rfl) (lei_ 8 8 rfl))) tr) (r1_ (a_ (a_ (a_ (Eq.refl 1) (a_ (Eq.refl 0) (a_ (le_ 8 8 rfl) (Eq.refl true)))) tr) tr))) (a_ (m_ 8 8 rfl (a_ (a_ (a_ (Eq.refl 8) (a_ (le_ 8 8 rfl) (Eq.refl 0))) tr) (r1_ tr))) tr))))) (a_ (a_ tr (le_ 8 8 rfl)) tr)) (by kernel_rfl) rfl

theorem ids_KeyOf_tri (s : List UInt8) (r : (A8 (Int)) × (Int)) (h : ids_KeyOf s = some r) : FnTri Tryd.prog 65 [.str s] [] (ids_KeyOf_v r) [] := FnTri.none (ids_KeyOf_ok s r h) rfl rfl

/-- (*parrel/script.reader).key -/

def script_reader_key_v (r : (A8 (Int)) × (List (List UInt8)) × (Bool)) : LV := .agg [.int .u8 r.1.a0, .int .u8 r.1.a1, .int .u8 r.1.a2, .int .u8 r.1.a3, .int .u8 r.1.a4, .int .u8 r.1.a5, .int .u8 r.1.a6, .int .u8 r.1.a7]

def script_reader_key_up (x_r : T_script_reader) (r : (A8 (Int)) × (List (List UInt8)) × (Bool)) : Upd := [(0, some (.var (c_T_script_reader (T_script_reader.mk r.2.1 r.2.2))))]

def script_reader_key_objs (x_r : T_script_reader) : List LO := [.var (c_T_script_reader x_r)]

def script_reader_key (x_r : T_script_reader) : Option ((A8 (Int)) × (List (List UInt8)) × (Bool)) :=
  (script_reader_bytes x_r).bind fun y2 =>
  (ids_KeyOf (strI y2.1)).bind fun y4 =>
  if (y2.2.2 : Bool) then
    some (y4.1, y2.2.1, true)
  else
    some (y4.1, y2.2.1, (y4.2 != 0))

theorem script_reader_key_ok (x_r : T_script_reader) (r : (A8 (Int)) × (List (List UInt8)) × (Bool)) (h : script_reader_key x_r = some r) : ∀ σ, Inj 1 σ → FnTri Tryd.prog 76 (renL σ [.ptr 0 0 0]) (preOf σ 0 (script_reader_key_objs x_r)) ((script_reader_key_v r).ren σ) (upOf σ (script_reader_key_up x_r r)) := by
  refine fn_of Tryd.func76 (by kernel_rfl) (by kernel_rfl) (by kernel_rfl) ⟨rfl, trivial⟩ (by kernel_rfl) ⟨rfl, trivial⟩ (by kernel_rfl) ?_
  intro w0 W μ0 hμ
  unfold script_reader_key at h
  obtain ⟨y2, e1, h⟩ := bind_some h
  obtain ⟨y4, e3, h⟩ := bind_some h
  rcases itb_some h with ⟨c5, h⟩ | ⟨c5, h⟩
  · skip
    obtain rfl := Option.some.inj h
    exact run_ret mixed (L := []) (n := 21) (s := [.reg [], .reg [(1, { call := some ((script_reader_bytes_v y2).ren (sel [0]), preOf (sel [0]) 0 (script_reader_bytes_objs x_r), upOf (sel [0]) (script_reader_bytes_up x_r y2)) }), (2, { v := some (.str (strI y2.1)) }), (3, hC (ids_KeyOf_v y4))], .reg [(5, hT)], .reg []])
      (a_ (a_ (r1_ tr) (a_ (r1_ (a_ (a_ (a_ (script_reader_bytes_ok x_r y2 e1 (sel [0]) (sel_inj rfl rfl)) (a_ (LO.Le.refl (.var (c_T_script_reader x_r))) tr)) tr) (a_ (a_ (a_ (Eq.refl 1) (str_ob y2.1)) (a_ (le_str y2.1) tr)) (a_ (a_ (a_ (ids_KeyOf_tri (strI y2.1) y4 e3) tr) tr) (r4_ (a_ (a_ (a_ (Eq.refl 8) (a_ (le_ 8 8 rfl) (Eq.refl 0))) tr) (r1_ tr))))))) (a_ (r4_ (l_ 1 2 rfl (f_ c5 (t2_ (r1_ (r2_ (a_ (a_ (a_ (Eq.refl 1) (a_ (le_ 2 2 rfl) (Eq.refl 0))) tr) tr))))))) (a_ (m_ 8 8 rfl (a_ (a_ (a_ (Eq.refl 8) (a_ (le_ 8 8 rfl) (Eq.refl 0))) tr) tr)) tr)))) (a_ (a_ tr (le_ 8 8 rfl)) tr)) (by kernel_rfl) rfl
  · skip
    obtain rfl := Option.some.inj h
    exact run_ret mixed (L := []) (n := 21) (s := [.reg [], .reg [(1, { call := some ((script_reader_bytes_v y2).ren (sel [0]), preOf (sel [0]) 0 (script_reader_bytes_objs x_r), upOf (sel [0]) (script_reader_bytes_up x_r y2)) }), (2, { v := some (.str (strI y2.1)) }), (3, hC (ids_KeyOf_v y4))], .reg [(5, hF)], .reg []])
      (a_ (a_ (r1_ tr) (a_ (r1_ (a_ (a_ (a_ (script_reader_bytes_ok x_r y2 e1 (sel [0]) (sel_inj rfl rfl)) (a_ (LO.Le.refl (.var (c_T_script_reader x_r))) tr)) tr) (a_ (a_ (a_ (Eq.refl 1) (str_ob y2.1)) (a_ (le_str y2.1) tr)) (a_ (a_ (a_ (ids_KeyOf_tri (strI y2.1) y4 e3) tr) tr) (r4_ (a_ (a_ (a_ (Eq.refl 8) (a_ (le_ 8 8 rfl) (Eq.refl 0))) tr) (r1_ tr))))))) (a_ (r4_ (l_ 1 2 rfl (f_ c5 (r1_ (r4_ (a_ (a_ (a_ (Eq.refl 1) (a_ (le_ 2 2 rfl) (Eq.refl 0))) tr) tr)))))) (a_ (m_ 8 8 rfl (a_ (a_ (a_ (Eq.refl 8) (a_ (le_ 8 8 rfl) (Eq.refl 0))) tr) tr)) tr)))) (a_ (a_ tr (le_ 8 8 rfl)) tr)) (by kernel_rfl) rfl

/-- (*parrel/script.reader).call -/

def script_reader_call_v (r : (T_node_Call) × (List (List UInt8)) × (Bool)) : LV := v_T_node_Call r.1

def script_reader_call_up (x_r : T_script_reader) (r : (T_node_Call) × (List (List UInt8)) × (Bool)) : Upd := [(0, some (.var (c_T_script_reader (T_script_reader.mk r.2.1 r.2.2))))]

def script_reader_call_objs (x_r : T_script_reader) : List LO := [.var (c_T_script_reader x_r)]

def script_reader_call_T1000017 (y2 : (Int) × (List (List UInt8)) × (Bool)) (y4 : (Int) × (List (List UInt8)) × (Bool)) (y8 : (Int) × (List (List UInt8)) × (Bool)) (l4 : List (List UInt8)) (bad4 : Bool) (Node4 : T_api_Tx) (Key2 : A8 (Int)) : List LV := [.any, .any, .ptr 1 0 0, .ptr 2 0 0, .any, .any, .any, .any, .any, .any, .any, .any, .any, .any, .any, .any, .any, .any, .any, .any, .any, .any, .any, .any, .any, .any, .any, .any, .any, .any, .any, .any, .any, .any, .any, .any, .any, .any, .any, .any, .any, .any, .any, .any, .any, .any, .any, .any, .any, .any, .any, .any, .any, .any, .any, .any, .any, .any, .any, .any, .any, .any, .any, .any, .any, .any]

def script_reader_call_H1000017 (y2 : (Int) × (List (List UInt8)) × (Bool)) (y4 : (Int) × (List (List UInt8)) × (Bool)) (y8 : (Int) × (List (List UInt8)) × (Bool)) (l4 : List (List UInt8)) (bad4 : Bool) (Node4 : T_api_Tx) (Key2 : A8 (Int)) : Heap := [some (.var (c_T_script_reader (T_script_reader.mk l4 bad4))), some (.var [.int .u8 0, .int .u32 0, .int .u8 0, .int .u8 0, .int .u32 0, .int .u32 0, .int .u8 0, .int .u8 0, .int .u8 0, .int .u8 0, .int .u8 0, .int .u8 0, .int .u8 0, .int .u8 0, .str [], .int .u8 0, .int .u8 0, .nilsl]), some (.var [.int .u8 y2.1, .int .u32 (IntKind.wrap .u32 y4.1), .int .u8 (IntKind.wrap .u8 y8.1), .int .u8 Node4.f_Node, .int .u32 Node4.f_Boot, .int .u32 Node4.f_Num, .int .u8 Key2.a0, .int .u8 Key2.a1, .int .u8 Key2.a2, .int .u8 Key2.a3, .int .u8 Key2.a4, .int .u8 Key2.a5, .int .u8 Key2.a6, .int .u8 Key2.a7, .str [], .int .u8 0, .int .u8 0, .gs 3 (([] : List (Int))).length]), some (.gr 1 (([] : List (Int))).length (rowF (cInt .u8) default ([] : List (Int))))]

def script_reader_call_T0 (y2 : (Int) × (List (List UInt8)) × (Bool)) (y4 : (Int) × (List (List UInt8)) × (Bool)) (y8 : (Int) × (List (List UInt8)) × (Bool)) (l6 : List (List UInt8)) (bad6 : Bool) (Node6 : T_api_Tx) (Key3 : A8 (Int)) (R2 : Int) (x_W : Int) (l7 : List (Int)) : List LV := [.ptr 0 0 0, .any, .ptr 1 0 0, .ptr 2 0 0, .any, .any, .any, .any, .any, .any, .any, .any, .any, .any, .any, .any, .any, .any, .any, .any, .any, .any, .any, .any, .any, .any, .any, .any, .any, .any, .any, .any, .any, .any, .any, .any, .any, .any, .any, .any, .any, .any, .any, .any, .any, .any, .any, .any, .any, .any, .any, .any, .any, .any, .any, .any, .any, .any, .any, .any, .any, .any, .any, .any, .any, .any]

def script_reader_call_H0 (y2 : (Int) × (List (List UInt8)) × (Bool)) (y4 : (Int) × (List (List UInt8)) × (Bool)) (y8 : (Int) × (List (List UInt8)) × (Bool)) (l6 : List (List UInt8)) (bad6 : Bool) (Node6 : T_api_Tx) (Key3 : A8 (Int)) (R2 : Int) (x_W : Int) (l7 : List (Int)) : Heap := [some (.var (c_T_script_reader (T_script_reader.mk l6 bad6))), some (.var [.int .u8 0, .int .u32 0, .int .u8 0, .int .u8 0, .int .u32 0, .int .u32 0, .int .u8 0, .int .u8 0, .int .u8 0, .int .u8 0, .int .u8 0, .int .u8 0, .int .u8 0, .int .u8 0, .str [], .int .u8 0, .int .u8 0, .nilsl]), some (.var [.int .u8 y2.1, .int .u32 (IntKind.wrap .u32 y4.1), .int .u8 (IntKind.wrap .u8 y8.1), .int .u8 Node6.f_Node, .int .u32 Node6.f_Boot, .int .u32 Node6.f_Num, .int .u8 Key3.a0, .int .u8 Key3.a1, .int .u8 Key3.a2, .int .u8 Key3.a3, .int .u8 Key3.a4, .int .u8 Key3.a5, .int .u8 Key3.a6, .int .u8 Key3.a7, .str [], .int .u8 R2, .int .u8 x_W, .gs 3 (l7).length]), some (.gr 1 (l7).length (rowF (cInt .u8) default l7))]

def script_reader_call_T1000013 (y2 : (Int) × (List (List UInt8)) × (Bool)) (y4 : (Int) × (List (List UInt8)) × (Bool)) (y8 : (Int) × (List (List UInt8)) × (Bool)) (l3 : List (List UInt8)) (bad3 : Bool) (Node3 : T_api_Tx) (Key : A8 (Int)) : List LV := [.ptr 0 0 0, .any, .ptr 1 0 0, .ptr 2 0 0, .any, .any, .any, .any, .any, .any, .any, .any, .any, .any, .any, .any, .any, .any, .any, .any, .any, .any, .any, .any, .any, .any, .any, .any, .any, .any, .any, .any, .any, .any, .any, .any, .any, .any, .any, .any, .any, .any, .any, .any, .any, .any, .any, .any, .any, .any, .any, .any, .any, .any, .any, .any, .any, .any, .any, .any, .any, .any, .any, .any, .any, .any]

def script_reader_call_H1000013 (y2 : (Int) × (List (List UInt8)) × (Bool)) (y4 : (Int) × (List (List UInt8)) × (Bool)) (y8 : (Int) × (List (List UInt8)) × (Bool)) (l3 : List (List UInt8)) (bad3 : Bool) (Node3 : T_api_Tx) (Key : A8 (Int)) : Heap := [some (.var (c_T_script_reader (T_script_reader.mk l3 bad3))), some (.var [.int .u8 0, .int .u32 0, .int .u8 0, .int .u8 0, .int .u32 0, .int .u32 0, .int .u8 0, .int .u8 0, .int .u8 0, .int .u8 0, .int .u8 0, .int .u8 0, .int .u8 0, .int .u8 0, .str [], .int .u8 0, .int .u8 0, .nilsl]), some (.var [.int .u8 y2.1, .int .u32 (IntKind.wrap .u32 y4.1), .int .u8 (IntKind.wrap .u8 y8.1), .int .u8 Node3.f_Node, .int .u32 Node3.f_Boot, .int .u32 Node3.f_Num, .int .u8 Key.a0, .int .u8 Key.a1, .int .u8 Key.a2, .int .u8 Key.a3, .int .u8 Key.a4, .int .u8 Key.a5, .int .u8 Key.a6, .int .u8 Key.a7, .str [], .int .u8 0, .int .u8 0, .gs 3 (([] : List (Int))).length]), some (.gr 1 (([] : List (Int))).length (rowF (cInt .u8) default ([] : List (Int))))]

def script_reader_call_T1000008 (y2 : (Int) × (List (List UInt8)) × (Bool)) (y4 : (Int) × (List (List UInt8)) × (Bool)) (y8 : (Int) × (List (List UInt8)) × (Bool)) (l : List (List UInt8)) (bad : Bool) (Node : T_api_Tx) : List LV := [.ptr 0 0 0, .any, .ptr 1 0 0, .ptr 2 0 0, .any, .any, .any, .any, .any, .any, .any, .any, .any, .any, .any, .any, .any, .any, .any, .any, .any, .any, .any, .any, .any, .any, .any, .any, .any, .any, .any, .any, .any, .any, .any, .any, .any, .any, .any, .any, .any, .any, .any, .any, .any, .any, .any, .any, .any, .any, .any, .any, .any, .any, .any, .any, .any, .any, .any, .any, .any, .any, .any, .any, .any, .any]

def script_reader_call_H1000008 (y2 : (Int) × (List (List UInt8)) × (Bool)) (y4 : (Int) × (List (List UInt8)) × (Bool)) (y8 : (Int) × (List (List UInt8)) × (Bool)) (l : List (List UInt8)) (bad : Bool) (Node : T_api_Tx) : Heap := [some (.var (c_T_script_reader (T_script_reader.mk l bad))), some (.var [.int .u8 0, .int .u32 0, .int .u8 0, .int .u8 0, .int .u32 0, .int .u32 0, .int .u8 0, .int .u8 0, .int .u8 0, .int .u8 0, .int .u8 0, .int .u8 0, .int .u8 0, .int .u8 0, .str [], .int .u8 0, .int .u8 0, .nilsl]), some (.var [.int .u8 y2.1, .int .u32 (IntKind.wrap .u32 y4.1), .int .u8 (IntKind.wrap .u8 y8.1), .int .u8 Node.f_Node, .int .u32 Node.f_Boot, .int .u32 Node.f_Num, .int .u8 0, .int .u8 0, .int .u8 0, .int .u8 0, .int .u8 0, .int .u8 0, .int .u8 0, .int .u8 0, .str [], .int .u8 0, .int .u8 0, .gs 3 (([] : List (Int))).length]), some (.gr 1 (([] : List (Int))).length (rowF (cInt .u8) default ([] : List (Int))))]

def script_reader_call_T1000014 (y2 : (Int) × (List (List UInt8)) × (Bool)) (y4 : (Int) × (List (List UInt8)) × (Bool)) (y8 : (Int) × (List (List UInt8)) × (Bool)) (l5 : List (List UInt8)) (bad5 : Bool) (Node5 : T_api_Tx) (R : Int) : List LV := [.ptr 0 0 0, .any, .ptr 1 0 0, .ptr 2 0 0, .any, .any, .any, .any, .any, .any, .any, .any, .any, .any, .any, .any, .any, .any, .any, .any, .any, .any, .any, .any, .any, .any, .any, .any, .any, .any, .any, .any, .any, .any, .any, .any, .any, .any, .any, .any, .any, .any, .any, .any, .any, .any, .any, .any, .any, .any, .any, .any, .any, .any, .any, .any, .any, .any, .any, .any, .any, .any, .any, .any, .any, .any]

def script_reader_call_H1000014 (y2 : (Int) × (List (List UInt8)) × (Bool)) (y4 : (Int) × (List (List UInt8)) × (Bool)) (y8 : (Int) × (List (List UInt8)) × (Bool)) (l5 : List (List UInt8)) (bad5 : Bool) (Node5 : T_api_Tx) (R : Int) : Heap := [some (.var (c_T_script_reader (T_script_reader.mk l5 bad5))), some (.var [.int .u8 0, .int .u32 0, .int .u8 0, .int .u8 0, .int .u32 0, .int .u32 0, .int .u8 0, .int .u8 0, .int .u8 0, .int .u8 0, .int .u8 0, .int .u8 0, .int .u8 0, .int .u8 0, .str [], .int .u8 0, .int .u8 0, .nilsl]), some (.var [.int .u8 y2.1, .int .u32 (IntKind.wrap .u32 y4.1), .int .u8 (IntKind.wrap .u8 y8.1), .int .u8 Node5.f_Node, .int .u32 Node5.f_Boot, .int .u32 Node5.f_Num, .int .u8 0, .int .u8 0, .int .u8 0, .int .u8 0, .int .u8 0, .int .u8 0, .int .u8 0, .int .u8 0, .str [], .int .u8 R, .int .u8 0, .gs 3 (([] : List (Int))).length]), some (.gr 1 (([] : List (Int))).length (rowF (cInt .u8) default ([] : List (Int))))]

def script_reader_call_T1000009 (y2 : (Int) × (List (List UInt8)) × (Bool)) (y4 : (Int) × (List (List UInt8)) × (Bool)) (y8 : (Int) × (List (List UInt8)) × (Bool)) (l2 : List (List UInt8)) (bad2 : Bool) (Node2 : T_api_Tx) : List LV := [.ptr 0 0 0, .any, .ptr 1 0 0, .ptr 2 0 0, .any, .any, .any, .any, .any, .any, .any, .any, .any, .any, .any, .any, .any, .any, .any, .any, .any, .any, .any, .any, .any, .any, .any, .any, .any, .any, .any, .any, .any, .any, .any, .any, .any, .any, .any, .any, .any, .any, .any, .any, .any, .any, .any, .any, .any, .any, .any, .any, .any, .any, .any, .any, .any, .any, .any, .any, .any, .any, .any, .any, .any, .any]

def script_reader_call_H1000009 (y2 : (Int) × (List (List UInt8)) × (Bool)) (y4 : (Int) × (List (List UInt8)) × (Bool)) (y8 : (Int) × (List (List UInt8)) × (Bool)) (l2 : List (List UInt8)) (bad2 : Bool) (Node2 : T_api_Tx) : Heap := [some (.var (c_T_script_reader (T_script_reader.mk l2 bad2))), some (.var [.int .u8 0, .int .u32 0, .int .u8 0, .int .u8 0, .int .u32 0, .int .u32 0, .int .u8 0, .int .u8 0, .int .u8 0, .int .u8 0, .int .u8 0, .int .u8 0, .int .u8 0, .int .u8 0, .str [], .int .u8 0, .int .u8 0, .nilsl]), some (.var [.int .u8 y2.1, .int .u32 (IntKind.wrap .u32 y4.1), .int .u8 (IntKind.wrap .u8 y8.1), .int .u8 Node2.f_Node, .int .u32 Node2.f_Boot, .int .u32 Node2.f_Num, .int .u8 0, .int .u8 0, .int .u8 0, .int .u8 0, .int .u8 0, .int .u8 0, .int .u8 0, .int .u8 0, .str [], .int .u8 0, .int .u8 0, .gs 3 (([] : List (Int))).length]), some (.gr 1 (([] : List (Int))).length (rowF (cInt .u8) default ([] : List (Int))))]

def script_reader_call_c17 (x_r : T_script_reader) (y2 : (Int) × (List (List UInt8)) × (Bool)) (y4 : (Int) × (List (List UInt8)) × (Bool)) (y8 : (Int) × (List (List UInt8)) × (Bool))  (l4 : List (List UInt8)) (bad4 : Bool) (Node4 : T_api_Tx) (Key2 : A8 (Int)) : Option ((T_node_Call) × (List (List UInt8)) × (Bool)) :=
  some ((T_node_Call.mk (T_sess_Call.mk y2.1 (IntKind.wrap .u32 y4.1)) (IntKind.wrap .u8 y8.1) Node4 Key2 [] 0 0 ([] : List (Int))), l4, bad4)

def script_reader_call_l0 (x_r : T_script_reader) (y2 : (Int) × (List (List UInt8)) × (Bool)) (y4 : (Int) × (List (List UInt8)) × (Bool)) (y8 : (Int) × (List (List UInt8)) × (Bool))  : Nat → (List (List UInt8)) → (Bool) → (T_api_Tx) → (A8 (Int)) → (Int) → (Int) → (List (Int)) → Option ((T_node_Call) × (List (List UInt8)) × (Bool))
  | 0, _, _, _, _, _, _, _ => none
  | fuel + 1, l6, bad6, Node6, Key3, R2, x_W, l7 =>
    if ((decide (0 < ((l6).length : Int))) : Bool) then
      if ((decide (((l7).length : Int) ≤ 8)) : Bool) then
        (script_reader_small (T_script_reader.mk l6 bad6)).bind fun yL0_4 =>
        if ((l7).length + (([yL0_4.1] : List (Int))).length) * 1 ≤ 140737488351232 then
        script_reader_call_l0 x_r y2 y4 y8  fuel yL0_4.2.1 yL0_4.2.2 Node6 Key3 R2 x_W (l7 ++ ([yL0_4.1] : List (Int)))
        else none
      else
        some ((T_node_Call.mk (T_sess_Call.mk y2.1 (IntKind.wrap .u32 y4.1)) (IntKind.wrap .u8 y8.1) Node6 Key3 [] R2 x_W l7), l6, bad6)
    else
      some ((T_node_Call.mk (T_sess_Call.mk y2.1 (IntKind.wrap .u32 y4.1)) (IntKind.wrap .u8 y8.1) Node6 Key3 [] R2 x_W l7), l6, bad6)

def script_reader_call_c13 (x_r : T_script_reader) (y2 : (Int) × (List (List UInt8)) × (Bool)) (y4 : (Int) × (List (List UInt8)) × (Bool)) (y8 : (Int) × (List (List UInt8)) × (Bool))  (l3 : List (List UInt8)) (bad3 : Bool) (Node3 : T_api_Tx) (Key : A8 (Int)) : Option ((T_node_Call) × (List (List UInt8)) × (Bool)) :=
  (script_reader_small (T_script_reader.mk l3 bad3)).bind fun yC13_2 =>
  (script_reader_small (T_script_reader.mk yC13_2.2.1 yC13_2.2.2)).bind fun yC13_4 =>
  script_reader_call_l0 x_r y2 y4 y8  big yC13_4.2.1 yC13_4.2.2 Node3 Key yC13_2.1 yC13_4.1 ([] : List (Int))

def script_reader_call_c8 (x_r : T_script_reader) (y2 : (Int) × (List (List UInt8)) × (Bool)) (y4 : (Int) × (List (List UInt8)) × (Bool)) (y8 : (Int) × (List (List UInt8)) × (Bool))  (l : List (List UInt8)) (bad : Bool) (Node : T_api_Tx) : Option ((T_node_Call) × (List (List UInt8)) × (Bool)) :=
  (script_reader_key (T_script_reader.mk l bad)).bind fun yC8_2 =>
  if (((IntKind.wrap .u8 y8.1) == 3) : Bool) then
    (script_reader_bytes (T_script_reader.mk yC8_2.2.1 yC8_2.2.2)).bind fun yC8_5 =>
    some ((T_node_Call.mk (T_sess_Call.mk y2.1 (IntKind.wrap .u32 y4.1)) (IntKind.wrap .u8 y8.1) Node yC8_2.1 (strI yC8_5.1) 0 0 ([] : List (Int))), yC8_5.2.1, yC8_5.2.2)
  else
    if (((IntKind.wrap .u8 y8.1) == 6) : Bool) then
      script_reader_call_c13 x_r y2 y4 y8  yC8_2.2.1 yC8_2.2.2 Node yC8_2.1
    else
      script_reader_call_c17 x_r y2 y4 y8  yC8_2.2.1 yC8_2.2.2 Node yC8_2.1

def script_reader_call_c14 (x_r : T_script_reader) (y2 : (Int) × (List (List UInt8)) × (Bool)) (y4 : (Int) × (List (List UInt8)) × (Bool)) (y8 : (Int) × (List (List UInt8)) × (Bool))  (l5 : List (List UInt8)) (bad5 : Bool) (Node5 : T_api_Tx) (R : Int) : Option ((T_node_Call) × (List (List UInt8)) × (Bool)) :=
  (script_reader_small (T_script_reader.mk l5 bad5)).bind fun yC14_2 =>
  script_reader_call_l0 x_r y2 y4 y8  big yC14_2.2.1 yC14_2.2.2 Node5 (A8.mk 0 0 0 0 0 0 0 0) R yC14_2.1 ([] : List (Int))

def script_reader_call_c9 (x_r : T_script_reader) (y2 : (Int) × (List (List UInt8)) × (Bool)) (y4 : (Int) × (List (List UInt8)) × (Bool)) (y8 : (Int) × (List (List UInt8)) × (Bool))  (l2 : List (List UInt8)) (bad2 : Bool) (Node2 : T_api_Tx) : Option ((T_node_Call) × (List (List UInt8)) × (Bool)) :=
  if (((IntKind.wrap .u8 y8.1) == 3) : Bool) then
    (script_reader_bytes (T_script_reader.mk l2 bad2)).bind fun yC9_3 =>
    some ((T_node_Call.mk (T_sess_Call.mk y2.1 (IntKind.wrap .u32 y4.1)) (IntKind.wrap .u8 y8.1) Node2 (A8.mk 0 0 0 0 0 0 0 0) (strI yC9_3.1) 0 0 ([] : List (Int))), yC9_3.2.1, yC9_3.2.2)
  else
    if (((IntKind.wrap .u8 y8.1) == 6) : Bool) then
      (script_reader_small (T_script_reader.mk l2 bad2)).bind fun yC9_4 =>
      script_reader_call_c14 x_r y2 y4 y8  yC9_4.2.1 yC9_4.2.2 Node2 yC9_4.1
    else
      some ((T_node_Call.mk (T_sess_Call.mk y2.1 (IntKind.wrap .u32 y4.1)) (IntKind.wrap .u8 y8.1) Node2 (A8.mk 0 0 0 0 0 0 0 0) [] 0 0 ([] : List (Int))), l2, bad2)

def script_reader_call (x_r : T_script_reader) : Option ((T_node_Call) × (List (List UInt8)) × (Bool)) :=
  (script_reader_small x_r).bind fun y2 =>
  (script_reader_num (T_script_reader.mk y2.2.1 y2.2.2)).bind fun y4 =>
  (script_calls).bind fun y6 =>
  (script_reader_of (T_script_reader.mk y4.2.1 y4.2.2) y6).bind fun y8 =>
  if ((decide (1 < (IntKind.wrap .u8 y8.1))) : Bool) then
    (script_reader_tx (T_script_reader.mk y8.2.1 y8.2.2)).bind fun y11 =>
    (script_hasKey (IntKind.wrap .u8 y8.1)).bind fun y13 =>
    if (y13 : Bool) then
      script_reader_call_c8 x_r y2 y4 y8  y11.2.1 y11.2.2 y11.1
    else
      script_reader_call_c9 x_r y2 y4 y8  y11.2.1 y11.2.2 y11.1
  else
    (script_hasKey (IntKind.wrap .u8 y8.1)).bind fun y12 =>
    if (y12 : Bool) then
      script_reader_call_c8 x_r y2 y4 y8  y8.2.1 y8.2.2 (T_api_Tx.mk 0 0 0)
    else
      script_reader_call_c9 x_r y2 y4 y8  y8.2.1 y8.2.2 (T_api_Tx.mk 0 0 0)

theorem script_reader_call_c17_ok {w0 : World} {W : Nat → Prop} {μ0 : Emb} (hμ : ∀ c p, μ0 c = some p → c < 1) (x_r : T_script_reader) (y2 : (Int) × (List (List UInt8)) × (Bool)) (y4 : (Int) × (List (List UInt8)) × (Bool)) (y8 : (Int) × (List (List UInt8)) × (Bool))  (l4 : List (List UInt8)) (bad4 : Bool) (Node4 : T_api_Tx) (Key2 : A8 (Int)) (r : (T_node_Call) × (List (List UInt8)) × (Bool)) (h : script_reader_call_c17 x_r y2 y4 y8  l4 bad4 Node4 Key2 = some r) : kont Tryd.prog w0 W μ0 (FnPost Tryd.prog Tryd.f60 1 1 (script_reader_call_v r) (script_reader_call_up x_r r)) (kAtR (bodyOf Tryd.f60) 17) none (script_reader_call_T1000017 y2 y4 y8 l4 bad4 Node4 Key2) (script_reader_call_H1000017 y2 y4 y8 l4 bad4 Node4 Key2) := by
  unfold script_reader_call_c17 at h
  obtain rfl := Option.some.inj h
  exact run_ret mixed (L := []) (n := 12) (s := [.reg [], .frz 3])
    (a_ (a_ (m_ 18 18 rfl (a_ (a_ (a_ (Eq.refl 18) (a_ (le_ 18 18 rfl) (Eq.refl 0))) tr) tr)) (a_ (a_ (fz_row (enc := (cInt .u8)) (d := default) (fun _ => rfl) ([] : List (Int))) (a_ (Nat.le_refl (([] : List (Int))).length) (a_ (Nat.le_refl (([] : List (Int))).length) (a_ (Nat.le_refl (([] : List (Int))).length) tr)))) tr)) (a_ (a_ tr (le_ 18 18 rfl)) tr)) (by kernel_rfl) rfl

theorem script_reader_call_l0_ok {w0 : World} {W : Nat → Prop} {μ0 : Emb} (hμ : ∀ c p, μ0 c = some p → c < 1) (x_r : T_script_reader) (y2 : (Int) × (List (List UInt8)) × (Bool)) (y4 : (Int) × (List (List UInt8)) × (Bool)) (y8 : (Int) × (List (List UInt8)) × (Bool))  : ∀ (fuel : Nat) (l6 : List (List UInt8)) (bad6 : Bool) (Node6 : T_api_Tx) (Key3 : A8 (Int)) (R2 : Int) (x_W : Int) (l7 : List (Int)) (r : (T_node_Call) × (List (List UInt8)) × (Bool)), script_reader_call_l0 x_r y2 y4 y8  fuel l6 bad6 Node6 Key3 R2 x_W l7 = some r → kont Tryd.prog w0 W μ0 (FnPost Tryd.prog Tryd.f60 1 1 (script_reader_call_v r) (script_reader_call_up x_r r)) (kAt (bodyOf Tryd.f60) 0) none (script_reader_call_T0 y2 y4 y8 l6 bad6 Node6 Key3 R2 x_W l7) (script_reader_call_H0 y2 y4 y8 l6 bad6 Node6 Key3 R2 x_W l7) := by
  intro fuel
  induction fuel with
  | zero => intro l6 bad6 Node6 Key3 R2 x_W l7 r h; rw [script_reader_call_l0] at h; cases h
  | succ fuel ih =>
    intro l6 bad6 Node6 Key3 R2 x_W l7 r h
    rw [script_reader_call_l0] at h
    rcases itb_some h with ⟨cL0_1, h⟩ | ⟨cL0_1, h⟩
    · skip
      rcases itb_some h with ⟨cL0_2, h⟩ | ⟨cL0_2, h⟩
      · skip
        obtain ⟨yL0_4, eL0_3, h⟩ := bind_some h
        obtain ⟨gL0_5, h⟩ := guard_some h
        exact run_to mixed hμ (L := [1, 2, 5]) (n := 20) (s := [.go, .reg [(6, hT), (11, hT)], .reg [(3, { call := some ((script_reader_small_v yL0_4).ren (sel [0]), preOf (sel [0]) 0 (script_reader_small_objs (T_script_reader.mk l6 bad6)), upOf (sel [0]) (script_reader_small_up (T_script_reader.mk l6 bad6) yL0_4)) }), (4, { os := [(4, .gr 1 (([yL0_4.1] : List (Int))).length (rowF (cInt .u8) default ([yL0_4.1] : List (Int))))], v := some (.gs 4 (([yL0_4.1] : List (Int))).length) }), (5, { app := 3, os := [(5, .gr 1 ((l7 ++ ([yL0_4.1] : List (Int)))).length (rowF (cInt .u8) default (l7 ++ ([yL0_4.1] : List (Int)))))], v := some (.gs 5 ((l7 ++ ([yL0_4.1] : List (Int)))).length) })]])
          (a_ (r1_ (r2_ (l_ 0 2 rfl (r2_ (f_ cL0_1 (r1_ (l_ 17 18 rfl (r2_ (f_ cL0_2 tr))))))))) (a_ (r1_ (l_ 17 18 rfl (r1_ (a_ (a_ (a_ (script_reader_small_ok (T_script_reader.mk l6 bad6) yL0_4 eL0_3 (sel [0]) (sel_inj rfl rfl)) (a_ (LO.Le.refl (.var (c_T_script_reader (T_script_reader.mk l6 bad6)))) tr)) tr) (a_ (a_ (a_ (Eq.refl true) (a_ (Eq.refl 1) (a_ (lt_ 0 1 rfl) (le_ 1 16777216 rfl)))) (a_ (le_sl_gs 4 1 (some 1) rfl) (a_ (sub_lit (cInt .u8) default 1 (fun _ => rfl) ([yL0_4.1] : List (Int))) tr))) (a_ (a_ (a_ (a_ (Eq.refl 1) (Nat.le_refl (([yL0_4.1] : List (Int))).length)) (a_ (a_ (lt_ 0 1 rfl) (a_ (lt_ 0 1 rfl) (a_ gL0_5 (a_ (Eq.refl 1) (Eq.refl true))))) (a_ (Eq.refl 1) (Nat.le_refl (l7).length)))) (a_ (le_gs_app 5 l7 ([yL0_4.1] : List (Int))) (a_ (sub_app (cInt .u8) default 1 l7 ([yL0_4.1] : List (Int))) tr))) (r1_ (a_ (a_ (a_ (Eq.refl 1) (a_ (le_ 18 18 rfl) (Eq.refl 0))) tr) tr)))))))) tr)) (ih _ _ _ _ _ _ _ r h) (by kernel_rfl) ⟨rfl, rfl, rfl, fun _ _ => rfl, trivial⟩
      · skip
        obtain rfl := Option.some.inj h
        exact run_ret mixed (L := []) (n := 21) (s := [.go, .reg [(6, hT), (11, hF)], .reg [], .frz 3])
          (a_ (a_ (r1_ (r2_ (l_ 0 2 rfl (r2_ (f_ cL0_1 (r1_ (l_ 17 18 rfl (r2_ (f_ cL0_2 tr))))))))) (a_ (m_ 18 18 rfl (a_ (a_ (a_ (Eq.refl 18) (a_ (le_ 18 18 rfl) (Eq.refl 0))) tr) tr)) (a_ (a_ (fz_row (enc := (cInt .u8)) (d := default) (fun _ => rfl) l7) (a_ (Nat.le_refl (l7).length) (a_ (Nat.le_refl (l7).length) (a_ (Nat.le_refl (l7).length) (a_ (Nat.le_refl (l7).length) tr))))) tr))) (a_ (a_ tr (le_ 18 18 rfl)) tr)) (by kernel_rfl) rfl
    · skip
      obtain rfl := Option.some.inj h
      exact run_ret mixed (L := []) (n := 21) (s := [.go, .reg [(6, hF)], .reg [], .frz 3])
        (a_ (a_ (r1_ (r2_ (l_ 0 2 rfl (r2_ (f_ cL0_1 (t4_ (r1_ tr))))))) (a_ (m_ 18 18 rfl (a_ (a_ (a_ (Eq.refl 18) (a_ (le_ 18 18 rfl) (Eq.refl 0))) tr) tr)) (a_ (a_ (fz_row (enc := (cInt .u8)) (d := default) (fun _ => rfl) l7) (a_ (Nat.le_refl (l7).length) (a_ (Nat.le_refl (l7).length) (a_ (Nat.le_refl (l7).length) tr)))) tr))) (a_ (a_ tr (le_ 18 18 rfl)) tr)) (by kernel_rfl) rfl

theorem script_reader_call_c13_ok {w0 : World} {W : Nat → Prop} {μ0 : Emb} (hμ : ∀ c p, μ0 c = some p → c < 1) (x_r : T_script_reader) (y2 : (Int) × (List (List UInt8)) × (Bool)) (y4 : (Int) × (List (List UInt8)) × (Bool)) (y8 : (Int) × (List (List UInt8)) × (Bool))  (l3 : List (List UInt8)) (bad3 : Bool) (Node3 : T_api_Tx) (Key : A8 (Int)) (r : (T_node_Call) × (List (List UInt8)) × (Bool)) (h : script_reader_call_c13 x_r y2 y4 y8  l3 bad3 Node3 Key = some r) : kont Tryd.prog w0 W μ0 (FnPost Tryd.prog Tryd.f60 1 1 (script_reader_call_v r) (script_reader_call_up x_r r)) (kAtR (bodyOf Tryd.f60) 13) none (script_reader_call_T1000013 y2 y4 y8 l3 bad3 Node3 Key) (script_reader_call_H1000013 y2 y4 y8 l3 bad3 Node3 Key) := by
  unfold script_reader_call_c13 at h
  obtain ⟨yC13_2, eC13_1, h⟩ := bind_some h
  obtain ⟨yC13_4, eC13_3, h⟩ := bind_some h
  exact run_to mixed hμ (L := [1, 2, 3]) (n := 16) (s := [.reg [(1, { call := some ((script_reader_small_v yC13_2).ren (sel [0]), preOf (sel [0]) 0 (script_reader_small_objs (T_script_reader.mk l3 bad3)), upOf (sel [0]) (script_reader_small_up (T_script_reader.mk l3 bad3) yC13_2)) })], .reg [(1, { call := some ((script_reader_small_v yC13_4).ren (sel [0]), preOf (sel [0]) 0 (script_reader_small_objs (T_script_reader.mk yC13_2.2.1 yC13_2.2.2)), upOf (sel [0]) (script_reader_small_up (T_script_reader.mk yC13_2.2.1 yC13_2.2.2) yC13_4)) })]])
    (a_ (r1_ (a_ (a_ (a_ (script_reader_small_ok (T_script_reader.mk l3 bad3) yC13_2 eC13_1 (sel [0]) (sel_inj rfl rfl)) (a_ (LO.Le.refl (.var (c_T_script_reader (T_script_reader.mk l3 bad3)))) tr)) tr) (r1_ (a_ (a_ (a_ (Eq.refl 1) (a_ (le_ 16 18 rfl) (Eq.refl 0))) tr) tr)))) (a_ (r1_ (a_ (a_ (a_ (script_reader_small_ok (T_script_reader.mk yC13_2.2.1 yC13_2.2.2) yC13_4 eC13_3 (sel [0]) (sel_inj rfl rfl)) (a_ (LO.Le.refl (.var (c_T_script_reader (T_script_reader.mk yC13_2.2.1 yC13_2.2.2)))) tr)) tr) (r1_ (a_ (a_ (a_ (Eq.refl 1) (a_ (le_ 17 18 rfl) (Eq.refl 0))) tr) tr)))) tr)) (script_reader_call_l0_ok hμ x_r y2 y4 y8  big _ _ _ _ _ _ _ r h) (by kernel_rfl) ⟨rfl, rfl, rfl, fun _ _ => rfl, trivial⟩

theorem script_reader_call_c8_ok {w0 : World} {W : Nat → Prop} {μ0 : Emb} (hμ : ∀ c p, μ0 c = some p → c < 1) (x_r : T_script_reader) (y2 : (Int) × (List (List UInt8)) × (Bool)) (y4 : (Int) × (List (List UInt8)) × (Bool)) (y8 : (Int) × (List (List UInt8)) × (Bool))  (l : List (List UInt8)) (bad : Bool) (Node : T_api_Tx) (r : (T_node_Call) × (List (List UInt8)) × (Bool)) (h : script_reader_call_c8 x_r y2 y4 y8  l bad Node = some r) : kont Tryd.prog w0 W μ0 (FnPost Tryd.prog Tryd.f60 1 1 (script_reader_call_v r) (script_reader_call_up x_r r)) (kAtR (bodyOf Tryd.f60) 8) none (script_reader_call_T1000008 y2 y4 y8 l bad Node) (script_reader_call_H1000008 y2 y4 y8 l bad Node) := by
  unfold script_reader_call_c8 at h
  obtain ⟨yC8_2, eC8_1, h⟩ := bind_some h
  rcases itb_some h with ⟨cC8_3, h⟩ | ⟨cC8_3, h⟩
  · skip
    obtain ⟨yC8_5, eC8_4, h⟩ := bind_some h
    obtain rfl := Option.some.inj h
    exact run_ret mixed (L := []) (n := 27) (s := [.reg [(1, { call := some ((script_reader_key_v yC8_2).ren (sel [0]), preOf (sel [0]) 0 (script_reader_key_objs (T_script_reader.mk l bad)), upOf (sel [0]) (script_reader_key_up (T_script_reader.mk l bad) yC8_2)) })], .reg [], .reg [(1, hT)], .reg [(1, { call := some ((script_reader_bytes_v yC8_5).ren (sel [0]), preOf (sel [0]) 0 (script_reader_bytes_objs (T_script_reader.mk yC8_2.2.1 yC8_2.2.2)), upOf (sel [0]) (script_reader_bytes_up (T_script_reader.mk yC8_2.2.1 yC8_2.2.2) yC8_5)) }), (2, { v := some (.str (strI yC8_5.1)) })], .reg [], .frz 3])
      (a_ (a_ (r1_ (a_ (a_ (a_ (script_reader_key_ok (T_script_reader.mk l bad) yC8_2 eC8_1 (sel [0]) (sel_inj rfl rfl)) (a_ (LO.Le.refl (.var (c_T_script_reader (T_script_reader.mk l bad)))) tr)) tr) (r1_ (a_ (a_ (a_ (Eq.refl 8) (a_ (le_ 14 18 rfl) (Eq.refl 0))) tr) tr)))) (a_ (r1_ (l_ 2 18 rfl tr)) (a_ (r1_ (f_ cC8_3 tr)) (a_ (r1_ (a_ (a_ (a_ (script_reader_bytes_ok (T_script_reader.mk yC8_2.2.1 yC8_2.2.2) yC8_5 eC8_4 (sel [0]) (sel_inj rfl rfl)) (a_ (LO.Le.refl (.var (c_T_script_reader (T_script_reader.mk yC8_2.2.1 yC8_2.2.2)))) tr)) tr) (a_ (a_ (a_ (Eq.refl 1) (str_ob yC8_5.1)) (a_ (le_str yC8_5.1) tr)) (r1_ (a_ (a_ (a_ (Eq.refl 1) (a_ (le_ 15 18 rfl) (Eq.refl 0))) tr) tr))))) (a_ (m_ 18 18 rfl (a_ (a_ (a_ (Eq.refl 18) (a_ (le_ 18 18 rfl) (Eq.refl 0))) tr) tr)) (a_ (a_ (fz_row (enc := (cInt .u8)) (d := default) (fun _ => rfl) ([] : List (Int))) (a_ (Nat.le_refl (([] : List (Int))).length) (a_ (Nat.le_refl (([] : List (Int))).length) (a_ (Nat.le_refl (([] : List (Int))).length) tr)))) tr)))))) (a_ (a_ tr (le_ 18 18 rfl)) tr)) (by kernel_rfl) rfl
  · skip
    rcases itb_some h with ⟨cC8_4, h⟩ | ⟨cC8_4, h⟩
    · skip
      exact run_to mixed hμ (L := [1, 2, 3]) (n := 25) (s := [.reg [(1, { call := some ((script_reader_key_v yC8_2).ren (sel [0]), preOf (sel [0]) 0 (script_reader_key_objs (T_script_reader.mk l bad)), upOf (sel [0]) (script_reader_key_up (T_script_reader.mk l bad) yC8_2)) })], .reg [], .reg [(1, hF)], .reg [(1, hT)]])
        (a_ (r1_ (a_ (a_ (a_ (script_reader_key_ok (T_script_reader.mk l bad) yC8_2 eC8_1 (sel [0]) (sel_inj rfl rfl)) (a_ (LO.Le.refl (.var (c_T_script_reader (T_script_reader.mk l bad)))) tr)) tr) (r1_ (a_ (a_ (a_ (Eq.refl 8) (a_ (le_ 14 18 rfl) (Eq.refl 0))) tr) tr)))) (a_ (r1_ (l_ 2 18 rfl tr)) (a_ (r1_ (f_ cC8_3 tr)) (a_ (r1_ (f_ cC8_4 tr)) tr)))) (script_reader_call_c13_ok hμ x_r y2 y4 y8  _ _ _ _ r h) (by kernel_rfl) ⟨rfl, rfl, rfl, fun _ _ => rfl, trivial⟩
    · skip
      exact run_to mixed hμ (L := [1, 2, 3]) (n := 27) (s := [.reg [(1, { call := some ((script_reader_key_v yC8_2).ren (sel [0]), preOf (sel [0]) 0 (script_reader_key_objs (T_script_reader.mk l bad)), upOf (sel [0]) (script_reader_key_up (T_script_reader.mk l bad) yC8_2)) })], .reg [], .reg [(1, hF)], .reg [(1, hF)]])
        (a_ (r1_ (a_ (a_ (a_ (script_reader_key_ok (T_script_reader.mk l bad) yC8_2 eC8_1 (sel [0]) (sel_inj rfl rfl)) (a_ (LO.Le.refl (.var (c_T_script_reader (T_script_reader.mk l bad)))) tr)) tr) (r1_ (a_ (a_ (a_ (Eq.refl 8) (a_ (le_ 14 18 rfl) (Eq.refl 0))) tr) tr)))) (a_ (r1_ (l_ 2 18 rfl tr)) (a_ (r1_ (f_ cC8_3 tr)) (a_ (r1_ (f_ cC8_4 tr)) tr)))) (script_reader_call_c17_ok hμ x_r y2 y4 y8  _ _ _ _ r h) (by kernel_rfl) ⟨rfl, rfl, rfl, fun _ _ => rfl, trivial⟩

theorem script_reader_call_c14_ok {w0 : World} {W : Nat → Prop} {μ0 : Emb} (hμ : ∀ c p, μ0 c = some p → c < 1) (x_r : T_script_reader) (y2 : (Int) × (List (List UInt8)) × (Bool)) (y4 : (Int) × (List (List UInt8)) × (Bool)) (y8 : (Int) × (List (List UInt8)) × (Bool))  (l5 : List (List UInt8)) (bad5 : Bool) (Node5 : T_api_Tx) (R : Int) (r : (T_node_Call) × (List (List UInt8)) × (Bool)) (h : script_reader_call_c14 x_r y2 y4 y8  l5 bad5 Node5 R = some r) : kont Tryd.prog w0 W μ0 (FnPost Tryd.prog Tryd.f60 1 1 (script_reader_call_v r) (script_reader_call_up x_r r)) (kAtR (bodyOf Tryd.f60) 14) none (script_reader_call_T1000014 y2 y4 y8 l5 bad5 Node5 R) (script_reader_call_H1000014 y2 y4 y8 l5 bad5 Node5 R) := by
  unfold script_reader_call_c14 at h
  obtain ⟨yC14_2, eC14_1, h⟩ := bind_some h
  exact run_to mixed hμ (L := [1, 2, 3]) (n := 13) (s := [.reg [(1, { call := some ((script_reader_small_v yC14_2).ren (sel [0]), preOf (sel [0]) 0 (script_reader_small_objs (T_script_reader.mk l5 bad5)), upOf (sel [0]) (script_reader_small_up (T_script_reader.mk l5 bad5) yC14_2)) })]])
    (a_ (r1_ (a_ (a_ (a_ (script_reader_small_ok (T_script_reader.mk l5 bad5) yC14_2 eC14_1 (sel [0]) (sel_inj rfl rfl)) (a_ (LO.Le.refl (.var (c_T_script_reader (T_script_reader.mk l5 bad5)))) tr)) tr) (r1_ (a_ (a_ (a_ (Eq.refl 1) (a_ (le_ 17 18 rfl) (Eq.refl 0))) tr) tr)))) tr) (script_reader_call_l0_ok hμ x_r y2 y4 y8  big _ _ _ _ _ _ _ r h) (by kernel_rfl) ⟨rfl, rfl, rfl, fun _ _ => rfl, trivial⟩

theorem script_reader_call_c9_ok {w0 : World} {W : Nat → Prop} {μ0 : Emb} (hμ : ∀ c p, μ0 c = some p → c < 1) (x_r : T_script_reader) (y2 : (Int) × (List (List UInt8)) × (Bool)) (y4 : (Int) × (List (List UInt8)) × (Bool)) (y8 : (Int) × (List (List UInt8)) × (Bool))  (l2 : List (List UInt8)) (bad2 : Bool) (Node2 : T_api_Tx) (r : (T_node_Call) × (List (List UInt8)) × (Bool)) (h : script_reader_call_c9 x_r y2 y4 y8  l2 bad2 Node2 = some r) : kont Tryd.prog w0 W μ0 (FnPost Tryd.prog Tryd.f60 1 1 (script_reader_call_v r) (script_reader_call_up x_r r)) (kAtR (bodyOf Tryd.f60) 9) none (script_reader_call_T1000009 y2 y4 y8 l2 bad2 Node2) (script_reader_call_H1000009 y2 y4 y8 l2 bad2 Node2) := by
  unfold script_reader_call_c9 at h
  rcases itb_some h with ⟨cC9_1, h⟩ | ⟨cC9_1, h⟩
  · skip
    obtain ⟨yC9_3, eC9_2, h⟩ := bind_some h
    obtain rfl := Option.some.inj h
    exact run_ret mixed (L := []) (n := 23) (s := [.reg [], .reg [(1, hT)], .reg [(1, { call := some ((script_reader_bytes_v yC9_3).ren (sel [0]), preOf (sel [0]) 0 (script_reader_bytes_objs (T_script_reader.mk l2 bad2)), upOf (sel [0]) (script_reader_bytes_up (T_script_reader.mk l2 bad2) yC9_3)) }), (2, { v := some (.str (strI yC9_3.1)) })], .reg [], .frz 3])
      (a_ (a_ (r1_ (l_ 2 18 rfl tr)) (a_ (r1_ (f_ cC9_1 tr)) (a_ (r1_ (a_ (a_ (a_ (script_reader_bytes_ok (T_script_reader.mk l2 bad2) yC9_3 eC9_2 (sel [0]) (sel_inj rfl rfl)) (a_ (LO.Le.refl (.var (c_T_script_reader (T_script_reader.mk l2 bad2)))) tr)) tr) (a_ (a_ (a_ (Eq.refl 1) (str_ob yC9_3.1)) (a_ (le_str yC9_3.1) tr)) (r1_ (a_ (a_ (a_ (Eq.refl 1) (a_ (le_ 15 18 rfl) (Eq.refl 0))) tr) tr))))) (a_ (m_ 18 18 rfl (a_ (a_ (a_ (Eq.refl 18) (a_ (le_ 18 18 rfl) (Eq.refl 0))) tr) tr)) (a_ (a_ (fz_row (enc := (cInt .u8)) (d := default) (fun _ => rfl) ([] : List (Int))) (a_ (Nat.le_refl (([] : List (Int))).length) (a_ (Nat.le_refl (([] : List (Int))).length) (a_ (Nat.le_refl (([] : List (Int))).length) tr)))) tr))))) (a_ (a_ tr (le_ 18 18 rfl)) tr)) (by kernel_rfl) rfl
  · skip
    rcases itb_some h with ⟨cC9_2, h⟩ | ⟨cC9_2, h⟩
    · skip
      obtain ⟨yC9_4, eC9_3, h⟩ := bind_some h
      exact run_to mixed hμ (L := [1, 2, 3]) (n := 24) (s := [.reg [], .reg [(1, hF)], .reg [(1, hT)], .reg [(1, { call := some ((script_reader_small_v yC9_4).ren (sel [0]), preOf (sel [0]) 0 (script_reader_small_objs (T_script_reader.mk l2 bad2)), upOf (sel [0]) (script_reader_small_up (T_script_reader.mk l2 bad2) yC9_4)) })]])
        (a_ (r1_ (l_ 2 18 rfl tr)) (a_ (r1_ (f_ cC9_1 tr)) (a_ (r1_ (f_ cC9_2 tr)) (a_ (r1_ (a_ (a_ (a_ (script_reader_small_ok (T_script_reader.mk l2 bad2) yC9_4 eC9_3 (sel [0]) (sel_inj rfl rfl)) (a_ (LO.Le.refl (.var (c_T_script_reader (T_script_reader.mk l2 bad2)))) tr)) tr) (r1_ (a_ (a_ (a_ (Eq.refl 1) (a_ (le_ 16 18 rfl) (Eq.refl 0))) tr) tr)))) tr)))) (script_reader_call_c14_ok hμ x_r y2 y4 y8  _ _ _ _ r h) (by kernel_rfl) ⟨rfl, rfl, rfl, fun _ _ => rfl, trivial⟩
    · skip
      obtain rfl := Option.some.inj h
      exact run_ret mixed (L := []) (n := 26) (s := [.reg [], .reg [(1, hF)], .reg [(1, hF)], .reg [], .frz 3])
        (a_ (a_ (r1_ (l_ 2 18 rfl tr)) (a_ (r1_ (f_ cC9_1 tr)) (a_ (r1_ (f_ cC9_2 tr)) (a_ (m_ 18 18 rfl (a_ (a_ (a_ (Eq.refl 18) (a_ (le_ 18 18 rfl) (Eq.refl 0))) tr) tr)) (a_ (a_ (fz_row (enc := (cInt .u8)) (d := default) (fun _ => rfl) ([] : List (Int))) (a_ (Nat.le_refl (([] : List (Int))).length) (a_ (Nat.le_refl (([] : List (Int))).length) (a_ (Nat.le_refl (([] : List (Int))).length) tr)))) tr))))) (a_ (a_ tr (le_ 18 18 rfl)) tr)) (by kernel_rfl) rfl

theorem script_reader_call_ok (x_r : T_script_reader) (r : (T_node_Call) × (List (List UInt8)) × (Bool)) (h : script_reader_call x_r = some r) : ∀ σ, Inj 1 σ → FnTri Tryd.prog 60 (renL σ [.ptr 0 0 0]) (preOf σ 0 (script_reader_call_objs x_r)) ((script_reader_call_v r).ren σ) (upOf σ (script_reader_call_up x_r r)) := by
  refine fn_of Tryd.func60 (by kernel_rfl) (by kernel_rfl) (by kernel_rfl) ⟨rfl, trivial⟩ (by kernel_rfl) ⟨rfl, trivial⟩ (by kernel_rfl) ?_
  intro w0 W μ0 hμ
  unfold script_reader_call at h
  obtain ⟨y2, e1, h⟩ := bind_some h
  obtain ⟨y4, e3, h⟩ := bind_some h
  obtain ⟨y6, e5, h⟩ := bind_some h
  obtain ⟨y8, e7, h⟩ := bind_some h
  rcases itb_some h with ⟨c9, h⟩ | ⟨c9, h⟩
  · skip
    obtain ⟨y11, e10, h⟩ := bind_some h
    obtain ⟨y13, e12, h⟩ := bind_some h
    rcases itb_some h with ⟨c14, h⟩ | ⟨c14, h⟩
    · skip
      exact run_to mixed hμ (L := [1, 3, 2]) (n := 37) (s := [.reg [], .void (.gr 1 (([] : List (Int))).length (rowF (cInt .u8) default ([] : List (Int)))), .reg [(0, { os := [(3, .var [.int .u8 0, .int .u32 0, .int .u8 0, .int .u8 0, .int .u32 0, .int .u32 0, .int .u8 0, .int .u8 0, .int .u8 0, .int .u8 0, .int .u8 0, .int .u8 0, .int .u8 0, .int .u8 0, .str [], .int .u8 0, .int .u8 0, .gs 2 (([] : List (Int))).length])] })], .reg [(1, { call := some ((script_reader_small_v y2).ren (sel [0]), preOf (sel [0]) 0 (script_reader_small_objs x_r), upOf (sel [0]) (script_reader_small_up x_r y2)) })], .reg [(1, { call := some ((script_reader_num_v y4).ren (sel [0]), preOf (sel [0]) 0 (script_reader_num_objs (T_script_reader.mk y2.2.1 y2.2.2)), upOf (sel [0]) (script_reader_num_up (T_script_reader.mk y2.2.1 y2.2.2) y4)) })], .reg [(1, hC (script_calls_v y6)), (2, { call := some ((script_reader_of_v y8).ren (sel [0]), preOf (sel [0]) 0 (script_reader_of_objs (T_script_reader.mk y4.2.1 y4.2.2) y6), upOf (sel [0]) (script_reader_of_up (T_script_reader.mk y4.2.1 y4.2.2) y6 y8)) })], .reg [(2, hT)], .reg [(1, { call := some ((script_reader_tx_v y11).ren (sel [0]), preOf (sel [0]) 0 (script_reader_tx_objs (T_script_reader.mk y8.2.1 y8.2.2)), upOf (sel [0]) (script_reader_tx_up (T_script_reader.mk y8.2.1 y8.2.2) y11)) })], .reg [(2, { call := some (script_hasKey_v y13, [], []), v := some (.bool true) })]])
        (a_ (r1_ tr) (a_ (Eq.refl 0) (a_ (a_ (a_ tr (a_ (LO.Sub.var (a := [.int .u8 0, .int .u32 0, .int .u8 0, .int .u8 0, .int .u32 0, .int .u32 0, .int .u8 0, .int .u8 0, .int .u8 0, .int .u8 0, .int .u8 0, .int .u8 0, .int .u8 0, .int .u8 0, .str [], .int .u8 0, .int .u8 0, .nilsl]) (b := [.int .u8 0, .int .u32 0, .int .u8 0, .int .u8 0, .int .u32 0, .int .u32 0, .int .u8 0, .int .u8 0, .int .u8 0, .int .u8 0, .int .u8 0, .int .u8 0, .int .u8 0, .int .u8 0, .str [], .int .u8 0, .int .u8 0, .gs 2 (([] : List (Int))).length]) (a_ (LV.Le.refl (.int .u8 0)) (a_ (LV.Le.refl (.int .u32 0)) (a_ (LV.Le.refl (.int .u8 0)) (a_ (LV.Le.refl (.int .u8 0)) (a_ (LV.Le.refl (.int .u32 0)) (a_ (LV.Le.refl (.int .u32 0)) (a_ (LV.Le.refl (.int .u8 0)) (a_ (LV.Le.refl (.int .u8 0)) (a_ (LV.Le.refl (.int .u8 0)) (a_ (LV.Le.refl (.int .u8 0)) (a_ (LV.Le.refl (.int .u8 0)) (a_ (LV.Le.refl (.int .u8 0)) (a_ (LV.Le.refl (.int .u8 0)) (a_ (LV.Le.refl (.int .u8 0)) (a_ (LV.Le.refl (.str [])) (a_ (LV.Le.refl (.int .u8 0)) (a_ (LV.Le.refl (.int .u8 0)) (a_ (le_nil_gs 2) tr))))))))))))))))))) tr)) tr) (a_ (r1_ (a_ (a_ (a_ (script_reader_small_ok x_r y2 e1 (sel [0]) (sel_inj rfl rfl)) (a_ (LO.Le.refl (.var (c_T_script_reader x_r))) tr)) tr) (a_ (a_ (Eq.refl true) tr) (r1_ (a_ (a_ (a_ (Eq.refl 2) (a_ (le_ 2 18 rfl) (Eq.refl 0))) tr) tr))))) (a_ (r1_ (a_ (a_ (a_ (script_reader_num_ok (T_script_reader.mk y2.2.1 y2.2.2) y4 e3 (sel [0]) (sel_inj rfl rfl)) (a_ (LO.Le.refl (.var (c_T_script_reader (T_script_reader.mk y2.2.1 y2.2.2)))) tr)) tr) (r1_ (r2_ (a_ (a_ (a_ (Eq.refl 1) (a_ (le_ 2 18 rfl) (Eq.refl 0))) tr) tr))))) (a_ (r1_ (c_ (script_calls_tri  y6 e5) (a_ (a_ (a_ (script_reader_of_ok (T_script_reader.mk y4.2.1 y4.2.2) y6 y8 e7 (sel [0]) (sel_inj rfl rfl)) (a_ (LO.Le.refl (.var (c_T_script_reader (T_script_reader.mk y4.2.1 y4.2.2)))) tr)) tr) (r2_ (a_ (a_ (a_ (Eq.refl 1) (a_ (le_ 3 18 rfl) (Eq.refl 0))) tr) tr))))) (a_ (r1_ (l_ 2 18 rfl (f_ c9 tr))) (a_ (r1_ (a_ (a_ (a_ (script_reader_tx_ok (T_script_reader.mk y8.2.1 y8.2.2) y11 e10 (sel [0]) (sel_inj rfl rfl)) (a_ (LO.Le.refl (.var (c_T_script_reader (T_script_reader.mk y8.2.1 y8.2.2)))) tr)) tr) (r1_ (a_ (a_ (a_ (Eq.refl 3) (a_ (le_ 6 18 rfl) (Eq.refl 0))) tr) tr)))) (a_ (r1_ (l_ 2 18 rfl (a_ (a_ (a_ (script_hasKey_tri (IntKind.wrap .u8 y8.1) y13 e12) tr) (a_ (leB c14) tr)) tr))) tr))))))))) (script_reader_call_c8_ok hμ x_r y2 y4 y8  _ _ _ r h) (by kernel_rfl) ⟨rfl, rfl, rfl, fun _ _ => rfl, trivial⟩
    · skip
      exact run_to mixed hμ (L := [1, 3, 2]) (n := 40) (s := [.reg [], .void (.gr 1 (([] : List (Int))).length (rowF (cInt .u8) default ([] : List (Int)))), .reg [(0, { os := [(3, .var [.int .u8 0, .int .u32 0, .int .u8 0, .int .u8 0, .int .u32 0, .int .u32 0, .int .u8 0, .int .u8 0, .int .u8 0, .int .u8 0, .int .u8 0, .int .u8 0, .int .u8 0, .int .u8 0, .str [], .int .u8 0, .int .u8 0, .gs 2 (([] : List (Int))).length])] })], .reg [(1, { call := some ((script_reader_small_v y2).ren (sel [0]), preOf (sel [0]) 0 (script_reader_small_objs x_r), upOf (sel [0]) (script_reader_small_up x_r y2)) })], .reg [(1, { call := some ((script_reader_num_v y4).ren (sel [0]), preOf (sel [0]) 0 (script_reader_num_objs (T_script_reader.mk y2.2.1 y2.2.2)), upOf (sel [0]) (script_reader_num_up (T_script_reader.mk y2.2.1 y2.2.2) y4)) })], .reg [(1, hC (script_calls_v y6)), (2, { call := some ((script_reader_of_v y8).ren (sel [0]), preOf (sel [0]) 0 (script_reader_of_objs (T_script_reader.mk y4.2.1 y4.2.2) y6), upOf (sel [0]) (script_reader_of_up (T_script_reader.mk y4.2.1 y4.2.2) y6 y8)) })], .reg [(2, hT)], .reg [(1, { call := some ((script_reader_tx_v y11).ren (sel [0]), preOf (sel [0]) 0 (script_reader_tx_objs (T_script_reader.mk y8.2.1 y8.2.2)), upOf (sel [0]) (script_reader_tx_up (T_script_reader.mk y8.2.1 y8.2.2) y11)) })], .reg [(2, { call := some (script_hasKey_v y13, [], []), v := some (.bool false) })]])
        (a_ (r1_ tr) (a_ (Eq.refl 0) (a_ (a_ (a_ tr (a_ (LO.Sub.var (a := [.int .u8 0, .int .u32 0, .int .u8 0, .int .u8 0, .int .u32 0, .int .u32 0, .int .u8 0, .int .u8 0, .int .u8 0, .int .u8 0, .int .u8 0, .int .u8 0, .int .u8 0, .int .u8 0, .str [], .int .u8 0, .int .u8 0, .nilsl]) (b := [.int .u8 0, .int .u32 0, .int .u8 0, .int .u8 0, .int .u32 0, .int .u32 0, .int .u8 0, .int .u8 0, .int .u8 0, .int .u8 0, .int .u8 0, .int .u8 0, .int .u8 0, .int .u8 0, .str [], .int .u8 0, .int .u8 0, .gs 2 (([] : List (Int))).length]) (a_ (LV.Le.refl (.int .u8 0)) (a_ (LV.Le.refl (.int .u32 0)) (a_ (LV.Le.refl (.int .u8 0)) (a_ (LV.Le.refl (.int .u8 0)) (a_ (LV.Le.refl (.int .u32 0)) (a_ (LV.Le.refl (.int .u32 0)) (a_ (LV.Le.refl (.int .u8 0)) (a_ (LV.Le.refl (.int .u8 0)) (a_ (LV.Le.refl (.int .u8 0)) (a_ (LV.Le.refl (.int .u8 0)) (a_ (LV.Le.refl (.int .u8 0)) (a_ (LV.Le.refl (.int .u8 0)) (a_ (LV.Le.refl (.int .u8 0)) (a_ (LV.Le.refl (.int .u8 0)) (a_ (LV.Le.refl (.str [])) (a_ (LV.Le.refl (.int .u8 0)) (a_ (LV.Le.refl (.int .u8 0)) (a_ (le_nil_gs 2) tr))))))))))))))))))) tr)) tr) (a_ (r1_ (a_ (a_ (a_ (script_reader_small_ok x_r y2 e1 (sel [0]) (sel_inj rfl rfl)) (a_ (LO.Le.refl (.var (c_T_script_reader x_r))) tr)) tr) (a_ (a_ (Eq.refl true) tr) (r1_ (a_ (a_ (a_ (Eq.refl 2) (a_ (le_ 2 18 rfl) (Eq.refl 0))) tr) tr))))) (a_ (r1_ (a_ (a_ (a_ (script_reader_num_ok (T_script_reader.mk y2.2.1 y2.2.2) y4 e3 (sel [0]) (sel_inj rfl rfl)) (a_ (LO.Le.refl (.var (c_T_script_reader (T_script_reader.mk y2.2.1 y2.2.2)))) tr)) tr) (r1_ (r2_ (a_ (a_ (a_ (Eq.refl 1) (a_ (le_ 2 18 rfl) (Eq.refl 0))) tr) tr))))) (a_ (r1_ (c_ (script_calls_tri  y6 e5) (a_ (a_ (a_ (script_reader_of_ok (T_script_reader.mk y4.2.1 y4.2.2) y6 y8 e7 (sel [0]) (sel_inj rfl rfl)) (a_ (LO.Le.refl (.var (c_T_script_reader (T_script_reader.mk y4.2.1 y4.2.2)))) tr)) tr) (r2_ (a_ (a_ (a_ (Eq.refl 1) (a_ (le_ 3 18 rfl) (Eq.refl 0))) tr) tr))))) (a_ (r1_ (l_ 2 18 rfl (f_ c9 tr))) (a_ (r1_ (a_ (a_ (a_ (script_reader_tx_ok (T_script_reader.mk y8.2.1 y8.2.2) y11 e10 (sel [0]) (sel_inj rfl rfl)) (a_ (LO.Le.refl (.var (c_T_script_reader (T_script_reader.mk y8.2.1 y8.2.2)))) tr)) tr) (r1_ (a_ (a_ (a_ (Eq.refl 3) (a_ (le_ 6 18 rfl) (Eq.refl 0))) tr) tr)))) (a_ (r1_ (l_ 2 18 rfl (a_ (a_ (a_ (script_hasKey_tri (IntKind.wrap .u8 y8.1) y13 e12) tr) (a_ (leB c14) tr)) tr))) tr))))))))) (script_reader_call_c9_ok hμ x_r y2 y4 y8  _ _ _ r h) (by kernel_rfl) ⟨rfl, rfl, rfl, fun _ _ => rfl, trivial⟩
  · skip
    obtain ⟨y12, e10, h⟩ := bind_some h
    rcases itb_some h with ⟨c13, h⟩ | ⟨c13, h⟩
    · skip
      exact run_to mixed hμ (L := [1, 3, 2]) (n := 36) (s := [.reg [], .void (.gr 1 (([] : List (Int))).length (rowF (cInt .u8) default ([] : List (Int)))), .reg [(0, { os := [(3, .var [.int .u8 0, .int .u32 0, .int .u8 0, .int .u8 0, .int .u32 0, .int .u32 0, .int .u8 0, .int .u8 0, .int .u8 0, .int .u8 0, .int .u8 0, .int .u8 0, .int .u8 0, .int .u8 0, .str [], .int .u8 0, .int .u8 0, .gs 2 (([] : List (Int))).length])] })], .reg [(1, { call := some ((script_reader_small_v y2).ren (sel [0]), preOf (sel [0]) 0 (script_reader_small_objs x_r), upOf (sel [0]) (script_reader_small_up x_r y2)) })], .reg [(1, { call := some ((script_reader_num_v y4).ren (sel [0]), preOf (sel [0]) 0 (script_reader_num_objs (T_script_reader.mk y2.2.1 y2.2.2)), upOf (sel [0]) (script_reader_num_up (T_script_reader.mk y2.2.1 y2.2.2) y4)) })], .reg [(1, hC (script_calls_v y6)), (2, { call := some ((script_reader_of_v y8).ren (sel [0]), preOf (sel [0]) 0 (script_reader_of_objs (T_script_reader.mk y4.2.1 y4.2.2) y6), upOf (sel [0]) (script_reader_of_up (T_script_reader.mk y4.2.1 y4.2.2) y6 y8)) })], .reg [(2, hF)], .reg [(2, { call := some (script_hasKey_v y12, [], []), v := some (.bool true) })]])
        (a_ (r1_ tr) (a_ (Eq.refl 0) (a_ (a_ (a_ tr (a_ (LO.Sub.var (a := [.int .u8 0, .int .u32 0, .int .u8 0, .int .u8 0, .int .u32 0, .int .u32 0, .int .u8 0, .int .u8 0, .int .u8 0, .int .u8 0, .int .u8 0, .int .u8 0, .int .u8 0, .int .u8 0, .str [], .int .u8 0, .int .u8 0, .nilsl]) (b := [.int .u8 0, .int .u32 0, .int .u8 0, .int .u8 0, .int .u32 0, .int .u32 0, .int .u8 0, .int .u8 0, .int .u8 0, .int .u8 0, .int .u8 0, .int .u8 0, .int .u8 0, .int .u8 0, .str [], .int .u8 0, .int .u8 0, .gs 2 (([] : List (Int))).length]) (a_ (LV.Le.refl (.int .u8 0)) (a_ (LV.Le.refl (.int .u32 0)) (a_ (LV.Le.refl (.int .u8 0)) (a_ (LV.Le.refl (.int .u8 0)) (a_ (LV.Le.refl (.int .u32 0)) (a_ (LV.Le.refl (.int .u32 0)) (a_ (LV.Le.refl (.int .u8 0)) (a_ (LV.Le.refl (.int .u8 0)) (a_ (LV.Le.refl (.int .u8 0)) (a_ (LV.Le.refl (.int .u8 0)) (a_ (LV.Le.refl (.int .u8 0)) (a_ (LV.Le.refl (.int .u8 0)) (a_ (LV.Le.refl (.int .u8 0)) (a_ (LV.Le.refl (.int .u8 0)) (a_ (LV.Le.refl (.str [])) (a_ (LV.Le.refl (.int .u8 0)) (a_ (LV.Le.refl (.int .u8 0)) (a_ (le_nil_gs 2) tr))))))))))))))))))) tr)) tr) (a_ (r1_ (a_ (a_ (a_ (script_reader_small_ok x_r y2 e1 (sel [0]) (sel_inj rfl rfl)) (a_ (LO.Le.refl (.var (c_T_script_reader x_r))) tr)) tr) (a_ (a_ (Eq.refl true) tr) (r1_ (a_ (a_ (a_ (Eq.refl 2) (a_ (le_ 2 18 rfl) (Eq.refl 0))) tr) tr))))) (a_ (r1_ (a_ (a_ (a_ (script_reader_num_ok (T_script_reader.mk y2.2.1 y2.2.2) y4 e3 (sel [0]) (sel_inj rfl rfl)) (a_ (LO.Le.refl (.var (c_T_script_reader (T_script_reader.mk y2.2.1 y2.2.2)))) tr)) tr) (r1_ (r2_ (a_ (a_ (a_ (Eq.refl 1) (a_ (le_ 2 18 rfl) (Eq.refl 0))) tr) tr))))) (a_ (r1_ (c_ (script_calls_tri  y6 e5) (a_ (a_ (a_ (script_reader_of_ok (T_script_reader.mk y4.2.1 y4.2.2) y6 y8 e7 (sel [0]) (sel_inj rfl rfl)) (a_ (LO.Le.refl (.var (c_T_script_reader (T_script_reader.mk y4.2.1 y4.2.2)))) tr)) tr) (r2_ (a_ (a_ (a_ (Eq.refl 1) (a_ (le_ 3 18 rfl) (Eq.refl 0))) tr) tr))))) (a_ (r1_ (l_ 2 18 rfl (f_ c9 tr))) (a_ (r1_ (l_ 2 18 rfl (a_ (a_ (a_ (script_hasKey_tri (IntKind.wrap .u8 y8.1) y12 e10) tr) (a_ (leB c13) tr)) tr))) tr)))))))) (script_reader_call_c8_ok hμ x_r y2 y4 y8  _ _ _ r h) (by kernel_rfl) ⟨rfl, rfl, rfl, fun _ _ => rfl, trivial⟩
    · skip
      exact run_to mixed hμ (L := [1, 3, 2]) (n := 39) (s := [.reg [], .void (.gr 1 (([] : List (Int))).length (rowF (cInt .u8) default ([] : List (Int)))), .reg [(0, { os := [(3, .var [.int .u8 0, .int .u32 0, .int .u8 0, .int .u8 0, .int .u32 0, .int .u32 0, .int .u8 0, .int .u8 0, .int .u8 0, .int .u8 0, .int .u8 0, .int .u8 0, .int .u8 0, .int .u8 0, .str [], .int .u8 0, .int .u8 0, .gs 2 (([] : List (Int))).length])] })], .reg [(1, { call := some ((script_reader_small_v y2).ren (sel [0]), preOf (sel [0]) 0 (script_reader_small_objs x_r), upOf (sel [0]) (script_reader_small_up x_r y2)) })], .reg [(1, { call := some ((script_reader_num_v y4).ren (sel [0]), preOf (sel [0]) 0 (script_reader_num_objs (T_script_reader.mk y2.2.1 y2.2.2)), upOf (sel [0]) (script_reader_num_up (T_script_reader.mk y2.2.1 y2.2.2) y4)) })], .reg [(1, hC (script_calls_v y6)), (2, { call := some ((script_reader_of_v y8).ren (sel [0]), preOf (sel [0]) 0 (script_reader_of_objs (T_script_reader.mk y4.2.1 y4.2.2) y6), upOf (sel [0]) (script_reader_of_up (T_script_reader.mk y4.2.1 y4.2.2) y6 y8)) })], .reg [(2, hF)], .reg [(2, { call := some (script_hasKey_v y12, [], []), v := some (.bool false) })]])
        (a_ (r1_ tr) (a_ (Eq.refl 0) (a_ (a_ (a_ tr (a_ (LO.Sub.var (a := [.int .u8 0, .int .u32 0, .int .u8 0, .int .u8 0, .int .u32 0, .int .u32 0, .int .u8 0, .int .u8 0, .int .u8 0, .int .u8 0, .int .u8 0, .int .u8 0, .int .u8 0, .int .u8 0, .str [], .int .u8 0, .int .u8 0, .nilsl]) (b := [.int .u8 0, .int .u32 0, .int .u8 0, .int .u8 0, .int .u32 0, .int .u32 0, .int .u8 0, .int .u8 0, .int .u8 0, .int .u8 0, .int .u8 0, .int .u8 0, .int .u8 0, .int .u8 0, .str [], .int .u8 0, .int .u8 0, .gs 2 (([] : List (Int))).length]) (a_ (LV.Le.refl (.int .u8 0)) (a_ (LV.Le.refl (.int .u32 0)) (a_ (LV.Le.refl (.int .u8 0)) (a_ (LV.Le.refl (.int .u8 0)) (a_ (LV.Le.refl (.int .u32 0)) (a_ (LV.Le.refl (.int .u32 0)) (a_ (LV.Le.refl (.int .u8 0)) (a_ (LV.Le.refl (.int .u8 0)) (a_ (LV.Le.refl (.int .u8 0)) (a_ (LV.Le.refl (.int .u8 0)) (a_ (LV.Le.refl (.int .u8 0)) (a_ (LV.Le.refl (.int .u8 0)) (a_ (LV.Le.refl (.int .u8 0)) (a_ (LV.Le.refl (.int .u8 0)) (a_ (LV.Le.refl (.str [])) (a_ (LV.Le.refl (.int .u8 0)) (a_ (LV.Le.refl (.int .u8 0)) (a_ (le_nil_gs 2) tr))))))))))))))))))) tr)) tr) (a_ (r1_ (a_ (a_ (a_ (script_reader_small_ok x_r y2 e1 (sel [0]) (sel_inj rfl rfl)) (a_ (LO.Le.refl (.var (c_T_script_reader x_r))) tr)) tr) (a_ (a_ (Eq.refl true) tr) (r1_ (a_ (a_ (a_ (Eq.refl 2) (a_ (le_ 2 18 rfl) (Eq.refl 0))) tr) tr))))) (a_ (r1_ (a_ (a_ (a_ (script_reader_num_ok (T_script_reader.mk y2.2.1 y2.2.2) y4 e3 (sel [0]) (sel_inj rfl rfl)) (a_ (LO.Le.refl (.var (c_T_script_reader (T_script_reader.mk y2.2.1 y2.2.2)))) tr)) tr) (r1_ (r2_ (a_ (a_ (a_ (Eq.refl 1) (a_ (le_ 2 18 rfl) (Eq.refl 0))) tr) tr))))) (a_ (r1_ (c_ (script_calls_tri  y6 e5) (a_ (a_ (a_ (script_reader_of_ok (T_script_reader.mk y4.2.1 y4.2.2) y6 y8 e7 (sel [0]) (sel_inj rfl rfl)) (a_ (LO.Le.refl (.var (c_T_script_reader (T_script_reader.mk y4.2.1 y4.2.2)))) tr)) tr) (r2_ (a_ (a_ (a_ (Eq.refl 1) (a_ (le_ 3 18 rfl) (Eq.refl 0))) tr) tr))))) (a_ (r1_ (l_ 2 18 rfl (f_ c9 tr))) (a_ (r1_ (l_ 2 18 rfl (a_ (a_ (a_ (script_hasKey_tri (IntKind.wrap .u8 y8.1) y12 e10) tr) (a_ (leB c13) tr)) tr))) tr)))))))) (script_reader_call_c9_ok hμ x_r y2 y4 y8  _ _ _ r h) (by kernel_rfl) ⟨rfl, rfl, rfl, fun _ _ => rfl, trivial⟩

/-- (*parrel/script.reader).keep -/

def script_reader_keep_v (r : (Int) × (List (List UInt8)) × (Bool)) : LV := .int .i64 r.1

def script_reader_keep_up (x_r : T_script_reader) (r : (Int) × (List (List UInt8)) × (Bool)) : Upd := [(0, some (.var (c_T_script_reader (T_script_reader.mk r.2.1 r.2.2))))]

def script_reader_keep_objs (x_r : T_script_reader) : List LO := [.var (c_T_script_reader x_r)]

def script_reader_keep (x_r : T_script_reader) : Option ((Int) × (List (List UInt8)) × (Bool)) :=
  (script_reader_word x_r).bind fun y2 =>
  if ((y2.1 == ([45, 49] : List UInt8)) : Bool) then
    some ((-1), y2.2.1, y2.2.2)
  else
    (script_reader_number (T_script_reader.mk y2.2.1 y2.2.2) y2.1 2147483647).bind fun y5 =>
    some (y5.1, y5.2.1, y5.2.2)

theorem script_reader_keep_ok (x_r : T_script_reader) (r : (Int) × (List (List UInt8)) × (Bool)) (h : script_reader_keep x_r = some r) : ∀ σ, Inj 1 σ → FnTri Tryd.prog 61 (renL σ [.ptr 0 0 0]) (preOf σ 0 (script_reader_keep_objs x_r)) ((script_reader_keep_v r).ren σ) (upOf σ (script_reader_keep_up x_r r)) := by
  refine fn_of Tryd.func61 (by kernel_rfl) (by kernel_rfl) (by kernel_rfl) ⟨rfl, trivial⟩ (by kernel_rfl) ⟨rfl, trivial⟩ (by kernel_rfl) ?_
  intro w0 W μ0 hμ
  unfold script_reader_keep at h
  obtain ⟨y2, e1, h⟩ := bind_some h
  rcases itb_some h with ⟨c3, h⟩ | ⟨c3, h⟩
  · skip
    obtain rfl := Option.some.inj h
    exact run_ret mixed (L := []) (n := 23) (s := [.reg [], .reg [(1, { call := some ((script_reader_word_v y2).ren (sel [0]), preOf (sel [0]) 0 (script_reader_word_objs x_r), upOf (sel [0]) (script_reader_word_up x_r y2)) })], .reg [(1, hT)], .reg []])
      (a_ (a_ (r1_ tr) (a_ (r1_ (a_ (a_ (a_ (script_reader_word_ok x_r y2 e1 (sel [0]) (sel_inj rfl rfl)) (a_ (LO.Le.refl (.var (c_T_script_reader x_r))) tr)) tr) (r1_ tr))) (a_ (r1_ (f_ c3 tr)) (a_ (r1_ tr) tr)))) tr) (by kernel_rfl) rfl
  · skip
    obtain ⟨y5, e4, h⟩ := bind_some h
    obtain rfl := Option.some.inj h
    exact run_ret mixed (L := []) (n := 24) (s := [.reg [], .reg [(1, { call := some ((script_reader_word_v y2).ren (sel [0]), preOf (sel [0]) 0 (script_reader_word_objs x_r), upOf (sel [0]) (script_reader_word_up x_r y2)) })], .reg [(1, hF)], .reg [(2, { call := some ((script_reader_number_v y5).ren (sel [0]), preOf (sel [0]) 0 (script_reader_number_objs (T_script_reader.mk y2.2.1 y2.2.2) y2.1 2147483647), upOf (sel [0]) (script_reader_number_up (T_script_reader.mk y2.2.1 y2.2.2) y2.1 2147483647 y5)) })]])
      (a_ (a_ (r1_ tr) (a_ (r1_ (a_ (a_ (a_ (script_reader_word_ok x_r y2 e1 (sel [0]) (sel_inj rfl rfl)) (a_ (LO.Le.refl (.var (c_T_script_reader x_r))) tr)) tr) (r1_ tr))) (a_ (r1_ (f_ c3 tr)) (a_ (r2_ (a_ (a_ (a_ (script_reader_number_ok (T_script_reader.mk y2.2.1 y2.2.2) y2.1 2147483647 y5 e4 (sel [0]) (sel_inj rfl rfl)) (a_ (LO.Le.refl (.var (c_T_script_reader (T_script_reader.mk y2.2.1 y2.2.2)))) tr)) tr) (r1_ tr))) tr)))) tr) (by kernel_rfl) rfl

/-- (*parrel/script.reader).step -/

def script_reader_step_v (r : (T_script_Step) × (List (List UInt8)) × (Bool)) : LV := v_T_script_Step r.1

def script_reader_step_up (x_r : T_script_reader) (r : (T_script_Step) × (List (List UInt8)) × (Bool)) : Upd := [(0, some (.var (c_T_script_reader (T_script_reader.mk r.2.1 r.2.2))))]

def script_reader_step_objs (x_r : T_script_reader) : List LO := [.var (c_T_script_reader x_r)]

def script_reader_step_T1000007 (y4 : (Int) × (List (List UInt8)) × (Bool))  : List LV := [.ptr 0 0 0, .any, .ptr 1 0 0, .ptr 2 0 0, .any, .any, .any, .any, .any, .any, .any, .any, .any, .any, .any, .any, .any, .any, .any, .any, .any, .any, .any, .any, .any, .any, .any, .any, .any, .any, .any, .any, .any, .any, .any, .any, .any, .any, .any, .any, .any, .any, .any, .any, .any, .any, .any, .any, .any, .any, .any, .any, .any, .any, .any, .any, .any]

def script_reader_step_H1000007 (y4 : (Int) × (List (List UInt8)) × (Bool))  : Heap := [some (.var (c_T_script_reader (T_script_reader.mk y4.2.1 y4.2.2))), some (.var [.int .u8 0, .int .i64 0, .int .i64 0, .int .i64 0, .bool false, .int .u8 0, .int .u32 0, .int .u8 0, .int .u8 0, .int .u32 0, .int .u32 0, .int .u8 0, .int .u8 0, .int .u8 0, .int .u8 0, .int .u8 0, .int .u8 0, .int .u8 0, .int .u8 0, .str [], .int .u8 0, .int .u8 0, .nilsl, .int .i64 0, .nilsl]), some (.var [.int .u8 (IntKind.wrap .u8 y4.1), .int .i64 0, .int .i64 0, .int .i64 0, .bool false, .int .u8 0, .int .u32 0, .int .u8 0, .int .u8 0, .int .u32 0, .int .u32 0, .int .u8 0, .int .u8 0, .int .u8 0, .int .u8 0, .int .u8 0, .int .u8 0, .int .u8 0, .int .u8 0, .str [], .int .u8 0, .int .u8 0, .nilsl, .int .i64 0, .nilsl])]

def script_reader_step_T1000008 (y4 : (Int) × (List (List UInt8)) × (Bool)) (yC5_4 : (Int) × (List (List UInt8)) × (Bool))  : List LV := [.any, .any, .ptr 1 0 0, .ptr 2 0 0, .any, .any, .any, .any, .any, .any, .any, .any, .any, .any, .any, .any, .any, .any, .any, .any, .any, .any, .any, .any, .any, .any, .any, .any, .any, .any, .any, .any, .any, .any, .any, .any, .any, .any, .any, .any, .any, .any, .any, .any, .any, .any, .any, .any, .any, .any, .any, .any, .any, .any, .any, .any, .any]

def script_reader_step_H1000008 (y4 : (Int) × (List (List UInt8)) × (Bool)) (yC5_4 : (Int) × (List (List UInt8)) × (Bool))  : Heap := [some (.var (c_T_script_reader (T_script_reader.mk yC5_4.2.1 yC5_4.2.2))), some (.var [.int .u8 0, .int .i64 0, .int .i64 0, .int .i64 0, .bool false, .int .u8 0, .int .u32 0, .int .u8 0, .int .u8 0, .int .u32 0, .int .u32 0, .int .u8 0, .int .u8 0, .int .u8 0, .int .u8 0, .int .u8 0, .int .u8 0, .int .u8 0, .int .u8 0, .str [], .int .u8 0, .int .u8 0, .nilsl, .int .i64 0, .nilsl]), some (.var [.int .u8 (IntKind.wrap .u8 y4.1), .int .i64 0, .int .i64 yC5_4.1, .int .i64 0, .bool false, .int .u8 0, .int .u32 0, .int .u8 0, .int .u8 0, .int .u32 0, .int .u32 0, .int .u8 0, .int .u8 0, .int .u8 0, .int .u8 0, .int .u8 0, .int .u8 0, .int .u8 0, .int .u8 0, .str [], .int .u8 0, .int .u8 0, .nilsl, .int .i64 0, .nilsl])]

def script_reader_step_T1000021 (y4 : (Int) × (List (List UInt8)) × (Bool)) (yC5_4 : (Int) × (List (List UInt8)) × (Bool)) (yC10_6 : (Int) × (List (List UInt8)) × (Bool))  : List LV := [.ptr 0 0 0, .any, .ptr 1 0 0, .ptr 2 0 0, .any, .any, .any, .any, .any, .any, .any, .any, .any, .any, .any, .any, .any, .any, .any, .any, .any, .any, .any, .any, .any, .any, .any, .any, .any, .any, .any, .any, .any, .any, .any, .any, .any, .any, .any, .any, .any, .any, .any, .any, .any, .any, .any, .any, .any, .any, .any, .any, .any, .any, .any, .any, .any]

def script_reader_step_H1000021 (y4 : (Int) × (List (List UInt8)) × (Bool)) (yC5_4 : (Int) × (List (List UInt8)) × (Bool)) (yC10_6 : (Int) × (List (List UInt8)) × (Bool))  : Heap := [some (.var (c_T_script_reader (T_script_reader.mk yC10_6.2.1 yC10_6.2.2))), some (.var [.int .u8 0, .int .i64 0, .int .i64 0, .int .i64 0, .bool false, .int .u8 0, .int .u32 0, .int .u8 0, .int .u8 0, .int .u32 0, .int .u32 0, .int .u8 0, .int .u8 0, .int .u8 0, .int .u8 0, .int .u8 0, .int .u8 0, .int .u8 0, .int .u8 0, .str [], .int .u8 0, .int .u8 0, .nilsl, .int .i64 0, .nilsl]), some (.var [.int .u8 (IntKind.wrap .u8 y4.1), .int .i64 yC5_4.1, .int .i64 0, .int .i64 0, .bool false, .int .u8 0, .int .u32 0, .int .u8 0, .int .u8 0, .int .u32 0, .int .u32 0, .int .u8 0, .int .u8 0, .int .u8 0, .int .u8 0, .int .u8 0, .int .u8 0, .int .u8 0, .int .u8 0, .str [], .int .u8 0, .int .u8 0, .nilsl, .int .i64 yC10_6.1, .nilsl])]

def script_reader_step_T1000022 (y4 : (Int) × (List (List UInt8)) × (Bool)) (yC5_4 : (Int) × (List (List UInt8)) × (Bool)) (yC10_5 : (Int) × (List (List UInt8)) × (Bool))  : List LV := [.any, .any, .ptr 1 0 0, .ptr 2 0 0, .any, .any, .any, .any, .any, .any, .any, .any, .any, .any, .any, .any, .any, .any, .any, .any, .any, .any, .any, .any, .any, .any, .any, .any, .any, .any, .any, .any, .any, .any, .any, .any, .any, .any, .any, .any, .any, .any, .any, .any, .any, .any, .any, .any, .any, .any, .any, .any, .any, .any, .any, .any, .any]

def script_reader_step_H1000022 (y4 : (Int) × (List (List UInt8)) × (Bool)) (yC5_4 : (Int) × (List (List UInt8)) × (Bool)) (yC10_5 : (Int) × (List (List UInt8)) × (Bool))  : Heap := [some (.var (c_T_script_reader (T_script_reader.mk yC10_5.2.1 yC10_5.2.2))), some (.var [.int .u8 0, .int .i64 0, .int .i64 0, .int .i64 0, .bool false, .int .u8 0, .int .u32 0, .int .u8 0, .int .u8 0, .int .u32 0, .int .u32 0, .int .u8 0, .int .u8 0, .int .u8 0, .int .u8 0, .int .u8 0, .int .u8 0, .int .u8 0, .int .u8 0, .str [], .int .u8 0, .int .u8 0, .nilsl, .int .i64 0, .nilsl]), some (.var [.int .u8 (IntKind.wrap .u8 y4.1), .int .i64 yC5_4.1, .int .i64 0, .int .i64 yC10_5.1, .bool false, .int .u8 0, .int .u32 0, .int .u8 0, .int .u8 0, .int .u32 0, .int .u32 0, .int .u8 0, .int .u8 0, .int .u8 0, .int .u8 0, .int .u8 0, .int .u8 0, .int .u8 0, .int .u8 0, .str [], .int .u8 0, .int .u8 0, .nilsl, .int .i64 0, .nilsl])]

def script_reader_step_T1000015 (y4 : (Int) × (List (List UInt8)) × (Bool)) (yC5_4 : (Int) × (List (List UInt8)) × (Bool)) (yC10_4 : (Int) × (List (List UInt8)) × (Bool))  : List LV := [.ptr 0 0 0, .any, .ptr 1 0 0, .ptr 2 0 0, .any, .any, .any, .any, .any, .any, .any, .any, .any, .any, .any, .any, .any, .any, .any, .any, .any, .any, .any, .any, .any, .any, .any, .any, .any, .any, .any, .any, .any, .any, .any, .any, .any, .any, .any, .any, .any, .any, .any, .any, .any, .any, .any, .any, .any, .any, .any, .any, .any, .any, .any, .any, .any]

def script_reader_step_H1000015 (y4 : (Int) × (List (List UInt8)) × (Bool)) (yC5_4 : (Int) × (List (List UInt8)) × (Bool)) (yC10_4 : (Int) × (List (List UInt8)) × (Bool))  : Heap := [some (.var (c_T_script_reader (T_script_reader.mk yC10_4.2.1 yC10_4.2.2))), some (.var [.int .u8 0, .int .i64 0, .int .i64 0, .int .i64 0, .bool false, .int .u8 0, .int .u32 0, .int .u8 0, .int .u8 0, .int .u32 0, .int .u32 0, .int .u8 0, .int .u8 0, .int .u8 0, .int .u8 0, .int .u8 0, .int .u8 0, .int .u8 0, .int .u8 0, .str [], .int .u8 0, .int .u8 0, .nilsl, .int .i64 0, .nilsl]), some (.var [.int .u8 (IntKind.wrap .u8 y4.1), .int .i64 yC5_4.1, .int .i64 0, .int .i64 yC10_4.1, .bool false, .int .u8 0, .int .u32 0, .int .u8 0, .int .u8 0, .int .u32 0, .int .u32 0, .int .u8 0, .int .u8 0, .int .u8 0, .int .u8 0, .int .u8 0, .int .u8 0, .int .u8 0, .int .u8 0, .str [], .int .u8 0, .int .u8 0, .nilsl, .int .i64 0, .nilsl])]

def script_reader_step_T1000010 (y4 : (Int) × (List (List UInt8)) × (Bool)) (yC5_4 : (Int) × (List (List UInt8)) × (Bool))  : List LV := [.ptr 0 0 0, .any, .ptr 1 0 0, .ptr 2 0 0, .any, .any, .any, .any, .any, .any, .any, .any, .any, .any, .any, .any, .any, .any, .any, .any, .any, .any, .any, .any, .any, .any, .any, .any, .any, .any, .any, .any, .any, .any, .any, .any, .any, .any, .any, .any, .any, .any, .any, .any, .any, .any, .any, .any, .any, .any, .any, .any, .any, .any, .any, .any, .any]

def script_reader_step_H1000010 (y4 : (Int) × (List (List UInt8)) × (Bool)) (yC5_4 : (Int) × (List (List UInt8)) × (Bool))  : Heap := [some (.var (c_T_script_reader (T_script_reader.mk yC5_4.2.1 yC5_4.2.2))), some (.var [.int .u8 0, .int .i64 0, .int .i64 0, .int .i64 0, .bool false, .int .u8 0, .int .u32 0, .int .u8 0, .int .u8 0, .int .u32 0, .int .u32 0, .int .u8 0, .int .u8 0, .int .u8 0, .int .u8 0, .int .u8 0, .int .u8 0, .int .u8 0, .int .u8 0, .str [], .int .u8 0, .int .u8 0, .nilsl, .int .i64 0, .nilsl]), some (.var [.int .u8 (IntKind.wrap .u8 y4.1), .int .i64 yC5_4.1, .int .i64 0, .int .i64 0, .bool false, .int .u8 0, .int .u32 0, .int .u8 0, .int .u8 0, .int .u32 0, .int .u32 0, .int .u8 0, .int .u8 0, .int .u8 0, .int .u8 0, .int .u8 0, .int .u8 0, .int .u8 0, .int .u8 0, .str [], .int .u8 0, .int .u8 0, .nilsl, .int .i64 0, .nilsl])]

def script_reader_step_T1000005 (y4 : (Int) × (List (List UInt8)) × (Bool))  : List LV := [.ptr 0 0 0, .any, .ptr 1 0 0, .ptr 2 0 0, .any, .any, .any, .any, .any, .any, .int .u8 (IntKind.wrap .u8 y4.1), .any, .any, .any, .any, .any, .any, .any, .any, .any, .any, .any, .any, .any, .any, .any, .any, .any, .any, .any, .any, .any, .any, .any, .any, .any, .any, .any, .any, .any, .any, .any, .any, .any, .any, .any, .any, .any, .any, .any, .any, .any, .any, .any, .any, .any, .any]

def script_reader_step_H1000005 (y4 : (Int) × (List (List UInt8)) × (Bool))  : Heap := [some (.var (c_T_script_reader (T_script_reader.mk y4.2.1 y4.2.2))), some (.var [.int .u8 0, .int .i64 0, .int .i64 0, .int .i64 0, .bool false, .int .u8 0, .int .u32 0, .int .u8 0, .int .u8 0, .int .u32 0, .int .u32 0, .int .u8 0, .int .u8 0, .int .u8 0, .int .u8 0, .int .u8 0, .int .u8 0, .int .u8 0, .int .u8 0, .str [], .int .u8 0, .int .u8 0, .nilsl, .int .i64 0, .nilsl]), some (.var [.int .u8 (IntKind.wrap .u8 y4.1), .int .i64 0, .int .i64 0, .int .i64 0, .bool false, .int .u8 0, .int .u32 0, .int .u8 0, .int .u8 0, .int .u32 0, .int .u32 0, .int .u8 0, .int .u8 0, .int .u8 0, .int .u8 0, .int .u8 0, .int .u8 0, .int .u8 0, .int .u8 0, .str [], .int .u8 0, .int .u8 0, .nilsl, .int .i64 0, .nilsl])]

def script_reader_step_c7 (x_r : T_script_reader) (y4 : (Int) × (List (List UInt8)) × (Bool))   : Option ((T_script_Step) × (List (List UInt8)) × (Bool)) :=
  (script_reader_num (T_script_reader.mk y4.2.1 y4.2.2)).bind fun yC7_2 =>
  some ((T_script_Step.mk (IntKind.wrap .u8 y4.1) 0 yC7_2.1 0 false (T_node_Call.mk (T_sess_Call.mk 0 0) 0 (T_api_Tx.mk 0 0 0) (A8.mk 0 0 0 0 0 0 0 0) [] 0 0 ([] : List (Int))) 0 ([] : List (Int))), yC7_2.2.1, yC7_2.2.2)

def script_reader_step_c8 (x_r : T_script_reader) (y4 : (Int) × (List (List UInt8)) × (Bool)) (yC5_4 : (Int) × (List (List UInt8)) × (Bool))   : Option ((T_script_Step) × (List (List UInt8)) × (Bool)) :=
  some ((T_script_Step.mk (IntKind.wrap .u8 y4.1) 0 yC5_4.1 0 false (T_node_Call.mk (T_sess_Call.mk 0 0) 0 (T_api_Tx.mk 0 0 0) (A8.mk 0 0 0 0 0 0 0 0) [] 0 0 ([] : List (Int))) 0 ([] : List (Int))), yC5_4.2.1, yC5_4.2.2)

def script_reader_step_c21 (x_r : T_script_reader) (y4 : (Int) × (List (List UInt8)) × (Bool)) (yC5_4 : (Int) × (List (List UInt8)) × (Bool)) (yC10_6 : (Int) × (List (List UInt8)) × (Bool))   : Option ((T_script_Step) × (List (List UInt8)) × (Bool)) :=
  (script_reader_bytes (T_script_reader.mk yC10_6.2.1 yC10_6.2.2)).bind fun yC21_2 =>
  some ((T_script_Step.mk (IntKind.wrap .u8 y4.1) yC5_4.1 0 0 false (T_node_Call.mk (T_sess_Call.mk 0 0) 0 (T_api_Tx.mk 0 0 0) (A8.mk 0 0 0 0 0 0 0 0) [] 0 0 ([] : List (Int))) yC10_6.1 yC21_2.1), yC21_2.2.1, yC21_2.2.2)

def script_reader_step_c22 (x_r : T_script_reader) (y4 : (Int) × (List (List UInt8)) × (Bool)) (yC5_4 : (Int) × (List (List UInt8)) × (Bool)) (yC10_5 : (Int) × (List (List UInt8)) × (Bool))   : Option ((T_script_Step) × (List (List UInt8)) × (Bool)) :=
  some ((T_script_Step.mk (IntKind.wrap .u8 y4.1) yC5_4.1 0 yC10_5.1 false (T_node_Call.mk (T_sess_Call.mk 0 0) 0 (T_api_Tx.mk 0 0 0) (A8.mk 0 0 0 0 0 0 0 0) [] 0 0 ([] : List (Int))) 0 ([] : List (Int))), yC10_5.2.1, yC10_5.2.2)

def script_reader_step_c15 (x_r : T_script_reader) (y4 : (Int) × (List (List UInt8)) × (Bool)) (yC5_4 : (Int) × (List (List UInt8)) × (Bool)) (yC10_4 : (Int) × (List (List UInt8)) × (Bool))   : Option ((T_script_Step) × (List (List UInt8)) × (Bool)) :=
  (script_reader_of (T_script_reader.mk yC10_4.2.1 yC10_4.2.2) ([[], ([119, 104, 111, 108, 101] : List UInt8), ([99, 117, 116] : List UInt8)] : List (List UInt8))).bind fun yC15_2 =>
  (script_reader_bytes (T_script_reader.mk yC15_2.2.1 yC15_2.2.2)).bind fun yC15_4 =>
  some ((T_script_Step.mk (IntKind.wrap .u8 y4.1) yC5_4.1 0 yC10_4.1 (yC15_2.1 == 2) (T_node_Call.mk (T_sess_Call.mk 0 0) 0 (T_api_Tx.mk 0 0 0) (A8.mk 0 0 0 0 0 0 0 0) [] 0 0 ([] : List (Int))) 0 yC15_4.1), yC15_4.2.1, yC15_4.2.2)

def script_reader_step_c10 (x_r : T_script_reader) (y4 : (Int) × (List (List UInt8)) × (Bool)) (yC5_4 : (Int) × (List (List UInt8)) × (Bool))   : Option ((T_script_Step) × (List (List UInt8)) × (Bool)) :=
  if (((IntKind.wrap .u8 y4.1) == 1) : Bool) then
    (script_reader_call (T_script_reader.mk yC5_4.2.1 yC5_4.2.2)).bind fun yC10_3 =>
    some ((T_script_Step.mk (IntKind.wrap .u8 y4.1) yC5_4.1 0 0 false yC10_3.1 0 ([] : List (Int))), yC10_3.2.1, yC10_3.2.2)
  else
    if (((IntKind.wrap .u8 y4.1) == 8) : Bool) then
      (script_reader_keep (T_script_reader.mk yC5_4.2.1 yC5_4.2.2)).bind fun yC10_4 =>
      script_reader_step_c15 x_r y4 yC5_4 yC10_4  
    else
      if (((IntKind.wrap .u8 y4.1) == 9) : Bool) then
        (script_reader_keep (T_script_reader.mk yC5_4.2.1 yC5_4.2.2)).bind fun yC10_5 =>
        script_reader_step_c22 x_r y4 yC5_4 yC10_5  
      else
        if (((IntKind.wrap .u8 y4.1) == 10) : Bool) then
          (script_reader_num (T_script_reader.mk yC5_4.2.1 yC5_4.2.2)).bind fun yC10_6 =>
          script_reader_step_c21 x_r y4 yC5_4 yC10_6  
        else
          some ((T_script_Step.mk (IntKind.wrap .u8 y4.1) yC5_4.1 0 0 false (T_node_Call.mk (T_sess_Call.mk 0 0) 0 (T_api_Tx.mk 0 0 0) (A8.mk 0 0 0 0 0 0 0 0) [] 0 0 ([] : List (Int))) 0 ([] : List (Int))), yC5_4.2.1, yC5_4.2.2)

def script_reader_step_c5 (x_r : T_script_reader) (y4 : (Int) × (List (List UInt8)) × (Bool))   : Option ((T_script_Step) × (List (List UInt8)) × (Bool)) :=
  if (((IntKind.wrap .u8 y4.1) == 4) : Bool) then
    (script_reader_num (T_script_reader.mk y4.2.1 y4.2.2)).bind fun yC5_3 =>
    some ((T_script_Step.mk (IntKind.wrap .u8 y4.1) 0 yC5_3.1 0 false (T_node_Call.mk (T_sess_Call.mk 0 0) 0 (T_api_Tx.mk 0 0 0) (A8.mk 0 0 0 0 0 0 0 0) [] 0 0 ([] : List (Int))) 0 ([] : List (Int))), yC5_3.2.1, yC5_3.2.2)
  else
    if (((IntKind.wrap .u8 y4.1) == 5) : Bool) then
      (script_reader_num (T_script_reader.mk y4.2.1 y4.2.2)).bind fun yC5_4 =>
      script_reader_step_c8 x_r y4 yC5_4  
    else
      (script_reader_num (T_script_reader.mk y4.2.1 y4.2.2)).bind fun yC5_4 =>
      script_reader_step_c10 x_r y4 yC5_4  

def script_reader_step (x_r : T_script_reader) : Option ((T_script_Step) × (List (List UInt8)) × (Bool)) :=
  (script_verbs).bind fun y2 =>
  (script_reader_of x_r y2).bind fun y4 =>
  if (((IntKind.wrap .u8 y4.1) == 2) : Bool) then
    (script_reader_num (T_script_reader.mk y4.2.1 y4.2.2)).bind fun y7 =>
    some ((T_script_Step.mk (IntKind.wrap .u8 y4.1) 0 y7.1 0 false (T_node_Call.mk (T_sess_Call.mk 0 0) 0 (T_api_Tx.mk 0 0 0) (A8.mk 0 0 0 0 0 0 0 0) [] 0 0 ([] : List (Int))) 0 ([] : List (Int))), y7.2.1, y7.2.2)
  else
    if (((IntKind.wrap .u8 y4.1) == 3) : Bool) then
      script_reader_step_c7 x_r y4  
    else
      script_reader_step_c5 x_r y4  

theorem script_reader_step_c7_ok {w0 : World} {W : Nat → Prop} {μ0 : Emb} (hμ : ∀ c p, μ0 c = some p → c < 1) (x_r : T_script_reader) (y4 : (Int) × (List (List UInt8)) × (Bool))   (r : (T_script_Step) × (List (List UInt8)) × (Bool)) (h : script_reader_step_c7 x_r y4   = some r) : kont Tryd.prog w0 W μ0 (FnPost Tryd.prog Tryd.f39 1 1 (script_reader_step_v r) (script_reader_step_up x_r r)) (kAtR (bodyOf Tryd.f39) 7) none (script_reader_step_T1000007 y4 ) (script_reader_step_H1000007 y4 ) := by
  unfold script_reader_step_c7 at h
  obtain ⟨yC7_2, eC7_1, h⟩ := bind_some h
  obtain rfl := Option.some.inj h
  exact run_ret mixed (L := []) (n := 16) (s := [.reg [(1, { call := some ((script_reader_num_v yC7_2).ren (sel [0]), preOf (sel [0]) 0 (script_reader_num_objs (T_script_reader.mk y4.2.1 y4.2.2)), upOf (sel [0]) (script_reader_num_up (T_script_reader.mk y4.2.1 y4.2.2) yC7_2)) })], .reg [], .wk [] [(1, .var [.int .u8 (IntKind.wrap .u8 y4.1), .int .i64 0, .int .i64 yC7_2.1, .int .i64 0, .bool false, .int .u8 0, .int .u32 0, .int .u8 0, .int .u8 0, .int .u32 0, .int .u32 0, .int .u8 0, .int .u8 0, .int .u8 0, .int .u8 0, .int .u8 0, .int .u8 0, .int .u8 0, .int .u8 0, .str [], .int .u8 0, .int .u8 0, .ds 1 (([] : List (Int))).length (rowF (cInt .u8) default ([] : List (Int))), .int .i64 0, .nilsl])], .wk [] [(1, .var (c_T_script_Step (T_script_Step.mk (IntKind.wrap .u8 y4.1) 0 yC7_2.1 0 false (T_node_Call.mk (T_sess_Call.mk 0 0) 0 (T_api_Tx.mk 0 0 0) (A8.mk 0 0 0 0 0 0 0 0) [] 0 0 ([] : List (Int))) 0 ([] : List (Int)))))]])
    (a_ (a_ (r1_ (a_ (a_ (a_ (script_reader_num_ok (T_script_reader.mk y4.2.1 y4.2.2) yC7_2 eC7_1 (sel [0]) (sel_inj rfl rfl)) (a_ (LO.Le.refl (.var (c_T_script_reader (T_script_reader.mk y4.2.1 y4.2.2)))) tr)) tr) (r1_ (a_ (a_ (a_ (Eq.refl 1) (a_ (le_ 3 25 rfl) (Eq.refl 0))) tr) tr)))) (a_ (m_ 25 25 rfl (a_ (a_ (a_ (Eq.refl 25) (a_ (le_ 25 25 rfl) (Eq.refl 0))) tr) tr)) (a_ (a_ tr (a_ (LO.Sub.var (lel_set [.int .u8 (IntKind.wrap .u8 y4.1), .int .i64 0, .int .i64 yC7_2.1, .int .i64 0, .bool false, .int .u8 0, .int .u32 0, .int .u8 0, .int .u8 0, .int .u32 0, .int .u32 0, .int .u8 0, .int .u8 0, .int .u8 0, .int .u8 0, .int .u8 0, .int .u8 0, .int .u8 0, .int .u8 0, .str [], .int .u8 0, .int .u8 0, .nilsl, .int .i64 0, .nilsl] 22 .nilsl (.ds 1 (([] : List (Int))).length (rowF (cInt .u8) default ([] : List (Int)))) rfl (le_nil_ds 1 (rowF (cInt .u8) default [])))) tr)) (a_ (a_ tr (a_ (LO.Sub.var (lel_set [.int .u8 (IntKind.wrap .u8 y4.1), .int .i64 0, .int .i64 yC7_2.1, .int .i64 0, .bool false, .int .u8 0, .int .u32 0, .int .u8 0, .int .u8 0, .int .u32 0, .int .u32 0, .int .u8 0, .int .u8 0, .int .u8 0, .int .u8 0, .int .u8 0, .int .u8 0, .int .u8 0, .int .u8 0, .str [], .int .u8 0, .int .u8 0, .ds 1 (([] : List (Int))).length (rowF (cInt .u8) default ([] : List (Int))), .int .i64 0, .nilsl] 24 .nilsl (.ds 1 (([] : List (Int))).length (rowF (cInt .u8) default ([] : List (Int)))) rfl (le_nil_ds 1 (rowF (cInt .u8) default [])))) tr)) tr)))) (a_ (a_ tr (le_ 25 25 rfl)) tr)) (by kernel_rfl) rfl

theorem script_reader_step_c8_ok {w0 : World} {W : Nat → Prop} {μ0 : Emb} (hμ : ∀ c p, μ0 c = some p → c < 1) (x_r : T_script_reader) (y4 : (Int) × (List (List UInt8)) × (Bool)) (yC5_4 : (Int) × (List (List UInt8)) × (Bool))   (r : (T_script_Step) × (List (List UInt8)) × (Bool)) (h : script_reader_step_c8 x_r y4 yC5_4   = some r) : kont Tryd.prog w0 W μ0 (FnPost Tryd.prog Tryd.f39 1 1 (script_reader_step_v r) (script_reader_step_up x_r r)) (kAtR (bodyOf Tryd.f39) 8) none (script_reader_step_T1000008 y4 yC5_4 ) (script_reader_step_H1000008 y4 yC5_4 ) := by
  unfold script_reader_step_c8 at h
  obtain rfl := Option.some.inj h
  exact run_ret mixed (L := []) (n := 13) (s := [.reg [], .wk [] [(1, .var [.int .u8 (IntKind.wrap .u8 y4.1), .int .i64 0, .int .i64 yC5_4.1, .int .i64 0, .bool false, .int .u8 0, .int .u32 0, .int .u8 0, .int .u8 0, .int .u32 0, .int .u32 0, .int .u8 0, .int .u8 0, .int .u8 0, .int .u8 0, .int .u8 0, .int .u8 0, .int .u8 0, .int .u8 0, .str [], .int .u8 0, .int .u8 0, .ds 1 (([] : List (Int))).length (rowF (cInt .u8) default ([] : List (Int))), .int .i64 0, .nilsl])], .wk [] [(1, .var (c_T_script_Step (T_script_Step.mk (IntKind.wrap .u8 y4.1) 0 yC5_4.1 0 false (T_node_Call.mk (T_sess_Call.mk 0 0) 0 (T_api_Tx.mk 0 0 0) (A8.mk 0 0 0 0 0 0 0 0) [] 0 0 ([] : List (Int))) 0 ([] : List (Int)))))]])
    (a_ (a_ (m_ 25 25 rfl (a_ (a_ (a_ (Eq.refl 25) (a_ (le_ 25 25 rfl) (Eq.refl 0))) tr) tr)) (a_ (a_ tr (a_ (LO.Sub.var (lel_set [.int .u8 (IntKind.wrap .u8 y4.1), .int .i64 0, .int .i64 yC5_4.1, .int .i64 0, .bool false, .int .u8 0, .int .u32 0, .int .u8 0, .int .u8 0, .int .u32 0, .int .u32 0, .int .u8 0, .int .u8 0, .int .u8 0, .int .u8 0, .int .u8 0, .int .u8 0, .int .u8 0, .int .u8 0, .str [], .int .u8 0, .int .u8 0, .nilsl, .int .i64 0, .nilsl] 22 .nilsl (.ds 1 (([] : List (Int))).length (rowF (cInt .u8) default ([] : List (Int)))) rfl (le_nil_ds 1 (rowF (cInt .u8) default [])))) tr)) (a_ (a_ tr (a_ (LO.Sub.var (lel_set [.int .u8 (IntKind.wrap .u8 y4.1), .int .i64 0, .int .i64 yC5_4.1, .int .i64 0, .bool false, .int .u8 0, .int .u32 0, .int .u8 0, .int .u8 0, .int .u32 0, .int .u32 0, .int .u8 0, .int .u8 0, .int .u8 0, .int .u8 0, .int .u8 0, .int .u8 0, .int .u8 0, .int .u8 0, .str [], .int .u8 0, .int .u8 0, .ds 1 (([] : List (Int))).length (rowF (cInt .u8) default ([] : List (Int))), .int .i64 0, .nilsl] 24 .nilsl (.ds 1 (([] : List (Int))).length (rowF (cInt .u8) default ([] : List (Int)))) rfl (le_nil_ds 1 (rowF (cInt .u8) default [])))) tr)) tr))) (a_ (a_ tr (le_ 25 25 rfl)) tr)) (by kernel_rfl) rfl

theorem script_reader_step_c21_ok {w0 : World} {W : Nat → Prop} {μ0 : Emb} (hμ : ∀ c p, μ0 c = some p → c < 1) (x_r : T_script_reader) (y4 : (Int) × (List (List UInt8)) × (Bool)) (yC5_4 : (Int) × (List (List UInt8)) × (Bool)) (yC10_6 : (Int) × (List (List UInt8)) × (Bool))   (r : (T_script_Step) × (List (List UInt8)) × (Bool)) (h : script_reader_step_c21 x_r y4 yC5_4 yC10_6   = some r) : kont Tryd.prog w0 W μ0 (FnPost Tryd.prog Tryd.f39 1 1 (script_reader_step_v r) (script_reader_step_up x_r r)) (kAtR (bodyOf Tryd.f39) 21) none (script_reader_step_T1000021 y4 yC5_4 yC10_6 ) (script_reader_step_H1000021 y4 yC5_4 yC10_6 ) := by
  unfold script_reader_step_c21 at h
  obtain ⟨yC21_2, eC21_1, h⟩ := bind_some h
  obtain rfl := Option.some.inj h
  exact run_ret mixed (L := []) (n := 16) (s := [.reg [(1, { call := some ((script_reader_bytes_v yC21_2).ren (sel [0]), preOf (sel [0]) 0 (script_reader_bytes_objs (T_script_reader.mk yC10_6.2.1 yC10_6.2.2)), upOf (sel [0]) (script_reader_bytes_up (T_script_reader.mk yC10_6.2.1 yC10_6.2.2) yC21_2)) })], .reg [], .wk [] [(1, .var (c_T_script_Step (T_script_Step.mk (IntKind.wrap .u8 y4.1) yC5_4.1 0 0 false (T_node_Call.mk (T_sess_Call.mk 0 0) 0 (T_api_Tx.mk 0 0 0) (A8.mk 0 0 0 0 0 0 0 0) [] 0 0 ([] : List (Int))) yC10_6.1 yC21_2.1)))]])
    (a_ (a_ (r1_ (a_ (a_ (a_ (script_reader_bytes_ok (T_script_reader.mk yC10_6.2.1 yC10_6.2.2) yC21_2 eC21_1 (sel [0]) (sel_inj rfl rfl)) (a_ (LO.Le.refl (.var (c_T_script_reader (T_script_reader.mk yC10_6.2.1 yC10_6.2.2)))) tr)) tr) (r1_ (a_ (a_ (a_ (Eq.refl 1) (a_ (le_ 25 25 rfl) (Eq.refl 0))) tr) tr)))) (a_ (m_ 25 25 rfl (a_ (a_ (a_ (Eq.refl 25) (a_ (le_ 25 25 rfl) (Eq.refl 0))) tr) tr)) (a_ (a_ tr (a_ (LO.Sub.var (lel_set [.int .u8 (IntKind.wrap .u8 y4.1), .int .i64 yC5_4.1, .int .i64 0, .int .i64 0, .bool false, .int .u8 0, .int .u32 0, .int .u8 0, .int .u8 0, .int .u32 0, .int .u32 0, .int .u8 0, .int .u8 0, .int .u8 0, .int .u8 0, .int .u8 0, .int .u8 0, .int .u8 0, .int .u8 0, .str [], .int .u8 0, .int .u8 0, .nilsl, .int .i64 yC10_6.1, .ds 1 (yC21_2.1).length (rowF (cInt .u8) default yC21_2.1)] 22 .nilsl (.ds 1 (([] : List (Int))).length (rowF (cInt .u8) default ([] : List (Int)))) rfl (le_nil_ds 1 (rowF (cInt .u8) default [])))) tr)) tr))) (a_ (a_ tr (le_ 25 25 rfl)) tr)) (by kernel_rfl) rfl

theorem script_reader_step_c22_ok {w0 : World} {W : Nat → Prop} {μ0 : Emb} (hμ : ∀ c p, μ0 c = some p → c < 1) (x_r : T_script_reader) (y4 : (Int) × (List (List UInt8)) × (Bool)) (yC5_4 : (Int) × (List (List UInt8)) × (Bool)) (yC10_5 : (Int) × (List (List UInt8)) × (Bool))   (r : (T_script_Step) × (List (List UInt8)) × (Bool)) (h : script_reader_step_c22 x_r y4 yC5_4 yC10_5   = some r) : kont Tryd.prog w0 W μ0 (FnPost Tryd.prog Tryd.f39 1 1 (script_reader_step_v r) (script_reader_step_up x_r r)) (kAtR (bodyOf Tryd.f39) 22) none (script_reader_step_T1000022 y4 yC5_4 yC10_5 ) (script_reader_step_H1000022 y4 yC5_4 yC10_5 ) := by
  unfold script_reader_step_c22 at h
  obtain rfl := Option.some.inj h
  exact run_ret mixed (L := []) (n := 13) (s := [.reg [], .wk [] [(1, .var [.int .u8 (IntKind.wrap .u8 y4.1), .int .i64 yC5_4.1, .int .i64 0, .int .i64 yC10_5.1, .bool false, .int .u8 0, .int .u32 0, .int .u8 0, .int .u8 0, .int .u32 0, .int .u32 0, .int .u8 0, .int .u8 0, .int .u8 0, .int .u8 0, .int .u8 0, .int .u8 0, .int .u8 0, .int .u8 0, .str [], .int .u8 0, .int .u8 0, .ds 1 (([] : List (Int))).length (rowF (cInt .u8) default ([] : List (Int))), .int .i64 0, .nilsl])], .wk [] [(1, .var (c_T_script_Step (T_script_Step.mk (IntKind.wrap .u8 y4.1) yC5_4.1 0 yC10_5.1 false (T_node_Call.mk (T_sess_Call.mk 0 0) 0 (T_api_Tx.mk 0 0 0) (A8.mk 0 0 0 0 0 0 0 0) [] 0 0 ([] : List (Int))) 0 ([] : List (Int)))))]])
    (a_ (a_ (m_ 25 25 rfl (a_ (a_ (a_ (Eq.refl 25) (a_ (le_ 25 25 rfl) (Eq.refl 0))) tr) tr)) (a_ (a_ tr (a_ (LO.Sub.var (lel_set [.int .u8 (IntKind.wrap .u8 y4.1), .int .i64 yC5_4.1, .int .i64 0, .int .i64 yC10_5.1, .bool false, .int .u8 0, .int .u32 0, .int .u8 0, .int .u8 0, .int .u32 0, .int .u32 0, .int .u8 0, .int .u8 0, .int .u8 0, .int .u8 0, .int .u8 0, .int .u8 0, .int .u8 0, .int .u8 0, .str [], .int .u8 0, .int .u8 0, .nilsl, .int .i64 0, .nilsl] 22 .nilsl (.ds 1 (([] : List (Int))).length (rowF (cInt .u8) default ([] : List (Int)))) rfl (le_nil_ds 1 (rowF (cInt .u8) default [])))) tr)) (a_ (a_ tr (a_ (LO.Sub.var (lel_set [.int .u8 (IntKind.wrap .u8 y4.1), .int .i64 yC5_4.1, .int .i64 0, .int .i64 yC10_5.1, .bool false, .int .u8 0, .int .u32 0, .int .u8 0, .int .u8 0, .int .u32 0, .int .u32 0, .int .u8 0, .int .u8 0, .int .u8 0, .int .u8 0, .int .u8 0, .int .u8 0, .int .u8 0, .int .u8 0, .str [], .int .u8 0, .int .u8 0, .ds 1 (([] : List (Int))).length (rowF (cInt .u8) default ([] : List (Int))), .int .i64 0, .nilsl] 24 .nilsl (.ds 1 (([] : List (Int))).length (rowF (cInt .u8) default ([] : List (Int)))) rfl (le_nil_ds 1 (rowF (cInt .u8) default [])))) tr)) tr))) (a_ (a_ tr (le_ 25 25 rfl)) tr)) (by kernel_rfl) rfl

theorem script_reader_step_c15_ok {w0 : World} {W : Nat → Prop} {μ0 : Emb} (hμ : ∀ c p, μ0 c = some p → c < 1) (x_r : T_script_reader) (y4 : (Int) × (List (List UInt8)) × (Bool)) (yC5_4 : (Int) × (List (List UInt8)) × (Bool)) (yC10_4 : (Int) × (List (List UInt8)) × (Bool))   (r : (T_script_Step) × (List (List UInt8)) × (Bool)) (h : script_reader_step_c15 x_r y4 yC5_4 yC10_4   = some r) : kont Tryd.prog w0 W μ0 (FnPost Tryd.prog Tryd.f39 1 1 (script_reader_step_v r) (script_reader_step_up x_r r)) (kAtR (bodyOf Tryd.f39) 15) none (script_reader_step_T1000015 y4 yC5_4 yC10_4 ) (script_reader_step_H1000015 y4 yC5_4 yC10_4 ) := by
  unfold script_reader_step_c15 at h
  obtain ⟨yC15_2, eC15_1, h⟩ := bind_some h
  obtain ⟨yC15_4, eC15_3, h⟩ := bind_some h
  obtain rfl := Option.some.inj h
  exact run_ret mixed (L := []) (n := 18) (s := [.reg [(1, { os := [(3, .gr 1 (([[], ([119, 104, 111, 108, 101] : List UInt8), ([99, 117, 116] : List UInt8)] : List (List UInt8))).length (rowF cStr default ([[], ([119, 104, 111, 108, 101] : List UInt8), ([99, 117, 116] : List UInt8)] : List (List UInt8))))], v := some (.gs 3 (([[], ([119, 104, 111, 108, 101] : List UInt8), ([99, 117, 116] : List UInt8)] : List (List UInt8))).length), fz := true }), (2, { call := some ((script_reader_of_v yC15_2).ren (sel [0]), preOf (sel [0]) 0 (script_reader_of_objs (T_script_reader.mk yC10_4.2.1 yC10_4.2.2) ([[], ([119, 104, 111, 108, 101] : List UInt8), ([99, 117, 116] : List UInt8)] : List (List UInt8))), upOf (sel [0]) (script_reader_of_up (T_script_reader.mk yC10_4.2.1 yC10_4.2.2) ([[], ([119, 104, 111, 108, 101] : List UInt8), ([99, 117, 116] : List UInt8)] : List (List UInt8)) yC15_2)) })], .reg [(1, { call := some ((script_reader_bytes_v yC15_4).ren (sel [0]), preOf (sel [0]) 0 (script_reader_bytes_objs (T_script_reader.mk yC15_2.2.1 yC15_2.2.2)), upOf (sel [0]) (script_reader_bytes_up (T_script_reader.mk yC15_2.2.1 yC15_2.2.2) yC15_4)) })], .reg [], .wk [] [(1, .var (c_T_script_Step (T_script_Step.mk (IntKind.wrap .u8 y4.1) yC5_4.1 0 yC10_4.1 (yC15_2.1 == 2) (T_node_Call.mk (T_sess_Call.mk 0 0) 0 (T_api_Tx.mk 0 0 0) (A8.mk 0 0 0 0 0 0 0 0) [] 0 0 ([] : List (Int))) 0 yC15_4.1)))]])
    (a_ (a_ (r1_ (a_ (a_ (a_ (a_ (Eq.refl true) (a_ (Eq.refl 1) (a_ (lt_ 0 1 rfl) (le_ 3 16777216 rfl)))) (a_ (le_sl_gs 3 3 (some 3) rfl) (a_ (sub_lit cStr default 1 (fun _ => rfl) ([[], ([119, 104, 111, 108, 101] : List UInt8), ([99, 117, 116] : List UInt8)] : List (List UInt8))) tr))) (a_ (Nat.le_refl (([[], ([119, 104, 111, 108, 101] : List UInt8), ([99, 117, 116] : List UInt8)] : List (List UInt8))).length) (fz_row (enc := cStr) (d := default) (fun _ => rfl) ([[], ([119, 104, 111, 108, 101] : List UInt8), ([99, 117, 116] : List UInt8)] : List (List UInt8))))) (a_ (a_ (a_ (script_reader_of_ok (T_script_reader.mk yC10_4.2.1 yC10_4.2.2) ([[], ([119, 104, 111, 108, 101] : List UInt8), ([99, 117, 116] : List UInt8)] : List (List UInt8)) yC15_2 eC15_1 (sel [0]) (sel_inj rfl rfl)) (a_ (LO.Le.refl (.var (c_T_script_reader (T_script_reader.mk yC10_4.2.1 yC10_4.2.2)))) tr)) tr) (r2_ (a_ (a_ (a_ (Eq.refl 1) (a_ (le_ 5 25 rfl) (Eq.refl 0))) tr) tr))))) (a_ (r1_ (a_ (a_ (a_ (script_reader_bytes_ok (T_script_reader.mk yC15_2.2.1 yC15_2.2.2) yC15_4 eC15_3 (sel [0]) (sel_inj rfl rfl)) (a_ (LO.Le.refl (.var (c_T_script_reader (T_script_reader.mk yC15_2.2.1 yC15_2.2.2)))) tr)) tr) (r1_ (a_ (a_ (a_ (Eq.refl 1) (a_ (le_ 25 25 rfl) (Eq.refl 0))) tr) tr)))) (a_ (m_ 25 25 rfl (a_ (a_ (a_ (Eq.refl 25) (a_ (le_ 25 25 rfl) (Eq.refl 0))) tr) tr)) (a_ (a_ tr (a_ (LO.Sub.var (lel_set [.int .u8 (IntKind.wrap .u8 y4.1), .int .i64 yC5_4.1, .int .i64 0, .int .i64 yC10_4.1, .bool (yC15_2.1 == 2), .int .u8 0, .int .u32 0, .int .u8 0, .int .u8 0, .int .u32 0, .int .u32 0, .int .u8 0, .int .u8 0, .int .u8 0, .int .u8 0, .int .u8 0, .int .u8 0, .int .u8 0, .int .u8 0, .str [], .int .u8 0, .int .u8 0, .nilsl, .int .i64 0, .ds 1 (yC15_4.1).length (rowF (cInt .u8) default yC15_4.1)] 22 .nilsl (.ds 1 (([] : List (Int))).length (rowF (cInt .u8) default ([] : List (Int)))) rfl (le_nil_ds 1 (rowF (cInt .u8) default [])))) tr)) tr)))) (a_ (a_ tr (le_ 25 25 rfl)) tr)) (by kernel_rfl) rfl

theorem script_reader_step_c10_ok {w0 : World} {W : Nat → Prop} {μ0 : Emb} (hμ : ∀ c p, μ0 c = some p → c < 1) (x_r : T_script_reader) (y4 : (Int) × (List (List UInt8)) × (Bool)) (yC5_4 : (Int) × (List (List UInt8)) × (Bool))   (r : (T_script_Step) × (List (List UInt8)) × (Bool)) (h : script_reader_step_c10 x_r y4 yC5_4   = some r) : kont Tryd.prog w0 W μ0 (FnPost Tryd.prog Tryd.f39 1 1 (script_reader_step_v r) (script_reader_step_up x_r r)) (kAtR (bodyOf Tryd.f39) 10) none (script_reader_step_T1000010 y4 yC5_4 ) (script_reader_step_H1000010 y4 yC5_4 ) := by
  unfold script_reader_step_c10 at h
  rcases itb_some h with ⟨cC10_1, h⟩ | ⟨cC10_1, h⟩
  · skip
    obtain ⟨yC10_3, eC10_2, h⟩ := bind_some h
    obtain rfl := Option.some.inj h
    exact run_ret mixed (L := []) (n := 23) (s := [.reg [], .reg [(1, hT)], .reg [(1, { call := some ((script_reader_call_v yC10_3).ren (sel [0]), preOf (sel [0]) 0 (script_reader_call_objs (T_script_reader.mk yC5_4.2.1 yC5_4.2.2)), upOf (sel [0]) (script_reader_call_up (T_script_reader.mk yC5_4.2.1 yC5_4.2.2) yC10_3)) })], .reg [], .wk [] [(1, .var (c_T_script_Step (T_script_Step.mk (IntKind.wrap .u8 y4.1) yC5_4.1 0 0 false yC10_3.1 0 ([] : List (Int)))))]])
      (a_ (a_ (r1_ (l_ 0 25 rfl tr)) (a_ (r1_ (f_ cC10_1 tr)) (a_ (r1_ (a_ (a_ (a_ (script_reader_call_ok (T_script_reader.mk yC5_4.2.1 yC5_4.2.2) yC10_3 eC10_2 (sel [0]) (sel_inj rfl rfl)) (a_ (LO.Le.refl (.var (c_T_script_reader (T_script_reader.mk yC5_4.2.1 yC5_4.2.2)))) tr)) tr) (r1_ (a_ (a_ (a_ (Eq.refl 18) (a_ (le_ 23 25 rfl) (Eq.refl 0))) tr) tr)))) (a_ (m_ 25 25 rfl (a_ (a_ (a_ (Eq.refl 25) (a_ (le_ 25 25 rfl) (Eq.refl 0))) tr) tr)) (a_ (a_ tr (a_ (LO.Sub.var (lel_set [.int .u8 (IntKind.wrap .u8 y4.1), .int .i64 yC5_4.1, .int .i64 0, .int .i64 0, .bool false, .int .u8 yC10_3.1.f_Call.f_Client, .int .u32 yC10_3.1.f_Call.f_Seq, .int .u8 yC10_3.1.f_Kind, .int .u8 yC10_3.1.f_Tx.f_Node, .int .u32 yC10_3.1.f_Tx.f_Boot, .int .u32 yC10_3.1.f_Tx.f_Num, .int .u8 yC10_3.1.f_Key.a0, .int .u8 yC10_3.1.f_Key.a1, .int .u8 yC10_3.1.f_Key.a2, .int .u8 yC10_3.1.f_Key.a3, .int .u8 yC10_3.1.f_Key.a4, .int .u8 yC10_3.1.f_Key.a5, .int .u8 yC10_3.1.f_Key.a6, .int .u8 yC10_3.1.f_Key.a7, .str yC10_3.1.f_Value, .int .u8 yC10_3.1.f_R, .int .u8 yC10_3.1.f_W, .ds 1 (yC10_3.1.f_Votes).length (rowF (cInt .u8) default yC10_3.1.f_Votes), .int .i64 0, .nilsl] 24 .nilsl (.ds 1 (([] : List (Int))).length (rowF (cInt .u8) default ([] : List (Int)))) rfl (le_nil_ds 1 (rowF (cInt .u8) default [])))) tr)) tr))))) (a_ (a_ tr (le_ 25 25 rfl)) tr)) (by kernel_rfl) rfl
  · skip
    rcases itb_some h with ⟨cC10_2, h⟩ | ⟨cC10_2, h⟩
    · skip
      obtain ⟨yC10_4, eC10_3, h⟩ := bind_some h
      exact run_to mixed hμ (L := [1, 2]) (n := 24) (s := [.reg [], .reg [(1, hF)], .reg [(1, hT)], .reg [(1, { call := some ((script_reader_keep_v yC10_4).ren (sel [0]), preOf (sel [0]) 0 (script_reader_keep_objs (T_script_reader.mk yC5_4.2.1 yC5_4.2.2)), upOf (sel [0]) (script_reader_keep_up (T_script_reader.mk yC5_4.2.1 yC5_4.2.2) yC10_4)) })]])
        (a_ (r1_ (l_ 0 25 rfl tr)) (a_ (r1_ (f_ cC10_1 tr)) (a_ (r1_ (f_ cC10_2 tr)) (a_ (r1_ (a_ (a_ (a_ (script_reader_keep_ok (T_script_reader.mk yC5_4.2.1 yC5_4.2.2) yC10_4 eC10_3 (sel [0]) (sel_inj rfl rfl)) (a_ (LO.Le.refl (.var (c_T_script_reader (T_script_reader.mk yC5_4.2.1 yC5_4.2.2)))) tr)) tr) (r1_ (a_ (a_ (a_ (Eq.refl 1) (a_ (le_ 4 25 rfl) (Eq.refl 0))) tr) tr)))) tr)))) (script_reader_step_c15_ok hμ x_r y4 yC5_4 yC10_4   r h) (by kernel_rfl) ⟨rfl, rfl, rfl, trivial⟩
    · skip
      rcases itb_some h with ⟨cC10_3, h⟩ | ⟨cC10_3, h⟩
      · skip
        obtain ⟨yC10_5, eC10_4, h⟩ := bind_some h
        exact run_to mixed hμ (L := [1, 2]) (n := 28) (s := [.reg [], .reg [(1, hF)], .reg [(1, hF)], .reg [(1, hT)], .reg [(1, { call := some ((script_reader_keep_v yC10_5).ren (sel [0]), preOf (sel [0]) 0 (script_reader_keep_objs (T_script_reader.mk yC5_4.2.1 yC5_4.2.2)), upOf (sel [0]) (script_reader_keep_up (T_script_reader.mk yC5_4.2.1 yC5_4.2.2) yC10_5)) })]])
          (a_ (r1_ (l_ 0 25 rfl tr)) (a_ (r1_ (f_ cC10_1 tr)) (a_ (r1_ (f_ cC10_2 tr)) (a_ (r1_ (f_ cC10_3 tr)) (a_ (r1_ (a_ (a_ (a_ (script_reader_keep_ok (T_script_reader.mk yC5_4.2.1 yC5_4.2.2) yC10_5 eC10_4 (sel [0]) (sel_inj rfl rfl)) (a_ (LO.Le.refl (.var (c_T_script_reader (T_script_reader.mk yC5_4.2.1 yC5_4.2.2)))) tr)) tr) (r1_ (a_ (a_ (a_ (Eq.refl 1) (a_ (le_ 4 25 rfl) (Eq.refl 0))) tr) tr)))) tr))))) (script_reader_step_c22_ok hμ x_r y4 yC5_4 yC10_5   r h) (by kernel_rfl) ⟨rfl, rfl, rfl, trivial⟩
      · skip
        rcases itb_some h with ⟨cC10_4, h⟩ | ⟨cC10_4, h⟩
        · skip
          obtain ⟨yC10_6, eC10_5, h⟩ := bind_some h
          exact run_to mixed hμ (L := [1, 2]) (n := 31) (s := [.reg [], .reg [(1, hF)], .reg [(1, hF)], .reg [(1, hF)], .reg [(1, hT)], .reg [(1, { call := some ((script_reader_num_v yC10_6).ren (sel [0]), preOf (sel [0]) 0 (script_reader_num_objs (T_script_reader.mk yC5_4.2.1 yC5_4.2.2)), upOf (sel [0]) (script_reader_num_up (T_script_reader.mk yC5_4.2.1 yC5_4.2.2) yC10_6)) })]])
            (a_ (r1_ (l_ 0 25 rfl tr)) (a_ (r1_ (f_ cC10_1 tr)) (a_ (r1_ (f_ cC10_2 tr)) (a_ (r1_ (f_ cC10_3 tr)) (a_ (r1_ (f_ cC10_4 tr)) (a_ (r1_ (a_ (a_ (a_ (script_reader_num_ok (T_script_reader.mk yC5_4.2.1 yC5_4.2.2) yC10_6 eC10_5 (sel [0]) (sel_inj rfl rfl)) (a_ (LO.Le.refl (.var (c_T_script_reader (T_script_reader.mk yC5_4.2.1 yC5_4.2.2)))) tr)) tr) (r1_ (a_ (a_ (a_ (Eq.refl 1) (a_ (le_ 24 25 rfl) (Eq.refl 0))) tr) tr)))) tr)))))) (script_reader_step_c21_ok hμ x_r y4 yC5_4 yC10_6   r h) (by kernel_rfl) ⟨rfl, rfl, rfl, trivial⟩
        · skip
          obtain rfl := Option.some.inj h
          exact run_ret mixed (L := []) (n := 35) (s := [.reg [], .reg [(1, hF)], .reg [(1, hF)], .reg [(1, hF)], .reg [(1, hF)], .reg [], .wk [] [(1, .var [.int .u8 (IntKind.wrap .u8 y4.1), .int .i64 yC5_4.1, .int .i64 0, .int .i64 0, .bool false, .int .u8 0, .int .u32 0, .int .u8 0, .int .u8 0, .int .u32 0, .int .u32 0, .int .u8 0, .int .u8 0, .int .u8 0, .int .u8 0, .int .u8 0, .int .u8 0, .int .u8 0, .int .u8 0, .str [], .int .u8 0, .int .u8 0, .ds 1 (([] : List (Int))).length (rowF (cInt .u8) default ([] : List (Int))), .int .i64 0, .nilsl])], .wk [] [(1, .var (c_T_script_Step (T_script_Step.mk (IntKind.wrap .u8 y4.1) yC5_4.1 0 0 false (T_node_Call.mk (T_sess_Call.mk 0 0) 0 (T_api_Tx.mk 0 0 0) (A8.mk 0 0 0 0 0 0 0 0) [] 0 0 ([] : List (Int))) 0 ([] : List (Int)))))]])
            (a_ (a_ (r1_ (l_ 0 25 rfl tr)) (a_ (r1_ (f_ cC10_1 tr)) (a_ (r1_ (f_ cC10_2 tr)) (a_ (r1_ (f_ cC10_3 tr)) (a_ (r1_ (f_ cC10_4 tr)) (a_ (m_ 25 25 rfl (a_ (a_ (a_ (Eq.refl 25) (a_ (le_ 25 25 rfl) (Eq.refl 0))) tr) tr)) (a_ (a_ tr (a_ (LO.Sub.var (lel_set [.int .u8 (IntKind.wrap .u8 y4.1), .int .i64 yC5_4.1, .int .i64 0, .int .i64 0, .bool false, .int .u8 0, .int .u32 0, .int .u8 0, .int .u8 0, .int .u32 0, .int .u32 0, .int .u8 0, .int .u8 0, .int .u8 0, .int .u8 0, .int .u8 0, .int .u8 0, .int .u8 0, .int .u8 0, .str [], .int .u8 0, .int .u8 0, .nilsl, .int .i64 0, .nilsl] 22 .nilsl (.ds 1 (([] : List (Int))).length (rowF (cInt .u8) default ([] : List (Int)))) rfl (le_nil_ds 1 (rowF (cInt .u8) default [])))) tr)) (a_ (a_ tr (a_ (LO.Sub.var (lel_set [.int .u8 (IntKind.wrap .u8 y4.1), .int .i64 yC5_4.1, .int .i64 0, .int .i64 0, .bool false, .int .u8 0, .int .u32 0, .int .u8 0, .int .u8 0, .int .u32 0, .int .u32 0, .int .u8 0, .int .u8 0, .int .u8 0, .int .u8 0, .int .u8 0, .int .u8 0, .int .u8 0, .int .u8 0, .str [], .int .u8 0, .int .u8 0, .ds 1 (([] : List (Int))).length (rowF (cInt .u8) default ([] : List (Int))), .int .i64 0, .nilsl] 24 .nilsl (.ds 1 (([] : List (Int))).length (rowF (cInt .u8) default ([] : List (Int)))) rfl (le_nil_ds 1 (rowF (cInt .u8) default [])))) tr)) tr)))))))) (a_ (a_ tr (le_ 25 25 rfl)) tr)) (by kernel_rfl) rfl

theorem script_reader_step_c5_ok {w0 : World} {W : Nat → Prop} {μ0 : Emb} (hμ : ∀ c p, μ0 c = some p → c < 1) (x_r : T_script_reader) (y4 : (Int) × (List (List UInt8)) × (Bool))   (r : (T_script_Step) × (List (List UInt8)) × (Bool)) (h : script_reader_step_c5 x_r y4   = some r) : kont Tryd.prog w0 W μ0 (FnPost Tryd.prog Tryd.f39 1 1 (script_reader_step_v r) (script_reader_step_up x_r r)) (kAtR (bodyOf Tryd.f39) 5) none (script_reader_step_T1000005 y4 ) (script_reader_step_H1000005 y4 ) := by
  unfold script_reader_step_c5 at h
  rcases itb_some h with ⟨cC5_1, h⟩ | ⟨cC5_1, h⟩
  · skip
    obtain ⟨yC5_3, eC5_2, h⟩ := bind_some h
    obtain rfl := Option.some.inj h
    exact run_ret mixed (L := []) (n := 22) (s := [.reg [(1, hT)], .reg [(1, { call := some ((script_reader_num_v yC5_3).ren (sel [0]), preOf (sel [0]) 0 (script_reader_num_objs (T_script_reader.mk y4.2.1 y4.2.2)), upOf (sel [0]) (script_reader_num_up (T_script_reader.mk y4.2.1 y4.2.2) yC5_3)) })], .reg [], .wk [] [(1, .var [.int .u8 (IntKind.wrap .u8 y4.1), .int .i64 0, .int .i64 yC5_3.1, .int .i64 0, .bool false, .int .u8 0, .int .u32 0, .int .u8 0, .int .u8 0, .int .u32 0, .int .u32 0, .int .u8 0, .int .u8 0, .int .u8 0, .int .u8 0, .int .u8 0, .int .u8 0, .int .u8 0, .int .u8 0, .str [], .int .u8 0, .int .u8 0, .ds 1 (([] : List (Int))).length (rowF (cInt .u8) default ([] : List (Int))), .int .i64 0, .nilsl])], .wk [] [(1, .var (c_T_script_Step (T_script_Step.mk (IntKind.wrap .u8 y4.1) 0 yC5_3.1 0 false (T_node_Call.mk (T_sess_Call.mk 0 0) 0 (T_api_Tx.mk 0 0 0) (A8.mk 0 0 0 0 0 0 0 0) [] 0 0 ([] : List (Int))) 0 ([] : List (Int)))))]])
      (a_ (a_ (r1_ (f_ cC5_1 tr)) (a_ (r1_ (a_ (a_ (a_ (script_reader_num_ok (T_script_reader.mk y4.2.1 y4.2.2) yC5_3 eC5_2 (sel [0]) (sel_inj rfl rfl)) (a_ (LO.Le.refl (.var (c_T_script_reader (T_script_reader.mk y4.2.1 y4.2.2)))) tr)) tr) (r1_ (a_ (a_ (a_ (Eq.refl 1) (a_ (le_ 3 25 rfl) (Eq.refl 0))) tr) tr)))) (a_ (m_ 25 25 rfl (a_ (a_ (a_ (Eq.refl 25) (a_ (le_ 25 25 rfl) (Eq.refl 0))) tr) tr)) (a_ (a_ tr (a_ (LO.Sub.var (lel_set [.int .u8 (IntKind.wrap .u8 y4.1), .int .i64 0, .int .i64 yC5_3.1, .int .i64 0, .bool false, .int .u8 0, .int .u32 0, .int .u8 0, .int .u8 0, .int .u32 0, .int .u32 0, .int .u8 0, .int .u8 0, .int .u8 0, .int .u8 0, .int .u8 0, .int .u8 0, .int .u8 0, .int .u8 0, .str [], .int .u8 0, .int .u8 0, .nilsl, .int .i64 0, .nilsl] 22 .nilsl (.ds 1 (([] : List (Int))).length (rowF (cInt .u8) default ([] : List (Int)))) rfl (le_nil_ds 1 (rowF (cInt .u8) default [])))) tr)) (a_ (a_ tr (a_ (LO.Sub.var (lel_set [.int .u8 (IntKind.wrap .u8 y4.1), .int .i64 0, .int .i64 yC5_3.1, .int .i64 0, .bool false, .int .u8 0, .int .u32 0, .int .u8 0, .int .u8 0, .int .u32 0, .int .u32 0, .int .u8 0, .int .u8 0, .int .u8 0, .int .u8 0, .int .u8 0, .int .u8 0, .int .u8 0, .int .u8 0, .str [], .int .u8 0, .int .u8 0, .ds 1 (([] : List (Int))).length (rowF (cInt .u8) default ([] : List (Int))), .int .i64 0, .nilsl] 24 .nilsl (.ds 1 (([] : List (Int))).length (rowF (cInt .u8) default ([] : List (Int)))) rfl (le_nil_ds 1 (rowF (cInt .u8) default [])))) tr)) tr))))) (a_ (a_ tr (le_ 25 25 rfl)) tr)) (by kernel_rfl) rfl
  · skip
    rcases itb_some h with ⟨cC5_2, h⟩ | ⟨cC5_2, h⟩
    · skip
      obtain ⟨yC5_4, eC5_3, h⟩ := bind_some h
      exact run_to mixed hμ (L := [1, 2]) (n := 19) (s := [.reg [(1, hF)], .reg [(1, hT)], .reg [(1, { call := some ((script_reader_num_v yC5_4).ren (sel [0]), preOf (sel [0]) 0 (script_reader_num_objs (T_script_reader.mk y4.2.1 y4.2.2)), upOf (sel [0]) (script_reader_num_up (T_script_reader.mk y4.2.1 y4.2.2) yC5_4)) })]])
        (a_ (r1_ (f_ cC5_1 tr)) (a_ (r1_ (f_ cC5_2 tr)) (a_ (r1_ (a_ (a_ (a_ (script_reader_num_ok (T_script_reader.mk y4.2.1 y4.2.2) yC5_4 eC5_3 (sel [0]) (sel_inj rfl rfl)) (a_ (LO.Le.refl (.var (c_T_script_reader (T_script_reader.mk y4.2.1 y4.2.2)))) tr)) tr) (r1_ (a_ (a_ (a_ (Eq.refl 1) (a_ (le_ 3 25 rfl) (Eq.refl 0))) tr) tr)))) tr))) (script_reader_step_c8_ok hμ x_r y4 yC5_4   r h) (by kernel_rfl) ⟨rfl, rfl, rfl, trivial⟩
    · skip
      obtain ⟨yC5_4, eC5_3, h⟩ := bind_some h
      exact run_to mixed hμ (L := [1, 2]) (n := 22) (s := [.reg [(1, hF)], .reg [(1, hF)], .reg [(1, { call := some ((script_reader_num_v yC5_4).ren (sel [0]), preOf (sel [0]) 0 (script_reader_num_objs (T_script_reader.mk y4.2.1 y4.2.2)), upOf (sel [0]) (script_reader_num_up (T_script_reader.mk y4.2.1 y4.2.2) yC5_4)) })]])
        (a_ (r1_ (f_ cC5_1 tr)) (a_ (r1_ (f_ cC5_2 tr)) (a_ (r1_ (a_ (a_ (a_ (script_reader_num_ok (T_script_reader.mk y4.2.1 y4.2.2) yC5_4 eC5_3 (sel [0]) (sel_inj rfl rfl)) (a_ (LO.Le.refl (.var (c_T_script_reader (T_script_reader.mk y4.2.1 y4.2.2)))) tr)) tr) (r1_ (a_ (a_ (a_ (Eq.refl 1) (a_ (le_ 2 25 rfl) (Eq.refl 0))) tr) tr)))) tr))) (script_reader_step_c10_ok hμ x_r y4 yC5_4   r h) (by kernel_rfl) ⟨rfl, rfl, rfl, trivial⟩

theorem script_reader_step_ok (x_r : T_script_reader) (r : (T_script_Step) × (List (List UInt8)) × (Bool)) (h : script_reader_step x_r = some r) : ∀ σ, Inj 1 σ → FnTri Tryd.prog 39 (renL σ [.ptr 0 0 0]) (preOf σ 0 (script_reader_step_objs x_r)) ((script_reader_step_v r).ren σ) (upOf σ (script_reader_step_up x_r r)) := by
  refine fn_of Tryd.func39 (by kernel_rfl) (by kernel_rfl) (by kernel_rfl) ⟨rfl, trivial⟩ (by kernel_rfl) ⟨rfl, trivial⟩ (by kernel_rfl) ?_
  intro w0 W μ0 hμ
  unfold script_reader_step at h
  obtain ⟨y2, e1, h⟩ := bind_some h
  obtain ⟨y4, e3, h⟩ := bind_some h
  rcases itb_some h with ⟨c5, h⟩ | ⟨c5, h⟩
  · skip
    obtain ⟨y7, e6, h⟩ := bind_some h
    obtain rfl := Option.some.inj h
    exact run_ret mixed (L := []) (n := 35) (s := [.reg [], .reg [(1, hC (script_verbs_v y2)), (2, { call := some ((script_reader_of_v y4).ren (sel [0]), preOf (sel [0]) 0 (script_reader_of_objs x_r y2), upOf (sel [0]) (script_reader_of_up x_r y2 y4)) })], .reg [], .reg [(1, hT)], .reg [(1, { call := some ((script_reader_num_v y7).ren (sel [0]), preOf (sel [0]) 0 (script_reader_num_objs (T_script_reader.mk y4.2.1 y4.2.2)), upOf (sel [0]) (script_reader_num_up (T_script_reader.mk y4.2.1 y4.2.2) y7)) })], .reg [], .wk [] [(1, .var [.int .u8 (IntKind.wrap .u8 y4.1), .int .i64 0, .int .i64 y7.1, .int .i64 0, .bool false, .int .u8 0, .int .u32 0, .int .u8 0, .int .u8 0, .int .u32 0, .int .u32 0, .int .u8 0, .int .u8 0, .int .u8 0, .int .u8 0, .int .u8 0, .int .u8 0, .int .u8 0, .int .u8 0, .str [], .int .u8 0, .int .u8 0, .ds 1 (([] : List (Int))).length (rowF (cInt .u8) default ([] : List (Int))), .int .i64 0, .nilsl])], .wk [] [(1, .var (c_T_script_Step (T_script_Step.mk (IntKind.wrap .u8 y4.1) 0 y7.1 0 false (T_node_Call.mk (T_sess_Call.mk 0 0) 0 (T_api_Tx.mk 0 0 0) (A8.mk 0 0 0 0 0 0 0 0) [] 0 0 ([] : List (Int))) 0 ([] : List (Int)))))]])
      (a_ (a_ (r1_ tr) (a_ (r1_ (c_ (script_verbs_tri  y2 e1) (a_ (a_ (a_ (script_reader_of_ok x_r y2 y4 e3 (sel [0]) (sel_inj rfl rfl)) (a_ (LO.Le.refl (.var (c_T_script_reader x_r))) tr)) tr) (r1_ (a_ (a_ (Eq.refl true) tr) (r1_ (a_ (a_ (a_ (Eq.refl 25) (a_ (le_ 25 25 rfl) (Eq.refl 0))) tr) tr))))))) (a_ (r1_ (l_ 0 25 rfl tr)) (a_ (r1_ (f_ c5 tr)) (a_ (r1_ (a_ (a_ (a_ (script_reader_num_ok (T_script_reader.mk y4.2.1 y4.2.2) y7 e6 (sel [0]) (sel_inj rfl rfl)) (a_ (LO.Le.refl (.var (c_T_script_reader (T_script_reader.mk y4.2.1 y4.2.2)))) tr)) tr) (r1_ (a_ (a_ (a_ (Eq.refl 1) (a_ (le_ 3 25 rfl) (Eq.refl 0))) tr) tr)))) (a_ (m_ 25 25 rfl (a_ (a_ (a_ (Eq.refl 25) (a_ (le_ 25 25 rfl) (Eq.refl 0))) tr) tr)) (a_ (a_ tr (a_ (LO.Sub.var (lel_set [.int .u8 (IntKind.wrap .u8 y4.1), .int .i64 0, .int .i64 y7.1, .int .i64 0, .bool false, .int .u8 0, .int .u32 0, .int .u8 0, .int .u8 0, .int .u32 0, .int .u32 0, .int .u8 0, .int .u8 0, .int .u8 0, .int .u8 0, .int .u8 0, .int .u8 0, .int .u8 0, .int .u8 0, .str [], .int .u8 0, .int .u8 0, .nilsl, .int .i64 0, .nilsl] 22 .nilsl (.ds 1 (([] : List (Int))).length (rowF (cInt .u8) default ([] : List (Int)))) rfl (le_nil_ds 1 (rowF (cInt .u8) default [])))) tr)) (a_ (a_ tr (a_ (LO.Sub.var (lel_set [.int .u8 (IntKind.wrap .u8 y4.1), .int .i64 0, .int .i64 y7.1, .int .i64 0, .bool false, .int .u8 0, .int .u32 0, .int .u8 0, .int .u8 0, .int .u32 0, .int .u32 0, .int .u8 0, .int .u8 0, .int .u8 0, .int .u8 0, .int .u8 0, .int .u8 0, .int .u8 0, .int .u8 0, .str [], .int .u8 0, .int .u8 0, .ds 1 (([] : List (Int))).length (rowF (cInt .u8) default ([] : List (Int))), .int .i64 0, .nilsl] 24 .nilsl (.ds 1 (([] : List (Int))).length (rowF (cInt .u8) default ([] : List (Int)))) rfl (le_nil_ds 1 (rowF (cInt .u8) default [])))) tr)) tr)))))))) (a_ (a_ tr (le_ 25 25 rfl)) tr)) (by kernel_rfl) rfl
  · skip
    rcases itb_some h with ⟨c6, h⟩ | ⟨c6, h⟩
    · skip
      exact run_to mixed hμ (L := [1, 2]) (n := 32) (s := [.reg [], .reg [(1, hC (script_verbs_v y2)), (2, { call := some ((script_reader_of_v y4).ren (sel [0]), preOf (sel [0]) 0 (script_reader_of_objs x_r y2), upOf (sel [0]) (script_reader_of_up x_r y2 y4)) })], .reg [], .reg [(1, hF)], .reg [(1, hT)]])
        (a_ (r1_ tr) (a_ (r1_ (c_ (script_verbs_tri  y2 e1) (a_ (a_ (a_ (script_reader_of_ok x_r y2 y4 e3 (sel [0]) (sel_inj rfl rfl)) (a_ (LO.Le.refl (.var (c_T_script_reader x_r))) tr)) tr) (r1_ (a_ (a_ (Eq.refl true) tr) (r1_ (a_ (a_ (a_ (Eq.refl 25) (a_ (le_ 25 25 rfl) (Eq.refl 0))) tr) tr))))))) (a_ (r1_ (l_ 0 25 rfl tr)) (a_ (r1_ (f_ c5 tr)) (a_ (r1_ (f_ c6 tr)) tr))))) (script_reader_step_c7_ok hμ x_r y4   r h) (by kernel_rfl) ⟨rfl, rfl, rfl, trivial⟩
    · skip
      exact run_to mixed hμ (L := [1, 2]) (n := 30) (s := [.reg [], .reg [(1, hC (script_verbs_v y2)), (2, { call := some ((script_reader_of_v y4).ren (sel [0]), preOf (sel [0]) 0 (script_reader_of_objs x_r y2), upOf (sel [0]) (script_reader_of_up x_r y2 y4)) })], .reg [], .reg [(1, hF)], .reg [(1, hF)]])
        (a_ (r1_ tr) (a_ (r1_ (c_ (script_verbs_tri  y2 e1) (a_ (a_ (a_ (script_reader_of_ok x_r y2 y4 e3 (sel [0]) (sel_inj rfl rfl)) (a_ (LO.Le.refl (.var (c_T_script_reader x_r))) tr)) tr) (r1_ (a_ (a_ (Eq.refl true) tr) (r1_ (a_ (a_ (a_ (Eq.refl 25) (a_ (le_ 25 25 rfl) (Eq.refl 0))) tr) tr))))))) (a_ (r1_ (l_ 0 25 rfl tr)) (a_ (r1_ (f_ c5 tr)) (a_ (r1_ (f_ c6 tr)) tr))))) (script_reader_step_c5_ok hμ x_r y4   r h) (by kernel_rfl) ⟨rfl, rfl, rfl, trivial⟩

/-- parrel/script.pure -/

def script_pure_v (r : (T_node_Call)) : LV := v_T_node_Call r

def script_pure_T1000011 (c : T_node_Call)  : List LV := [.any, .any, .ptr 0 0 0, .ptr 1 0 0, .any, .any, .any, .any, .any, .any, .any, .any, .any, .any, .any, .any, .any, .any, .any, .any, .any, .any, .any, .any, .any, .any, .any, .any, .any, .any, .any, .any, .any, .any, .any, .any, .any, .any, .any, .any]

def script_pure_H1000011 (c : T_node_Call)  : Heap := [some (.var [.int .u8 0, .int .u32 0, .int .u8 0, .int .u8 0, .int .u32 0, .int .u32 0, .int .u8 0, .int .u8 0, .int .u8 0, .int .u8 0, .int .u8 0, .int .u8 0, .int .u8 0, .int .u8 0, .str [], .int .u8 0, .int .u8 0, .nilsl]), some (.var (c_T_node_Call (T_node_Call.mk c.f_Call c.f_Kind c.f_Tx c.f_Key [] c.f_R c.f_W c.f_Votes)))]

def script_pure_T1000005 (c : T_node_Call)  : List LV := [.any, .ptr 0 0 0, .ptr 1 0 0, .ptr 2 0 0, .any, .any, .any, .any, .any, .any, .any, .any, .any, .any, .any, .any, .any, .any, .any, .any, .any, .any, .any, .any, .any, .any, .any, .any, .any, .any, .any, .any, .any, .any, .any, .any, .any, .any, .any, .any]

def script_pure_H1000005 (c : T_node_Call)  : Heap := [some (.var (c_T_node_Call c)), some (.var [.int .u8 0, .int .u32 0, .int .u8 0, .int .u8 0, .int .u32 0, .int .u32 0, .int .u8 0, .int .u8 0, .int .u8 0, .int .u8 0, .int .u8 0, .int .u8 0, .int .u8 0, .int .u8 0, .str [], .int .u8 0, .int .u8 0, .nilsl]), some (.var [.int .u8 c.f_Call.f_Client, .int .u32 c.f_Call.f_Seq, .int .u8 c.f_Kind, .int .u8 c.f_Tx.f_Node, .int .u32 c.f_Tx.f_Boot, .int .u32 c.f_Tx.f_Num, .int .u8 0, .int .u8 0, .int .u8 0, .int .u8 0, .int .u8 0, .int .u8 0, .int .u8 0, .int .u8 0, .str [], .int .u8 0, .int .u8 0, .nilsl])]

def script_pure_T1000006 (c : T_node_Call)  : List LV := [.any, .ptr 0 0 0, .ptr 1 0 0, .ptr 2 0 0, .any, .any, .any, .any, .any, .any, .any, .any, .any, .any, .any, .any, .any, .any, .any, .any, .any, .any, .any, .any, .any, .any, .any, .any, .any, .any, .any, .any, .any, .any, .any, .any, .any, .any, .any, .any]

def script_pure_H1000006 (c : T_node_Call)  : Heap := [some (.var (c_T_node_Call c)), some (.var [.int .u8 0, .int .u32 0, .int .u8 0, .int .u8 0, .int .u32 0, .int .u32 0, .int .u8 0, .int .u8 0, .int .u8 0, .int .u8 0, .int .u8 0, .int .u8 0, .int .u8 0, .int .u8 0, .str [], .int .u8 0, .int .u8 0, .nilsl]), some (.var [.int .u8 c.f_Call.f_Client, .int .u32 c.f_Call.f_Seq, .int .u8 c.f_Kind, .int .u8 c.f_Tx.f_Node, .int .u32 c.f_Tx.f_Boot, .int .u32 c.f_Tx.f_Num, .int .u8 0, .int .u8 0, .int .u8 0, .int .u8 0, .int .u8 0, .int .u8 0, .int .u8 0, .int .u8 0, .str [], .int .u8 0, .int .u8 0, .nilsl])]

def script_pure_T1001006 (c : T_node_Call)  : List LV := [.any, .ptr 0 0 0, .ptr 1 0 0, .ptr 2 0 0, .any, .any, .any, .any, .any, .any, .any, .any, .any, .any, .any, .any, .any, .any, .any, .any, .any, .any, .any, .any, .any, .any, .any, .any, .any, .any, .any, .any, .any, .any, .any, .any, .any, .any, .any, .any]

def script_pure_H1001006 (c : T_node_Call)  : Heap := [some (.var (c_T_node_Call c)), some (.var [.int .u8 0, .int .u32 0, .int .u8 0, .int .u8 0, .int .u32 0, .int .u32 0, .int .u8 0, .int .u8 0, .int .u8 0, .int .u8 0, .int .u8 0, .int .u8 0, .int .u8 0, .int .u8 0, .str [], .int .u8 0, .int .u8 0, .nilsl]), some (.var [.int .u8 c.f_Call.f_Client, .int .u32 c.f_Call.f_Seq, .int .u8 c.f_Kind, .int .u8 0, .int .u32 0, .int .u32 0, .int .u8 c.f_Key.a0, .int .u8 c.f_Key.a1, .int .u8 c.f_Key.a2, .int .u8 c.f_Key.a3, .int .u8 c.f_Key.a4, .int .u8 c.f_Key.a5, .int .u8 c.f_Key.a6, .int .u8 c.f_Key.a7, .str [], .int .u8 0, .int .u8 0, .nilsl])]

def script_pure_T1000007 (c : T_node_Call)  : List LV := [.any, .ptr 0 0 0, .ptr 1 0 0, .ptr 2 0 0, .any, .any, .any, .any, .any, .any, .any, .any, .any, .any, .any, .any, .any, .any, .any, .any, .any, .any, .int .u8 c.f_Kind, .any, .any, .any, .any, .any, .any, .any, .any, .any, .any, .any, .any, .any, .any, .any, .any, .any]

def script_pure_H1000007 (c : T_node_Call)  : Heap := [some (.var (c_T_node_Call c)), some (.var [.int .u8 0, .int .u32 0, .int .u8 0, .int .u8 0, .int .u32 0, .int .u32 0, .int .u8 0, .int .u8 0, .int .u8 0, .int .u8 0, .int .u8 0, .int .u8 0, .int .u8 0, .int .u8 0, .str [], .int .u8 0, .int .u8 0, .nilsl]), some (.var [.int .u8 c.f_Call.f_Client, .int .u32 c.f_Call.f_Seq, .int .u8 c.f_Kind, .int .u8 0, .int .u32 0, .int .u32 0, .int .u8 0, .int .u8 0, .int .u8 0, .int .u8 0, .int .u8 0, .int .u8 0, .int .u8 0, .int .u8 0, .str [], .int .u8 0, .int .u8 0, .nilsl])]

def script_pure_c11 (c : T_node_Call)   : Option ((T_node_Call)) :=
  some (T_node_Call.mk c.f_Call c.f_Kind c.f_Tx c.f_Key [] c.f_R c.f_W c.f_Votes)

def script_pure_c5 (c : T_node_Call)   : Option ((T_node_Call)) :=
  if ((c.f_Kind == 3) : Bool) then
    some (T_node_Call.mk c.f_Call c.f_Kind c.f_Tx c.f_Key c.f_Value 0 0 ([] : List (Int)))
  else
    if ((c.f_Kind == 6) : Bool) then
      script_pure_c11 c  
    else
      some (T_node_Call.mk c.f_Call c.f_Kind c.f_Tx c.f_Key [] 0 0 ([] : List (Int)))

def script_pure_c6 (c : T_node_Call)   : Option ((T_node_Call)) :=
  if ((c.f_Kind == 3) : Bool) then
    some (T_node_Call.mk c.f_Call c.f_Kind c.f_Tx (A8.mk 0 0 0 0 0 0 0 0) c.f_Value 0 0 ([] : List (Int)))
  else
    if ((c.f_Kind == 6) : Bool) then
      some (T_node_Call.mk c.f_Call c.f_Kind c.f_Tx (A8.mk 0 0 0 0 0 0 0 0) [] c.f_R c.f_W c.f_Votes)
    else
      some (T_node_Call.mk c.f_Call c.f_Kind c.f_Tx (A8.mk 0 0 0 0 0 0 0 0) [] 0 0 ([] : List (Int)))

def script_pure_c1006 (c : T_node_Call)   : Option ((T_node_Call)) :=
  if ((c.f_Kind == 3) : Bool) then
    some (T_node_Call.mk c.f_Call c.f_Kind (T_api_Tx.mk 0 0 0) c.f_Key c.f_Value 0 0 ([] : List (Int)))
  else
    if ((c.f_Kind == 6) : Bool) then
      some (T_node_Call.mk c.f_Call c.f_Kind (T_api_Tx.mk 0 0 0) c.f_Key [] c.f_R c.f_W c.f_Votes)
    else
      some (T_node_Call.mk c.f_Call c.f_Kind (T_api_Tx.mk 0 0 0) c.f_Key [] 0 0 ([] : List (Int)))

def script_pure_c7 (c : T_node_Call)   : Option ((T_node_Call)) :=
  if ((c.f_Kind == 3) : Bool) then
    some (T_node_Call.mk c.f_Call c.f_Kind (T_api_Tx.mk 0 0 0) (A8.mk 0 0 0 0 0 0 0 0) c.f_Value 0 0 ([] : List (Int)))
  else
    if ((c.f_Kind == 6) : Bool) then
      some (T_node_Call.mk c.f_Call c.f_Kind (T_api_Tx.mk 0 0 0) (A8.mk 0 0 0 0 0 0 0 0) [] c.f_R c.f_W c.f_Votes)
    else
      some (T_node_Call.mk c.f_Call c.f_Kind (T_api_Tx.mk 0 0 0) (A8.mk 0 0 0 0 0 0 0 0) [] 0 0 ([] : List (Int)))

def script_pure (c : T_node_Call) : Option ((T_node_Call)) :=
  if ((decide (1 < c.f_Kind)) : Bool) then
    (script_hasKey c.f_Kind).bind fun y3 =>
    if (y3 : Bool) then
      script_pure_c5 c  
    else
      script_pure_c6 c  
  else
    (script_hasKey c.f_Kind).bind fun y3 =>
    if (y3 : Bool) then
      script_pure_c1006 c  
    else
      script_pure_c7 c  

theorem script_pure_c11_ok {w0 : World} {W : Nat → Prop} {μ0 : Emb} (hμ : ∀ c p, μ0 c = some p → c < 0) (c : T_node_Call)   (r : (T_node_Call)) (h : script_pure_c11 c   = some r) : kont Tryd.prog w0 W μ0 (FnPost Tryd.prog Tryd.f52 0 0 (script_pure_v r) []) (kAtR (bodyOf Tryd.f52) 11) none (script_pure_T1000011 c ) (script_pure_H1000011 c ) := by
  unfold script_pure_c11 at h
  obtain rfl := Option.some.inj h
  exact run_ret mixed (L := []) (n := 11) (s := [.reg []])
    (a_ (a_ (m_ 18 18 rfl (a_ (a_ (a_ (Eq.refl 18) (a_ (le_ 18 18 rfl) (Eq.refl 0))) tr) tr)) tr) (a_ (a_ tr (le_ 18 18 rfl)) tr)) (by kernel_rfl) rfl

theorem script_pure_c5_ok {w0 : World} {W : Nat → Prop} {μ0 : Emb} (hμ : ∀ c p, μ0 c = some p → c < 0) (c : T_node_Call)   (r : (T_node_Call)) (h : script_pure_c5 c   = some r) : kont Tryd.prog w0 W μ0 (FnPost Tryd.prog Tryd.f52 0 0 (script_pure_v r) []) (kAtR (bodyOf Tryd.f52) 5) none (script_pure_T1000005 c ) (script_pure_H1000005 c ) := by
  unfold script_pure_c5 at h
  rcases itb_some h with ⟨cC5_1, h⟩ | ⟨cC5_1, h⟩
  · skip
    obtain rfl := Option.some.inj h
    exact run_ret mixed (L := []) (n := 27) (s := [.reg [], .reg [], .reg [(1, hT)], .reg [], .reg [], .wk [] [(1, .var (c_T_node_Call (T_node_Call.mk c.f_Call c.f_Kind c.f_Tx c.f_Key c.f_Value 0 0 ([] : List (Int)))))]])
      (a_ (a_ (r1_ (m_ 14 18 rfl (r1_ (a_ (a_ (a_ (Eq.refl 8) (a_ (le_ 14 18 rfl) (Eq.refl 0))) tr) tr)))) (a_ (r1_ (l_ 2 18 rfl tr)) (a_ (r1_ (f_ cC5_1 tr)) (a_ (r1_ (l_ 14 18 rfl (r1_ (a_ (a_ (a_ (Eq.refl 1) (a_ (le_ 15 18 rfl) (Eq.refl 0))) tr) tr)))) (a_ (m_ 18 18 rfl (a_ (a_ (a_ (Eq.refl 18) (a_ (le_ 18 18 rfl) (Eq.refl 0))) tr) tr)) (a_ (a_ tr (a_ (LO.Sub.var (lel_set [.int .u8 c.f_Call.f_Client, .int .u32 c.f_Call.f_Seq, .int .u8 c.f_Kind, .int .u8 c.f_Tx.f_Node, .int .u32 c.f_Tx.f_Boot, .int .u32 c.f_Tx.f_Num, .int .u8 c.f_Key.a0, .int .u8 c.f_Key.a1, .int .u8 c.f_Key.a2, .int .u8 c.f_Key.a3, .int .u8 c.f_Key.a4, .int .u8 c.f_Key.a5, .int .u8 c.f_Key.a6, .int .u8 c.f_Key.a7, .str c.f_Value, .int .u8 0, .int .u8 0, .nilsl] 17 .nilsl (.ds 1 (([] : List (Int))).length (rowF (cInt .u8) default ([] : List (Int)))) rfl (le_nil_ds 1 (rowF (cInt .u8) default [])))) tr)) tr)))))) (a_ (a_ tr (le_ 18 18 rfl)) tr)) (by kernel_rfl) rfl
  · skip
    rcases itb_some h with ⟨cC5_2, h⟩ | ⟨cC5_2, h⟩
    · skip
      exact run_to mixed hμ (L := [1, 2]) (n := 28) (s := [.reg [], .reg [], .reg [(1, hF)], .reg [(1, hT)], .reg []])
        (a_ (r1_ (m_ 14 18 rfl (r1_ (a_ (a_ (a_ (Eq.refl 8) (a_ (le_ 14 18 rfl) (Eq.refl 0))) tr) tr)))) (a_ (r1_ (l_ 2 18 rfl tr)) (a_ (r1_ (f_ cC5_1 tr)) (a_ (r1_ (f_ cC5_2 tr)) (a_ (r1_ (l_ 15 18 rfl (r1_ (l_ 16 18 rfl (r1_ (l_ 17 18 rfl (r1_ (a_ (a_ (a_ (Eq.refl 1) (a_ (le_ 16 18 rfl) (Eq.refl 0))) tr) (r1_ (a_ (a_ (a_ (Eq.refl 1) (a_ (le_ 17 18 rfl) (Eq.refl 0))) tr) (r1_ (a_ (a_ (a_ (Eq.refl 1) (a_ (le_ 18 18 rfl) (Eq.refl 0))) tr) tr)))))))))))) tr))))) (script_pure_c11_ok hμ c   r h) (by kernel_rfl) ⟨rfl, rfl, trivial⟩
    · skip
      obtain rfl := Option.some.inj h
      exact run_ret mixed (L := []) (n := 30) (s := [.reg [], .reg [], .reg [(1, hF)], .reg [(1, hF)], .reg [], .wk [] [(1, .var (c_T_node_Call (T_node_Call.mk c.f_Call c.f_Kind c.f_Tx c.f_Key [] 0 0 ([] : List (Int)))))]])
        (a_ (a_ (r1_ (m_ 14 18 rfl (r1_ (a_ (a_ (a_ (Eq.refl 8) (a_ (le_ 14 18 rfl) (Eq.refl 0))) tr) tr)))) (a_ (r1_ (l_ 2 18 rfl tr)) (a_ (r1_ (f_ cC5_1 tr)) (a_ (r1_ (f_ cC5_2 tr)) (a_ (m_ 18 18 rfl (a_ (a_ (a_ (Eq.refl 18) (a_ (le_ 18 18 rfl) (Eq.refl 0))) tr) tr)) (a_ (a_ tr (a_ (LO.Sub.var (lel_set [.int .u8 c.f_Call.f_Client, .int .u32 c.f_Call.f_Seq, .int .u8 c.f_Kind, .int .u8 c.f_Tx.f_Node, .int .u32 c.f_Tx.f_Boot, .int .u32 c.f_Tx.f_Num, .int .u8 c.f_Key.a0, .int .u8 c.f_Key.a1, .int .u8 c.f_Key.a2, .int .u8 c.f_Key.a3, .int .u8 c.f_Key.a4, .int .u8 c.f_Key.a5, .int .u8 c.f_Key.a6, .int .u8 c.f_Key.a7, .str [], .int .u8 0, .int .u8 0, .nilsl] 17 .nilsl (.ds 1 (([] : List (Int))).length (rowF (cInt .u8) default ([] : List (Int)))) rfl (le_nil_ds 1 (rowF (cInt .u8) default [])))) tr)) tr)))))) (a_ (a_ tr (le_ 18 18 rfl)) tr)) (by kernel_rfl) rfl

theorem script_pure_c6_ok {w0 : World} {W : Nat → Prop} {μ0 : Emb} (hμ : ∀ c p, μ0 c = some p → c < 0) (c : T_node_Call)   (r : (T_node_Call)) (h : script_pure_c6 c   = some r) : kont Tryd.prog w0 W μ0 (FnPost Tryd.prog Tryd.f52 0 0 (script_pure_v r) []) (kAtR (bodyOf Tryd.f52) 6) none (script_pure_T1000006 c ) (script_pure_H1000006 c ) := by
  unfold script_pure_c6 at h
  rcases itb_some h with ⟨cC6_1, h⟩ | ⟨cC6_1, h⟩
  · skip
    obtain rfl := Option.some.inj h
    exact run_ret mixed (L := []) (n := 23) (s := [.reg [], .reg [(1, hT)], .reg [], .reg [], .wk [] [(1, .var (c_T_node_Call (T_node_Call.mk c.f_Call c.f_Kind c.f_Tx (A8.mk 0 0 0 0 0 0 0 0) c.f_Value 0 0 ([] : List (Int)))))]])
      (a_ (a_ (r1_ (l_ 2 18 rfl tr)) (a_ (r1_ (f_ cC6_1 tr)) (a_ (r1_ (l_ 14 18 rfl (r1_ (a_ (a_ (a_ (Eq.refl 1) (a_ (le_ 15 18 rfl) (Eq.refl 0))) tr) tr)))) (a_ (m_ 18 18 rfl (a_ (a_ (a_ (Eq.refl 18) (a_ (le_ 18 18 rfl) (Eq.refl 0))) tr) tr)) (a_ (a_ tr (a_ (LO.Sub.var (lel_set [.int .u8 c.f_Call.f_Client, .int .u32 c.f_Call.f_Seq, .int .u8 c.f_Kind, .int .u8 c.f_Tx.f_Node, .int .u32 c.f_Tx.f_Boot, .int .u32 c.f_Tx.f_Num, .int .u8 0, .int .u8 0, .int .u8 0, .int .u8 0, .int .u8 0, .int .u8 0, .int .u8 0, .int .u8 0, .str c.f_Value, .int .u8 0, .int .u8 0, .nilsl] 17 .nilsl (.ds 1 (([] : List (Int))).length (rowF (cInt .u8) default ([] : List (Int)))) rfl (le_nil_ds 1 (rowF (cInt .u8) default [])))) tr)) tr))))) (a_ (a_ tr (le_ 18 18 rfl)) tr)) (by kernel_rfl) rfl
  · skip
    rcases itb_some h with ⟨cC6_2, h⟩ | ⟨cC6_2, h⟩
    · skip
      obtain rfl := Option.some.inj h
      exact run_ret mixed (L := []) (n := 26) (s := [.reg [], .reg [(1, hF)], .reg [(1, hT)], .reg [], .reg []])
        (a_ (a_ (r1_ (l_ 2 18 rfl tr)) (a_ (r1_ (f_ cC6_1 tr)) (a_ (r1_ (f_ cC6_2 tr)) (a_ (r1_ (l_ 15 18 rfl (r1_ (l_ 16 18 rfl (r1_ (l_ 17 18 rfl (r1_ (a_ (a_ (a_ (Eq.refl 1) (a_ (le_ 16 18 rfl) (Eq.refl 0))) tr) (r1_ (a_ (a_ (a_ (Eq.refl 1) (a_ (le_ 17 18 rfl) (Eq.refl 0))) tr) (r1_ (a_ (a_ (a_ (Eq.refl 1) (a_ (le_ 18 18 rfl) (Eq.refl 0))) tr) tr)))))))))))) (a_ (m_ 18 18 rfl (a_ (a_ (a_ (Eq.refl 18) (a_ (le_ 18 18 rfl) (Eq.refl 0))) tr) tr)) tr))))) (a_ (a_ tr (le_ 18 18 rfl)) tr)) (by kernel_rfl) rfl
    · skip
      obtain rfl := Option.some.inj h
      exact run_ret mixed (L := []) (n := 26) (s := [.reg [], .reg [(1, hF)], .reg [(1, hF)], .reg [], .wk [] [(1, .var (c_T_node_Call (T_node_Call.mk c.f_Call c.f_Kind c.f_Tx (A8.mk 0 0 0 0 0 0 0 0) [] 0 0 ([] : List (Int)))))]])
        (a_ (a_ (r1_ (l_ 2 18 rfl tr)) (a_ (r1_ (f_ cC6_1 tr)) (a_ (r1_ (f_ cC6_2 tr)) (a_ (m_ 18 18 rfl (a_ (a_ (a_ (Eq.refl 18) (a_ (le_ 18 18 rfl) (Eq.refl 0))) tr) tr)) (a_ (a_ tr (a_ (LO.Sub.var (lel_set [.int .u8 c.f_Call.f_Client, .int .u32 c.f_Call.f_Seq, .int .u8 c.f_Kind, .int .u8 c.f_Tx.f_Node, .int .u32 c.f_Tx.f_Boot, .int .u32 c.f_Tx.f_Num, .int .u8 0, .int .u8 0, .int .u8 0, .int .u8 0, .int .u8 0, .int .u8 0, .int .u8 0, .int .u8 0, .str [], .int .u8 0, .int .u8 0, .nilsl] 17 .nilsl (.ds 1 (([] : List (Int))).length (rowF (cInt .u8) default ([] : List (Int)))) rfl (le_nil_ds 1 (rowF (cInt .u8) default [])))) tr)) tr))))) (a_ (a_ tr (le_ 18 18 rfl)) tr)) (by kernel_rfl) rfl

theorem script_pure_c1006_ok {w0 : World} {W : Nat → Prop} {μ0 : Emb} (hμ : ∀ c p, μ0 c = some p → c < 0) (c : T_node_Call)   (r : (T_node_Call)) (h : script_pure_c1006 c   = some r) : kont Tryd.prog w0 W μ0 (FnPost Tryd.prog Tryd.f52 0 0 (script_pure_v r) []) (kAtR (bodyOf Tryd.f52) 6) none (script_pure_T1001006 c ) (script_pure_H1001006 c ) := by
  unfold script_pure_c1006 at h
  rcases itb_some h with ⟨cC1006_1, h⟩ | ⟨cC1006_1, h⟩
  · skip
    obtain rfl := Option.some.inj h
    exact run_ret mixed (L := []) (n := 23) (s := [.reg [], .reg [(1, hT)], .reg [], .reg [], .wk [] [(1, .var (c_T_node_Call (T_node_Call.mk c.f_Call c.f_Kind (T_api_Tx.mk 0 0 0) c.f_Key c.f_Value 0 0 ([] : List (Int)))))]])
      (a_ (a_ (r1_ (l_ 2 18 rfl tr)) (a_ (r1_ (f_ cC1006_1 tr)) (a_ (r1_ (l_ 14 18 rfl (r1_ (a_ (a_ (a_ (Eq.refl 1) (a_ (le_ 15 18 rfl) (Eq.refl 0))) tr) tr)))) (a_ (m_ 18 18 rfl (a_ (a_ (a_ (Eq.refl 18) (a_ (le_ 18 18 rfl) (Eq.refl 0))) tr) tr)) (a_ (a_ tr (a_ (LO.Sub.var (lel_set [.int .u8 c.f_Call.f_Client, .int .u32 c.f_Call.f_Seq, .int .u8 c.f_Kind, .int .u8 0, .int .u32 0, .int .u32 0, .int .u8 c.f_Key.a0, .int .u8 c.f_Key.a1, .int .u8 c.f_Key.a2, .int .u8 c.f_Key.a3, .int .u8 c.f_Key.a4, .int .u8 c.f_Key.a5, .int .u8 c.f_Key.a6, .int .u8 c.f_Key.a7, .str c.f_Value, .int .u8 0, .int .u8 0, .nilsl] 17 .nilsl (.ds 1 (([] : List (Int))).length (rowF (cInt .u8) default ([] : List (Int)))) rfl (le_nil_ds 1 (rowF (cInt .u8) default [])))) tr)) tr))))) (a_ (a_ tr (le_ 18 18 rfl)) tr)) (by kernel_rfl) rfl
  · skip
    rcases itb_some h with ⟨cC1006_2, h⟩ | ⟨cC1006_2, h⟩
    · skip
      obtain rfl := Option.some.inj h
      exact run_ret mixed (L := []) (n := 26) (s := [.reg [], .reg [(1, hF)], .reg [(1, hT)], .reg [], .reg []])
        (a_ (a_ (r1_ (l_ 2 18 rfl tr)) (a_ (r1_ (f_ cC1006_1 tr)) (a_ (r1_ (f_ cC1006_2 tr)) (a_ (r1_ (l_ 15 18 rfl (r1_ (l_ 16 18 rfl (r1_ (l_ 17 18 rfl (r1_ (a_ (a_ (a_ (Eq.refl 1) (a_ (le_ 16 18 rfl) (Eq.refl 0))) tr) (r1_ (a_ (a_ (a_ (Eq.refl 1) (a_ (le_ 17 18 rfl) (Eq.refl 0))) tr) (r1_ (a_ (a_ (a_ (Eq.refl 1) (a_ (le_ 18 18 rfl) (Eq.refl 0))) tr) tr)))))))))))) (a_ (m_ 18 18 rfl (a_ (a_ (a_ (Eq.refl 18) (a_ (le_ 18 18 rfl) (Eq.refl 0))) tr) tr)) tr))))) (a_ (a_ tr (le_ 18 18 rfl)) tr)) (by kernel_rfl) rfl
    · skip
      obtain rfl := Option.some.inj h
      exact run_ret mixed (L := []) (n := 26) (s := [.reg [], .reg [(1, hF)], .reg [(1, hF)], .reg [], .wk [] [(1, .var (c_T_node_Call (T_node_Call.mk c.f_Call c.f_Kind (T_api_Tx.mk 0 0 0) c.f_Key [] 0 0 ([] : List (Int)))))]])
        (a_ (a_ (r1_ (l_ 2 18 rfl tr)) (a_ (r1_ (f_ cC1006_1 tr)) (a_ (r1_ (f_ cC1006_2 tr)) (a_ (m_ 18 18 rfl (a_ (a_ (a_ (Eq.refl 18) (a_ (le_ 18 18 rfl) (Eq.refl 0))) tr) tr)) (a_ (a_ tr (a_ (LO.Sub.var (lel_set [.int .u8 c.f_Call.f_Client, .int .u32 c.f_Call.f_Seq, .int .u8 c.f_Kind, .int .u8 0, .int .u32 0, .int .u32 0, .int .u8 c.f_Key.a0, .int .u8 c.f_Key.a1, .int .u8 c.f_Key.a2, .int .u8 c.f_Key.a3, .int .u8 c.f_Key.a4, .int .u8 c.f_Key.a5, .int .u8 c.f_Key.a6, .int .u8 c.f_Key.a7, .str [], .int .u8 0, .int .u8 0, .nilsl] 17 .nilsl (.ds 1 (([] : List (Int))).length (rowF (cInt .u8) default ([] : List (Int)))) rfl (le_nil_ds 1 (rowF (cInt .u8) default [])))) tr)) tr))))) (a_ (a_ tr (le_ 18 18 rfl)) tr)) (by kernel_rfl) rfl

theorem script_pure_c7_ok {w0 : World} {W : Nat → Prop} {μ0 : Emb} (hμ : ∀ c p, μ0 c = some p → c < 0) (c : T_node_Call)   (r : (T_node_Call)) (h : script_pure_c7 c   = some r) : kont Tryd.prog w0 W μ0 (FnPost Tryd.prog Tryd.f52 0 0 (script_pure_v r) []) (kAtR (bodyOf Tryd.f52) 7) none (script_pure_T1000007 c ) (script_pure_H1000007 c ) := by
  unfold script_pure_c7 at h
  rcases itb_some h with ⟨cC7_1, h⟩ | ⟨cC7_1, h⟩
  · skip
    obtain rfl := Option.some.inj h
    exact run_ret mixed (L := []) (n := 19) (s := [.reg [(1, hT)], .reg [], .reg [], .wk [] [(1, .var (c_T_node_Call (T_node_Call.mk c.f_Call c.f_Kind (T_api_Tx.mk 0 0 0) (A8.mk 0 0 0 0 0 0 0 0) c.f_Value 0 0 ([] : List (Int)))))]])
      (a_ (a_ (r1_ (f_ cC7_1 tr)) (a_ (r1_ (l_ 14 18 rfl (r1_ (a_ (a_ (a_ (Eq.refl 1) (a_ (le_ 15 18 rfl) (Eq.refl 0))) tr) tr)))) (a_ (m_ 18 18 rfl (a_ (a_ (a_ (Eq.refl 18) (a_ (le_ 18 18 rfl) (Eq.refl 0))) tr) tr)) (a_ (a_ tr (a_ (LO.Sub.var (lel_set [.int .u8 c.f_Call.f_Client, .int .u32 c.f_Call.f_Seq, .int .u8 c.f_Kind, .int .u8 0, .int .u32 0, .int .u32 0, .int .u8 0, .int .u8 0, .int .u8 0, .int .u8 0, .int .u8 0, .int .u8 0, .int .u8 0, .int .u8 0, .str c.f_Value, .int .u8 0, .int .u8 0, .nilsl] 17 .nilsl (.ds 1 (([] : List (Int))).length (rowF (cInt .u8) default ([] : List (Int)))) rfl (le_nil_ds 1 (rowF (cInt .u8) default [])))) tr)) tr)))) (a_ (a_ tr (le_ 18 18 rfl)) tr)) (by kernel_rfl) rfl
  · skip
    rcases itb_some h with ⟨cC7_2, h⟩ | ⟨cC7_2, h⟩
    · skip
      obtain rfl := Option.some.inj h
      exact run_ret mixed (L := []) (n := 22) (s := [.reg [(1, hF)], .reg [(1, hT)], .reg [], .reg []])
        (a_ (a_ (r1_ (f_ cC7_1 tr)) (a_ (r1_ (f_ cC7_2 tr)) (a_ (r1_ (l_ 15 18 rfl (r1_ (l_ 16 18 rfl (r1_ (l_ 17 18 rfl (r1_ (a_ (a_ (a_ (Eq.refl 1) (a_ (le_ 16 18 rfl) (Eq.refl 0))) tr) (r1_ (a_ (a_ (a_ (Eq.refl 1) (a_ (le_ 17 18 rfl) (Eq.refl 0))) tr) (r1_ (a_ (a_ (a_ (Eq.refl 1) (a_ (le_ 18 18 rfl) (Eq.refl 0))) tr) tr)))))))))))) (a_ (m_ 18 18 rfl (a_ (a_ (a_ (Eq.refl 18) (a_ (le_ 18 18 rfl) (Eq.refl 0))) tr) tr)) tr)))) (a_ (a_ tr (le_ 18 18 rfl)) tr)) (by kernel_rfl) rfl
    · skip
      obtain rfl := Option.some.inj h
      exact run_ret mixed (L := []) (n := 22) (s := [.reg [(1, hF)], .reg [(1, hF)], .reg [], .wk [] [(1, .var (c_T_node_Call (T_node_Call.mk c.f_Call c.f_Kind (T_api_Tx.mk 0 0 0) (A8.mk 0 0 0 0 0 0 0 0) [] 0 0 ([] : List (Int)))))]])
        (a_ (a_ (r1_ (f_ cC7_1 tr)) (a_ (r1_ (f_ cC7_2 tr)) (a_ (m_ 18 18 rfl (a_ (a_ (a_ (Eq.refl 18) (a_ (le_ 18 18 rfl) (Eq.refl 0))) tr) tr)) (a_ (a_ tr (a_ (LO.Sub.var (lel_set [.int .u8 c.f_Call.f_Client, .int .u32 c.f_Call.f_Seq, .int .u8 c.f_Kind, .int .u8 0, .int .u32 0, .int .u32 0, .int .u8 0, .int .u8 0, .int .u8 0, .int .u8 0, .int .u8 0, .int .u8 0, .int .u8 0, .int .u8 0, .str [], .int .u8 0, .int .u8 0, .nilsl] 17 .nilsl (.ds 1 (([] : List (Int))).length (rowF (cInt .u8) default ([] : List (Int)))) rfl (le_nil_ds 1 (rowF (cInt .u8) default [])))) tr)) tr)))) (a_ (a_ tr (le_ 18 18 rfl)) tr)) (by kernel_rfl) rfl

theorem script_pure_ok (c : T_node_Call) (r : (T_node_Call)) (h : script_pure c = some r) : ∀ σ, Inj 0 σ → FnTri Tryd.prog 52 (renL σ [v_T_node_Call c]) (preOf σ 0 []) ((script_pure_v r).ren σ) (upOf σ []) := by
  refine fn_of Tryd.func52 (by kernel_rfl) (by kernel_rfl) (by kernel_rfl) trivial (by kernel_rfl) trivial (by kernel_rfl) ?_
  intro w0 W μ0 hμ
  unfold script_pure at h
  rcases itb_some h with ⟨c1, h⟩ | ⟨c1, h⟩
  · skip
    obtain ⟨y3, e2, h⟩ := bind_some h
    rcases itb_some h with ⟨c4, h⟩ | ⟨c4, h⟩
    · skip
      exact run_to mixed hμ (L := [0, 1, 2]) (n := 27) (s := [.reg [], .reg [], .reg [(2, hT)], .reg [], .reg [(2, { call := some (script_hasKey_v y3, [], []), v := some (.bool true) })]])
        (a_ (r2_ tr) (a_ (r1_ (m_ 2 18 rfl (r1_ (l_ 2 18 rfl (a_ (a_ (Eq.refl true) tr) (r1_ (a_ (a_ (a_ (Eq.refl 18) (a_ (le_ 18 18 rfl) (Eq.refl 0))) tr) tr))))))) (a_ (r1_ (l_ 2 18 rfl (f_ c1 tr))) (a_ (r1_ (m_ 6 18 rfl (r1_ (a_ (a_ (a_ (Eq.refl 3) (a_ (le_ 6 18 rfl) (Eq.refl 0))) tr) tr)))) (a_ (r1_ (l_ 2 18 rfl (a_ (a_ (a_ (script_hasKey_tri c.f_Kind y3 e2) tr) (a_ (leB c4) tr)) tr))) tr))))) (script_pure_c5_ok hμ c   r h) (by kernel_rfl) ⟨rfl, rfl, rfl, trivial⟩
    · skip
      exact run_to mixed hμ (L := [0, 1, 2]) (n := 30) (s := [.reg [], .reg [], .reg [(2, hT)], .reg [], .reg [(2, { call := some (script_hasKey_v y3, [], []), v := some (.bool false) })]])
        (a_ (r2_ tr) (a_ (r1_ (m_ 2 18 rfl (r1_ (l_ 2 18 rfl (a_ (a_ (Eq.refl true) tr) (r1_ (a_ (a_ (a_ (Eq.refl 18) (a_ (le_ 18 18 rfl) (Eq.refl 0))) tr) tr))))))) (a_ (r1_ (l_ 2 18 rfl (f_ c1 tr))) (a_ (r1_ (m_ 6 18 rfl (r1_ (a_ (a_ (a_ (Eq.refl 3) (a_ (le_ 6 18 rfl) (Eq.refl 0))) tr) tr)))) (a_ (r1_ (l_ 2 18 rfl (a_ (a_ (a_ (script_hasKey_tri c.f_Kind y3 e2) tr) (a_ (leB c4) tr)) tr))) tr))))) (script_pure_c6_ok hμ c   r h) (by kernel_rfl) ⟨rfl, rfl, rfl, trivial⟩
  · skip
    obtain ⟨y3, e2, h⟩ := bind_some h
    rcases itb_some h with ⟨c4, h⟩ | ⟨c4, h⟩
    · skip
      exact run_to mixed hμ (L := [0, 1, 2]) (n := 30) (s := [.reg [], .reg [], .reg [(2, hF)], .reg [(2, { call := some (script_hasKey_v y3, [], []), v := some (.bool true) })], .reg []])
        (a_ (r2_ tr) (a_ (r1_ (m_ 2 18 rfl (r1_ (l_ 2 18 rfl (a_ (a_ (Eq.refl true) tr) (r1_ (a_ (a_ (a_ (Eq.refl 18) (a_ (le_ 18 18 rfl) (Eq.refl 0))) tr) tr))))))) (a_ (r1_ (l_ 2 18 rfl (f_ c1 tr))) (a_ (r1_ (l_ 2 18 rfl (a_ (a_ (a_ (script_hasKey_tri c.f_Kind y3 e2) tr) (a_ (leB c4) tr)) tr))) (a_ (r1_ (m_ 14 18 rfl (r1_ (a_ (a_ (a_ (Eq.refl 8) (a_ (le_ 14 18 rfl) (Eq.refl 0))) tr) tr)))) tr))))) (script_pure_c1006_ok hμ c   r h) (by kernel_rfl) ⟨rfl, rfl, rfl, trivial⟩
    · skip
      exact run_to mixed hμ (L := [0, 1, 2]) (n := 33) (s := [.reg [], .reg [], .reg [(2, hF)], .reg [(2, { call := some (script_hasKey_v y3, [], []), v := some (.bool false) })], .reg []])
        (a_ (r2_ tr) (a_ (r1_ (m_ 2 18 rfl (r1_ (l_ 2 18 rfl (a_ (a_ (Eq.refl true) tr) (r1_ (a_ (a_ (a_ (Eq.refl 18) (a_ (le_ 18 18 rfl) (Eq.refl 0))) tr) tr))))))) (a_ (r1_ (l_ 2 18 rfl (f_ c1 tr))) (a_ (r1_ (l_ 2 18 rfl (a_ (a_ (a_ (script_hasKey_tri c.f_Kind y3 e2) tr) (a_ (leB c4) tr)) tr))) (a_ (r1_ (l_ 2 18 rfl tr)) tr))))) (script_pure_c7_ok hμ c   r h) (by kernel_rfl) ⟨rfl, rfl, rfl, trivial⟩

theorem script_pure_tri (c : T_node_Call) (r : (T_node_Call)) (h : script_pure c = some r) : FnTri Tryd.prog 52 [v_T_node_Call c] [] (script_pure_v r) [] := FnTri.none (script_pure_ok c r h) rfl rfl

/-- parrel/script.clean -/

def script_clean_v (r : (T_script_Step)) : LV := v_T_script_Step r

def script_clean_T1000011 (s : T_script_Step)  : List LV := [.any, .ptr 0 0 0, .ptr 1 0 0, .ptr 2 0 0, .any, .any, .any, .any, .any, .any, .any, .any, .any, .any, .any, .any, .any, .any, .any, .any, .any, .any, .int .u8 s.f_Kind, .any, .any, .any, .any, .any, .any, .any, .any, .any, .any, .any, .any, .any, .any, .any, .any, .any, .any, .any, .any, .any, .any, .any, .any, .any, .any, .any, .any, .any, .any, .any]

def script_clean_H1000011 (s : T_script_Step)  : Heap := [some (.var (c_T_script_Step s)), some (.var [.int .u8 0, .int .i64 0, .int .i64 0, .int .i64 0, .bool false, .int .u8 0, .int .u32 0, .int .u8 0, .int .u8 0, .int .u32 0, .int .u32 0, .int .u8 0, .int .u8 0, .int .u8 0, .int .u8 0, .int .u8 0, .int .u8 0, .int .u8 0, .int .u8 0, .str [], .int .u8 0, .int .u8 0, .nilsl, .int .i64 0, .nilsl]), some (.var [.int .u8 s.f_Kind, .int .i64 s.f_Node, .int .i64 0, .int .i64 0, .bool false, .int .u8 0, .int .u32 0, .int .u8 0, .int .u8 0, .int .u32 0, .int .u32 0, .int .u8 0, .int .u8 0, .int .u8 0, .int .u8 0, .int .u8 0, .int .u8 0, .int .u8 0, .int .u8 0, .str [], .int .u8 0, .int .u8 0, .nilsl, .int .i64 0, .nilsl])]

def script_clean_c11 (s : T_script_Step)   : Option ((T_script_Step)) :=
  if ((s.f_Kind == 1) : Bool) then
    (script_pure s.f_Call).bind fun yC11_3 =>
    some (T_script_Step.mk s.f_Kind s.f_Node 0 0 false yC11_3 0 ([] : List (Int)))
  else
    if ((s.f_Kind == 8) : Bool) then
      some (T_script_Step.mk s.f_Kind s.f_Node 0 s.f_N s.f_Cut (T_node_Call.mk (T_sess_Call.mk 0 0) 0 (T_api_Tx.mk 0 0 0) (A8.mk 0 0 0 0 0 0 0 0) [] 0 0 ([] : List (Int))) 0 s.f_Bytes)
    else
      if ((s.f_Kind == 9) : Bool) then
        some (T_script_Step.mk s.f_Kind s.f_Node 0 s.f_N false (T_node_Call.mk (T_sess_Call.mk 0 0) 0 (T_api_Tx.mk 0 0 0) (A8.mk 0 0 0 0 0 0 0 0) [] 0 0 ([] : List (Int))) 0 ([] : List (Int)))
      else
        if ((s.f_Kind == 10) : Bool) then
          some (T_script_Step.mk s.f_Kind s.f_Node 0 0 false (T_node_Call.mk (T_sess_Call.mk 0 0) 0 (T_api_Tx.mk 0 0 0) (A8.mk 0 0 0 0 0 0 0 0) [] 0 0 ([] : List (Int))) s.f_To s.f_Bytes)
        else
          some (T_script_Step.mk s.f_Kind s.f_Node 0 0 false (T_node_Call.mk (T_sess_Call.mk 0 0) 0 (T_api_Tx.mk 0 0 0) (A8.mk 0 0 0 0 0 0 0 0) [] 0 0 ([] : List (Int))) 0 ([] : List (Int)))

def script_clean (s : T_script_Step) : Option ((T_script_Step)) :=
  if ((s.f_Kind == 2) : Bool) then
    some (T_script_Step.mk s.f_Kind 0 s.f_Wire 0 false (T_node_Call.mk (T_sess_Call.mk 0 0) 0 (T_api_Tx.mk 0 0 0) (A8.mk 0 0 0 0 0 0 0 0) [] 0 0 ([] : List (Int))) 0 ([] : List (Int)))
  else
    if ((s.f_Kind == 3) : Bool) then
      some (T_script_Step.mk s.f_Kind 0 s.f_Wire 0 false (T_node_Call.mk (T_sess_Call.mk 0 0) 0 (T_api_Tx.mk 0 0 0) (A8.mk 0 0 0 0 0 0 0 0) [] 0 0 ([] : List (Int))) 0 ([] : List (Int)))
    else
      if ((s.f_Kind == 4) : Bool) then
        some (T_script_Step.mk s.f_Kind 0 s.f_Wire 0 false (T_node_Call.mk (T_sess_Call.mk 0 0) 0 (T_api_Tx.mk 0 0 0) (A8.mk 0 0 0 0 0 0 0 0) [] 0 0 ([] : List (Int))) 0 ([] : List (Int)))
      else
        if ((s.f_Kind == 5) : Bool) then
          some (T_script_Step.mk s.f_Kind 0 s.f_Wire 0 false (T_node_Call.mk (T_sess_Call.mk 0 0) 0 (T_api_Tx.mk 0 0 0) (A8.mk 0 0 0 0 0 0 0 0) [] 0 0 ([] : List (Int))) 0 ([] : List (Int)))
        else
          script_clean_c11 s  

theorem script_clean_c11_ok {w0 : World} {W : Nat → Prop} {μ0 : Emb} (hμ : ∀ c p, μ0 c = some p → c < 0) (s : T_script_Step)   (r : (T_script_Step)) (h : script_clean_c11 s   = some r) : kont Tryd.prog w0 W μ0 (FnPost Tryd.prog Tryd.f28 0 0 (script_clean_v r) []) (kAtR (bodyOf Tryd.f28) 11) none (script_clean_T1000011 s ) (script_clean_H1000011 s ) := by
  unfold script_clean_c11 at h
  rcases itb_some h with ⟨cC11_1, h⟩ | ⟨cC11_1, h⟩
  · skip
    obtain ⟨yC11_3, eC11_2, h⟩ := bind_some h
    obtain rfl := Option.some.inj h
    exact run_ret mixed (L := []) (n := 19) (s := [.reg [(1, hT)], .reg [(2, hC (script_pure_v yC11_3))], .reg [], .wk [] [(1, .var (c_T_script_Step (T_script_Step.mk s.f_Kind s.f_Node 0 0 false yC11_3 0 ([] : List (Int)))))]])
      (a_ (a_ (r1_ (f_ cC11_1 tr)) (a_ (r1_ (m_ 23 25 rfl (c_ (script_pure_tri s.f_Call yC11_3 eC11_2) (r1_ (a_ (a_ (a_ (Eq.refl 18) (a_ (le_ 23 25 rfl) (Eq.refl 0))) tr) tr))))) (a_ (m_ 25 25 rfl (a_ (a_ (a_ (Eq.refl 25) (a_ (le_ 25 25 rfl) (Eq.refl 0))) tr) tr)) (a_ (a_ tr (a_ (LO.Sub.var (lel_set [.int .u8 s.f_Kind, .int .i64 s.f_Node, .int .i64 0, .int .i64 0, .bool false, .int .u8 yC11_3.f_Call.f_Client, .int .u32 yC11_3.f_Call.f_Seq, .int .u8 yC11_3.f_Kind, .int .u8 yC11_3.f_Tx.f_Node, .int .u32 yC11_3.f_Tx.f_Boot, .int .u32 yC11_3.f_Tx.f_Num, .int .u8 yC11_3.f_Key.a0, .int .u8 yC11_3.f_Key.a1, .int .u8 yC11_3.f_Key.a2, .int .u8 yC11_3.f_Key.a3, .int .u8 yC11_3.f_Key.a4, .int .u8 yC11_3.f_Key.a5, .int .u8 yC11_3.f_Key.a6, .int .u8 yC11_3.f_Key.a7, .str yC11_3.f_Value, .int .u8 yC11_3.f_R, .int .u8 yC11_3.f_W, .ds 1 (yC11_3.f_Votes).length (rowF (cInt .u8) default yC11_3.f_Votes), .int .i64 0, .nilsl] 24 .nilsl (.ds 1 (([] : List (Int))).length (rowF (cInt .u8) default ([] : List (Int)))) rfl (le_nil_ds 1 (rowF (cInt .u8) default [])))) tr)) tr)))) (a_ (a_ tr (le_ 25 25 rfl)) tr)) (by kernel_rfl) rfl
  · skip
    rcases itb_some h with ⟨cC11_2, h⟩ | ⟨cC11_2, h⟩
    · skip
      obtain rfl := Option.some.inj h
      exact run_ret mixed (L := []) (n := 23) (s := [.reg [(1, hF)], .reg [(1, hT)], .reg [], .reg [], .wk [] [(1, .var (c_T_script_Step (T_script_Step.mk s.f_Kind s.f_Node 0 s.f_N s.f_Cut (T_node_Call.mk (T_sess_Call.mk 0 0) 0 (T_api_Tx.mk 0 0 0) (A8.mk 0 0 0 0 0 0 0 0) [] 0 0 ([] : List (Int))) 0 s.f_Bytes)))]])
        (a_ (a_ (r1_ (f_ cC11_1 tr)) (a_ (r1_ (f_ cC11_2 tr)) (a_ (r1_ (l_ 3 25 rfl (r1_ (l_ 4 25 rfl (r1_ (l_ 24 25 rfl (r1_ (a_ (a_ (a_ (Eq.refl 1) (a_ (le_ 4 25 rfl) (Eq.refl 0))) tr) (r1_ (a_ (a_ (a_ (Eq.refl 1) (a_ (le_ 5 25 rfl) (Eq.refl 0))) tr) (r1_ (a_ (a_ (a_ (Eq.refl 1) (a_ (le_ 25 25 rfl) (Eq.refl 0))) tr) tr)))))))))))) (a_ (m_ 25 25 rfl (a_ (a_ (a_ (Eq.refl 25) (a_ (le_ 25 25 rfl) (Eq.refl 0))) tr) tr)) (a_ (a_ tr (a_ (LO.Sub.var (lel_set [.int .u8 s.f_Kind, .int .i64 s.f_Node, .int .i64 0, .int .i64 s.f_N, .bool s.f_Cut, .int .u8 0, .int .u32 0, .int .u8 0, .int .u8 0, .int .u32 0, .int .u32 0, .int .u8 0, .int .u8 0, .int .u8 0, .int .u8 0, .int .u8 0, .int .u8 0, .int .u8 0, .int .u8 0, .str [], .int .u8 0, .int .u8 0, .nilsl, .int .i64 0, .ds 1 (s.f_Bytes).length (rowF (cInt .u8) default s.f_Bytes)] 22 .nilsl (.ds 1 (([] : List (Int))).length (rowF (cInt .u8) default ([] : List (Int)))) rfl (le_nil_ds 1 (rowF (cInt .u8) default [])))) tr)) tr))))) (a_ (a_ tr (le_ 25 25 rfl)) tr)) (by kernel_rfl) rfl
    · skip
      rcases itb_some h with ⟨cC11_3, h⟩ | ⟨cC11_3, h⟩
      · skip
        obtain rfl := Option.some.inj h
        exact run_ret mixed (L := []) (n := 28) (s := [.reg [(1, hF)], .reg [(1, hF)], .reg [(1, hT)], .reg [], .reg [], .wk [] [(1, .var [.int .u8 s.f_Kind, .int .i64 s.f_Node, .int .i64 0, .int .i64 s.f_N, .bool false, .int .u8 0, .int .u32 0, .int .u8 0, .int .u8 0, .int .u32 0, .int .u32 0, .int .u8 0, .int .u8 0, .int .u8 0, .int .u8 0, .int .u8 0, .int .u8 0, .int .u8 0, .int .u8 0, .str [], .int .u8 0, .int .u8 0, .ds 1 (([] : List (Int))).length (rowF (cInt .u8) default ([] : List (Int))), .int .i64 0, .nilsl])], .wk [] [(1, .var (c_T_script_Step (T_script_Step.mk s.f_Kind s.f_Node 0 s.f_N false (T_node_Call.mk (T_sess_Call.mk 0 0) 0 (T_api_Tx.mk 0 0 0) (A8.mk 0 0 0 0 0 0 0 0) [] 0 0 ([] : List (Int))) 0 ([] : List (Int)))))]])
          (a_ (a_ (r1_ (f_ cC11_1 tr)) (a_ (r1_ (f_ cC11_2 tr)) (a_ (r1_ (f_ cC11_3 tr)) (a_ (r1_ (l_ 3 25 rfl (r1_ (a_ (a_ (a_ (Eq.refl 1) (a_ (le_ 4 25 rfl) (Eq.refl 0))) tr) tr)))) (a_ (m_ 25 25 rfl (a_ (a_ (a_ (Eq.refl 25) (a_ (le_ 25 25 rfl) (Eq.refl 0))) tr) tr)) (a_ (a_ tr (a_ (LO.Sub.var (lel_set [.int .u8 s.f_Kind, .int .i64 s.f_Node, .int .i64 0, .int .i64 s.f_N, .bool false, .int .u8 0, .int .u32 0, .int .u8 0, .int .u8 0, .int .u32 0, .int .u32 0, .int .u8 0, .int .u8 0, .int .u8 0, .int .u8 0, .int .u8 0, .int .u8 0, .int .u8 0, .int .u8 0, .str [], .int .u8 0, .int .u8 0, .nilsl, .int .i64 0, .nilsl] 22 .nilsl (.ds 1 (([] : List (Int))).length (rowF (cInt .u8) default ([] : List (Int)))) rfl (le_nil_ds 1 (rowF (cInt .u8) default [])))) tr)) (a_ (a_ tr (a_ (LO.Sub.var (lel_set [.int .u8 s.f_Kind, .int .i64 s.f_Node, .int .i64 0, .int .i64 s.f_N, .bool false, .int .u8 0, .int .u32 0, .int .u8 0, .int .u8 0, .int .u32 0, .int .u32 0, .int .u8 0, .int .u8 0, .int .u8 0, .int .u8 0, .int .u8 0, .int .u8 0, .int .u8 0, .int .u8 0, .str [], .int .u8 0, .int .u8 0, .ds 1 (([] : List (Int))).length (rowF (cInt .u8) default ([] : List (Int))), .int .i64 0, .nilsl] 24 .nilsl (.ds 1 (([] : List (Int))).length (rowF (cInt .u8) default ([] : List (Int)))) rfl (le_nil_ds 1 (rowF (cInt .u8) default [])))) tr)) tr))))))) (a_ (a_ tr (le_ 25 25 rfl)) tr)) (by kernel_rfl) rfl
      · skip
        rcases itb_some h with ⟨cC11_4, h⟩ | ⟨cC11_4, h⟩
        · skip
          obtain rfl := Option.some.inj h
          exact run_ret mixed (L := []) (n := 31) (s := [.reg [(1, hF)], .reg [(1, hF)], .reg [(1, hF)], .reg [(1, hT)], .reg [], .reg [], .wk [] [(1, .var (c_T_script_Step (T_script_Step.mk s.f_Kind s.f_Node 0 0 false (T_node_Call.mk (T_sess_Call.mk 0 0) 0 (T_api_Tx.mk 0 0 0) (A8.mk 0 0 0 0 0 0 0 0) [] 0 0 ([] : List (Int))) s.f_To s.f_Bytes)))]])
            (a_ (a_ (r1_ (f_ cC11_1 tr)) (a_ (r1_ (f_ cC11_2 tr)) (a_ (r1_ (f_ cC11_3 tr)) (a_ (r1_ (f_ cC11_4 tr)) (a_ (r1_ (l_ 23 25 rfl (r1_ (l_ 24 25 rfl (r1_ (a_ (a_ (a_ (Eq.refl 1) (a_ (le_ 24 25 rfl) (Eq.refl 0))) tr) (r1_ (a_ (a_ (a_ (Eq.refl 1) (a_ (le_ 25 25 rfl) (Eq.refl 0))) tr) tr)))))))) (a_ (m_ 25 25 rfl (a_ (a_ (a_ (Eq.refl 25) (a_ (le_ 25 25 rfl) (Eq.refl 0))) tr) tr)) (a_ (a_ tr (a_ (LO.Sub.var (lel_set [.int .u8 s.f_Kind, .int .i64 s.f_Node, .int .i64 0, .int .i64 0, .bool false, .int .u8 0, .int .u32 0, .int .u8 0, .int .u8 0, .int .u32 0, .int .u32 0, .int .u8 0, .int .u8 0, .int .u8 0, .int .u8 0, .int .u8 0, .int .u8 0, .int .u8 0, .int .u8 0, .str [], .int .u8 0, .int .u8 0, .nilsl, .int .i64 s.f_To, .ds 1 (s.f_Bytes).length (rowF (cInt .u8) default s.f_Bytes)] 22 .nilsl (.ds 1 (([] : List (Int))).length (rowF (cInt .u8) default ([] : List (Int)))) rfl (le_nil_ds 1 (rowF (cInt .u8) default [])))) tr)) tr))))))) (a_ (a_ tr (le_ 25 25 rfl)) tr)) (by kernel_rfl) rfl
        · skip
          obtain rfl := Option.some.inj h
          exact run_ret mixed (L := []) (n := 31) (s := [.reg [(1, hF)], .reg [(1, hF)], .reg [(1, hF)], .reg [(1, hF)], .reg [], .wk [] [(1, .var [.int .u8 s.f_Kind, .int .i64 s.f_Node, .int .i64 0, .int .i64 0, .bool false, .int .u8 0, .int .u32 0, .int .u8 0, .int .u8 0, .int .u32 0, .int .u32 0, .int .u8 0, .int .u8 0, .int .u8 0, .int .u8 0, .int .u8 0, .int .u8 0, .int .u8 0, .int .u8 0, .str [], .int .u8 0, .int .u8 0, .ds 1 (([] : List (Int))).length (rowF (cInt .u8) default ([] : List (Int))), .int .i64 0, .nilsl])], .wk [] [(1, .var (c_T_script_Step (T_script_Step.mk s.f_Kind s.f_Node 0 0 false (T_node_Call.mk (T_sess_Call.mk 0 0) 0 (T_api_Tx.mk 0 0 0) (A8.mk 0 0 0 0 0 0 0 0) [] 0 0 ([] : List (Int))) 0 ([] : List (Int)))))]])
            (a_ (a_ (r1_ (f_ cC11_1 tr)) (a_ (r1_ (f_ cC11_2 tr)) (a_ (r1_ (f_ cC11_3 tr)) (a_ (r1_ (f_ cC11_4 tr)) (a_ (m_ 25 25 rfl (a_ (a_ (a_ (Eq.refl 25) (a_ (le_ 25 25 rfl) (Eq.refl 0))) tr) tr)) (a_ (a_ tr (a_ (LO.Sub.var (lel_set [.int .u8 s.f_Kind, .int .i64 s.f_Node, .int .i64 0, .int .i64 0, .bool false, .int .u8 0, .int .u32 0, .int .u8 0, .int .u8 0, .int .u32 0, .int .u32 0, .int .u8 0, .int .u8 0, .int .u8 0, .int .u8 0, .int .u8 0, .int .u8 0, .int .u8 0, .int .u8 0, .str [], .int .u8 0, .int .u8 0, .nilsl, .int .i64 0, .nilsl] 22 .nilsl (.ds 1 (([] : List (Int))).length (rowF (cInt .u8) default ([] : List (Int)))) rfl (le_nil_ds 1 (rowF (cInt .u8) default [])))) tr)) (a_ (a_ tr (a_ (LO.Sub.var (lel_set [.int .u8 s.f_Kind, .int .i64 s.f_Node, .int .i64 0, .int .i64 0, .bool false, .int .u8 0, .int .u32 0, .int .u8 0, .int .u8 0, .int .u32 0, .int .u32 0, .int .u8 0, .int .u8 0, .int .u8 0, .int .u8 0, .int .u8 0, .int .u8 0, .int .u8 0, .int .u8 0, .str [], .int .u8 0, .int .u8 0, .ds 1 (([] : List (Int))).length (rowF (cInt .u8) default ([] : List (Int))), .int .i64 0, .nilsl] 24 .nilsl (.ds 1 (([] : List (Int))).length (rowF (cInt .u8) default ([] : List (Int)))) rfl (le_nil_ds 1 (rowF (cInt .u8) default [])))) tr)) tr))))))) (a_ (a_ tr (le_ 25 25 rfl)) tr)) (by kernel_rfl) rfl

theorem script_clean_ok (s : T_script_Step) (r : (T_script_Step)) (h : script_clean s = some r) : ∀ σ, Inj 0 σ → FnTri Tryd.prog 28 (renL σ [v_T_script_Step s]) (preOf σ 0 []) ((script_clean_v r).ren σ) (upOf σ []) := by
  refine fn_of Tryd.func28 (by kernel_rfl) (by kernel_rfl) (by kernel_rfl) trivial (by kernel_rfl) trivial (by kernel_rfl) ?_
  intro w0 W μ0 hμ
  unfold script_clean at h
  rcases itb_some h with ⟨c1, h⟩ | ⟨c1, h⟩
  · skip
    obtain rfl := Option.some.inj h
    exact run_ret mixed (L := []) (n := 35) (s := [.reg [], .reg [], .reg [], .reg [(1, hT)], .reg [], .reg [], .wk [] [(1, .var [.int .u8 s.f_Kind, .int .i64 0, .int .i64 s.f_Wire, .int .i64 0, .bool false, .int .u8 0, .int .u32 0, .int .u8 0, .int .u8 0, .int .u32 0, .int .u32 0, .int .u8 0, .int .u8 0, .int .u8 0, .int .u8 0, .int .u8 0, .int .u8 0, .int .u8 0, .int .u8 0, .str [], .int .u8 0, .int .u8 0, .ds 1 (([] : List (Int))).length (rowF (cInt .u8) default ([] : List (Int))), .int .i64 0, .nilsl])], .wk [] [(1, .var (c_T_script_Step (T_script_Step.mk s.f_Kind 0 s.f_Wire 0 false (T_node_Call.mk (T_sess_Call.mk 0 0) 0 (T_api_Tx.mk 0 0 0) (A8.mk 0 0 0 0 0 0 0 0) [] 0 0 ([] : List (Int))) 0 ([] : List (Int)))))]])
      (a_ (a_ (r2_ tr) (a_ (r1_ (l_ 0 25 rfl (a_ (a_ (Eq.refl true) tr) (r1_ (a_ (a_ (a_ (Eq.refl 25) (a_ (le_ 25 25 rfl) (Eq.refl 0))) tr) tr))))) (a_ (r1_ (l_ 0 25 rfl tr)) (a_ (r1_ (f_ c1 tr)) (a_ (r1_ (l_ 2 25 rfl (r1_ (a_ (a_ (a_ (Eq.refl 1) (a_ (le_ 3 25 rfl) (Eq.refl 0))) tr) tr)))) (a_ (m_ 25 25 rfl (a_ (a_ (a_ (Eq.refl 25) (a_ (le_ 25 25 rfl) (Eq.refl 0))) tr) tr)) (a_ (a_ tr (a_ (LO.Sub.var (lel_set [.int .u8 s.f_Kind, .int .i64 0, .int .i64 s.f_Wire, .int .i64 0, .bool false, .int .u8 0, .int .u32 0, .int .u8 0, .int .u8 0, .int .u32 0, .int .u32 0, .int .u8 0, .int .u8 0, .int .u8 0, .int .u8 0, .int .u8 0, .int .u8 0, .int .u8 0, .int .u8 0, .str [], .int .u8 0, .int .u8 0, .nilsl, .int .i64 0, .nilsl] 22 .nilsl (.ds 1 (([] : List (Int))).length (rowF (cInt .u8) default ([] : List (Int)))) rfl (le_nil_ds 1 (rowF (cInt .u8) default [])))) tr)) (a_ (a_ tr (a_ (LO.Sub.var (lel_set [.int .u8 s.f_Kind, .int .i64 0, .int .i64 s.f_Wire, .int .i64 0, .bool false, .int .u8 0, .int .u32 0, .int .u8 0, .int .u8 0, .int .u32 0, .int .u32 0, .int .u8 0, .int .u8 0, .int .u8 0, .int .u8 0, .int .u8 0, .int .u8 0, .int .u8 0, .int .u8 0, .str [], .int .u8 0, .int .u8 0, .ds 1 (([] : List (Int))).length (rowF (cInt .u8) default ([] : List (Int))), .int .i64 0, .nilsl] 24 .nilsl (.ds 1 (([] : List (Int))).length (rowF (cInt .u8) default ([] : List (Int)))) rfl (le_nil_ds 1 (rowF (cInt .u8) default [])))) tr)) tr)))))))) (a_ (a_ tr (le_ 25 25 rfl)) tr)) (by kernel_rfl) rfl
  · skip
    rcases itb_some h with ⟨c2, h⟩ | ⟨c2, h⟩
    · skip
      obtain rfl := Option.some.inj h
      exact run_ret mixed (L := []) (n := 39) (s := [.reg [], .reg [], .reg [], .reg [(1, hF)], .reg [(1, hT)], .reg [], .reg [], .wk [] [(1, .var [.int .u8 s.f_Kind, .int .i64 0, .int .i64 s.f_Wire, .int .i64 0, .bool false, .int .u8 0, .int .u32 0, .int .u8 0, .int .u8 0, .int .u32 0, .int .u32 0, .int .u8 0, .int .u8 0, .int .u8 0, .int .u8 0, .int .u8 0, .int .u8 0, .int .u8 0, .int .u8 0, .str [], .int .u8 0, .int .u8 0, .ds 1 (([] : List (Int))).length (rowF (cInt .u8) default ([] : List (Int))), .int .i64 0, .nilsl])], .wk [] [(1, .var (c_T_script_Step (T_script_Step.mk s.f_Kind 0 s.f_Wire 0 false (T_node_Call.mk (T_sess_Call.mk 0 0) 0 (T_api_Tx.mk 0 0 0) (A8.mk 0 0 0 0 0 0 0 0) [] 0 0 ([] : List (Int))) 0 ([] : List (Int)))))]])
        (a_ (a_ (r2_ tr) (a_ (r1_ (l_ 0 25 rfl (a_ (a_ (Eq.refl true) tr) (r1_ (a_ (a_ (a_ (Eq.refl 25) (a_ (le_ 25 25 rfl) (Eq.refl 0))) tr) tr))))) (a_ (r1_ (l_ 0 25 rfl tr)) (a_ (r1_ (f_ c1 tr)) (a_ (r1_ (f_ c2 tr)) (a_ (r1_ (l_ 2 25 rfl (r1_ (a_ (a_ (a_ (Eq.refl 1) (a_ (le_ 3 25 rfl) (Eq.refl 0))) tr) tr)))) (a_ (m_ 25 25 rfl (a_ (a_ (a_ (Eq.refl 25) (a_ (le_ 25 25 rfl) (Eq.refl 0))) tr) tr)) (a_ (a_ tr (a_ (LO.Sub.var (lel_set [.int .u8 s.f_Kind, .int .i64 0, .int .i64 s.f_Wire, .int .i64 0, .bool false, .int .u8 0, .int .u32 0, .int .u8 0, .int .u8 0, .int .u32 0, .int .u32 0, .int .u8 0, .int .u8 0, .int .u8 0, .int .u8 0, .int .u8 0, .int .u8 0, .int .u8 0, .int .u8 0, .str [], .int .u8 0, .int .u8 0, .nilsl, .int .i64 0, .nilsl] 22 .nilsl (.ds 1 (([] : List (Int))).length (rowF (cInt .u8) default ([] : List (Int)))) rfl (le_nil_ds 1 (rowF (cInt .u8) default [])))) tr)) (a_ (a_ tr (a_ (LO.Sub.var (lel_set [.int .u8 s.f_Kind, .int .i64 0, .int .i64 s.f_Wire, .int .i64 0, .bool false, .int .u8 0, .int .u32 0, .int .u8 0, .int .u8 0, .int .u32 0, .int .u32 0, .int .u8 0, .int .u8 0, .int .u8 0, .int .u8 0, .int .u8 0, .int .u8 0, .int .u8 0, .int .u8 0, .str [], .int .u8 0, .int .u8 0, .ds 1 (([] : List (Int))).length (rowF (cInt .u8) default ([] : List (Int))), .int .i64 0, .nilsl] 24 .nilsl (.ds 1 (([] : List (Int))).length (rowF (cInt .u8) default ([] : List (Int)))) rfl (le_nil_ds 1 (rowF (cInt .u8) default [])))) tr)) tr))))))))) (a_ (a_ tr (le_ 25 25 rfl)) tr)) (by kernel_rfl) rfl
    · skip
      rcases itb_some h with ⟨c3, h⟩ | ⟨c3, h⟩
      · skip
        obtain rfl := Option.some.inj h
        exact run_ret mixed (L := []) (n := 43) (s := [.reg [], .reg [], .reg [], .reg [(1, hF)], .reg [(1, hF)], .reg [(1, hT)], .reg [], .reg [], .wk [] [(1, .var [.int .u8 s.f_Kind, .int .i64 0, .int .i64 s.f_Wire, .int .i64 0, .bool false, .int .u8 0, .int .u32 0, .int .u8 0, .int .u8 0, .int .u32 0, .int .u32 0, .int .u8 0, .int .u8 0, .int .u8 0, .int .u8 0, .int .u8 0, .int .u8 0, .int .u8 0, .int .u8 0, .str [], .int .u8 0, .int .u8 0, .ds 1 (([] : List (Int))).length (rowF (cInt .u8) default ([] : List (Int))), .int .i64 0, .nilsl])], .wk [] [(1, .var (c_T_script_Step (T_script_Step.mk s.f_Kind 0 s.f_Wire 0 false (T_node_Call.mk (T_sess_Call.mk 0 0) 0 (T_api_Tx.mk 0 0 0) (A8.mk 0 0 0 0 0 0 0 0) [] 0 0 ([] : List (Int))) 0 ([] : List (Int)))))]])
          (a_ (a_ (r2_ tr) (a_ (r1_ (l_ 0 25 rfl (a_ (a_ (Eq.refl true) tr) (r1_ (a_ (a_ (a_ (Eq.refl 25) (a_ (le_ 25 25 rfl) (Eq.refl 0))) tr) tr))))) (a_ (r1_ (l_ 0 25 rfl tr)) (a_ (r1_ (f_ c1 tr)) (a_ (r1_ (f_ c2 tr)) (a_ (r1_ (f_ c3 tr)) (a_ (r1_ (l_ 2 25 rfl (r1_ (a_ (a_ (a_ (Eq.refl 1) (a_ (le_ 3 25 rfl) (Eq.refl 0))) tr) tr)))) (a_ (m_ 25 25 rfl (a_ (a_ (a_ (Eq.refl 25) (a_ (le_ 25 25 rfl) (Eq.refl 0))) tr) tr)) (a_ (a_ tr (a_ (LO.Sub.var (lel_set [.int .u8 s.f_Kind, .int .i64 0, .int .i64 s.f_Wire, .int .i64 0, .bool false, .int .u8 0, .int .u32 0, .int .u8 0, .int .u8 0, .int .u32 0, .int .u32 0, .int .u8 0, .int .u8 0, .int .u8 0, .int .u8 0, .int .u8 0, .int .u8 0, .int .u8 0, .int .u8 0, .str [], .int .u8 0, .int .u8 0, .nilsl, .int .i64 0, .nilsl] 22 .nilsl (.ds 1 (([] : List (Int))).length (rowF (cInt .u8) default ([] : List (Int)))) rfl (le_nil_ds 1 (rowF (cInt .u8) default [])))) tr)) (a_ (a_ tr (a_ (LO.Sub.var (lel_set [.int .u8 s.f_Kind, .int .i64 0, .int .i64 s.f_Wire, .int .i64 0, .bool false, .int .u8 0, .int .u32 0, .int .u8 0, .int .u8 0, .int .u32 0, .int .u32 0, .int .u8 0, .int .u8 0, .int .u8 0, .int .u8 0, .int .u8 0, .int .u8 0, .int .u8 0, .int .u8 0, .str [], .int .u8 0, .int .u8 0, .ds 1 (([] : List (Int))).length (rowF (cInt .u8) default ([] : List (Int))), .int .i64 0, .nilsl] 24 .nilsl (.ds 1 (([] : List (Int))).length (rowF (cInt .u8) default ([] : List (Int)))) rfl (le_nil_ds 1 (rowF (cInt .u8) default [])))) tr)) tr)))))))))) (a_ (a_ tr (le_ 25 25 rfl)) tr)) (by kernel_rfl) rfl
      · skip
        rcases itb_some h with ⟨c4, h⟩ | ⟨c4, h⟩
        · skip
          obtain rfl := Option.some.inj h
          exact run_ret mixed (L := []) (n := 44) (s := [.reg [], .reg [], .reg [], .reg [(1, hF)], .reg [(1, hF)], .reg [(1, hF)], .reg [(1, hT)], .reg [], .reg [], .wk [] [(1, .var [.int .u8 s.f_Kind, .int .i64 0, .int .i64 s.f_Wire, .int .i64 0, .bool false, .int .u8 0, .int .u32 0, .int .u8 0, .int .u8 0, .int .u32 0, .int .u32 0, .int .u8 0, .int .u8 0, .int .u8 0, .int .u8 0, .int .u8 0, .int .u8 0, .int .u8 0, .int .u8 0, .str [], .int .u8 0, .int .u8 0, .ds 1 (([] : List (Int))).length (rowF (cInt .u8) default ([] : List (Int))), .int .i64 0, .nilsl])], .wk [] [(1, .var (c_T_script_Step (T_script_Step.mk s.f_Kind 0 s.f_Wire 0 false (T_node_Call.mk (T_sess_Call.mk 0 0) 0 (T_api_Tx.mk 0 0 0) (A8.mk 0 0 0 0 0 0 0 0) [] 0 0 ([] : List (Int))) 0 ([] : List (Int)))))]])
            (a_ (a_ (r2_ tr) (a_ (r1_ (l_ 0 25 rfl (a_ (a_ (Eq.refl true) tr) (r1_ (a_ (a_ (a_ (Eq.refl 25) (a_ (le_ 25 25 rfl) (Eq.refl 0))) tr) tr))))) (a_ (r1_ (l_ 0 25 rfl tr)) (a_ (r1_ (f_ c1 tr)) (a_ (r1_ (f_ c2 tr)) (a_ (r1_ (f_ c3 tr)) (a_ (r1_ (f_ c4 tr)) (a_ (r1_ (l_ 2 25 rfl (r1_ (a_ (a_ (a_ (Eq.refl 1) (a_ (le_ 3 25 rfl) (Eq.refl 0))) tr) tr)))) (a_ (m_ 25 25 rfl (a_ (a_ (a_ (Eq.refl 25) (a_ (le_ 25 25 rfl) (Eq.refl 0))) tr) tr)) (a_ (a_ tr (a_ (LO.Sub.var (lel_set [.int .u8 s.f_Kind, .int .i64 0, .int .i64 s.f_Wire, .int .i64 0, .bool false, .int .u8 0, .int .u32 0, .int .u8 0, .int .u8 0, .int .u32 0, .int .u32 0, .int .u8 0, .int .u8 0, .int .u8 0, .int .u8 0, .int .u8 0, .int .u8 0, .int .u8 0, .int .u8 0, .str [], .int .u8 0, .int .u8 0, .nilsl, .int .i64 0, .nilsl] 22 .nilsl (.ds 1 (([] : List (Int))).length (rowF (cInt .u8) default ([] : List (Int)))) rfl (le_nil_ds 1 (rowF (cInt .u8) default [])))) tr)) (a_ (a_ tr (a_ (LO.Sub.var (lel_set [.int .u8 s.f_Kind, .int .i64 0, .int .i64 s.f_Wire, .int .i64 0, .bool false, .int .u8 0, .int .u32 0, .int .u8 0, .int .u8 0, .int .u32 0, .int .u32 0, .int .u8 0, .int .u8 0, .int .u8 0, .int .u8 0, .int .u8 0, .int .u8 0, .int .u8 0, .int .u8 0, .str [], .int .u8 0, .int .u8 0, .ds 1 (([] : List (Int))).length (rowF (cInt .u8) default ([] : List (Int))), .int .i64 0, .nilsl] 24 .nilsl (.ds 1 (([] : List (Int))).length (rowF (cInt .u8) default ([] : List (Int)))) rfl (le_nil_ds 1 (rowF (cInt .u8) default [])))) tr)) tr))))))))))) (a_ (a_ tr (le_ 25 25 rfl)) tr)) (by kernel_rfl) rfl
        · skip
          exact run_to mixed hμ (L := [0, 1, 2]) (n := 47) (s := [.reg [], .reg [], .reg [], .reg [(1, hF)], .reg [(1, hF)], .reg [(1, hF)], .reg [(1, hF)], .reg [], .reg []])
            (a_ (r2_ tr) (a_ (r1_ (l_ 0 25 rfl (a_ (a_ (Eq.refl true) tr) (r1_ (a_ (a_ (a_ (Eq.refl 25) (a_ (le_ 25 25 rfl) (Eq.refl 0))) tr) tr))))) (a_ (r1_ (l_ 0 25 rfl tr)) (a_ (r1_ (f_ c1 tr)) (a_ (r1_ (f_ c2 tr)) (a_ (r1_ (f_ c3 tr)) (a_ (r1_ (f_ c4 tr)) (a_ (r1_ (l_ 1 25 rfl (r1_ (a_ (a_ (a_ (Eq.refl 1) (a_ (le_ 2 25 rfl) (Eq.refl 0))) tr) tr)))) (a_ (r1_ (l_ 0 25 rfl tr)) tr))))))))) (script_clean_c11_ok hμ s   r h) (by kernel_rfl) ⟨rfl, rfl, rfl, trivial⟩

theorem script_clean_tri (s : T_script_Step) (r : (T_script_Step)) (h : script_clean s = some r) : FnTri Tryd.prog 28 [v_T_script_Step s] [] (script_clean_v r) [] := FnTri.none (script_clean_ok s r h) rfl rfl

/-- slices.Equal[[]uint8,uint8] -/

def slices_Equal_uint8_uint8_v (r : (Bool)) : LV := .bool r

def slices_Equal_uint8_uint8_T0 (s1 : List (Int)) (s2 : List (Int)) (t13 : Int) : List LV := [.ds 1 (s1).length (rowF (cInt .u8) default s1), .ds 1 (s2).length (rowF (cInt .u8) default s2), .any, .any, .any, .any, .any, .any, .any, .any, .any, .any, .int .i64 ((s1).length : Int), .int .i64 t13, .any, .any, .any, .any, .any, .any, .any, .any, .any, .any, .any, .any]

def slices_Equal_uint8_uint8_H0 (s1 : List (Int)) (s2 : List (Int)) (t13 : Int) : Heap := []

def slices_Equal_uint8_uint8_l0 (s1 : List (Int)) (s2 : List (Int))  : Nat → (Int) → Option ((Bool))
  | 0, _ => none
  | fuel + 1, t13 =>
    if ((decide (t13 < ((s1).length : Int))) : Bool) then
      if 0 ≤ t13 ∧ t13 < (((s1).length : Nat) : Int) then
      if 0 ≤ t13 ∧ t13 < (((s2).length : Nat) : Int) then
      if (((s1.getD t13.toNat default) != (s2.getD t13.toNat default)) : Bool) then
        some false
      else
        slices_Equal_uint8_uint8_l0 s1 s2  fuel (IntKind.wrap .i64 (t13 + 1))
      else none
      else none
    else
      some true

def slices_Equal_uint8_uint8 (s1 : List (Int)) (s2 : List (Int)) : Option ((Bool)) :=
  if ((((s1).length : Int) != ((s2).length : Int)) : Bool) then
    some false
  else
    slices_Equal_uint8_uint8_l0 s1 s2  big 0

theorem slices_Equal_uint8_uint8_l0_ok {w0 : World} {W : Nat → Prop} {μ0 : Emb} (hμ : ∀ c p, μ0 c = some p → c < 0) (s1 : List (Int)) (s2 : List (Int))  : ∀ (fuel : Nat) (t13 : Int) (r : (Bool)), slices_Equal_uint8_uint8_l0 s1 s2  fuel t13 = some r → kont Tryd.prog w0 W μ0 (FnPost Tryd.prog Tryd.f55 0 0 (slices_Equal_uint8_uint8_v r) []) (kAt (bodyOf Tryd.f55) 0) none (slices_Equal_uint8_uint8_T0 s1 s2 t13) (slices_Equal_uint8_uint8_H0 s1 s2 t13) := by
  intro fuel
  induction fuel with
  | zero => intro t13 r h; rw [slices_Equal_uint8_uint8_l0] at h; cases h
  | succ fuel ih =>
    intro t13 r h
    rw [slices_Equal_uint8_uint8_l0] at h
    rcases itb_some h with ⟨cL0_1, h⟩ | ⟨cL0_1, h⟩
    · skip
      obtain ⟨gL0_2, h⟩ := guard_some h
      obtain ⟨gL0_3, h⟩ := guard_some h
      rcases itb_some h with ⟨cL0_4, h⟩ | ⟨cL0_4, h⟩
      · skip
        obtain rfl := Option.some.inj h
        exact run_ret mixed (L := []) (n := 28) (s := [.go, .reg [(0, hT)], .reg [], .reg [(8, hT)], .reg []])
          (a_ (a_ (f_ cL0_1 tr) (a_ (r2_ tr) (a_ (r2_ (a_ (a_ (a_ (Eq.refl 1) gL0_2) tr) (a_ (a_ (lt_ 0 1 rfl) tr) (r2_ (a_ (a_ (a_ (Eq.refl 1) gL0_3) tr) (a_ (a_ (lt_ 0 1 rfl) tr) (f_ cL0_4 tr))))))) (a_ (r1_ tr) tr)))) tr) (by kernel_rfl) rfl
      · skip
        exact run_to mixed hμ (L := []) (n := 29) (s := [.go, .reg [(0, hT)], .reg [], .reg [(8, hF)], .reg []])
          (a_ (f_ cL0_1 tr) (a_ (r2_ tr) (a_ (r2_ (a_ (a_ (a_ (Eq.refl 1) gL0_2) tr) (a_ (a_ (lt_ 0 1 rfl) tr) (r2_ (a_ (a_ (a_ (Eq.refl 1) gL0_3) tr) (a_ (a_ (lt_ 0 1 rfl) tr) (f_ cL0_4 tr))))))) (a_ (r2_ tr) tr)))) (ih _ r h) (by kernel_rfl) trivial
    · skip
      obtain rfl := Option.some.inj h
      exact run_ret mixed (L := []) (n := 19) (s := [.go, .reg [(0, hF)], .reg []])
        (a_ (a_ (f_ cL0_1 tr) (a_ (r1_ tr) tr)) tr) (by kernel_rfl) rfl

theorem slices_Equal_uint8_uint8_ok (s1 : List (Int)) (s2 : List (Int)) (r : (Bool)) (h : slices_Equal_uint8_uint8 s1 s2 = some r) : ∀ σ, Inj 0 σ → FnTri Tryd.prog 55 (renL σ [.ds 1 (s1).length (rowF (cInt .u8) default s1), .ds 1 (s2).length (rowF (cInt .u8) default s2)]) (preOf σ 0 []) ((slices_Equal_uint8_uint8_v r).ren σ) (upOf σ []) := by
  refine fn_of Tryd.func55 (by kernel_rfl) (by kernel_rfl) (by kernel_rfl) trivial (by kernel_rfl) trivial (by kernel_rfl) ?_
  intro w0 W μ0 hμ
  unfold slices_Equal_uint8_uint8 at h
  rcases itb_some h with ⟨c1, h⟩ | ⟨c1, h⟩
  · skip
    obtain rfl := Option.some.inj h
    exact run_ret mixed (L := []) (n := 20) (s := [.reg [], .reg [(4, hT)], .reg []])
      (a_ (a_ (r1_ tr) (a_ (r4_ (f_ c1 tr)) (a_ (r1_ tr) tr))) tr) (by kernel_rfl) rfl
  · skip
    exact run_to mixed hμ (L := []) (n := 24) (s := [.reg [], .reg [(4, hF)], .reg []])
      (a_ (r1_ tr) (a_ (r4_ (f_ c1 tr)) (a_ (r1_ (r2_ tr)) tr))) (slices_Equal_uint8_uint8_l0_ok hμ s1 s2  big _ r h) (by kernel_rfl) trivial

theorem slices_Equal_uint8_uint8_tri (s1 : List (Int)) (s2 : List (Int)) (r : (Bool)) (h : slices_Equal_uint8_uint8 s1 s2 = some r) : FnTri Tryd.prog 55 [.ds 1 (s1).length (rowF (cInt .u8) default s1), .ds 1 (s2).length (rowF (cInt .u8) default s2)] [] (slices_Equal_uint8_uint8_v r) [] := FnTri.none (slices_Equal_uint8_uint8_ok s1 s2 r h) rfl rfl

end
end Go.Proofs.YtdchgoaokceomaaDoor.Wk
