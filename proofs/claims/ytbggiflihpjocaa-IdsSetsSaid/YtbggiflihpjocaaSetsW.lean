/- Printed by tr.py: Go functions as Lean functions, with the proofs that they walk so. -/
import Derived.Test.YtbggiflihpjocaaProg
import Derived.Test.YtbggiflihpjocaaCnW
import Derived.Test.YtbggiflihpjocaaCnZ
import Derived.WalkKit
import Derived.TacticsInMore
import Derived.RegionIn
import Derived.LoopNIn
import Derived.LoopIn
import Derived.ControlIn
namespace Go.Proofs.Ytbggiflihpjocaa.Wk
open Go Go.Cn Go.RowKit
set_option maxRecDepth 100000
set_option maxHeartbeats 4000000
set_option linter.unusedVariables false
set_option linter.unusedSimpArgs false
noncomputable section
theorem mixed : Try.prog.follows .mixedOrders = true := by kernel_rfl
structure T_api_Tx where
  f_Node : Int
  f_Boot : Int
  f_Num : Int
  deriving DecidableEq, Inhabited

def c_T_api_Tx (x : T_api_Tx) : List LV := [.int .u8 x.f_Node, .int .u32 x.f_Boot, .int .u32 x.f_Num]

def v_T_api_Tx (x : T_api_Tx) : LV := .agg (c_T_api_Tx x)

theorem x_T_api_Tx (a b : T_api_Tx) : a = b ↔ a.f_Node = b.f_Node ∧ a.f_Boot = b.f_Boot ∧ a.f_Num = b.f_Num := by
  cases a; cases b; simp

theorem k_T_api_Tx (a b : T_api_Tx) : eqK (v_T_api_Tx a) (v_T_api_Tx b) = decide (a = b) := by
  rw [Bool.eq_iff_iff, decide_eq_true_eq]
  simp only [x_T_api_Tx, v_T_api_Tx, c_T_api_Tx, eqK, eqCs, eqC, Bool.and_eq_true, beq_iff_eq, and_assoc, and_true]

structure T_parrellaw05_Act where
  f_Kind : Int
  f_Tx : T_api_Tx
  deriving DecidableEq, Inhabited

def c_T_parrellaw05_Act (x : T_parrellaw05_Act) : List LV := [.int .u8 x.f_Kind, .int .u8 x.f_Tx.f_Node, .int .u32 x.f_Tx.f_Boot, .int .u32 x.f_Tx.f_Num]

def v_T_parrellaw05_Act (x : T_parrellaw05_Act) : LV := .agg (c_T_parrellaw05_Act x)

theorem x_T_parrellaw05_Act (a b : T_parrellaw05_Act) : a = b ↔ a.f_Kind = b.f_Kind ∧ a.f_Tx = b.f_Tx := by
  cases a; cases b; simp

theorem k_T_parrellaw05_Act (a b : T_parrellaw05_Act) : eqK (v_T_parrellaw05_Act a) (v_T_parrellaw05_Act b) = decide (a = b) := by
  rw [Bool.eq_iff_iff, decide_eq_true_eq]
  simp only [x_T_parrellaw05_Act, x_T_api_Tx, v_T_parrellaw05_Act, c_T_parrellaw05_Act, eqK, eqCs, eqC, Bool.and_eq_true, beq_iff_eq, and_assoc, and_true]

structure T_parrelref05_Set where
  f_L : List (T_api_Tx)
  deriving DecidableEq, Inhabited

def c_T_parrelref05_Set (x : T_parrelref05_Set) : List LV := [.ds 3 (x.f_L).length (rowF c_T_api_Tx default x.f_L)]

def v_T_parrelref05_Set (x : T_parrelref05_Set) : LV := .agg (c_T_parrelref05_Set x)

theorem ext81 (l : List UInt8) (c : Int) : ExtTri Try.prog 81 [.str l, .int .u8 c] (.int .i64 (Lib.indexByte l c.toNat.toUInt8)) := ext_indexByte Try.func81 (by kernel_rfl) (by kernel_rfl) (by kernel_rfl) (by kernel_rfl) l c

/-- parrel/ids.New -/

def ids_New_v (r : (List (T_api_Tx × Bool))) : LV := .ptr 0 0 0

def ids_New_up  (r : (List (T_api_Tx × Bool))) : Upd := [(0, some (.var [.map 1])), (1, some (.map true [.int .u8, .int .u32, .int .u32] (encM v_T_api_Tx LV.bool r)))]

def ids_New  : Option ((List (T_api_Tx × Bool))) :=
  some ([] : List (T_api_Tx × Bool))

theorem ids_New_ok  (r : (List (T_api_Tx × Bool))) (h : ids_New  = some r) : ∀ σ, Inj 2 σ → FnTri Try.prog 30 (renL σ []) (preOf σ 0 []) ((ids_New_v r).ren σ) (upOf σ (ids_New_up  r)) := by
  refine fn_of Try.func30 (by kernel_rfl) (by kernel_rfl) (by kernel_rfl) trivial (by kernel_rfl) ⟨rfl, trivial, trivial⟩ (by kernel_rfl) ?_
  intro w0 W μ0 hμ
  unfold ids_New at h
  obtain rfl := Option.some.inj h
  exact run_ret mixed (L := [1, 0]) (n := 15) (s := [.reg [], .reg []])
    (a_ (a_ (a_ (a_ tr tr) tr) (a_ (a_ (a_ tr tr) (a_ (a_ (Eq.refl true) tr) (a_ (a_ tr tr) (a_ (a_ tr tr) tr)))) tr)) tr) (by kernel_rfl) rfl

/-- internal/stringslite.IndexByte -/

def internal_stringslite_IndexByte_v (r : (Int)) : LV := .int .i64 r

def internal_stringslite_IndexByte (s : List UInt8) (c : Int) : Option ((Int)) :=
  some (Lib.indexByte s (c).toNat.toUInt8)

theorem internal_stringslite_IndexByte_ok (s : List UInt8) (c : Int) (r : (Int)) (h : internal_stringslite_IndexByte s c = some r) : ∀ σ, Inj 0 σ → FnTri Try.prog 73 (renL σ [.str s, .int .u8 c]) (preOf σ 0 []) ((internal_stringslite_IndexByte_v r).ren σ) (upOf σ []) := by
  refine fn_of Try.func73 (by kernel_rfl) (by kernel_rfl) (by kernel_rfl) trivial (by kernel_rfl) trivial (by kernel_rfl) ?_
  intro w0 W μ0 hμ
  unfold internal_stringslite_IndexByte at h
  obtain rfl := Option.some.inj h
  exact run_ret mixed (L := []) (n := 15) (s := [.reg [], .reg [(2, { ext := some (.int .i64 (Lib.indexByte s (c).toNat.toUInt8)) })]])
    (a_ (a_ (a_ (a_ tr tr) tr) (a_ (a_ (a_ tr tr) (a_ (a_ tr tr) (a_ (a_ (ext81 s c) tr) (a_ (a_ tr tr) tr)))) tr)) tr) (by kernel_rfl) rfl

theorem internal_stringslite_IndexByte_tri (s : List UInt8) (c : Int) (r : (Int)) (h : internal_stringslite_IndexByte s c = some r) : FnTri Try.prog 73 [.str s, .int .u8 c] [] (internal_stringslite_IndexByte_v r) [] := FnTri.none (internal_stringslite_IndexByte_ok s c r h) rfl rfl

/-- strings.IndexByte -/

def strings_IndexByte_v (r : (Int)) : LV := .int .i64 r

def strings_IndexByte (s : List UInt8) (c : Int) : Option ((Int)) :=
  (internal_stringslite_IndexByte s c).bind fun y2 =>
  some y2

theorem strings_IndexByte_ok (s : List UInt8) (c : Int) (r : (Int)) (h : strings_IndexByte s c = some r) : ∀ σ, Inj 0 σ → FnTri Try.prog 60 (renL σ [.str s, .int .u8 c]) (preOf σ 0 []) ((strings_IndexByte_v r).ren σ) (upOf σ []) := by
  refine fn_of Try.func60 (by kernel_rfl) (by kernel_rfl) (by kernel_rfl) trivial (by kernel_rfl) trivial (by kernel_rfl) ?_
  intro w0 W μ0 hμ
  unfold strings_IndexByte at h
  obtain ⟨y2, e1, h⟩ := bind_some h
  obtain rfl := Option.some.inj h
  exact run_ret mixed (L := []) (n := 15) (s := [.reg [], .reg [(2, { call := some (internal_stringslite_IndexByte_v y2, [], []) })]])
    (a_ (a_ (a_ (a_ tr tr) tr) (a_ (a_ (a_ tr tr) (a_ (a_ tr tr) (a_ (a_ (a_ (internal_stringslite_IndexByte_tri s c y2 e1) tr) tr) (a_ (a_ tr tr) tr)))) tr)) tr) (by kernel_rfl) rfl

theorem strings_IndexByte_tri (s : List UInt8) (c : Int) (r : (Int)) (h : strings_IndexByte s c = some r) : FnTri Try.prog 60 [.str s, .int .u8 c] [] (strings_IndexByte_v r) [] := FnTri.none (strings_IndexByte_ok s c r h) rfl rfl

/-- parrel/ids.KeyOf -/

def ids_KeyOf_v (r : (A8 (Int)) × (Int)) : LV := .tup [.agg [.int .u8 r.1.a0, .int .u8 r.1.a1, .int .u8 r.1.a2, .int .u8 r.1.a3, .int .u8 r.1.a4, .int .u8 r.1.a5, .int .u8 r.1.a6, .int .u8 r.1.a7], .int .i64 r.2]

def ids_KeyOf (s : List UInt8) : Option ((A8 (Int)) × (Int)) :=
  if ((s == []) : Bool) then
    some ((A8.mk 0 0 0 0 0 0 0 0), 1)
  else
    if ((decide (8 < ((s).length : Int))) : Bool) then
      some ((A8.mk 0 0 0 0 0 0 0 0), 1)
    else
      (strings_IndexByte s 0).bind fun y4 =>
      if ((decide (0 ≤ y4)) : Bool) then
        some ((A8.mk 0 0 0 0 0 0 0 0), 1)
      else
        some ((A8.mk (if 0 < (s).length then ((s.getD 0 0).toNat : Int) else 0) (if 1 < (s).length then ((s.getD 1 0).toNat : Int) else 0) (if 2 < (s).length then ((s.getD 2 0).toNat : Int) else 0) (if 3 < (s).length then ((s.getD 3 0).toNat : Int) else 0) (if 4 < (s).length then ((s.getD 4 0).toNat : Int) else 0) (if 5 < (s).length then ((s.getD 5 0).toNat : Int) else 0) (if 6 < (s).length then ((s.getD 6 0).toNat : Int) else 0) (if 7 < (s).length then ((s.getD 7 0).toNat : Int) else 0)), 0)

theorem ids_KeyOf_ok (s : List UInt8) (r : (A8 (Int)) × (Int)) (h : ids_KeyOf s = some r) : ∀ σ, Inj 0 σ → FnTri Try.prog 41 (renL σ [.str s]) (preOf σ 0 []) ((ids_KeyOf_v r).ren σ) (upOf σ []) := by
  refine fn_of Try.func41 (by kernel_rfl) (by kernel_rfl) (by kernel_rfl) trivial (by kernel_rfl) trivial (by kernel_rfl) ?_
  intro w0 W μ0 hμ
  unfold ids_KeyOf at h
  rcases itb_some h with ⟨c1, h⟩ | ⟨c1, h⟩
  · skip
    obtain rfl := Option.some.inj h
    exact run_ret mixed (L := []) (n := 23) (s := [.reg [], .reg [], .reg [(2, { v := some (.bool true) })], .reg []])
      (a_ (a_ (a_ (a_ tr tr) (a_ (a_ tr tr) tr)) (a_ (a_ (a_ tr tr) tr) (a_ (a_ (a_ tr tr) (a_ (a_ tr tr) (a_ (a_ tr (a_ (leB c1) tr)) (a_ tr (a_ tr (a_ tr (a_ (a_ tr tr) (a_ (a_ tr tr) (a_ tr (a_ tr (a_ tr (a_ (a_ tr tr) tr)))))))))))) (a_ (a_ (a_ (a_ tr (le_ 8 8 rfl)) tr) (a_ (a_ (a_ (Eq.refl 8) (a_ (le_ 8 8 rfl) (Eq.refl 0))) tr) (a_ (a_ tr tr) tr))) tr)))) (a_ (a_ tr (le_ 8 8 rfl)) tr)) (by kernel_rfl) rfl
  · skip
    rcases itb_some h with ⟨c2, h⟩ | ⟨c2, h⟩
    · skip
      obtain rfl := Option.some.inj h
      exact run_ret mixed (L := []) (n := 23) (s := [.reg [], .reg [], .reg [(2, { v := some (.bool false) }), (7, { v := some (.bool true) })], .reg []])
        (a_ (a_ (a_ (a_ tr tr) (a_ (a_ tr tr) tr)) (a_ (a_ (a_ tr tr) tr) (a_ (a_ (a_ tr tr) (a_ (a_ tr tr) (a_ (a_ tr (a_ (leB c1) tr)) (a_ (a_ tr tr) (a_ (a_ tr tr) (a_ (a_ tr tr) (a_ (a_ tr tr) (a_ (a_ tr (a_ (leB c2) tr)) (a_ tr (a_ tr (a_ tr (a_ (a_ tr tr) tr)))))))))))) (a_ (a_ (a_ (a_ tr (le_ 8 8 rfl)) tr) (a_ (a_ (a_ (Eq.refl 8) (a_ (le_ 8 8 rfl) (Eq.refl 0))) tr) (a_ (a_ tr tr) tr))) tr)))) (a_ (a_ tr (le_ 8 8 rfl)) tr)) (by kernel_rfl) rfl
    · skip
      obtain ⟨y4, e3, h⟩ := bind_some h
      rcases itb_some h with ⟨c5, h⟩ | ⟨c5, h⟩
      · skip
        obtain rfl := Option.some.inj h
        exact run_ret mixed (L := []) (n := 23) (s := [.reg [], .reg [], .reg [(2, { v := some (.bool false) }), (7, { v := some (.bool false) }), (9, { call := some (strings_IndexByte_v y4, [], []) }), (11, { v := some (.bool true) })], .reg []])
          (a_ (a_ (a_ (a_ tr tr) (a_ (a_ tr tr) tr)) (a_ (a_ (a_ tr tr) tr) (a_ (a_ (a_ tr tr) (a_ (a_ tr tr) (a_ (a_ tr (a_ (leB c1) tr)) (a_ (a_ tr tr) (a_ (a_ tr tr) (a_ (a_ tr tr) (a_ (a_ tr tr) (a_ (a_ tr (a_ (leB c2) tr)) (a_ (a_ tr tr) (a_ (a_ (a_ (strings_IndexByte_tri s 0 y4 e3) tr) tr) (a_ (a_ tr tr) (a_ (a_ tr (a_ (leB c5) tr)) tr)))))))))))) (a_ (a_ (a_ (a_ tr (le_ 8 8 rfl)) tr) (a_ (a_ (a_ (Eq.refl 8) (a_ (le_ 8 8 rfl) (Eq.refl 0))) tr) (a_ (a_ tr tr) tr))) tr)))) (a_ (a_ tr (le_ 8 8 rfl)) tr)) (by kernel_rfl) rfl
      · skip
        obtain rfl := Option.some.inj h
        exact run_ret mixed (L := []) (n := 27) (s := [.reg [], .reg [], .reg [(2, { v := some (.bool false) }), (7, { v := some (.bool false) }), (9, { call := some (strings_IndexByte_v y4, [], []) }), (11, { v := some (.bool false) })], .reg [], .reg []])
          (a_ (a_ (a_ (a_ tr tr) (a_ (a_ tr tr) tr)) (a_ (a_ (a_ tr tr) tr) (a_ (a_ (a_ tr tr) (a_ (a_ tr tr) (a_ (a_ tr (a_ (leB c1) tr)) (a_ (a_ tr tr) (a_ (a_ tr tr) (a_ (a_ tr tr) (a_ (a_ tr tr) (a_ (a_ tr (a_ (leB c2) tr)) (a_ (a_ tr tr) (a_ (a_ (a_ (strings_IndexByte_tri s 0 y4 e3) tr) tr) (a_ (a_ tr tr) (a_ (a_ tr (a_ (leB c5) tr)) tr)))))))))))) (a_ (a_ (a_ (a_ (lei_ 0 0 rfl) (a_ (lei_ 0 8 rfl) (lei_ 8 8 rfl))) tr) (a_ (a_ tr tr) (a_ (a_ (a_ (Eq.refl 1) (a_ (Eq.refl 0) (a_ (le_ 8 8 rfl) (Eq.refl true)))) tr) tr))) (a_ (a_ (a_ (a_ tr (le_ 8 8 rfl)) tr) (a_ (a_ (a_ (Eq.refl 8) (a_ (le_ 8 8 rfl) (Eq.refl 0))) tr) (a_ (a_ tr tr) tr))) tr))))) (a_ (a_ tr (le_ 8 8 rfl)) tr)) (by kernel_rfl) rfl

theorem ids_KeyOf_tri (s : List UInt8) (r : (A8 (Int)) × (Int)) (h : ids_KeyOf s = some r) : FnTri Try.prog 41 [.str s] [] (ids_KeyOf_v r) [] := FnTri.none (ids_KeyOf_ok s r h) rfl rfl

/-- (*parrel/ids.Set).Add -/

def ids_Set_Add_v (r : (Bool) × (List (T_api_Tx × Bool))) : LV := .bool r.1

def ids_Set_Add_up (m : List (T_api_Tx × Bool)) (t : T_api_Tx) (r : (Bool) × (List (T_api_Tx × Bool))) : Upd := [(0, some (.var [.map 1])), (1, some (.map true [.int .u8, .int .u32, .int .u32] (encM v_T_api_Tx LV.bool r.2)))]

def ids_Set_Add_objs (m : List (T_api_Tx × Bool)) (t : T_api_Tx) : List LO := [.var [.map 1], .map true [.int .u8, .int .u32, .int .u32] (encM v_T_api_Tx LV.bool m)]

def ids_Set_Add (m : List (T_api_Tx × Bool)) (t : T_api_Tx) : Option ((Bool) × (List (T_api_Tx × Bool))) :=
  if (((mget m t).getD default) : Bool) then
    some (false, m)
  else
    some (true, (mset m t true))

theorem ids_Set_Add_ok (m : List (T_api_Tx × Bool)) (t : T_api_Tx) (r : (Bool) × (List (T_api_Tx × Bool))) (h : ids_Set_Add m t = some r) : ∀ σ, Inj 2 σ → FnTri Try.prog 31 (renL σ [.ptr 0 0 0, v_T_api_Tx t]) (preOf σ 0 (ids_Set_Add_objs m t)) ((ids_Set_Add_v r).ren σ) (upOf σ (ids_Set_Add_up m t r)) := by
  refine fn_of Try.func31 (by kernel_rfl) (by kernel_rfl) (by kernel_rfl) ⟨rfl, trivial, trivial⟩ (by kernel_rfl) ⟨rfl, trivial, trivial⟩ (by kernel_rfl) ?_
  intro w0 W μ0 hμ
  unfold ids_Set_Add at h
  rcases itb_some h with ⟨c1, h⟩ | ⟨c1, h⟩
  · skip
    obtain rfl := Option.some.inj h
    exact run_ret mixed (L := []) (n := 20) (s := [.reg [], .reg [(15, { look := ((mget m t).map LV.bool), v := some (.bool ((mget m t).getD default)) }), (16, { v := some (.bool true) })], .reg []])
      (a_ (a_ (a_ (a_ tr tr) (a_ (a_ tr tr) tr)) (a_ (a_ (a_ tr tr) (a_ (a_ tr tr) (a_ (a_ tr tr) (a_ (a_ tr tr) (a_ (a_ tr tr) (a_ (a_ tr tr) (a_ (a_ (a_ tr (lt_ 0 1 rfl)) tr) (a_ (a_ tr tr) (a_ (a_ tr tr) (a_ (a_ tr tr) (a_ (a_ tr tr) (a_ (a_ tr tr) (a_ (a_ tr tr) (a_ (a_ (a_ tr (lt_ 0 1 rfl)) tr) (a_ (a_ (a_ tr (le_ 3 3 rfl)) tr) (a_ (a_ (a_ (Eq.refl true) (findE_enc v_T_api_Tx LV.bool k_T_api_Tx m t)) (a_ (le_look LV.bool (mget m t) default) tr)) (a_ (a_ tr (a_ (leB c1) tr)) tr))))))))))))))))) (a_ (a_ (a_ tr tr) tr) tr))) tr) (by kernel_rfl) rfl
  · skip
    obtain rfl := Option.some.inj h
    exact run_ret mixed (L := []) (n := 24) (s := [.reg [], .reg [(15, { look := ((mget m t).map LV.bool), v := some (.bool ((mget m t).getD default)) }), (16, { v := some (.bool false) })], .reg [(5, { os := [(1, .map true [.int .u8, .int .u32, .int .u32] (encM v_T_api_Tx LV.bool (mset m t true)))] })], .reg []])
      (a_ (a_ (a_ (a_ tr tr) (a_ (a_ tr tr) tr)) (a_ (a_ (a_ tr tr) (a_ (a_ tr tr) (a_ (a_ tr tr) (a_ (a_ tr tr) (a_ (a_ tr tr) (a_ (a_ tr tr) (a_ (a_ (a_ tr (lt_ 0 1 rfl)) tr) (a_ (a_ tr tr) (a_ (a_ tr tr) (a_ (a_ tr tr) (a_ (a_ tr tr) (a_ (a_ tr tr) (a_ (a_ tr tr) (a_ (a_ (a_ tr (lt_ 0 1 rfl)) tr) (a_ (a_ (a_ tr (le_ 3 3 rfl)) tr) (a_ (a_ (a_ (Eq.refl true) (findE_enc v_T_api_Tx LV.bool k_T_api_Tx m t)) (a_ (le_look LV.bool (mget m t) default) tr)) (a_ (a_ tr (a_ (leB c1) tr)) tr))))))))))))))))) (a_ (a_ (a_ tr tr) (a_ (a_ tr tr) (a_ (a_ tr tr) (a_ (a_ (a_ tr (lt_ 0 1 rfl)) tr) (a_ (a_ (a_ tr (le_ 3 3 rfl)) tr) (a_ (a_ (a_ (Eq.refl true) (Eq.refl true)) (a_ (sub_upd v_T_api_Tx LV.bool k_T_api_Tx true [.int .u8, .int .u32, .int .u32] m t true) tr)) tr)))))) (a_ (a_ (a_ tr tr) tr) tr)))) tr) (by kernel_rfl) rfl

/-- (*parrel/ids.Set).Has -/

def ids_Set_Has_v (r : (Bool)) : LV := .bool r

def ids_Set_Has_up (m : List (T_api_Tx × Bool)) (t : T_api_Tx) (r : (Bool)) : Upd := [(0, some (.var [.map 1])), (1, some (.map true [.int .u8, .int .u32, .int .u32] (encM v_T_api_Tx LV.bool m)))]

def ids_Set_Has_objs (m : List (T_api_Tx × Bool)) (t : T_api_Tx) : List LO := [.var [.map 1], .map true [.int .u8, .int .u32, .int .u32] (encM v_T_api_Tx LV.bool m)]

def ids_Set_Has (m : List (T_api_Tx × Bool)) (t : T_api_Tx) : Option ((Bool)) :=
  some ((mget m t).getD default)

theorem ids_Set_Has_ok (m : List (T_api_Tx × Bool)) (t : T_api_Tx) (r : (Bool)) (h : ids_Set_Has m t = some r) : ∀ σ, Inj 2 σ → FnTri Try.prog 35 (renL σ [.ptr 0 0 0, v_T_api_Tx t]) (preOf σ 0 (ids_Set_Has_objs m t)) ((ids_Set_Has_v r).ren σ) (upOf σ (ids_Set_Has_up m t r)) := by
  refine fn_of Try.func35 (by kernel_rfl) (by kernel_rfl) (by kernel_rfl) ⟨rfl, trivial, trivial⟩ (by kernel_rfl) ⟨rfl, trivial, trivial⟩ (by kernel_rfl) ?_
  intro w0 W μ0 hμ
  unfold ids_Set_Has at h
  obtain rfl := Option.some.inj h
  exact run_ret mixed (L := []) (n := 15) (s := [.reg [], .reg [(8, { look := ((mget m t).map LV.bool), v := some (.bool ((mget m t).getD default)) })]])
    (a_ (a_ (a_ (a_ tr tr) (a_ (a_ tr tr) tr)) (a_ (a_ (a_ tr tr) (a_ (a_ tr tr) (a_ (a_ tr tr) (a_ (a_ tr tr) (a_ (a_ tr tr) (a_ (a_ tr tr) (a_ (a_ (a_ tr (lt_ 0 1 rfl)) tr) (a_ (a_ (a_ tr (le_ 3 3 rfl)) tr) (a_ (a_ (a_ (Eq.refl true) (findE_enc v_T_api_Tx LV.bool k_T_api_Tx m t)) (a_ (le_look LV.bool (mget m t) default) tr)) (a_ (a_ tr tr) (a_ (a_ tr tr) tr))))))))))) tr)) tr) (by kernel_rfl) rfl

/-- parrel/ids.isCount -/

def ids_isCount_v (r : (Bool)) : LV := .bool r

def ids_isCount (x_n : Int) : Option ((Bool)) :=
  some (decide ((IntKind.wrap .u32 (x_n - 1)) < 2147483647))

theorem ids_isCount_ok (x_n : Int) (r : (Bool)) (h : ids_isCount x_n = some r) : ∀ σ, Inj 0 σ → FnTri Try.prog 39 (renL σ [.int .u32 x_n]) (preOf σ 0 []) ((ids_isCount_v r).ren σ) (upOf σ []) := by
  refine fn_of Try.func39 (by kernel_rfl) (by kernel_rfl) (by kernel_rfl) trivial (by kernel_rfl) trivial (by kernel_rfl) ?_
  intro w0 W μ0 hμ
  unfold ids_isCount at h
  obtain rfl := Option.some.inj h
  exact run_ret mixed (L := []) (n := 15) (s := [.reg [], .reg []])
    (a_ (a_ (a_ (a_ tr tr) tr) (a_ (a_ (a_ tr tr) (a_ (a_ tr tr) (a_ (a_ tr tr) (a_ (a_ tr tr) tr)))) tr)) tr) (by kernel_rfl) rfl

theorem ids_isCount_tri (x_n : Int) (r : (Bool)) (h : ids_isCount x_n = some r) : FnTri Try.prog 39 [.int .u32 x_n] [] (ids_isCount_v r) [] := FnTri.none (ids_isCount_ok x_n r h) rfl rfl

/-- parrel/ids.TxMay -/

def ids_TxMay_v (r : (Bool)) : LV := .bool r

def ids_TxMay (t : T_api_Tx) : Option ((Bool)) :=
  if ((decide (t.f_Node < 8)) : Bool) then
    (ids_isCount t.f_Boot).bind fun y3 =>
    if (y3 : Bool) then
      (ids_isCount t.f_Num).bind fun y6 =>
      some y6
    else
      some false
  else
    some false

theorem ids_TxMay_ok (t : T_api_Tx) (r : (Bool)) (h : ids_TxMay t = some r) : ∀ σ, Inj 0 σ → FnTri Try.prog 8 (renL σ [v_T_api_Tx t]) (preOf σ 0 []) ((ids_TxMay_v r).ren σ) (upOf σ []) := by
  refine fn_of Try.func8 (by kernel_rfl) (by kernel_rfl) (by kernel_rfl) trivial (by kernel_rfl) trivial (by kernel_rfl) ?_
  intro w0 W μ0 hμ
  unfold ids_TxMay at h
  rcases itb_some h with ⟨c1, h⟩ | ⟨c1, h⟩
  · skip
    obtain ⟨y3, e2, h⟩ := bind_some h
    rcases itb_some h with ⟨c4, h⟩ | ⟨c4, h⟩
    · skip
      obtain ⟨y6, e5, h⟩ := bind_some h
      obtain rfl := Option.some.inj h
      exact run_ret mixed (L := []) (n := 15) (s := [.reg [], .reg [(3, { v := some (.bool true) }), (6, { call := some (ids_isCount_v y3, [], []) }), (8, { v := some (.bool true) }), (11, { call := some (ids_isCount_v y6, [], []) })]])
        (a_ (a_ (a_ (a_ tr tr) (a_ (a_ tr tr) tr)) (a_ (a_ (a_ tr tr) (a_ (a_ (a_ tr (lt_ 0 3 rfl)) tr) (a_ (a_ tr tr) (a_ (a_ tr (a_ (leB c1) tr)) (a_ (a_ tr tr) (a_ (a_ (a_ tr (lt_ 1 3 rfl)) tr) (a_ (a_ (a_ (ids_isCount_tri t.f_Boot y3 e2) tr) tr) (a_ (a_ tr tr) (a_ (a_ tr (a_ (leB c4) tr)) (a_ (a_ tr tr) (a_ (a_ (a_ tr (lt_ 2 3 rfl)) tr) (a_ (a_ (a_ (ids_isCount_tri t.f_Num y6 e5) tr) tr) (a_ (a_ tr tr) (a_ (a_ tr tr) tr)))))))))))))) tr)) tr) (by kernel_rfl) rfl
    · skip
      obtain rfl := Option.some.inj h
      exact run_ret mixed (L := []) (n := 15) (s := [.reg [], .reg [(3, { v := some (.bool true) }), (6, { call := some (ids_isCount_v y3, [], []) }), (8, { v := some (.bool false) })]])
        (a_ (a_ (a_ (a_ tr tr) (a_ (a_ tr tr) tr)) (a_ (a_ (a_ tr tr) (a_ (a_ (a_ tr (lt_ 0 3 rfl)) tr) (a_ (a_ tr tr) (a_ (a_ tr (a_ (leB c1) tr)) (a_ (a_ tr tr) (a_ (a_ (a_ tr (lt_ 1 3 rfl)) tr) (a_ (a_ (a_ (ids_isCount_tri t.f_Boot y3 e2) tr) tr) (a_ (a_ tr tr) (a_ (a_ tr (a_ (leB c4) tr)) (a_ tr (a_ tr (a_ tr (a_ (a_ tr tr) (a_ (a_ tr tr) tr)))))))))))))) tr)) tr) (by kernel_rfl) rfl
  · skip
    obtain rfl := Option.some.inj h
    exact run_ret mixed (L := []) (n := 15) (s := [.reg [], .reg [(3, { v := some (.bool false) })]])
      (a_ (a_ (a_ (a_ tr tr) (a_ (a_ tr tr) tr)) (a_ (a_ (a_ tr tr) (a_ (a_ (a_ tr (lt_ 0 3 rfl)) tr) (a_ (a_ tr tr) (a_ (a_ tr (a_ (leB c1) tr)) (a_ tr (a_ tr (a_ tr (a_ (a_ tr tr) (a_ (a_ tr tr) (a_ tr (a_ tr (a_ tr (a_ (a_ tr tr) (a_ (a_ tr tr) tr)))))))))))))) tr)) tr) (by kernel_rfl) rfl

theorem ids_TxMay_tri (t : T_api_Tx) (r : (Bool)) (h : ids_TxMay t = some r) : FnTri Try.prog 8 [v_T_api_Tx t] [] (ids_TxMay_v r) [] := FnTri.none (ids_TxMay_ok t r h) rfl rfl

/-- parrel/parrellaw05.alive -/

def parrellaw05_alive_v (r : (Bool)) : LV := .bool r

def parrellaw05_alive  : Option ((Bool)) :=
  (ids_KeyOf ([97, 98] : List UInt8)).bind fun y2 =>
  (ids_New).bind fun y4 =>
  if ((decide (y2.1 = (A8.mk 97 98 0 0 0 0 0 0))) : Bool) then
    if ((y2.2 == 0) : Bool) then
      (ids_Set_Add y4 (T_api_Tx.mk 1 2 3)).bind fun y8 =>
      if (y8.1 : Bool) then
        (ids_Set_Has y8.2 (T_api_Tx.mk 1 2 3)).bind fun y11 =>
        if (y11 : Bool) then
          (ids_Set_Add y8.2 (T_api_Tx.mk 1 2 3)).bind fun y14 =>
          if ((!y14.1) : Bool) then
            (ids_TxMay (T_api_Tx.mk 1 2 3)).bind fun y17 =>
            some y17
          else
            some false
        else
          some false
      else
        some false
    else
      some false
  else
    some false

theorem parrellaw05_alive_ok  (r : (Bool)) (h : parrellaw05_alive  = some r) : ∀ σ, Inj 0 σ → FnTri Try.prog 14 (renL σ []) (preOf σ 0 []) ((parrellaw05_alive_v r).ren σ) (upOf σ []) := by
  refine fn_of Try.func14 (by kernel_rfl) (by kernel_rfl) (by kernel_rfl) trivial (by kernel_rfl) trivial (by kernel_rfl) ?_
  intro w0 W μ0 hμ
  unfold parrellaw05_alive at h
  obtain ⟨y2, e1, h⟩ := bind_some h
  obtain ⟨y4, e3, h⟩ := bind_some h
  rcases itb_some h with ⟨c5, h⟩ | ⟨c5, h⟩
  · skip
    rcases itb_some h with ⟨c6, h⟩ | ⟨c6, h⟩
    · skip
      obtain ⟨y8, e7, h⟩ := bind_some h
      rcases itb_some h with ⟨c9, h⟩ | ⟨c9, h⟩
      · skip
        obtain ⟨y11, e10, h⟩ := bind_some h
        rcases itb_some h with ⟨c12, h⟩ | ⟨c12, h⟩
        · skip
          obtain ⟨y14, e13, h⟩ := bind_some h
          rcases itb_some h with ⟨c15, h⟩ | ⟨c15, h⟩
          · skip
            obtain ⟨y17, e16, h⟩ := bind_some h
            obtain rfl := Option.some.inj h
            exact run_ret mixed (L := []) (n := 24) (s := [.reg [], .reg [(0, { call := some (ids_KeyOf_v y2, [], []) })], .reg [(0, { call := some ((ids_New_v y4).ren (sel [1, 2]), preOf (sel [1, 2]) 0 [], upOf (sel [1, 2]) (ids_New_up  y4)) })], .reg [], .reg [(2, { v := some (.bool (decide (y2.1 = (A8.mk 97 98 0 0 0 0 0 0)))) }), (3, { v := some (.bool true) }), (7, { v := some (.bool true) }), (14, { call := some ((ids_Set_Add_v y8).ren (sel [1, 2]), preOf (sel [1, 2]) 0 (ids_Set_Add_objs y4 (T_api_Tx.mk 1 2 3)), upOf (sel [1, 2]) (ids_Set_Add_up y4 (T_api_Tx.mk 1 2 3) y8)) }), (16, { v := some (.bool true) }), (19, { call := some ((ids_Set_Has_v y11).ren (sel [1, 2]), preOf (sel [1, 2]) 0 (ids_Set_Has_objs y8.2 (T_api_Tx.mk 1 2 3)), upOf (sel [1, 2]) (ids_Set_Has_up y8.2 (T_api_Tx.mk 1 2 3) y11)) }), (21, { v := some (.bool true) }), (24, { call := some ((ids_Set_Add_v y14).ren (sel [1, 2]), preOf (sel [1, 2]) 0 (ids_Set_Add_objs y8.2 (T_api_Tx.mk 1 2 3)), upOf (sel [1, 2]) (ids_Set_Add_up y8.2 (T_api_Tx.mk 1 2 3) y14)) }), (27, { v := some (.bool true) }), (29, { call := some (ids_TxMay_v y17, [], []) })]])
              (a_ (a_ (a_ (a_ tr tr) tr) (a_ (a_ (a_ (a_ (ids_KeyOf_tri ([97, 98] : List UInt8) y2 e1) tr) tr) (a_ (a_ tr tr) (a_ (a_ tr tr) (a_ (a_ tr tr) (a_ (a_ tr tr) (a_ (a_ (a_ (Eq.refl 8) (a_ (le_ 8 8 rfl) (Eq.refl 0))) tr) (a_ (a_ tr tr) tr))))))) (a_ (a_ (a_ (a_ (ids_New_ok  y4 e3 (sel [1, 2]) (sel_inj rfl rfl)) tr) tr) (a_ (a_ tr tr) tr)) (a_ (a_ (a_ (Eq.refl true) tr) (a_ (a_ tr tr) (a_ (a_ (a_ (Eq.refl 3) (a_ (le_ 3 3 rfl) (Eq.refl 0))) tr) tr))) (a_ (a_ (a_ (a_ tr (le_ 8 8 rfl)) tr) (a_ (a_ (Eq.refl true) tr) (a_ (a_ tr (a_ (leB ((k_arr8 .u8) y2.1 (A8.mk 97 98 0 0 0 0 0 0))) tr)) (a_ (a_ tr (a_ (leB c5) tr)) (a_ (a_ tr tr) (a_ (a_ tr tr) (a_ (a_ tr tr) (a_ (a_ tr (a_ (leB c6) tr)) (a_ (a_ tr tr) (a_ (a_ tr tr) (a_ (a_ tr tr) (a_ (a_ tr tr) (a_ (a_ tr tr) (a_ (a_ (a_ tr (le_ 3 3 rfl)) tr) (a_ (a_ (a_ (ids_Set_Add_ok y4 (T_api_Tx.mk 1 2 3) y8 e7 (sel [1, 2]) (sel_inj rfl rfl)) (a_ (LO.Le.refl (.var [.map 2])) (a_ (LO.Le.refl (.map true [.int .u8, .int .u32, .int .u32] (encM v_T_api_Tx LV.bool y4))) tr))) tr) (a_ (a_ tr tr) (a_ (a_ tr (a_ (leB c9) tr)) (a_ (a_ tr tr) (a_ (a_ (a_ tr (le_ 3 3 rfl)) tr) (a_ (a_ (a_ (ids_Set_Has_ok y8.2 (T_api_Tx.mk 1 2 3) y11 e10 (sel [1, 2]) (sel_inj rfl rfl)) (a_ (LO.Le.refl (.var [.map 2])) (a_ (LO.Le.refl (.map true [.int .u8, .int .u32, .int .u32] (encM v_T_api_Tx LV.bool y8.2))) tr))) tr) (a_ (a_ tr tr) (a_ (a_ tr (a_ (leB c12) tr)) (a_ (a_ tr tr) (a_ (a_ (a_ tr (le_ 3 3 rfl)) tr) (a_ (a_ (a_ (ids_Set_Add_ok y8.2 (T_api_Tx.mk 1 2 3) y14 e13 (sel [1, 2]) (sel_inj rfl rfl)) (a_ (LO.Le.refl (.var [.map 2])) (a_ (LO.Le.refl (.map true [.int .u8, .int .u32, .int .u32] (encM v_T_api_Tx LV.bool y8.2))) tr))) tr) (a_ (a_ tr tr) (a_ (a_ tr tr) (a_ (a_ tr (a_ (leB c15) tr)) (a_ (a_ (a_ tr (le_ 3 3 rfl)) tr) (a_ (a_ (a_ (ids_TxMay_tri (T_api_Tx.mk 1 2 3) y17 e16) tr) tr) (a_ (a_ tr tr) (a_ (a_ tr tr) tr)))))))))))))))))))))))))))))))) tr))))) tr) (by kernel_rfl) rfl
          · skip
            obtain rfl := Option.some.inj h
            exact run_ret mixed (L := []) (n := 24) (s := [.reg [], .reg [(0, { call := some (ids_KeyOf_v y2, [], []) })], .reg [(0, { call := some ((ids_New_v y4).ren (sel [1, 2]), preOf (sel [1, 2]) 0 [], upOf (sel [1, 2]) (ids_New_up  y4)) })], .reg [], .reg [(2, { v := some (.bool (decide (y2.1 = (A8.mk 97 98 0 0 0 0 0 0)))) }), (3, { v := some (.bool true) }), (7, { v := some (.bool true) }), (14, { call := some ((ids_Set_Add_v y8).ren (sel [1, 2]), preOf (sel [1, 2]) 0 (ids_Set_Add_objs y4 (T_api_Tx.mk 1 2 3)), upOf (sel [1, 2]) (ids_Set_Add_up y4 (T_api_Tx.mk 1 2 3) y8)) }), (16, { v := some (.bool true) }), (19, { call := some ((ids_Set_Has_v y11).ren (sel [1, 2]), preOf (sel [1, 2]) 0 (ids_Set_Has_objs y8.2 (T_api_Tx.mk 1 2 3)), upOf (sel [1, 2]) (ids_Set_Has_up y8.2 (T_api_Tx.mk 1 2 3) y11)) }), (21, { v := some (.bool true) }), (24, { call := some ((ids_Set_Add_v y14).ren (sel [1, 2]), preOf (sel [1, 2]) 0 (ids_Set_Add_objs y8.2 (T_api_Tx.mk 1 2 3)), upOf (sel [1, 2]) (ids_Set_Add_up y8.2 (T_api_Tx.mk 1 2 3) y14)) }), (27, { v := some (.bool false) })]])
              (a_ (a_ (a_ (a_ tr tr) tr) (a_ (a_ (a_ (a_ (ids_KeyOf_tri ([97, 98] : List UInt8) y2 e1) tr) tr) (a_ (a_ tr tr) (a_ (a_ tr tr) (a_ (a_ tr tr) (a_ (a_ tr tr) (a_ (a_ (a_ (Eq.refl 8) (a_ (le_ 8 8 rfl) (Eq.refl 0))) tr) (a_ (a_ tr tr) tr))))))) (a_ (a_ (a_ (a_ (ids_New_ok  y4 e3 (sel [1, 2]) (sel_inj rfl rfl)) tr) tr) (a_ (a_ tr tr) tr)) (a_ (a_ (a_ (Eq.refl true) tr) (a_ (a_ tr tr) (a_ (a_ (a_ (Eq.refl 3) (a_ (le_ 3 3 rfl) (Eq.refl 0))) tr) tr))) (a_ (a_ (a_ (a_ tr (le_ 8 8 rfl)) tr) (a_ (a_ (Eq.refl true) tr) (a_ (a_ tr (a_ (leB ((k_arr8 .u8) y2.1 (A8.mk 97 98 0 0 0 0 0 0))) tr)) (a_ (a_ tr (a_ (leB c5) tr)) (a_ (a_ tr tr) (a_ (a_ tr tr) (a_ (a_ tr tr) (a_ (a_ tr (a_ (leB c6) tr)) (a_ (a_ tr tr) (a_ (a_ tr tr) (a_ (a_ tr tr) (a_ (a_ tr tr) (a_ (a_ tr tr) (a_ (a_ (a_ tr (le_ 3 3 rfl)) tr) (a_ (a_ (a_ (ids_Set_Add_ok y4 (T_api_Tx.mk 1 2 3) y8 e7 (sel [1, 2]) (sel_inj rfl rfl)) (a_ (LO.Le.refl (.var [.map 2])) (a_ (LO.Le.refl (.map true [.int .u8, .int .u32, .int .u32] (encM v_T_api_Tx LV.bool y4))) tr))) tr) (a_ (a_ tr tr) (a_ (a_ tr (a_ (leB c9) tr)) (a_ (a_ tr tr) (a_ (a_ (a_ tr (le_ 3 3 rfl)) tr) (a_ (a_ (a_ (ids_Set_Has_ok y8.2 (T_api_Tx.mk 1 2 3) y11 e10 (sel [1, 2]) (sel_inj rfl rfl)) (a_ (LO.Le.refl (.var [.map 2])) (a_ (LO.Le.refl (.map true [.int .u8, .int .u32, .int .u32] (encM v_T_api_Tx LV.bool y8.2))) tr))) tr) (a_ (a_ tr tr) (a_ (a_ tr (a_ (leB c12) tr)) (a_ (a_ tr tr) (a_ (a_ (a_ tr (le_ 3 3 rfl)) tr) (a_ (a_ (a_ (ids_Set_Add_ok y8.2 (T_api_Tx.mk 1 2 3) y14 e13 (sel [1, 2]) (sel_inj rfl rfl)) (a_ (LO.Le.refl (.var [.map 2])) (a_ (LO.Le.refl (.map true [.int .u8, .int .u32, .int .u32] (encM v_T_api_Tx LV.bool y8.2))) tr))) tr) (a_ (a_ tr tr) (a_ (a_ tr tr) (a_ (a_ tr (a_ (leB c15) tr)) (a_ tr (a_ tr (a_ (a_ tr tr) (a_ (a_ tr tr) tr)))))))))))))))))))))))))))))))) tr))))) tr) (by kernel_rfl) rfl
        · skip
          obtain rfl := Option.some.inj h
          exact run_ret mixed (L := []) (n := 24) (s := [.reg [], .reg [(0, { call := some (ids_KeyOf_v y2, [], []) })], .reg [(0, { call := some ((ids_New_v y4).ren (sel [1, 2]), preOf (sel [1, 2]) 0 [], upOf (sel [1, 2]) (ids_New_up  y4)) })], .reg [], .reg [(2, { v := some (.bool (decide (y2.1 = (A8.mk 97 98 0 0 0 0 0 0)))) }), (3, { v := some (.bool true) }), (7, { v := some (.bool true) }), (14, { call := some ((ids_Set_Add_v y8).ren (sel [1, 2]), preOf (sel [1, 2]) 0 (ids_Set_Add_objs y4 (T_api_Tx.mk 1 2 3)), upOf (sel [1, 2]) (ids_Set_Add_up y4 (T_api_Tx.mk 1 2 3) y8)) }), (16, { v := some (.bool true) }), (19, { call := some ((ids_Set_Has_v y11).ren (sel [1, 2]), preOf (sel [1, 2]) 0 (ids_Set_Has_objs y8.2 (T_api_Tx.mk 1 2 3)), upOf (sel [1, 2]) (ids_Set_Has_up y8.2 (T_api_Tx.mk 1 2 3) y11)) }), (21, { v := some (.bool false) })]])
            (a_ (a_ (a_ (a_ tr tr) tr) (a_ (a_ (a_ (a_ (ids_KeyOf_tri ([97, 98] : List UInt8) y2 e1) tr) tr) (a_ (a_ tr tr) (a_ (a_ tr tr) (a_ (a_ tr tr) (a_ (a_ tr tr) (a_ (a_ (a_ (Eq.refl 8) (a_ (le_ 8 8 rfl) (Eq.refl 0))) tr) (a_ (a_ tr tr) tr))))))) (a_ (a_ (a_ (a_ (ids_New_ok  y4 e3 (sel [1, 2]) (sel_inj rfl rfl)) tr) tr) (a_ (a_ tr tr) tr)) (a_ (a_ (a_ (Eq.refl true) tr) (a_ (a_ tr tr) (a_ (a_ (a_ (Eq.refl 3) (a_ (le_ 3 3 rfl) (Eq.refl 0))) tr) tr))) (a_ (a_ (a_ (a_ tr (le_ 8 8 rfl)) tr) (a_ (a_ (Eq.refl true) tr) (a_ (a_ tr (a_ (leB ((k_arr8 .u8) y2.1 (A8.mk 97 98 0 0 0 0 0 0))) tr)) (a_ (a_ tr (a_ (leB c5) tr)) (a_ (a_ tr tr) (a_ (a_ tr tr) (a_ (a_ tr tr) (a_ (a_ tr (a_ (leB c6) tr)) (a_ (a_ tr tr) (a_ (a_ tr tr) (a_ (a_ tr tr) (a_ (a_ tr tr) (a_ (a_ tr tr) (a_ (a_ (a_ tr (le_ 3 3 rfl)) tr) (a_ (a_ (a_ (ids_Set_Add_ok y4 (T_api_Tx.mk 1 2 3) y8 e7 (sel [1, 2]) (sel_inj rfl rfl)) (a_ (LO.Le.refl (.var [.map 2])) (a_ (LO.Le.refl (.map true [.int .u8, .int .u32, .int .u32] (encM v_T_api_Tx LV.bool y4))) tr))) tr) (a_ (a_ tr tr) (a_ (a_ tr (a_ (leB c9) tr)) (a_ (a_ tr tr) (a_ (a_ (a_ tr (le_ 3 3 rfl)) tr) (a_ (a_ (a_ (ids_Set_Has_ok y8.2 (T_api_Tx.mk 1 2 3) y11 e10 (sel [1, 2]) (sel_inj rfl rfl)) (a_ (LO.Le.refl (.var [.map 2])) (a_ (LO.Le.refl (.map true [.int .u8, .int .u32, .int .u32] (encM v_T_api_Tx LV.bool y8.2))) tr))) tr) (a_ (a_ tr tr) (a_ (a_ tr (a_ (leB c12) tr)) (a_ tr (a_ tr (a_ tr (a_ tr (a_ (a_ tr tr) (a_ (a_ tr tr) (a_ tr (a_ tr (a_ (a_ tr tr) (a_ (a_ tr tr) tr)))))))))))))))))))))))))))))))) tr))))) tr) (by kernel_rfl) rfl
      · skip
        obtain rfl := Option.some.inj h
        exact run_ret mixed (L := []) (n := 24) (s := [.reg [], .reg [(0, { call := some (ids_KeyOf_v y2, [], []) })], .reg [(0, { call := some ((ids_New_v y4).ren (sel [1, 2]), preOf (sel [1, 2]) 0 [], upOf (sel [1, 2]) (ids_New_up  y4)) })], .reg [], .reg [(2, { v := some (.bool (decide (y2.1 = (A8.mk 97 98 0 0 0 0 0 0)))) }), (3, { v := some (.bool true) }), (7, { v := some (.bool true) }), (14, { call := some ((ids_Set_Add_v y8).ren (sel [1, 2]), preOf (sel [1, 2]) 0 (ids_Set_Add_objs y4 (T_api_Tx.mk 1 2 3)), upOf (sel [1, 2]) (ids_Set_Add_up y4 (T_api_Tx.mk 1 2 3) y8)) }), (16, { v := some (.bool false) })]])
          (a_ (a_ (a_ (a_ tr tr) tr) (a_ (a_ (a_ (a_ (ids_KeyOf_tri ([97, 98] : List UInt8) y2 e1) tr) tr) (a_ (a_ tr tr) (a_ (a_ tr tr) (a_ (a_ tr tr) (a_ (a_ tr tr) (a_ (a_ (a_ (Eq.refl 8) (a_ (le_ 8 8 rfl) (Eq.refl 0))) tr) (a_ (a_ tr tr) tr))))))) (a_ (a_ (a_ (a_ (ids_New_ok  y4 e3 (sel [1, 2]) (sel_inj rfl rfl)) tr) tr) (a_ (a_ tr tr) tr)) (a_ (a_ (a_ (Eq.refl true) tr) (a_ (a_ tr tr) (a_ (a_ (a_ (Eq.refl 3) (a_ (le_ 3 3 rfl) (Eq.refl 0))) tr) tr))) (a_ (a_ (a_ (a_ tr (le_ 8 8 rfl)) tr) (a_ (a_ (Eq.refl true) tr) (a_ (a_ tr (a_ (leB ((k_arr8 .u8) y2.1 (A8.mk 97 98 0 0 0 0 0 0))) tr)) (a_ (a_ tr (a_ (leB c5) tr)) (a_ (a_ tr tr) (a_ (a_ tr tr) (a_ (a_ tr tr) (a_ (a_ tr (a_ (leB c6) tr)) (a_ (a_ tr tr) (a_ (a_ tr tr) (a_ (a_ tr tr) (a_ (a_ tr tr) (a_ (a_ tr tr) (a_ (a_ (a_ tr (le_ 3 3 rfl)) tr) (a_ (a_ (a_ (ids_Set_Add_ok y4 (T_api_Tx.mk 1 2 3) y8 e7 (sel [1, 2]) (sel_inj rfl rfl)) (a_ (LO.Le.refl (.var [.map 2])) (a_ (LO.Le.refl (.map true [.int .u8, .int .u32, .int .u32] (encM v_T_api_Tx LV.bool y4))) tr))) tr) (a_ (a_ tr tr) (a_ (a_ tr (a_ (leB c9) tr)) (a_ tr (a_ tr (a_ tr (a_ (a_ tr tr) (a_ (a_ tr tr) (a_ tr (a_ tr (a_ tr (a_ tr (a_ (a_ tr tr) (a_ (a_ tr tr) (a_ tr (a_ tr (a_ (a_ tr tr) (a_ (a_ tr tr) tr)))))))))))))))))))))))))))))))) tr))))) tr) (by kernel_rfl) rfl
    · skip
      obtain rfl := Option.some.inj h
      exact run_ret mixed (L := []) (n := 24) (s := [.reg [], .reg [(0, { call := some (ids_KeyOf_v y2, [], []) })], .reg [(0, { call := some ((ids_New_v y4).ren (sel [1, 2]), preOf (sel [1, 2]) 0 [], upOf (sel [1, 2]) (ids_New_up  y4)) })], .reg [], .reg [(2, { v := some (.bool (decide (y2.1 = (A8.mk 97 98 0 0 0 0 0 0)))) }), (3, { v := some (.bool true) }), (7, { v := some (.bool false) })]])
        (a_ (a_ (a_ (a_ tr tr) tr) (a_ (a_ (a_ (a_ (ids_KeyOf_tri ([97, 98] : List UInt8) y2 e1) tr) tr) (a_ (a_ tr tr) (a_ (a_ tr tr) (a_ (a_ tr tr) (a_ (a_ tr tr) (a_ (a_ (a_ (Eq.refl 8) (a_ (le_ 8 8 rfl) (Eq.refl 0))) tr) (a_ (a_ tr tr) tr))))))) (a_ (a_ (a_ (a_ (ids_New_ok  y4 e3 (sel [1, 2]) (sel_inj rfl rfl)) tr) tr) (a_ (a_ tr tr) tr)) (a_ (a_ (a_ (Eq.refl true) tr) (a_ (a_ tr tr) (a_ (a_ (a_ (Eq.refl 3) (a_ (le_ 3 3 rfl) (Eq.refl 0))) tr) tr))) (a_ (a_ (a_ (a_ tr (le_ 8 8 rfl)) tr) (a_ (a_ (Eq.refl true) tr) (a_ (a_ tr (a_ (leB ((k_arr8 .u8) y2.1 (A8.mk 97 98 0 0 0 0 0 0))) tr)) (a_ (a_ tr (a_ (leB c5) tr)) (a_ (a_ tr tr) (a_ (a_ tr tr) (a_ (a_ tr tr) (a_ (a_ tr (a_ (leB c6) tr)) (a_ tr (a_ tr (a_ (a_ tr tr) (a_ (a_ tr tr) (a_ tr (a_ tr (a_ tr (a_ (a_ tr tr) (a_ (a_ tr tr) (a_ tr (a_ tr (a_ tr (a_ (a_ tr tr) (a_ (a_ tr tr) (a_ tr (a_ tr (a_ tr (a_ tr (a_ (a_ tr tr) (a_ (a_ tr tr) (a_ tr (a_ tr (a_ (a_ tr tr) (a_ (a_ tr tr) tr)))))))))))))))))))))))))))))))) tr))))) tr) (by kernel_rfl) rfl
  · skip
    obtain rfl := Option.some.inj h
    exact run_ret mixed (L := []) (n := 24) (s := [.reg [], .reg [(0, { call := some (ids_KeyOf_v y2, [], []) })], .reg [(0, { call := some ((ids_New_v y4).ren (sel [1, 2]), preOf (sel [1, 2]) 0 [], upOf (sel [1, 2]) (ids_New_up  y4)) })], .reg [], .reg [(2, { v := some (.bool (decide (y2.1 = (A8.mk 97 98 0 0 0 0 0 0)))) }), (3, { v := some (.bool false) })]])
      (a_ (a_ (a_ (a_ tr tr) tr) (a_ (a_ (a_ (a_ (ids_KeyOf_tri ([97, 98] : List UInt8) y2 e1) tr) tr) (a_ (a_ tr tr) (a_ (a_ tr tr) (a_ (a_ tr tr) (a_ (a_ tr tr) (a_ (a_ (a_ (Eq.refl 8) (a_ (le_ 8 8 rfl) (Eq.refl 0))) tr) (a_ (a_ tr tr) tr))))))) (a_ (a_ (a_ (a_ (ids_New_ok  y4 e3 (sel [1, 2]) (sel_inj rfl rfl)) tr) tr) (a_ (a_ tr tr) tr)) (a_ (a_ (a_ (Eq.refl true) tr) (a_ (a_ tr tr) (a_ (a_ (a_ (Eq.refl 3) (a_ (le_ 3 3 rfl) (Eq.refl 0))) tr) tr))) (a_ (a_ (a_ (a_ tr (le_ 8 8 rfl)) tr) (a_ (a_ (Eq.refl true) tr) (a_ (a_ tr (a_ (leB ((k_arr8 .u8) y2.1 (A8.mk 97 98 0 0 0 0 0 0))) tr)) (a_ (a_ tr (a_ (leB c5) tr)) (a_ tr (a_ tr (a_ (a_ tr tr) (a_ (a_ tr tr) (a_ tr (a_ tr (a_ (a_ tr tr) (a_ (a_ tr tr) (a_ tr (a_ tr (a_ tr (a_ (a_ tr tr) (a_ (a_ tr tr) (a_ tr (a_ tr (a_ tr (a_ (a_ tr tr) (a_ (a_ tr tr) (a_ tr (a_ tr (a_ tr (a_ tr (a_ (a_ tr tr) (a_ (a_ tr tr) (a_ tr (a_ tr (a_ (a_ tr tr) (a_ (a_ tr tr) tr)))))))))))))))))))))))))))))))) tr))))) tr) (by kernel_rfl) rfl

theorem parrellaw05_alive_tri  (r : (Bool)) (h : parrellaw05_alive  = some r) : FnTri Try.prog 14 [] [] (parrellaw05_alive_v r) [] := FnTri.none (parrellaw05_alive_ok  r h) rfl rfl

/-- parrel/parrelref05.numbers -/

def parrelref05_numbers_v (r : (List (Int))) : LV := .ds 1 (r).length (rowF (cInt .u32) default r)

def parrelref05_numbers (t : T_api_Tx) : Option ((List (Int))) :=
  some [(IntKind.wrap .u32 t.f_Node), t.f_Boot, t.f_Num]

theorem parrelref05_numbers_ok (t : T_api_Tx) (r : (List (Int))) (h : parrelref05_numbers t = some r) : ∀ σ, Inj 0 σ → FnTri Try.prog 47 (renL σ [v_T_api_Tx t]) (preOf σ 0 []) ((parrelref05_numbers_v r).ren σ) (upOf σ []) := by
  refine fn_of Try.func47 (by kernel_rfl) (by kernel_rfl) (by kernel_rfl) trivial (by kernel_rfl) trivial (by kernel_rfl) ?_
  intro w0 W μ0 hμ
  unfold parrelref05_numbers at h
  obtain rfl := Option.some.inj h
  exact run_ret mixed (L := []) (n := 16) (s := [.reg [(1, { v := some (.ds 1 (([] : List (Int))).length (rowF (cInt .u32) default ([] : List (Int)))) })], .reg [(7, { os := [(1, .gr 1 ([(IntKind.wrap .u32 t.f_Node), t.f_Boot, t.f_Num]).length (rowF (cInt .u32) default [(IntKind.wrap .u32 t.f_Node), t.f_Boot, t.f_Num]))], v := some (.gs 1 ([(IntKind.wrap .u32 t.f_Node), t.f_Boot, t.f_Num]).length) })], .frz 1])
    (a_ (a_ (a_ (a_ tr tr) (a_ (a_ tr (a_ (le_nil_ds 1 (rowF (cInt .u32) default [])) tr)) tr)) (a_ (a_ (a_ tr tr) (a_ (a_ (a_ tr (lt_ 0 3 rfl)) tr) (a_ (a_ tr tr) (a_ (a_ tr tr) (a_ (a_ (a_ tr (lt_ 1 3 rfl)) tr) (a_ (a_ tr tr) (a_ (a_ (a_ tr (lt_ 2 3 rfl)) tr) (a_ (a_ (a_ (Eq.refl true) (a_ (Eq.refl 1) (a_ (lt_ 0 1 rfl) (le_ 3 16777216 rfl)))) (a_ (le_sl_gs 1 3 (some 3) rfl) (a_ (sub_lit (cInt .u32) default 1 (fun _ => rfl) [(IntKind.wrap .u32 t.f_Node), t.f_Boot, t.f_Num]) tr))) (a_ (a_ tr tr) tr))))))))) (a_ (a_ (fz_row (enc := (cInt .u32)) (d := default) (fun _ => rfl) [(IntKind.wrap .u32 t.f_Node), t.f_Boot, t.f_Num]) (a_ (Nat.le_refl ([(IntKind.wrap .u32 t.f_Node), t.f_Boot, t.f_Num]).length) (a_ (Nat.le_refl ([(IntKind.wrap .u32 t.f_Node), t.f_Boot, t.f_Num]).length) tr))) tr))) tr) (by kernel_rfl) rfl

theorem parrelref05_numbers_tri (t : T_api_Tx) (r : (List (Int))) (h : parrelref05_numbers t = some r) : FnTri Try.prog 47 [v_T_api_Tx t] [] (parrelref05_numbers_v r) [] := FnTri.none (parrelref05_numbers_ok t r h) rfl rfl

/-- parrel/parrelref05.first -/

def parrelref05_first_v (r : (Int)) : LV := .int .i64 r

def parrelref05_first_T0 (a : List (Int)) (b : List (Int)) (i : Int) : List LV := [.ds 1 (a).length (rowF (cInt .u32) default a), .ds 1 (b).length (rowF (cInt .u32) default b), .any, .any, .any, .int .i64 i, .any, .any, .any, .any, .any, .any, .any, .any, .any, .any, .any, .any, .any, .any, .any, .any, .any, .any, .any, .any, .any, .any, .any, .any]

def parrelref05_first_H0 (a : List (Int)) (b : List (Int)) (i : Int) : Heap := []

def parrelref05_first_l0 (a : List (Int)) (b : List (Int))  : Nat → (Int) → Option ((Int))
  | 0, _ => none
  | fuel + 1, i =>
    if ((decide (i < ((a).length : Int))) : Bool) then
      if 0 ≤ i ∧ i < (((a).length : Nat) : Int) then
      if 0 ≤ i ∧ i < (((b).length : Nat) : Int) then
      if ((decide ((a.getD i.toNat default) < (b.getD i.toNat default))) : Bool) then
        some (-1)
      else
        if ((decide ((b.getD i.toNat default) < (a.getD i.toNat default))) : Bool) then
          some 1
        else
          parrelref05_first_l0 a b  fuel (IntKind.wrap .i64 (i + 1))
      else none
      else none
    else
      some 0

def parrelref05_first (a : List (Int)) (b : List (Int)) : Option ((Int)) :=
  parrelref05_first_l0 a b  big 0

theorem parrelref05_first_l0_ok {w0 : World} {W : Nat → Prop} {μ0 : Emb} (hμ : ∀ c p, μ0 c = some p → c < 0) (a : List (Int)) (b : List (Int))  : ∀ (fuel : Nat) (i : Int) (r : (Int)), parrelref05_first_l0 a b  fuel i = some r → kont Try.prog w0 W μ0 (FnPost Try.prog Try.f43 0 0 (parrelref05_first_v r) []) (kAt (bodyOf Try.f43) 0) none (parrelref05_first_T0 a b i) (parrelref05_first_H0 a b i) := by
  intro fuel
  induction fuel with
  | zero => intro i r h; rw [parrelref05_first_l0] at h; cases h
  | succ fuel ih =>
    intro i r h
    rw [parrelref05_first_l0] at h
    rcases itb_some h with ⟨cL0_1, h⟩ | ⟨cL0_1, h⟩
    · skip
      obtain ⟨gL0_2, h⟩ := guard_some h
      obtain ⟨gL0_3, h⟩ := guard_some h
      rcases itb_some h with ⟨cL0_4, h⟩ | ⟨cL0_4, h⟩
      · skip
        obtain rfl := Option.some.inj h
        exact run_ret mixed (L := []) (n := 26) (s := [.go, .reg [(3, { v := some (.bool true) })], .reg [(8, { v := some (.bool true) })], .reg []])
          (a_ (a_ (a_ (a_ tr tr) (a_ (a_ tr tr) (a_ (a_ tr tr) (a_ (a_ tr (a_ (leB cL0_1) tr)) tr)))) (a_ (a_ (a_ tr tr) (a_ (a_ tr tr) (a_ (a_ (a_ (Eq.refl 1) gL0_2) tr) (a_ (a_ (lt_ 0 1 rfl) tr) (a_ (a_ tr tr) (a_ (a_ tr tr) (a_ (a_ (a_ (Eq.refl 1) gL0_3) tr) (a_ (a_ (lt_ 0 1 rfl) tr) (a_ (a_ tr (a_ (leB cL0_4) tr)) tr))))))))) (a_ (a_ (a_ tr tr) tr) tr))) tr) (by kernel_rfl) rfl
      · skip
        rcases itb_some h with ⟨cL0_5, h⟩ | ⟨cL0_5, h⟩
        · skip
          obtain rfl := Option.some.inj h
          exact run_ret mixed (L := []) (n := 31) (s := [.go, .reg [(3, { v := some (.bool true) })], .reg [(8, { v := some (.bool false) })], .reg [(8, { v := some (.bool true) })], .reg []])
            (a_ (a_ (a_ (a_ tr tr) (a_ (a_ tr tr) (a_ (a_ tr tr) (a_ (a_ tr (a_ (leB cL0_1) tr)) tr)))) (a_ (a_ (a_ tr tr) (a_ (a_ tr tr) (a_ (a_ (a_ (Eq.refl 1) gL0_2) tr) (a_ (a_ (lt_ 0 1 rfl) tr) (a_ (a_ tr tr) (a_ (a_ tr tr) (a_ (a_ (a_ (Eq.refl 1) gL0_3) tr) (a_ (a_ (lt_ 0 1 rfl) tr) (a_ (a_ tr (a_ (leB cL0_4) tr)) tr))))))))) (a_ (a_ (a_ tr tr) (a_ (a_ tr tr) (a_ (a_ (a_ (Eq.refl 1) gL0_2) tr) (a_ (a_ (lt_ 0 1 rfl) tr) (a_ (a_ tr tr) (a_ (a_ tr tr) (a_ (a_ (a_ (Eq.refl 1) gL0_3) tr) (a_ (a_ (lt_ 0 1 rfl) tr) (a_ (a_ tr (a_ (leB cL0_5) tr)) tr))))))))) (a_ (a_ (a_ tr tr) tr) tr)))) tr) (by kernel_rfl) rfl
        · skip
          exact run_to mixed hμ (L := []) (n := 32) (s := [.go, .reg [(3, { v := some (.bool true) })], .reg [(8, { v := some (.bool false) })], .reg [(8, { v := some (.bool false) })], .reg []])
            (a_ (a_ (a_ tr tr) (a_ (a_ tr tr) (a_ (a_ tr tr) (a_ (a_ tr (a_ (leB cL0_1) tr)) tr)))) (a_ (a_ (a_ tr tr) (a_ (a_ tr tr) (a_ (a_ (a_ (Eq.refl 1) gL0_2) tr) (a_ (a_ (lt_ 0 1 rfl) tr) (a_ (a_ tr tr) (a_ (a_ tr tr) (a_ (a_ (a_ (Eq.refl 1) gL0_3) tr) (a_ (a_ (lt_ 0 1 rfl) tr) (a_ (a_ tr (a_ (leB cL0_4) tr)) tr))))))))) (a_ (a_ (a_ tr tr) (a_ (a_ tr tr) (a_ (a_ (a_ (Eq.refl 1) gL0_2) tr) (a_ (a_ (lt_ 0 1 rfl) tr) (a_ (a_ tr tr) (a_ (a_ tr tr) (a_ (a_ (a_ (Eq.refl 1) gL0_3) tr) (a_ (a_ (lt_ 0 1 rfl) tr) (a_ (a_ tr (a_ (leB cL0_5) tr)) tr))))))))) (a_ (a_ (a_ tr tr) (a_ (a_ tr tr) (a_ (a_ tr tr) tr))) tr)))) (ih _ r h) (by kernel_rfl) trivial
    · skip
      obtain rfl := Option.some.inj h
      exact run_ret mixed (L := []) (n := 19) (s := [.go, .reg [(3, { v := some (.bool false) })], .reg []])
        (a_ (a_ (a_ (a_ tr tr) (a_ (a_ tr tr) (a_ (a_ tr tr) (a_ (a_ tr (a_ (leB cL0_1) tr)) tr)))) (a_ (a_ (a_ tr tr) tr) tr)) tr) (by kernel_rfl) rfl

theorem parrelref05_first_ok (a : List (Int)) (b : List (Int)) (r : (Int)) (h : parrelref05_first a b = some r) : ∀ σ, Inj 0 σ → FnTri Try.prog 43 (renL σ [.ds 1 (a).length (rowF (cInt .u32) default a), .ds 1 (b).length (rowF (cInt .u32) default b)]) (preOf σ 0 []) ((parrelref05_first_v r).ren σ) (upOf σ []) := by
  refine fn_of Try.func43 (by kernel_rfl) (by kernel_rfl) (by kernel_rfl) trivial (by kernel_rfl) trivial (by kernel_rfl) ?_
  intro w0 W μ0 hμ
  unfold parrelref05_first at h
  exact run_to mixed hμ (L := []) (n := 18) (s := [.reg [], .reg []])
    (a_ (a_ (a_ tr tr) tr) (a_ (a_ (a_ tr tr) tr) tr)) (parrelref05_first_l0_ok hμ a b  big _ r h) (by kernel_rfl) trivial

theorem parrelref05_first_tri (a : List (Int)) (b : List (Int)) (r : (Int)) (h : parrelref05_first a b = some r) : FnTri Try.prog 43 [.ds 1 (a).length (rowF (cInt .u32) default a), .ds 1 (b).length (rowF (cInt .u32) default b)] [] (parrelref05_first_v r) [] := FnTri.none (parrelref05_first_ok a b r h) rfl rfl

/-- parrel/parrelref05.Txs -/

def parrelref05_Txs_v (r : (Int)) : LV := .int .i64 r

def parrelref05_Txs (a : T_api_Tx) (b : T_api_Tx) : Option ((Int)) :=
  (parrelref05_numbers a).bind fun y2 =>
  (parrelref05_numbers b).bind fun y4 =>
  (parrelref05_first y2 y4).bind fun y6 =>
  some y6

theorem parrelref05_Txs_ok (a : T_api_Tx) (b : T_api_Tx) (r : (Int)) (h : parrelref05_Txs a b = some r) : ∀ σ, Inj 0 σ → FnTri Try.prog 18 (renL σ [v_T_api_Tx a, v_T_api_Tx b]) (preOf σ 0 []) ((parrelref05_Txs_v r).ren σ) (upOf σ []) := by
  refine fn_of Try.func18 (by kernel_rfl) (by kernel_rfl) (by kernel_rfl) trivial (by kernel_rfl) trivial (by kernel_rfl) ?_
  intro w0 W μ0 hμ
  unfold parrelref05_Txs at h
  obtain ⟨y2, e1, h⟩ := bind_some h
  obtain ⟨y4, e3, h⟩ := bind_some h
  obtain ⟨y6, e5, h⟩ := bind_some h
  obtain rfl := Option.some.inj h
  exact run_ret mixed (L := []) (n := 15) (s := [.reg [], .reg [(1, { call := some (parrelref05_numbers_v y2, [], []) }), (3, { call := some (parrelref05_numbers_v y4, [], []) }), (4, { call := some (parrelref05_first_v y6, [], []) })]])
    (a_ (a_ (a_ (a_ tr tr) (a_ (a_ tr tr) (a_ (a_ tr tr) tr))) (a_ (a_ (a_ (a_ tr (le_ 3 3 rfl)) tr) (a_ (a_ (a_ (parrelref05_numbers_tri a y2 e1) tr) tr) (a_ (a_ (a_ tr (le_ 3 3 rfl)) tr) (a_ (a_ (a_ (parrelref05_numbers_tri b y4 e3) tr) tr) (a_ (a_ (a_ (parrelref05_first_tri y2 y4 y6 e5) tr) tr) (a_ (a_ tr tr) tr)))))) tr)) tr) (by kernel_rfl) rfl

theorem parrelref05_Txs_tri (a : T_api_Tx) (b : T_api_Tx) (r : (Int)) (h : parrelref05_Txs a b = some r) : FnTri Try.prog 18 [v_T_api_Tx a, v_T_api_Tx b] [] (parrelref05_Txs_v r) [] := FnTri.none (parrelref05_Txs_ok a b r h) rfl rfl

/-- (*parrel/parrelref05.Set).place -/

def parrelref05_Set_place_v (r : (Int) × (Bool)) : LV := .tup [.int .i64 r.1, .bool r.2]

def parrelref05_Set_place_up (s : T_parrelref05_Set) (t : T_api_Tx) (r : (Int) × (Bool)) : Upd := [(0, some (.var (c_T_parrelref05_Set s)))]

def parrelref05_Set_place_objs (s : T_parrelref05_Set) (t : T_api_Tx) : List LO := [.var (c_T_parrelref05_Set s)]

def parrelref05_Set_place_T0 (s : T_parrelref05_Set) (t : T_api_Tx) (i : Int) : List LV := [.ptr 0 0 0, .any, .any, .ptr 1 0 0, .any, .any, .int .i64 i, .any, .any, .any, .any, .any, .any, .any, .any, .any, .any, .any, .any, .any, .any, .any, .any, .any, .any, .any, .any, .any, .any, .any, .any, .any, .any, .any, .any, .any, .any, .any, .any, .any, .any, .any, .any, .any, .any, .any, .any]

def parrelref05_Set_place_H0 (s : T_parrelref05_Set) (t : T_api_Tx) (i : Int) : Heap := [some (.var (c_T_parrelref05_Set s)), some (.var (c_T_api_Tx t))]

def parrelref05_Set_place_l0 (s : T_parrelref05_Set) (t : T_api_Tx)  : Nat → (Int) → Option ((Int) × (Bool))
  | 0, _ => none
  | fuel + 1, i =>
    if ((decide (i < ((s.f_L).length : Int))) : Bool) then
      if 0 ≤ i ∧ i < (((s.f_L).length : Nat) : Int) then
      (parrelref05_Txs (s.f_L.getD i.toNat default) t).bind fun yL0_4 =>
      if ((decide (yL0_4 < 0)) : Bool) then
        parrelref05_Set_place_l0 s t  fuel (IntKind.wrap .i64 (i + 1))
      else
        if ((decide (i < ((s.f_L).length : Int))) : Bool) then
          some (i, (decide ((s.f_L.getD i.toNat default) = t)))
        else
          some (i, false)
      else none
    else
      if ((decide (i < ((s.f_L).length : Int))) : Bool) then
        if 0 ≤ i ∧ i < (((s.f_L).length : Nat) : Int) then
        some (i, (decide ((s.f_L.getD i.toNat default) = t)))
        else none
      else
        some (i, false)

def parrelref05_Set_place (s : T_parrelref05_Set) (t : T_api_Tx) : Option ((Int) × (Bool)) :=
  parrelref05_Set_place_l0 s t  big 0

theorem parrelref05_Set_place_l0_ok {w0 : World} {W : Nat → Prop} {μ0 : Emb} (hμ : ∀ c p, μ0 c = some p → c < 1) (s : T_parrelref05_Set) (t : T_api_Tx)  : ∀ (fuel : Nat) (i : Int) (r : (Int) × (Bool)), parrelref05_Set_place_l0 s t  fuel i = some r → kont Try.prog w0 W μ0 (FnPost Try.prog Try.f57 1 1 (parrelref05_Set_place_v r) (parrelref05_Set_place_up s t r)) (kAt (bodyOf Try.f57) 0) none (parrelref05_Set_place_T0 s t i) (parrelref05_Set_place_H0 s t i) := by
  intro fuel
  induction fuel with
  | zero => intro i r h; rw [parrelref05_Set_place_l0] at h; cases h
  | succ fuel ih =>
    intro i r h
    rw [parrelref05_Set_place_l0] at h
    rcases itb_some h with ⟨cL0_1, h⟩ | ⟨cL0_1, h⟩
    · skip
      obtain ⟨gL0_2, h⟩ := guard_some h
      obtain ⟨yL0_4, eL0_3, h⟩ := bind_some h
      rcases itb_some h with ⟨cL0_5, h⟩ | ⟨cL0_5, h⟩
      · skip
        exact run_to mixed hμ (L := [1]) (n := 20) (s := [.go, .reg [(7, { v := some (.bool true) }), (16, { call := some (parrelref05_Txs_v yL0_4, [], []) }), (18, { v := some (.bool true) })], .reg []])
          (a_ (a_ (a_ tr tr) (a_ (a_ tr tr) (a_ (a_ tr tr) (a_ (a_ tr tr) (a_ (a_ (a_ tr (lt_ 0 1 rfl)) tr) (a_ (a_ tr tr) (a_ (a_ tr tr) (a_ (a_ tr (a_ (leB cL0_1) tr)) (a_ (a_ tr tr) (a_ (a_ tr tr) (a_ (a_ tr tr) (a_ (a_ (a_ tr (lt_ 0 1 rfl)) tr) (a_ (a_ tr tr) (a_ (a_ (a_ (Eq.refl 3) gL0_2) tr) (a_ (a_ (le_ 3 3 rfl) tr) (a_ (a_ (a_ tr (le_ 3 3 rfl)) tr) (a_ (a_ (a_ (parrelref05_Txs_tri (s.f_L.getD i.toNat default) t yL0_4 eL0_3) tr) tr) (a_ (a_ tr tr) (a_ (a_ tr (a_ (leB cL0_5) tr)) tr))))))))))))))))))) (a_ (a_ (a_ tr tr) (a_ (a_ tr tr) (a_ (a_ tr tr) tr))) tr)) (ih _ r h) (by kernel_rfl) ⟨rfl, rfl, trivial⟩
      · skip
        rcases itb_some h with ⟨cL0_6, h⟩ | ⟨cL0_6, h⟩
        · skip
          obtain rfl := Option.some.inj h
          exact run_ret mixed (L := []) (n := 19) (s := [.go, .reg [(7, { v := some (.bool true) }), (16, { call := some (parrelref05_Txs_v yL0_4, [], []) }), (18, { v := some (.bool false) })], .reg [(8, { v := some (.bool true) }), (17, { v := some (.bool (decide ((s.f_L.getD i.toNat default) = t))) })]])
            (a_ (a_ (a_ (a_ tr tr) (a_ (a_ tr tr) (a_ (a_ tr tr) (a_ (a_ tr tr) (a_ (a_ (a_ tr (lt_ 0 1 rfl)) tr) (a_ (a_ tr tr) (a_ (a_ tr tr) (a_ (a_ tr (a_ (leB cL0_1) tr)) (a_ (a_ tr tr) (a_ (a_ tr tr) (a_ (a_ tr tr) (a_ (a_ (a_ tr (lt_ 0 1 rfl)) tr) (a_ (a_ tr tr) (a_ (a_ (a_ (Eq.refl 3) gL0_2) tr) (a_ (a_ (le_ 3 3 rfl) tr) (a_ (a_ (a_ tr (le_ 3 3 rfl)) tr) (a_ (a_ (a_ (parrelref05_Txs_tri (s.f_L.getD i.toNat default) t yL0_4 eL0_3) tr) tr) (a_ (a_ tr tr) (a_ (a_ tr (a_ (leB cL0_5) tr)) tr))))))))))))))))))) (a_ (a_ (a_ tr tr) (a_ (a_ tr tr) (a_ (a_ tr tr) (a_ (a_ tr tr) (a_ (a_ tr tr) (a_ (a_ (a_ tr (lt_ 0 1 rfl)) tr) (a_ (a_ tr tr) (a_ (a_ tr tr) (a_ (a_ tr (a_ (leB cL0_6) tr)) (a_ (a_ tr tr) (a_ (a_ tr tr) (a_ (a_ tr tr) (a_ (a_ (a_ tr (lt_ 0 1 rfl)) tr) (a_ (a_ tr tr) (a_ (a_ (a_ (Eq.refl 3) gL0_2) tr) (a_ (a_ (le_ 3 3 rfl) tr) (a_ (a_ (a_ tr (le_ 3 3 rfl)) tr) (a_ (a_ tr (a_ (leB (k_T_api_Tx (s.f_L.getD i.toNat default) t)) tr)) (a_ (a_ tr tr) (a_ (a_ tr tr) (a_ (a_ tr tr) tr))))))))))))))))))))) tr)) tr) (by kernel_rfl) rfl
        · skip
          obtain rfl := Option.some.inj h
          exact run_ret mixed (L := []) (n := 19) (s := [.go, .reg [(7, { v := some (.bool true) }), (16, { call := some (parrelref05_Txs_v yL0_4, [], []) }), (18, { v := some (.bool false) })], .reg [(8, { v := some (.bool false) })]])
            (a_ (a_ (a_ (a_ tr tr) (a_ (a_ tr tr) (a_ (a_ tr tr) (a_ (a_ tr tr) (a_ (a_ (a_ tr (lt_ 0 1 rfl)) tr) (a_ (a_ tr tr) (a_ (a_ tr tr) (a_ (a_ tr (a_ (leB cL0_1) tr)) (a_ (a_ tr tr) (a_ (a_ tr tr) (a_ (a_ tr tr) (a_ (a_ (a_ tr (lt_ 0 1 rfl)) tr) (a_ (a_ tr tr) (a_ (a_ (a_ (Eq.refl 3) gL0_2) tr) (a_ (a_ (le_ 3 3 rfl) tr) (a_ (a_ (a_ tr (le_ 3 3 rfl)) tr) (a_ (a_ (a_ (parrelref05_Txs_tri (s.f_L.getD i.toNat default) t yL0_4 eL0_3) tr) tr) (a_ (a_ tr tr) (a_ (a_ tr (a_ (leB cL0_5) tr)) tr))))))))))))))))))) (a_ (a_ (a_ tr tr) (a_ (a_ tr tr) (a_ (a_ tr tr) (a_ (a_ tr tr) (a_ (a_ tr tr) (a_ (a_ (a_ tr (lt_ 0 1 rfl)) tr) (a_ (a_ tr tr) (a_ (a_ tr tr) (a_ (a_ tr (a_ (leB cL0_6) tr)) (a_ tr (a_ tr (a_ tr (a_ tr (a_ tr (a_ tr (a_ tr (a_ tr (a_ tr (a_ (a_ tr tr) (a_ (a_ tr tr) (a_ (a_ tr tr) tr))))))))))))))))))))) tr)) tr) (by kernel_rfl) rfl
    · skip
      rcases itb_some h with ⟨cL0_2, h⟩ | ⟨cL0_2, h⟩
      · skip
        obtain ⟨gL0_3, h⟩ := guard_some h
        obtain rfl := Option.some.inj h
        exact run_ret mixed (L := []) (n := 19) (s := [.go, .reg [(7, { v := some (.bool false) })], .reg [(8, { v := some (.bool true) }), (17, { v := some (.bool (decide ((s.f_L.getD i.toNat default) = t))) })]])
          (a_ (a_ (a_ (a_ tr tr) (a_ (a_ tr tr) (a_ (a_ tr tr) (a_ (a_ tr tr) (a_ (a_ (a_ tr (lt_ 0 1 rfl)) tr) (a_ (a_ tr tr) (a_ (a_ tr tr) (a_ (a_ tr (a_ (leB cL0_1) tr)) (a_ tr (a_ tr (a_ tr (a_ tr (a_ tr (a_ tr (a_ tr (a_ tr (a_ tr (a_ tr (a_ (a_ tr tr) tr))))))))))))))))))) (a_ (a_ (a_ tr tr) (a_ (a_ tr tr) (a_ (a_ tr tr) (a_ (a_ tr tr) (a_ (a_ tr tr) (a_ (a_ (a_ tr (lt_ 0 1 rfl)) tr) (a_ (a_ tr tr) (a_ (a_ tr tr) (a_ (a_ tr (a_ (leB cL0_2) tr)) (a_ (a_ tr tr) (a_ (a_ tr tr) (a_ (a_ tr tr) (a_ (a_ (a_ tr (lt_ 0 1 rfl)) tr) (a_ (a_ tr tr) (a_ (a_ (a_ (Eq.refl 3) gL0_3) tr) (a_ (a_ (le_ 3 3 rfl) tr) (a_ (a_ (a_ tr (le_ 3 3 rfl)) tr) (a_ (a_ tr (a_ (leB (k_T_api_Tx (s.f_L.getD i.toNat default) t)) tr)) (a_ (a_ tr tr) (a_ (a_ tr tr) (a_ (a_ tr tr) tr))))))))))))))))))))) tr)) tr) (by kernel_rfl) rfl
      · skip
        obtain rfl := Option.some.inj h
        exact run_ret mixed (L := []) (n := 19) (s := [.go, .reg [(7, { v := some (.bool false) })], .reg [(8, { v := some (.bool false) })]])
          (a_ (a_ (a_ (a_ tr tr) (a_ (a_ tr tr) (a_ (a_ tr tr) (a_ (a_ tr tr) (a_ (a_ (a_ tr (lt_ 0 1 rfl)) tr) (a_ (a_ tr tr) (a_ (a_ tr tr) (a_ (a_ tr (a_ (leB cL0_1) tr)) (a_ tr (a_ tr (a_ tr (a_ tr (a_ tr (a_ tr (a_ tr (a_ tr (a_ tr (a_ tr (a_ (a_ tr tr) tr))))))))))))))))))) (a_ (a_ (a_ tr tr) (a_ (a_ tr tr) (a_ (a_ tr tr) (a_ (a_ tr tr) (a_ (a_ tr tr) (a_ (a_ (a_ tr (lt_ 0 1 rfl)) tr) (a_ (a_ tr tr) (a_ (a_ tr tr) (a_ (a_ tr (a_ (leB cL0_2) tr)) (a_ tr (a_ tr (a_ tr (a_ tr (a_ tr (a_ tr (a_ tr (a_ tr (a_ tr (a_ (a_ tr tr) (a_ (a_ tr tr) (a_ (a_ tr tr) tr))))))))))))))))))))) tr)) tr) (by kernel_rfl) rfl

theorem parrelref05_Set_place_ok (s : T_parrelref05_Set) (t : T_api_Tx) (r : (Int) × (Bool)) (h : parrelref05_Set_place s t = some r) : ∀ σ, Inj 1 σ → FnTri Try.prog 57 (renL σ [.ptr 0 0 0, v_T_api_Tx t]) (preOf σ 0 (parrelref05_Set_place_objs s t)) ((parrelref05_Set_place_v r).ren σ) (upOf σ (parrelref05_Set_place_up s t r)) := by
  refine fn_of Try.func57 (by kernel_rfl) (by kernel_rfl) (by kernel_rfl) ⟨rfl, trivial⟩ (by kernel_rfl) ⟨rfl, trivial⟩ (by kernel_rfl) ?_
  intro w0 W μ0 hμ
  unfold parrelref05_Set_place at h
  exact run_to mixed hμ (L := [1]) (n := 18) (s := [.reg [], .reg []])
    (a_ (a_ (a_ tr tr) (a_ (a_ tr tr) (a_ (a_ tr tr) tr))) (a_ (a_ (a_ tr tr) tr) tr)) (parrelref05_Set_place_l0_ok hμ s t  big _ r h) (by kernel_rfl) ⟨rfl, rfl, trivial⟩

/-- (*parrel/parrelref05.Set).Add -/

def parrelref05_Set_Add_v (r : (Bool) × (List (T_api_Tx))) : LV := .bool r.1

def parrelref05_Set_Add_up (s : T_parrelref05_Set) (t : T_api_Tx) (r : (Bool) × (List (T_api_Tx))) : Upd := [(0, some (.var (c_T_parrelref05_Set (T_parrelref05_Set.mk r.2))))]

def parrelref05_Set_Add_objs (s : T_parrelref05_Set) (t : T_api_Tx) : List LO := [.var (c_T_parrelref05_Set s)]

def parrelref05_Set_Add (s : T_parrelref05_Set) (t : T_api_Tx) : Option ((Bool) × (List (T_api_Tx))) :=
  (parrelref05_Set_place s t).bind fun y2 =>
  if (y2.2 : Bool) then
    some (false, s.f_L)
  else
    if 0 ≤ (0 : Int) ∧ 0 ≤ y2.1 ∧ y2.1 ≤ (((s.f_L).length : Nat) : Int) then
    if (0 + ((s.f_L.take y2.1.toNat)).length) * 12 ≤ 140737488351232 then
    if (((s.f_L.take y2.1.toNat)).length + ([t]).length) * 12 ≤ 140737488351232 then
    if 0 ≤ y2.1 ∧ y2.1 ≤ (((s.f_L).length : Nat) : Int) ∧ (((s.f_L).length : Nat) : Int) ≤ (((s.f_L).length : Nat) : Int) then
    if ((((s.f_L.take y2.1.toNat) ++ [t])).length + ((s.f_L.drop y2.1.toNat)).length) * 12 ≤ 140737488351232 then
    some (true, (((s.f_L.take y2.1.toNat) ++ [t]) ++ (s.f_L.drop y2.1.toNat)))
    else none
    else none
    else none
    else none
    else none

theorem parrelref05_Set_Add_ok (s : T_parrelref05_Set) (t : T_api_Tx) (r : (Bool) × (List (T_api_Tx))) (h : parrelref05_Set_Add s t = some r) : ∀ σ, Inj 1 σ → FnTri Try.prog 32 (renL σ [.ptr 0 0 0, v_T_api_Tx t]) (preOf σ 0 (parrelref05_Set_Add_objs s t)) ((parrelref05_Set_Add_v r).ren σ) (upOf σ (parrelref05_Set_Add_up s t r)) := by
  refine fn_of Try.func32 (by kernel_rfl) (by kernel_rfl) (by kernel_rfl) ⟨rfl, trivial⟩ (by kernel_rfl) ⟨rfl, trivial⟩ (by kernel_rfl) ?_
  intro w0 W μ0 hμ
  unfold parrelref05_Set_Add at h
  obtain ⟨y2, e1, h⟩ := bind_some h
  rcases itb_some h with ⟨c3, h⟩ | ⟨c3, h⟩
  · skip
    obtain rfl := Option.some.inj h
    exact run_ret mixed (L := []) (n := 23) (s := [.reg [], .reg [(2, { call := some ((parrelref05_Set_place_v y2).ren (sel [0]), preOf (sel [0]) 0 (parrelref05_Set_place_objs s t), upOf (sel [0]) (parrelref05_Set_place_up s t y2)) })], .reg [(0, { v := some (.bool true) })], .reg []])
      (a_ (a_ (a_ (a_ tr tr) (a_ (a_ tr tr) tr)) (a_ (a_ (a_ tr tr) (a_ (a_ (a_ tr (le_ 3 3 rfl)) tr) (a_ (a_ (a_ (parrelref05_Set_place_ok s t y2 e1 (sel [0]) (sel_inj rfl rfl)) (a_ (LO.Le.refl (.var (c_T_parrelref05_Set s))) tr)) tr) (a_ (a_ tr tr) (a_ (a_ tr tr) (a_ (a_ tr tr) (a_ (a_ tr tr) (a_ (a_ tr tr) tr)))))))) (a_ (a_ (a_ tr (a_ (leB c3) tr)) tr) (a_ (a_ (a_ tr tr) tr) tr)))) tr) (by kernel_rfl) rfl
  · skip
    obtain ⟨g4, h⟩ := guard_some h
    obtain ⟨g5, h⟩ := guard_some h
    obtain ⟨g6, h⟩ := guard_some h
    obtain ⟨g7, h⟩ := guard_some h
    obtain ⟨g8, h⟩ := guard_some h
    obtain rfl := Option.some.inj h
    exact run_ret mixed (L := []) (n := 28) (s := [.reg [], .reg [(2, { call := some ((parrelref05_Set_place_v y2).ren (sel [0]), preOf (sel [0]) 0 (parrelref05_Set_place_objs s t), upOf (sel [0]) (parrelref05_Set_place_up s t y2)) })], .reg [(0, { v := some (.bool false) })], .reg [(6, { v := some (.ds 3 ((s.f_L.take y2.1.toNat)).length (rowF c_T_api_Tx default (s.f_L.take y2.1.toNat))) }), (7, { app := 3 }), (9, { os := [(3, .gr 3 ([t]).length (rowF c_T_api_Tx default [t]))], v := some (.gs 3 ([t]).length) }), (10, { app := 3, os := [(4, .gr 3 (((s.f_L.take y2.1.toNat) ++ [t])).length (rowF c_T_api_Tx default ((s.f_L.take y2.1.toNat) ++ [t])))], v := some (.gs 4 (((s.f_L.take y2.1.toNat) ++ [t])).length) }), (16, { v := some (.ds 3 ((s.f_L.drop y2.1.toNat)).length (rowF c_T_api_Tx default (s.f_L.drop y2.1.toNat))) }), (17, { app := 3, os := [(5, .gr 3 ((((s.f_L.take y2.1.toNat) ++ [t]) ++ (s.f_L.drop y2.1.toNat))).length (rowF c_T_api_Tx default (((s.f_L.take y2.1.toNat) ++ [t]) ++ (s.f_L.drop y2.1.toNat))))], v := some (.gs 5 ((((s.f_L.take y2.1.toNat) ++ [t]) ++ (s.f_L.drop y2.1.toNat))).length) })], .reg [], .frz 5])
      (a_ (a_ (a_ (a_ tr tr) (a_ (a_ tr tr) tr)) (a_ (a_ (a_ tr tr) (a_ (a_ (a_ tr (le_ 3 3 rfl)) tr) (a_ (a_ (a_ (parrelref05_Set_place_ok s t y2 e1 (sel [0]) (sel_inj rfl rfl)) (a_ (LO.Le.refl (.var (c_T_parrelref05_Set s))) tr)) tr) (a_ (a_ tr tr) (a_ (a_ tr tr) (a_ (a_ tr tr) (a_ (a_ tr tr) (a_ (a_ tr tr) tr)))))))) (a_ (a_ (a_ tr (a_ (leB c3) tr)) tr) (a_ (a_ (a_ tr tr) (a_ (a_ tr tr) (a_ (a_ tr tr) (a_ (a_ tr tr) (a_ (a_ (a_ tr (lt_ 0 1 rfl)) tr) (a_ (a_ tr tr) (a_ (a_ (a_ (Eq.refl 3) g4) (a_ (le_take c_T_api_Tx default 3 s.f_L y2.1.toNat (toN_le g4.2.2)) tr)) (a_ (a_ (a_ (Eq.refl 3) (a_ (lt_ 0 3 rfl) (a_ (lt_ 0 12 rfl) (a_ g5 (a_ (Eq.refl 3) (Eq.refl true)))))) tr) (a_ (a_ (a_ tr (le_ 3 3 rfl)) tr) (a_ (a_ (a_ (Eq.refl true) (a_ (Eq.refl 3) (a_ (lt_ 0 3 rfl) (le_ 3 16777216 rfl)))) (a_ (le_sl_gs 3 1 (some 1) rfl) (a_ (sub_lit c_T_api_Tx default 3 (fun _ => rfl) [t]) tr))) (a_ (a_ (a_ (a_ (Eq.refl 3) (Nat.le_refl ([t]).length)) (a_ (a_ (lt_ 0 3 rfl) (a_ (lt_ 0 12 rfl) (a_ g6 (a_ (Eq.refl 3) (Eq.refl true))))) (a_ (Eq.refl 3) (Nat.le_refl ((s.f_L.take y2.1.toNat)).length)))) (a_ (le_gs_app 4 (s.f_L.take y2.1.toNat) [t]) (a_ (sub_app c_T_api_Tx default 3 (s.f_L.take y2.1.toNat) [t]) tr))) (a_ (a_ tr tr) (a_ (a_ tr tr) (a_ (a_ tr tr) (a_ (a_ (a_ tr (lt_ 0 1 rfl)) tr) (a_ (a_ tr tr) (a_ (a_ (a_ (Eq.refl 3) g7) (a_ (le_drop c_T_api_Tx default 3 s.f_L y2.1.toNat (toN_le g7.2.1)) tr)) (a_ (a_ (a_ (Eq.refl 3) (a_ (a_ (lt_ 0 3 rfl) (a_ (lt_ 0 12 rfl) (a_ g8 (a_ (Eq.refl 3) (Eq.refl true))))) (a_ (Eq.refl 3) (Nat.le_refl (((s.f_L.take y2.1.toNat) ++ [t])).length)))) (a_ (le_gs_app 5 ((s.f_L.take y2.1.toNat) ++ [t]) (s.f_L.drop y2.1.toNat)) (a_ (sub_app c_T_api_Tx default 3 ((s.f_L.take y2.1.toNat) ++ [t]) (s.f_L.drop y2.1.toNat)) tr))) (a_ (a_ tr tr) (a_ (a_ tr tr) (a_ (a_ (a_ (Eq.refl 1) (a_ (le_ 1 1 rfl) (Eq.refl 0))) tr) tr))))))))))))))))))))) (a_ (a_ (a_ tr tr) tr) (a_ (a_ (fz_row (enc := c_T_api_Tx) (d := default) (fun _ => rfl) (((s.f_L.take y2.1.toNat) ++ [t]) ++ (s.f_L.drop y2.1.toNat))) (a_ (Nat.le_refl ((((s.f_L.take y2.1.toNat) ++ [t]) ++ (s.f_L.drop y2.1.toNat))).length) (a_ (Nat.le_refl ((((s.f_L.take y2.1.toNat) ++ [t]) ++ (s.f_L.drop y2.1.toNat))).length) tr))) tr)))))) tr) (by kernel_rfl) rfl

/-- maps.Keys[map[parrel/api.Tx]bool,parrel/api.Tx,bool] -/

def maps_Keys_map_api_Tx_bool_api_Tx_bool_v (r : Unit) : LV := .fn 72 [] [.ptr 1 0 0]

def maps_Keys_map_api_Tx_bool_api_Tx_bool_up (m : List (T_api_Tx × Bool)) (r : Unit) : Upd := [(0, some (.map true [.int .u8, .int .u32, .int .u32] (encM v_T_api_Tx LV.bool m))), (1, some (.var [.map 0]))]

def maps_Keys_map_api_Tx_bool_api_Tx_bool_objs (m : List (T_api_Tx × Bool)) : List LO := [.map true [.int .u8, .int .u32, .int .u32] (encM v_T_api_Tx LV.bool m)]

def maps_Keys_map_api_Tx_bool_api_Tx_bool (m : List (T_api_Tx × Bool)) : Option (Unit) :=
  some ()

theorem maps_Keys_map_api_Tx_bool_api_Tx_bool_ok (m : List (T_api_Tx × Bool)) (r : Unit) (h : maps_Keys_map_api_Tx_bool_api_Tx_bool m = some r) : ∀ σ, Inj 2 σ → FnTri Try.prog 59 (renL σ [.map 0]) (preOf σ 0 (maps_Keys_map_api_Tx_bool_api_Tx_bool_objs m)) ((maps_Keys_map_api_Tx_bool_api_Tx_bool_v r).ren σ) (upOf σ (maps_Keys_map_api_Tx_bool_api_Tx_bool_up m r)) := by
  refine fn_of Try.func59 (by kernel_rfl) (by kernel_rfl) (by kernel_rfl) ⟨trivial, trivial⟩ (by kernel_rfl) ⟨trivial, rfl, trivial⟩ (by kernel_rfl) ?_
  intro w0 W μ0 hμ
  unfold maps_Keys_map_api_Tx_bool_api_Tx_bool at h
  obtain rfl := Option.some.inj h
  exact run_ret mixed (L := [1]) (n := 15) (s := [.reg [], .reg []])
    (a_ (a_ (a_ (a_ tr tr) (a_ (a_ tr tr) tr)) (a_ (a_ (a_ tr tr) (a_ (a_ tr tr) tr)) tr)) tr) (by kernel_rfl) rfl

/-! Keys of a map, sorted: PRE -/
def so58_kc (x : (T_api_Tx)) : List Value := [.int .u8 x.f_Node, .int .u32 x.f_Boot, .int .u32 x.f_Num]
def so58_kv (x : (T_api_Tx)) : Value := .agg #[.int .u8 x.f_Node, .int .u32 x.f_Boot, .int .u32 x.f_Num]
def so58_kd (v : Value) : (T_api_Tx) :=
  match v with
  | .agg cs => match cs.toList with
    | [.int _ a0, .int _ a1, .int _ a2] => (T_api_Tx.mk a0 a1 a2)
    | _ => default
  | _ => default
theorem so58_kdv (x : (T_api_Tx)) : so58_kd (so58_kv x) = x := rfl
theorem so58_len (x : (T_api_Tx)) : (so58_kc x).length = 3 := rfl
theorem so58_one (x : (T_api_Tx)) : ∀ v ∈ so58_kc x, v.oneCell' = true := by
  intro u hu
  simp only [so58_kc, List.mem_cons, List.not_mem_nil, or_false] at hu
  rcases hu with rfl | rfl | rfl <;> rfl
theorem so58_enc (φ : Fro) (x : (T_api_Tx)) : RelFL φ (c_T_api_Tx x) (so58_kc x) := ⟨_, _, rfl, rfl, ⟨_, _, rfl, rfl, ⟨_, _, rfl, rfl, rfl⟩⟩⟩
theorem so58_det (φ : Fro) (x : (T_api_Tx)) (v : Value) (h : RelF φ (.agg (c_T_api_Tx x)) v) : v = so58_kv x := by
  obtain ⟨vs, rfl, h⟩ := h
  have key : ∀ (l : List Value), RelFL φ (c_T_api_Tx x) l → l = so58_kc x := by
    intro l h
    obtain ⟨r0, e0, h0⟩ := det_int h
    obtain ⟨r1, e1, h1⟩ := det_int h0
    obtain ⟨r2, e2, h2⟩ := det_int h1
    have e : _ = [] := h2
    subst e
    subst_vars
    rfl
  have := key _ h
  rw [← Array.toArray_toList (xs := vs), this]
  rfl

theorem so58_info : ∃ i, Try.prog.info? 24 = some i ∧ i.zero = some (.agg #[.int .u8 0, .int .u32 0, .int .u32 0]) ∧ i.size = 3 ∧ i.bytes = 12 := by
  have h : (Try.prog.info? 24).map (fun i => (i.zero, i.size, i.bytes)) = some (some (.agg #[.int .u8 0, .int .u32 0, .int .u32 0]), 3, 12) := by kernel_rfl
  obtain ⟨i, h1, h2⟩ := Option.map_eq_some_iff.1 h
  exact ⟨i, h1, congrArg (·.1) h2, congrArg (·.2.1) h2, congrArg (·.2.2) h2⟩

/-- Between two rounds: the box holds what has come so far. -/
def so58_ApI (w : World) (pre : List (T_api_Tx)) (W : World) : Prop :=
  (∃ v, Boxed W w.heap.size 62 v ∧ W.ownsRow w.heap.size 24 3 v pre.length (pre.flatMap so58_kc) ∧ (v = .slice none 0 0 ↔ pre = [])) ∧ Below w.heap.size w W ∧ w.drawn ≤ W.drawn
theorem so58_ApI.own (w : World) (B : Nat) (hB : w.heap.size ≤ B) : OwnD B (so58_ApI w) :=
  OwnD.and (OwnFrom.d ((holdsRow_own w.heap.size w.heap.size 62 24 3 (fun (pre : List (T_api_Tx)) => pre.length) (fun pre => pre.flatMap so58_kc) (fun pre v => v = .slice none 0 0 ↔ pre = [])).from B)) (OwnD.and (OwnFrom.d (ownFrom_below (Nat.le_refl _) hB)) (ownD_drawn B _))

theorem so58_appendSeq (n : Nat) (hn : 2 ≤ n) (g : Nat) (lb : Array Value) (eg : ∀ args w, (callFunc g args).run Try.prog w = .ok (.enter g args) w) (S : List (T_api_Tx) → Prop) (N : Nat) (hN : N ≤ maxLen) (hNb : N * 12 ≤ 140737488355328)
    (w : World) (hseq : SeqD Fence.wide (n - 1) Try.prog g lb so58_kv S N w) :
    CallsIn Fence.wide n Try.prog 78 #[.slice none 0 0, .func (.func g) #[] lb] w fun e w' => ∃ (v : Value) (ss : List (T_api_Tx)), e = .returned v ∧ S ss ∧ w'.ownsRow w.heap.size 24 3 v ss.length (ss.flatMap so58_kc) ∧ (v = .slice none 0 0 ↔ ss = []) ∧ Below w.heap.size w w' ∧ w.drawn ≤ w'.drawn := by
  have h1 : 1 ≤ n := by omega
  refine callsIn_of_wp_marks Try.func78 rfl trivial ?_ rfl
  simp only [Try.ntmps78, List.size_toArray, List.length_cons, List.length_nil, Nat.reduceAdd, Nat.reduceSub, Array.replicate_succ, Array.replicate_zero, List.push_toArray, List.append_toArray, List.nil_append, List.cons_append]
  gi_wp2
  obtain ⟨W0, hW0⟩ : ∃ W0, w.alloc (.cells #[.slice none 0 0] 62) = W0 := ⟨_, rfl⟩
  have hs0 : W0.heap.size = w.heap.size + 1 := by rw [← hW0]; simp
  have hB0 : Boxed W0 w.heap.size 62 (.slice none 0 0) := by rw [← hW0]; exact Boxed.new w _ _
  have hb0 : Below w.heap.size w W0 := by rw [← hW0]; exact (Below.refl _ w).alloc (Nat.le_refl _) _
  rw [hW0]
  refine rangeFunc_box rfl h1 (gf := g) (lb := lb) rfl trivial eg hseq hb0 rfl (so58_ApI w) (so58_ApI.own w _ (by omega)) ⟨⟨_, hB0, World.ownsRow_nil _ _ _ _, by simp⟩, hb0, by rw [← hW0]; exact Nat.le_refl _⟩
    (fun pre x a1 W => so58_ApI w pre W ∧ ∃ bx, W.heap[bx]? = some (.cells #[.int .u8 x.f_Node, .int .u32 x.f_Boot, .int .u32 x.f_Num] 24 (0, 0)) ∧
      a1 = { tmps := #[.slice none 0 0, .func (.func g) #[] lb, .pointer (some ⟨w.heap.size, 0, none⟩), undef, .slice none 0 0, .pointer (some ⟨bx, 0, none⟩), .func (.func g) #[] lb, so58_kv x, undef, undef, undef, undef, undef], defers := [] })
    (fun x a1 => OwnD.and (so58_ApI.own w _ (by omega)) (fun s X Y row hs hg _ hr => by
      obtain ⟨bx, hx, e⟩ := hs
      exact ⟨bx, (grownBy_keeps_cells hg (fun r e => (hr r e).2) hx rfl).trans hx, e⟩)) ?assign ?body ?done
  case assign =>
    intro l pre x W hI hlen
    unfold so58_kv
    gi_wp2_with (rw [Oper.semAt_eq _ _ _ (fun c h => by cases h)]; go_simp; try go_bits)
    exact ⟨⟨(so58_ApI.own w w.heap.size (Nat.le_refl _)).alloc _ hI, W.heap.size, World.alloc_heap_new W _, rfl⟩, KeepsOthers.alloc _ _⟩
  case body =>
    rintro l pre x a1 W ⟨⟨⟨v, hv, hrow, hnil⟩, hB, hD0⟩, bx, hbx, rfl⟩ hlen
    obtain ⟨i0, hi, hz0, hz1, hz2⟩ := so58_info
    have hc := hv.cell
    have hf := hv.frozen
    have hx0 : W.cell? ⟨bx, 0, none⟩ = some (.int .u8 x.f_Node) := by simp [World.cell?, hbx]
    have hx1 : W.cell? ⟨bx, 1, none⟩ = some (.int .u32 x.f_Boot) := by simp [World.cell?, hbx]
    have hx2 : W.cell? ⟨bx, 2, none⟩ = some (.int .u32 x.f_Num) := by simp [World.cell?, hbx]
    have hbs := hB.size
    unfold so58_kv
    gi_wp2_with (first
      | (gi_at_builtin; refine wpListIn_append_d _ rfl _ _ 62 rfl w.heap.size 24 i0 _ 3 12 Try.underlying62 hi hz0 hz1 hz2 rfl (by decide) _ _ _ rfl (hrow.alloc _) ⟨W.heap.size, 0, none⟩ 1 1 (so58_kc x) rfl rfl ?_ ?_ (by omega) (by omega) (by simp; omega) ?_)
      | (rw [Oper.semAt_eq _ _ _ (fun c h => by cases h)]; go_simp; try go_bits))
    · exact fun j u hj => cell_new W (so58_kc x) 24 j u hj
    · intro u hu
      simp only [so58_kc, List.mem_cons, List.not_mem_nil, or_false] at hu
      rcases hu with rfl | rfl | rfl <;> rfl
    · intro v' w3 hown' hg3 hd3 hnil3
      obtain ⟨hv3, hv4, hrow4, hko, hbe⟩ := hv.appended (by decide) hrow hbs (Nat.le_refl _) hown' hg3
      have hc3 := hv3.cell
      have hf3 := hv3.frozen
      obtain ⟨g', cap', hv'⟩ := ownsRow_succ hown'
      subst hv'
      gi_wp2_with (rw [Oper.semAt_eq _ _ _ (fun c h => by cases h)]; go_simp; try go_bits)
      refine ⟨⟨_, hv4, ?_, by simp⟩, hB.trans hbe, Nat.le_trans hD0 hd3⟩
      rw [List.length_append, List.flatMap_append]
      simpa using hrow4
  case done =>
    rintro D ss W hD hS ⟨⟨v, hv, hrow, hnil⟩, hB, hD0⟩ hK
    have hc := hv.cell
    have hf := hv.frozen
    gi_wp2
    refine ⟨by simp, .inl ⟨_, _, rfl, run_takeDeferred hK, ?_⟩⟩
    exact ⟨_, results_tmp rfl _ _ _, v, ss, rfl, hS, ownsRow_putObj hrow _ hK rfl, hnil, hB.grown (grownBy_putObj' _ _ _) hB.size (fun k e => by cases e; omega), hD0⟩

theorem so58_collect (n : Nat) (hn : 3 ≤ n) (g : Nat) (lb : Array Value) (eg : ∀ args w, (callFunc g args).run Try.prog w = .ok (.enter g args) w) (S : List (T_api_Tx) → Prop) (N : Nat) (hN : N ≤ maxLen) (hNb : N * 12 ≤ 140737488355328)
    (w : World) (hseq : SeqD Fence.wide (n - 1 - 1) Try.prog g lb so58_kv S N w) :
    CallsIn Fence.wide n Try.prog 70 #[.func (.func g) #[] lb] w fun e w' => ∃ (v : Value) (ss : List (T_api_Tx)), e = .returned v ∧ S ss ∧ w'.ownsRow w.heap.size 24 3 v ss.length (ss.flatMap so58_kc) ∧ (v = .slice none 0 0 ↔ ss = []) ∧ Below w.heap.size w w' ∧ w.drawn ≤ w'.drawn := by
  have h1 : 1 ≤ n := by omega
  have F78 : Fence.wide.fn 78 := trivial
  refine callsIn_of_wp Try.func70 rfl trivial ?_ rfl
  simp only [Try.ntmps70, List.size_toArray, List.length_cons, List.length_nil, Nat.reduceAdd, Nat.reduceSub, Array.replicate_succ, Array.replicate_zero, List.push_toArray, List.append_toArray, List.nil_append, List.cons_append]
  gi_wp2_with (gi_at_call 78; refine (so58_appendSeq (n - 1) (by omega) g lb eg S N hN hNb _ hseq).mono ?_; rintro e w' ⟨v, ss, rfl, hS, hrow, hnil, hb⟩)
  go_ret
  exact ⟨v, ss, rfl, hS, hrow, hnil, hb⟩

def so58_lay_ren : Go.Shelf.Ren := ⟨fun | 6 => 71 | 15 => 80 | 14 => 79 | 28 => 91 | 29 => 92 | 20 => 83 | 21 => 84 | 22 => 85 | 23 => 86 | 24 => 87 | 25 => 88 | 26 => 89 | 27 => 90 | 46 => 93 | 47 => 94 | 48 => 95 | 49 => 96 | 50 => 97 | 57 => 98 | n => n, fun | 22 => 62 | 24 => 24 | 25 => 38 | 3 => 3 | 39 => 113 | 0 => 0 | 53 => 22 | 55 => 85 | 4 => 4 | 46 => 126 | 45 => 125 | 50 => 96 | 5 => 5 | 9 => 9 | 66 => 133 | 70 => 137 | 76 => 139 | 77 => 140 | n => n, fun | n => n⟩
theorem so58_lay : Go.Proofs.SlLaysF0.n6 Try.prog so58_lay_ren where
  mixed := by kernel_rfl
  f6 := ⟨Try.f71.name, by decide, Try.func71.trans (congrArg some (by kernel_rfl))⟩
  f14 := ⟨Try.f79.name, by decide, Try.func79.trans (congrArg some (by kernel_rfl))⟩
  f15 := Try.func80.trans (congrArg some (by kernel_rfl))
  f20 := ⟨Try.f83.name, by decide, Try.func83.trans (congrArg some (by kernel_rfl))⟩
  f21 := ⟨Try.f84.name, by decide, Try.func84.trans (congrArg some (by kernel_rfl))⟩
  f22 := ⟨Try.f85.name, by decide, Try.func85.trans (congrArg some (by kernel_rfl))⟩
  f23 := ⟨Try.f86.name, by decide, Try.func86.trans (congrArg some (by kernel_rfl))⟩
  f24 := ⟨Try.f87.name, by decide, Try.func87.trans (congrArg some (by kernel_rfl))⟩
  f25 := ⟨Try.f88.name, by decide, Try.func88.trans (congrArg some (by kernel_rfl))⟩
  f26 := ⟨Try.f89.name, by decide, Try.func89.trans (congrArg some (by kernel_rfl))⟩
  f27 := ⟨Try.f90.name, by decide, Try.func90.trans (congrArg some (by kernel_rfl))⟩
  f28 := Try.func91.trans (congrArg some (by kernel_rfl))
  f29 := Try.func92.trans (congrArg some (by kernel_rfl))
  f46 := ⟨Try.f93.name, by decide, Try.func93.trans (congrArg some (by kernel_rfl))⟩
  f47 := Try.func94.trans (congrArg some (by kernel_rfl))
  f48 := Try.func95.trans (congrArg some (by kernel_rfl))
  f49 := ⟨Try.f96.name, by decide, Try.func96.trans (congrArg some (by kernel_rfl))⟩
  f50 := ⟨Try.f97.name, by decide, Try.func97.trans (congrArg some (by kernel_rfl))⟩
  f57 := ⟨Try.f98.name, by decide, Try.func98.trans (congrArg some (by kernel_rfl))⟩
  t0 := Try.underlying0
  a0 := Try.isAgg0
  z0 := Try.sizeOf0
  v0 := Try.zeroValue0
  t3 := Try.underlying3
  a3 := Try.isAgg3
  z3 := Try.sizeOf3
  v3 := Try.zeroValue3
  t4 := Try.underlying4
  a4 := Try.isAgg4
  z4 := Try.sizeOf4
  v4 := Try.zeroValue4
  t5 := Try.underlying5
  a5 := Try.isAgg5
  z5 := Try.sizeOf5
  v5 := Try.zeroValue5
  t9 := Try.underlying9
  a9 := Try.isAgg9
  z9 := Try.sizeOf9
  v9 := Try.zeroValue9
  t22 := Try.underlying62
  a22 := Try.isAgg62
  z22 := Try.sizeOf62
  v22 := Try.zeroValue62
  t25 := Try.underlying38
  a25 := Try.isAgg38
  z25 := Try.sizeOf38
  v25 := Try.zeroValue38
  t39 := Try.underlying113
  a39 := Try.isAgg113
  z39 := Try.sizeOf113
  v39 := Try.zeroValue113
  t45 := Try.underlying125
  a45 := Try.isAgg125
  z45 := Try.sizeOf125
  v45 := Try.zeroValue125
  t46 := Try.underlying126
  a46 := Try.isAgg126
  z46 := Try.sizeOf126
  v46 := Try.zeroValue126
  t50 := Try.underlying96
  a50 := Try.isAgg96
  z50 := Try.sizeOf96
  v50 := Try.zeroValue96
  t53 := Try.underlying22
  a53 := Try.isAgg22
  z53 := Try.sizeOf22
  v53 := Try.zeroValue22
  t55 := Try.underlying85
  a55 := Try.isAgg85
  z55 := Try.sizeOf85
  v55 := Try.zeroValue85
  t66 := Try.underlying133
  a66 := Try.isAgg133
  z66 := Try.sizeOf133
  v66 := Try.zeroValue133
  t70 := Try.underlying137
  a70 := Try.isAgg137
  z70 := Try.sizeOf137
  v70 := Try.zeroValue137
  t76 := Try.underlying139
  a76 := Try.isAgg139
  z76 := Try.sizeOf139
  v76 := Try.zeroValue139
  t77 := Try.underlying140
  a77 := Try.isAgg140
  z77 := Try.sizeOf140
  v77 := Try.zeroValue140

theorem so58_sortedF (k1 g : Nat) (lb : Array Value) (e1 : ∀ args w, (callFunc k1 args).run Try.prog w = .ok (.enter k1 args) w) (eg : ∀ args w, (callFunc g args).run Try.prog w = .ok (.enter g args) w)
    (cf : (T_api_Tx) → (T_api_Tx) → Int) (hT : TotCmp cf) (hcmp : ∀ blk off size w, Go.Proofs.CmpLays Try.prog g #[] so58_kc 3 cf blk off size w)
    (ks : List (T_api_Tx)) (hN : ks.length ≤ maxLen) (hNb : ks.length * 12 ≤ 140737488355328) (w : World) (hseq : SeqD Fence.wide 8 Try.prog k1 lb so58_kv (fun xs => xs.Perm ks) ks.length w) :
    Calls Try.prog 58 #[.func (.func k1) #[] lb, .func (.func g) #[] #[]] w fun e w' => ∃ v, e = .returned v ∧ Below w.heap.size w w' ∧ w.drawn ≤ w'.drawn ∧ SortedAt so58_kc 3 w w' v (sortL cf ks) := by
  have hc : Calls Try.prog 70 #[.func (.func k1) #[] lb] w _ := callsIn_wide.1 (so58_collect 10 (by omega) k1 lb e1 _ ks.length hN hNb w hseq)
  have hsort : ∀ (w1 : World) (v : Value) (ss : List (T_api_Tx)), ss.Perm ks → w1.ownsRow w.heap.size 24 3 v ss.length (ss.flatMap so58_kc) → (v = .slice none 0 0 ↔ ss = []) → Below w.heap.size w w1 →
      Calls Try.prog 71 #[v, .func (.func g) #[] #[]] w1 fun e w' => e = .returned (.tuple #[]) ∧ Below w.heap.size w1 w' ∧ w1.drawn ≤ w'.drawn ∧ SortedAt so58_kc 3 w w' v (sortL cf ks) := by
    intro w1 v ss hS hrow hnil hb
    by_cases hss : ss = []
    · subst hss
      rw [hnil.2 rfl]
      have hks : ks = [] := List.length_eq_zero_iff.1 (by rw [← hS.length_eq]; rfl)
      have h := Go.Proofs.AnyF.slices_SortFunc_none so58_lay none 0 (.func (.func g) #[] #[]) w1
      change Calls Try.prog 71 _ _ _ at h
      refine h.mono ?_
      rintro e w' ⟨rfl, rfl⟩
      exact ⟨rfl, Below.refl _ _, Nat.le_refl _, .inl ⟨rfl, by subst hks; exact List.eq_nil_of_length_eq_zero (sortL_len cf [])⟩⟩
    · obtain ⟨m, hm⟩ : ∃ m, ss.length = m + 1 := ⟨ss.length - 1, by have := List.length_pos_iff.2 hss; omega⟩
      obtain ⟨blk, cap, hv⟩ := ownsRow_succ (by rw [hm] at hrow; exact hrow)
      rw [← hm] at hv
      subst hv
      obtain ⟨h1, h2, h3, h4, _⟩ := holds_of_owns so58_len hrow
      have hsz : ss.toArray.size < 4611686018427387904 := by
        have := hS.length_eq
        simp only [List.size_toArray]
        omega
      have h := Go.Proofs.AnyQ.slices_SortFunc_total so58_lay 3 Try.isAgg24 Try.sizeOf24 so58_kc so58_len so58_one cf hT.swo g #[] blk 0 cap ss.toArray w1 eg (hcmp blk 0 _ w1) h1 h3 hsz hT.tot
      change Calls Try.prog 71 _ _ _ at h
      rw [List.size_toArray] at h
      refine h.mono ?_
      rintro e w' ⟨rfl, n, os, rfl⟩
      have hbs := below_sort so58_kc 3 w1 blk 0 n (sortL cf ss).toArray os w.heap.size h2 hb.size
      refine ⟨rfl, hbs.1, hbs.2, ?_⟩
      rw [← sortL_of_perm hT hS]
      exact sortedAt_of so58_len (by decide) (Nat.le_refl _) hrow (sortL_len cf ss) hss rfl
  clear hseq hcmp
  go_enter Try.func58, Try.ntmps58
  go_wp2_with (first
    | (go_at_call 70; refine hc.mono ?_; rintro e w1 ⟨v, ss, rfl, hS, hrow, hnil, hb, hd⟩)
    | (go_at_call 71; refine (hsort w1 v ss hS hrow hnil hb).mono ?_; rintro e w2 ⟨rfl, hb2, hd2, hs2⟩))
  go_ret
  exact ⟨v, rfl, hb.trans hb2, Nat.le_trans hd hd2, hs2⟩

/-- cmp.isNaN[uint8] -/

def cmp_isNaN_uint8_v (r : (Bool)) : LV := .bool r

def cmp_isNaN_uint8 (x : Int) : Option ((Bool)) :=
  some (x != x)

theorem cmp_isNaN_uint8_ok (x : Int) (r : (Bool)) (h : cmp_isNaN_uint8 x = some r) : ∀ σ, Inj 0 σ → FnTri Try.prog 61 (renL σ [.int .u8 x]) (preOf σ 0 []) ((cmp_isNaN_uint8_v r).ren σ) (upOf σ []) := by
  refine fn_of Try.func61 (by kernel_rfl) (by kernel_rfl) (by kernel_rfl) trivial (by kernel_rfl) trivial (by kernel_rfl) ?_
  intro w0 W μ0 hμ
  unfold cmp_isNaN_uint8 at h
  obtain rfl := Option.some.inj h
  exact run_ret mixed (L := []) (n := 15) (s := [.reg [], .reg []])
    (a_ (a_ (a_ (a_ tr tr) tr) (a_ (a_ (a_ tr tr) (a_ (a_ tr tr) (a_ (a_ tr tr) (a_ (a_ tr tr) tr)))) tr)) tr) (by kernel_rfl) rfl

theorem cmp_isNaN_uint8_tri (x : Int) (r : (Bool)) (h : cmp_isNaN_uint8 x = some r) : FnTri Try.prog 61 [.int .u8 x] [] (cmp_isNaN_uint8_v r) [] := FnTri.none (cmp_isNaN_uint8_ok x r h) rfl rfl

/-- cmp.Compare[uint8] -/

def cmp_Compare_uint8_v (r : (Int)) : LV := .int .i64 r

def cmp_Compare_uint8 (x : Int) (y : Int) : Option ((Int)) :=
  (cmp_isNaN_uint8 x).bind fun y2 =>
  (cmp_isNaN_uint8 y).bind fun y4 =>
  if (y2 : Bool) then
    if (y4 : Bool) then
      some 0
    else
      some (-1)
  else
    if (y4 : Bool) then
      some 1
    else
      if ((decide (x < y)) : Bool) then
        some (-1)
      else
        if ((decide (y < x)) : Bool) then
          some 1
        else
          some 0

theorem cmp_Compare_uint8_ok (x : Int) (y : Int) (r : (Int)) (h : cmp_Compare_uint8 x y = some r) : ∀ σ, Inj 0 σ → FnTri Try.prog 45 (renL σ [.int .u8 x, .int .u8 y]) (preOf σ 0 []) ((cmp_Compare_uint8_v r).ren σ) (upOf σ []) := by
  refine fn_of Try.func45 (by kernel_rfl) (by kernel_rfl) (by kernel_rfl) trivial (by kernel_rfl) trivial (by kernel_rfl) ?_
  intro w0 W μ0 hμ
  unfold cmp_Compare_uint8 at h
  obtain ⟨y2, e1, h⟩ := bind_some h
  obtain ⟨y4, e3, h⟩ := bind_some h
  rcases itb_some h with ⟨c5, h⟩ | ⟨c5, h⟩
  · skip
    rcases itb_some h with ⟨c6, h⟩ | ⟨c6, h⟩
    · skip
      obtain rfl := Option.some.inj h
      exact run_ret mixed (L := []) (n := 31) (s := [.reg [], .reg [(1, { call := some (cmp_isNaN_uint8_v y2, [], []) })], .reg [(1, { call := some (cmp_isNaN_uint8_v y4, [], []) })], .reg [(0, { v := some (.bool true) })], .reg [(0, { v := some (.bool true) })], .reg []])
        (a_ (a_ (a_ (a_ tr tr) tr) (a_ (a_ (a_ tr tr) (a_ (a_ (a_ (cmp_isNaN_uint8_tri x y2 e1) tr) tr) (a_ (a_ tr tr) tr))) (a_ (a_ (a_ tr tr) (a_ (a_ (a_ (cmp_isNaN_uint8_tri y y4 e3) tr) tr) (a_ (a_ tr tr) tr))) (a_ (a_ (a_ tr (a_ (leB c5) tr)) tr) (a_ (a_ (a_ tr (a_ (leB c6) tr)) tr) (a_ (a_ (a_ tr tr) tr) tr)))))) tr) (by kernel_rfl) rfl
    · skip
      obtain rfl := Option.some.inj h
      exact run_ret mixed (L := []) (n := 32) (s := [.reg [], .reg [(1, { call := some (cmp_isNaN_uint8_v y2, [], []) })], .reg [(1, { call := some (cmp_isNaN_uint8_v y4, [], []) })], .reg [(0, { v := some (.bool true) })], .reg [(0, { v := some (.bool false) })], .reg []])
        (a_ (a_ (a_ (a_ tr tr) tr) (a_ (a_ (a_ tr tr) (a_ (a_ (a_ (cmp_isNaN_uint8_tri x y2 e1) tr) tr) (a_ (a_ tr tr) tr))) (a_ (a_ (a_ tr tr) (a_ (a_ (a_ (cmp_isNaN_uint8_tri y y4 e3) tr) tr) (a_ (a_ tr tr) tr))) (a_ (a_ (a_ tr (a_ (leB c5) tr)) tr) (a_ (a_ (a_ tr (a_ (leB c6) tr)) tr) (a_ (a_ (a_ tr tr) tr) tr)))))) tr) (by kernel_rfl) rfl
  · skip
    rcases itb_some h with ⟨c6, h⟩ | ⟨c6, h⟩
    · skip
      obtain rfl := Option.some.inj h
      exact run_ret mixed (L := []) (n := 32) (s := [.reg [], .reg [(1, { call := some (cmp_isNaN_uint8_v y2, [], []) })], .reg [(1, { call := some (cmp_isNaN_uint8_v y4, [], []) })], .reg [(0, { v := some (.bool false) })], .reg [(0, { v := some (.bool true) })], .reg []])
        (a_ (a_ (a_ (a_ tr tr) tr) (a_ (a_ (a_ tr tr) (a_ (a_ (a_ (cmp_isNaN_uint8_tri x y2 e1) tr) tr) (a_ (a_ tr tr) tr))) (a_ (a_ (a_ tr tr) (a_ (a_ (a_ (cmp_isNaN_uint8_tri y y4 e3) tr) tr) (a_ (a_ tr tr) tr))) (a_ (a_ (a_ tr (a_ (leB c5) tr)) tr) (a_ (a_ (a_ tr (a_ (leB c6) tr)) tr) (a_ (a_ (a_ tr tr) tr) tr)))))) tr) (by kernel_rfl) rfl
    · skip
      rcases itb_some h with ⟨c7, h⟩ | ⟨c7, h⟩
      · skip
        obtain rfl := Option.some.inj h
        exact run_ret mixed (L := []) (n := 38) (s := [.reg [], .reg [(1, { call := some (cmp_isNaN_uint8_v y2, [], []) })], .reg [(1, { call := some (cmp_isNaN_uint8_v y4, [], []) })], .reg [(0, { v := some (.bool false) })], .reg [(0, { v := some (.bool false) })], .reg [(2, { v := some (.bool true) })], .reg []])
          (a_ (a_ (a_ (a_ tr tr) tr) (a_ (a_ (a_ tr tr) (a_ (a_ (a_ (cmp_isNaN_uint8_tri x y2 e1) tr) tr) (a_ (a_ tr tr) tr))) (a_ (a_ (a_ tr tr) (a_ (a_ (a_ (cmp_isNaN_uint8_tri y y4 e3) tr) tr) (a_ (a_ tr tr) tr))) (a_ (a_ (a_ tr (a_ (leB c5) tr)) tr) (a_ (a_ (a_ tr (a_ (leB c6) tr)) tr) (a_ (a_ (a_ tr tr) (a_ (a_ tr tr) (a_ (a_ tr (a_ (leB c7) tr)) tr))) (a_ (a_ (a_ tr tr) tr) tr))))))) tr) (by kernel_rfl) rfl
      · skip
        rcases itb_some h with ⟨c8, h⟩ | ⟨c8, h⟩
        · skip
          obtain rfl := Option.some.inj h
          exact run_ret mixed (L := []) (n := 44) (s := [.reg [], .reg [(1, { call := some (cmp_isNaN_uint8_v y2, [], []) })], .reg [(1, { call := some (cmp_isNaN_uint8_v y4, [], []) })], .reg [(0, { v := some (.bool false) })], .reg [(0, { v := some (.bool false) })], .reg [(2, { v := some (.bool false) })], .reg [(2, { v := some (.bool true) })], .reg []])
            (a_ (a_ (a_ (a_ tr tr) tr) (a_ (a_ (a_ tr tr) (a_ (a_ (a_ (cmp_isNaN_uint8_tri x y2 e1) tr) tr) (a_ (a_ tr tr) tr))) (a_ (a_ (a_ tr tr) (a_ (a_ (a_ (cmp_isNaN_uint8_tri y y4 e3) tr) tr) (a_ (a_ tr tr) tr))) (a_ (a_ (a_ tr (a_ (leB c5) tr)) tr) (a_ (a_ (a_ tr (a_ (leB c6) tr)) tr) (a_ (a_ (a_ tr tr) (a_ (a_ tr tr) (a_ (a_ tr (a_ (leB c7) tr)) tr))) (a_ (a_ (a_ tr tr) (a_ (a_ tr tr) (a_ (a_ tr (a_ (leB c8) tr)) tr))) (a_ (a_ (a_ tr tr) tr) tr)))))))) tr) (by kernel_rfl) rfl
        · skip
          obtain rfl := Option.some.inj h
          exact run_ret mixed (L := []) (n := 45) (s := [.reg [], .reg [(1, { call := some (cmp_isNaN_uint8_v y2, [], []) })], .reg [(1, { call := some (cmp_isNaN_uint8_v y4, [], []) })], .reg [(0, { v := some (.bool false) })], .reg [(0, { v := some (.bool false) })], .reg [(2, { v := some (.bool false) })], .reg [(2, { v := some (.bool false) })], .reg []])
            (a_ (a_ (a_ (a_ tr tr) tr) (a_ (a_ (a_ tr tr) (a_ (a_ (a_ (cmp_isNaN_uint8_tri x y2 e1) tr) tr) (a_ (a_ tr tr) tr))) (a_ (a_ (a_ tr tr) (a_ (a_ (a_ (cmp_isNaN_uint8_tri y y4 e3) tr) tr) (a_ (a_ tr tr) tr))) (a_ (a_ (a_ tr (a_ (leB c5) tr)) tr) (a_ (a_ (a_ tr (a_ (leB c6) tr)) tr) (a_ (a_ (a_ tr tr) (a_ (a_ tr tr) (a_ (a_ tr (a_ (leB c7) tr)) tr))) (a_ (a_ (a_ tr tr) (a_ (a_ tr tr) (a_ (a_ tr (a_ (leB c8) tr)) tr))) (a_ (a_ (a_ tr tr) tr) tr)))))))) tr) (by kernel_rfl) rfl

theorem cmp_Compare_uint8_tri (x : Int) (y : Int) (r : (Int)) (h : cmp_Compare_uint8 x y = some r) : FnTri Try.prog 45 [.int .u8 x, .int .u8 y] [] (cmp_Compare_uint8_v r) [] := FnTri.none (cmp_Compare_uint8_ok x y r h) rfl rfl

/-- cmp.isNaN[uint32] -/

def cmp_isNaN_uint32_v (r : (Bool)) : LV := .bool r

def cmp_isNaN_uint32 (x : Int) : Option ((Bool)) :=
  some (x != x)

theorem cmp_isNaN_uint32_ok (x : Int) (r : (Bool)) (h : cmp_isNaN_uint32 x = some r) : ∀ σ, Inj 0 σ → FnTri Try.prog 62 (renL σ [.int .u32 x]) (preOf σ 0 []) ((cmp_isNaN_uint32_v r).ren σ) (upOf σ []) := by
  refine fn_of Try.func62 (by kernel_rfl) (by kernel_rfl) (by kernel_rfl) trivial (by kernel_rfl) trivial (by kernel_rfl) ?_
  intro w0 W μ0 hμ
  unfold cmp_isNaN_uint32 at h
  obtain rfl := Option.some.inj h
  exact run_ret mixed (L := []) (n := 15) (s := [.reg [], .reg []])
    (a_ (a_ (a_ (a_ tr tr) tr) (a_ (a_ (a_ tr tr) (a_ (a_ tr tr) (a_ (a_ tr tr) (a_ (a_ tr tr) tr)))) tr)) tr) (by kernel_rfl) rfl

theorem cmp_isNaN_uint32_tri (x : Int) (r : (Bool)) (h : cmp_isNaN_uint32 x = some r) : FnTri Try.prog 62 [.int .u32 x] [] (cmp_isNaN_uint32_v r) [] := FnTri.none (cmp_isNaN_uint32_ok x r h) rfl rfl

/-- cmp.Compare[uint32] -/

def cmp_Compare_uint32_v (r : (Int)) : LV := .int .i64 r

def cmp_Compare_uint32 (x : Int) (y : Int) : Option ((Int)) :=
  (cmp_isNaN_uint32 x).bind fun y2 =>
  (cmp_isNaN_uint32 y).bind fun y4 =>
  if (y2 : Bool) then
    if (y4 : Bool) then
      some 0
    else
      some (-1)
  else
    if (y4 : Bool) then
      some 1
    else
      if ((decide (x < y)) : Bool) then
        some (-1)
      else
        if ((decide (y < x)) : Bool) then
          some 1
        else
          some 0

theorem cmp_Compare_uint32_ok (x : Int) (y : Int) (r : (Int)) (h : cmp_Compare_uint32 x y = some r) : ∀ σ, Inj 0 σ → FnTri Try.prog 46 (renL σ [.int .u32 x, .int .u32 y]) (preOf σ 0 []) ((cmp_Compare_uint32_v r).ren σ) (upOf σ []) := by
  refine fn_of Try.func46 (by kernel_rfl) (by kernel_rfl) (by kernel_rfl) trivial (by kernel_rfl) trivial (by kernel_rfl) ?_
  intro w0 W μ0 hμ
  unfold cmp_Compare_uint32 at h
  obtain ⟨y2, e1, h⟩ := bind_some h
  obtain ⟨y4, e3, h⟩ := bind_some h
  rcases itb_some h with ⟨c5, h⟩ | ⟨c5, h⟩
  · skip
    rcases itb_some h with ⟨c6, h⟩ | ⟨c6, h⟩
    · skip
      obtain rfl := Option.some.inj h
      exact run_ret mixed (L := []) (n := 31) (s := [.reg [], .reg [(1, { call := some (cmp_isNaN_uint32_v y2, [], []) })], .reg [(1, { call := some (cmp_isNaN_uint32_v y4, [], []) })], .reg [(0, { v := some (.bool true) })], .reg [(0, { v := some (.bool true) })], .reg []])
        (a_ (a_ (a_ (a_ tr tr) tr) (a_ (a_ (a_ tr tr) (a_ (a_ (a_ (cmp_isNaN_uint32_tri x y2 e1) tr) tr) (a_ (a_ tr tr) tr))) (a_ (a_ (a_ tr tr) (a_ (a_ (a_ (cmp_isNaN_uint32_tri y y4 e3) tr) tr) (a_ (a_ tr tr) tr))) (a_ (a_ (a_ tr (a_ (leB c5) tr)) tr) (a_ (a_ (a_ tr (a_ (leB c6) tr)) tr) (a_ (a_ (a_ tr tr) tr) tr)))))) tr) (by kernel_rfl) rfl
    · skip
      obtain rfl := Option.some.inj h
      exact run_ret mixed (L := []) (n := 32) (s := [.reg [], .reg [(1, { call := some (cmp_isNaN_uint32_v y2, [], []) })], .reg [(1, { call := some (cmp_isNaN_uint32_v y4, [], []) })], .reg [(0, { v := some (.bool true) })], .reg [(0, { v := some (.bool false) })], .reg []])
        (a_ (a_ (a_ (a_ tr tr) tr) (a_ (a_ (a_ tr tr) (a_ (a_ (a_ (cmp_isNaN_uint32_tri x y2 e1) tr) tr) (a_ (a_ tr tr) tr))) (a_ (a_ (a_ tr tr) (a_ (a_ (a_ (cmp_isNaN_uint32_tri y y4 e3) tr) tr) (a_ (a_ tr tr) tr))) (a_ (a_ (a_ tr (a_ (leB c5) tr)) tr) (a_ (a_ (a_ tr (a_ (leB c6) tr)) tr) (a_ (a_ (a_ tr tr) tr) tr)))))) tr) (by kernel_rfl) rfl
  · skip
    rcases itb_some h with ⟨c6, h⟩ | ⟨c6, h⟩
    · skip
      obtain rfl := Option.some.inj h
      exact run_ret mixed (L := []) (n := 32) (s := [.reg [], .reg [(1, { call := some (cmp_isNaN_uint32_v y2, [], []) })], .reg [(1, { call := some (cmp_isNaN_uint32_v y4, [], []) })], .reg [(0, { v := some (.bool false) })], .reg [(0, { v := some (.bool true) })], .reg []])
        (a_ (a_ (a_ (a_ tr tr) tr) (a_ (a_ (a_ tr tr) (a_ (a_ (a_ (cmp_isNaN_uint32_tri x y2 e1) tr) tr) (a_ (a_ tr tr) tr))) (a_ (a_ (a_ tr tr) (a_ (a_ (a_ (cmp_isNaN_uint32_tri y y4 e3) tr) tr) (a_ (a_ tr tr) tr))) (a_ (a_ (a_ tr (a_ (leB c5) tr)) tr) (a_ (a_ (a_ tr (a_ (leB c6) tr)) tr) (a_ (a_ (a_ tr tr) tr) tr)))))) tr) (by kernel_rfl) rfl
    · skip
      rcases itb_some h with ⟨c7, h⟩ | ⟨c7, h⟩
      · skip
        obtain rfl := Option.some.inj h
        exact run_ret mixed (L := []) (n := 38) (s := [.reg [], .reg [(1, { call := some (cmp_isNaN_uint32_v y2, [], []) })], .reg [(1, { call := some (cmp_isNaN_uint32_v y4, [], []) })], .reg [(0, { v := some (.bool false) })], .reg [(0, { v := some (.bool false) })], .reg [(2, { v := some (.bool true) })], .reg []])
          (a_ (a_ (a_ (a_ tr tr) tr) (a_ (a_ (a_ tr tr) (a_ (a_ (a_ (cmp_isNaN_uint32_tri x y2 e1) tr) tr) (a_ (a_ tr tr) tr))) (a_ (a_ (a_ tr tr) (a_ (a_ (a_ (cmp_isNaN_uint32_tri y y4 e3) tr) tr) (a_ (a_ tr tr) tr))) (a_ (a_ (a_ tr (a_ (leB c5) tr)) tr) (a_ (a_ (a_ tr (a_ (leB c6) tr)) tr) (a_ (a_ (a_ tr tr) (a_ (a_ tr tr) (a_ (a_ tr (a_ (leB c7) tr)) tr))) (a_ (a_ (a_ tr tr) tr) tr))))))) tr) (by kernel_rfl) rfl
      · skip
        rcases itb_some h with ⟨c8, h⟩ | ⟨c8, h⟩
        · skip
          obtain rfl := Option.some.inj h
          exact run_ret mixed (L := []) (n := 44) (s := [.reg [], .reg [(1, { call := some (cmp_isNaN_uint32_v y2, [], []) })], .reg [(1, { call := some (cmp_isNaN_uint32_v y4, [], []) })], .reg [(0, { v := some (.bool false) })], .reg [(0, { v := some (.bool false) })], .reg [(2, { v := some (.bool false) })], .reg [(2, { v := some (.bool true) })], .reg []])
            (a_ (a_ (a_ (a_ tr tr) tr) (a_ (a_ (a_ tr tr) (a_ (a_ (a_ (cmp_isNaN_uint32_tri x y2 e1) tr) tr) (a_ (a_ tr tr) tr))) (a_ (a_ (a_ tr tr) (a_ (a_ (a_ (cmp_isNaN_uint32_tri y y4 e3) tr) tr) (a_ (a_ tr tr) tr))) (a_ (a_ (a_ tr (a_ (leB c5) tr)) tr) (a_ (a_ (a_ tr (a_ (leB c6) tr)) tr) (a_ (a_ (a_ tr tr) (a_ (a_ tr tr) (a_ (a_ tr (a_ (leB c7) tr)) tr))) (a_ (a_ (a_ tr tr) (a_ (a_ tr tr) (a_ (a_ tr (a_ (leB c8) tr)) tr))) (a_ (a_ (a_ tr tr) tr) tr)))))))) tr) (by kernel_rfl) rfl
        · skip
          obtain rfl := Option.some.inj h
          exact run_ret mixed (L := []) (n := 45) (s := [.reg [], .reg [(1, { call := some (cmp_isNaN_uint32_v y2, [], []) })], .reg [(1, { call := some (cmp_isNaN_uint32_v y4, [], []) })], .reg [(0, { v := some (.bool false) })], .reg [(0, { v := some (.bool false) })], .reg [(2, { v := some (.bool false) })], .reg [(2, { v := some (.bool false) })], .reg []])
            (a_ (a_ (a_ (a_ tr tr) tr) (a_ (a_ (a_ tr tr) (a_ (a_ (a_ (cmp_isNaN_uint32_tri x y2 e1) tr) tr) (a_ (a_ tr tr) tr))) (a_ (a_ (a_ tr tr) (a_ (a_ (a_ (cmp_isNaN_uint32_tri y y4 e3) tr) tr) (a_ (a_ tr tr) tr))) (a_ (a_ (a_ tr (a_ (leB c5) tr)) tr) (a_ (a_ (a_ tr (a_ (leB c6) tr)) tr) (a_ (a_ (a_ tr tr) (a_ (a_ tr tr) (a_ (a_ tr (a_ (leB c7) tr)) tr))) (a_ (a_ (a_ tr tr) (a_ (a_ tr tr) (a_ (a_ tr (a_ (leB c8) tr)) tr))) (a_ (a_ (a_ tr tr) tr) tr)))))))) tr) (by kernel_rfl) rfl

theorem cmp_Compare_uint32_tri (x : Int) (y : Int) (r : (Int)) (h : cmp_Compare_uint32 x y = some r) : FnTri Try.prog 46 [.int .u32 x, .int .u32 y] [] (cmp_Compare_uint32_v r) [] := FnTri.none (cmp_Compare_uint32_ok x y r h) rfl rfl

/-- cmp.Or[int] -/

def cmp_Or_int_v (r : (Int)) : LV := .int .i64 r

def cmp_Or_int_T0 (vals : List (Int)) (t8 : Int) : List LV := [.any, .any, .any, .int .i64 0, .any, .any, .ds 1 (vals).length (rowF (cInt .i64) default vals), .int .i64 ((vals).length : Int), .int .i64 t8, .any, .any, .any, .any, .any, .any, .any, .any, .any]

def cmp_Or_int_H0 (vals : List (Int)) (t8 : Int) : Heap := []

def cmp_Or_int_l0 (vals : List (Int))  : Nat → (Int) → Option ((Int))
  | 0, _ => none
  | fuel + 1, t8 =>
    if ((decide (t8 < ((vals).length : Int))) : Bool) then
      if 0 ≤ t8 ∧ t8 < (((vals).length : Nat) : Int) then
      if (((vals.getD t8.toNat default) != 0) : Bool) then
        some (vals.getD t8.toNat default)
      else
        cmp_Or_int_l0 vals  fuel (IntKind.wrap .i64 (t8 + 1))
      else none
    else
      some 0

def cmp_Or_int (vals : List (Int)) : Option ((Int)) :=
  cmp_Or_int_l0 vals  big 0

theorem cmp_Or_int_l0_ok {w0 : World} {W : Nat → Prop} {μ0 : Emb} (hμ : ∀ c p, μ0 c = some p → c < 0) (vals : List (Int))  : ∀ (fuel : Nat) (t8 : Int) (r : (Int)), cmp_Or_int_l0 vals  fuel t8 = some r → kont Try.prog w0 W μ0 (FnPost Try.prog Try.f44 0 0 (cmp_Or_int_v r) []) (kAt (bodyOf Try.f44) 0) none (cmp_Or_int_T0 vals t8) (cmp_Or_int_H0 vals t8) := by
  intro fuel
  induction fuel with
  | zero => intro t8 r h; rw [cmp_Or_int_l0] at h; cases h
  | succ fuel ih =>
    intro t8 r h
    rw [cmp_Or_int_l0] at h
    rcases itb_some h with ⟨cL0_1, h⟩ | ⟨cL0_1, h⟩
    · skip
      obtain ⟨gL0_2, h⟩ := guard_some h
      rcases itb_some h with ⟨cL0_3, h⟩ | ⟨cL0_3, h⟩
      · skip
        obtain rfl := Option.some.inj h
        exact run_ret mixed (L := []) (n := 28) (s := [.go, .reg [(0, { v := some (.bool true) })], .reg [], .reg [(2, { v := some (.bool true) })], .reg []])
          (a_ (a_ (a_ (a_ tr (a_ (leB cL0_1) tr)) tr) (a_ (a_ (a_ (a_ (Eq.refl 1) gL0_2) tr) (a_ (a_ (lt_ 0 1 rfl) tr) (a_ (a_ tr tr) tr))) (a_ (a_ (a_ tr tr) (a_ (a_ tr tr) (a_ (a_ tr (a_ (leB cL0_3) tr)) tr))) (a_ (a_ (a_ tr tr) (a_ (a_ tr tr) tr)) tr)))) tr) (by kernel_rfl) rfl
      · skip
        exact run_to mixed hμ (L := []) (n := 29) (s := [.go, .reg [(0, { v := some (.bool true) })], .reg [], .reg [(2, { v := some (.bool false) })], .reg []])
          (a_ (a_ (a_ tr (a_ (leB cL0_1) tr)) tr) (a_ (a_ (a_ (a_ (Eq.refl 1) gL0_2) tr) (a_ (a_ (lt_ 0 1 rfl) tr) (a_ (a_ tr tr) tr))) (a_ (a_ (a_ tr tr) (a_ (a_ tr tr) (a_ (a_ tr (a_ (leB cL0_3) tr)) tr))) (a_ (a_ (a_ tr tr) (a_ (a_ tr tr) tr)) tr)))) (ih _ r h) (by kernel_rfl) trivial
    · skip
      obtain rfl := Option.some.inj h
      exact run_ret mixed (L := []) (n := 19) (s := [.go, .reg [(0, { v := some (.bool false) })], .reg []])
        (a_ (a_ (a_ (a_ tr (a_ (leB cL0_1) tr)) tr) (a_ (a_ (a_ tr tr) (a_ (a_ tr tr) tr)) tr)) tr) (by kernel_rfl) rfl

theorem cmp_Or_int_ok (vals : List (Int)) (r : (Int)) (h : cmp_Or_int vals = some r) : ∀ σ, Inj 0 σ → FnTri Try.prog 44 (renL σ [.ds 1 (vals).length (rowF (cInt .i64) default vals)]) (preOf σ 0 []) ((cmp_Or_int_v r).ren σ) (upOf σ []) := by
  refine fn_of Try.func44 (by kernel_rfl) (by kernel_rfl) (by kernel_rfl) trivial (by kernel_rfl) trivial (by kernel_rfl) ?_
  intro w0 W μ0 hμ
  unfold cmp_Or_int at h
  exact run_to mixed hμ (L := []) (n := 21) (s := [.reg [], .reg [], .reg []])
    (a_ (a_ (a_ tr tr) tr) (a_ (a_ (a_ tr tr) tr) (a_ (a_ (a_ tr tr) (a_ (a_ tr tr) (a_ (a_ tr tr) tr))) tr))) (cmp_Or_int_l0_ok hμ vals  big _ r h) (by kernel_rfl) trivial

theorem cmp_Or_int_tri (vals : List (Int)) (r : (Int)) (h : cmp_Or_int vals = some r) : FnTri Try.prog 44 [.ds 1 (vals).length (rowF (cInt .i64) default vals)] [] (cmp_Or_int_v r) [] := FnTri.none (cmp_Or_int_ok vals r h) rfl rfl

/-- parrel/ids.Txs -/

def ids_Txs_v (r : (Int)) : LV := .int .i64 r

def ids_Txs (a : T_api_Tx) (b : T_api_Tx) : Option ((Int)) :=
  (cmp_Compare_uint8 a.f_Node b.f_Node).bind fun y2 =>
  (cmp_Compare_uint32 a.f_Boot b.f_Boot).bind fun y4 =>
  (cmp_Compare_uint32 a.f_Num b.f_Num).bind fun y6 =>
  (cmp_Or_int ([y2, y4, y6])).bind fun y8 =>
  some y8

theorem ids_Txs_ok (a : T_api_Tx) (b : T_api_Tx) (r : (Int)) (h : ids_Txs a b = some r) : ∀ σ, Inj 0 σ → FnTri Try.prog 17 (renL σ [v_T_api_Tx a, v_T_api_Tx b]) (preOf σ 0 []) ((ids_Txs_v r).ren σ) (upOf σ []) := by
  refine fn_of Try.func17 (by kernel_rfl) (by kernel_rfl) (by kernel_rfl) trivial (by kernel_rfl) trivial (by kernel_rfl) ?_
  intro w0 W μ0 hμ
  unfold ids_Txs at h
  obtain ⟨y2, e1, h⟩ := bind_some h
  obtain ⟨y4, e3, h⟩ := bind_some h
  obtain ⟨y6, e5, h⟩ := bind_some h
  obtain ⟨y8, e7, h⟩ := bind_some h
  obtain rfl := Option.some.inj h
  exact run_ret mixed (L := []) (n := 15) (s := [.reg [], .reg [(4, { call := some (cmp_Compare_uint8_v y2, [], []) }), (9, { call := some (cmp_Compare_uint32_v y4, [], []) }), (14, { call := some (cmp_Compare_uint32_v y6, [], []) }), (15, { os := [(2, .gr 1 ([y2, y4, y6]).length (rowF (cInt .i64) default [y2, y4, y6]))], v := some (.gs 2 ([y2, y4, y6]).length), fz := true }), (16, { call := some (cmp_Or_int_v y8, [], []) })]])
    (a_ (a_ (a_ (a_ tr tr) (a_ (a_ tr tr) (a_ (a_ tr tr) tr))) (a_ (a_ (a_ tr tr) (a_ (a_ (a_ tr (lt_ 0 3 rfl)) tr) (a_ (a_ tr tr) (a_ (a_ (a_ tr (lt_ 0 3 rfl)) tr) (a_ (a_ (a_ (cmp_Compare_uint8_tri a.f_Node b.f_Node y2 e1) tr) tr) (a_ (a_ tr tr) (a_ (a_ (a_ tr (lt_ 1 3 rfl)) tr) (a_ (a_ tr tr) (a_ (a_ (a_ tr (lt_ 1 3 rfl)) tr) (a_ (a_ (a_ (cmp_Compare_uint32_tri a.f_Boot b.f_Boot y4 e3) tr) tr) (a_ (a_ tr tr) (a_ (a_ (a_ tr (lt_ 2 3 rfl)) tr) (a_ (a_ tr tr) (a_ (a_ (a_ tr (lt_ 2 3 rfl)) tr) (a_ (a_ (a_ (cmp_Compare_uint32_tri a.f_Num b.f_Num y6 e5) tr) tr) (a_ (a_ (a_ (a_ (Eq.refl true) (a_ (Eq.refl 1) (a_ (lt_ 0 1 rfl) (le_ 3 16777216 rfl)))) (a_ (le_sl_gs 2 3 (some 3) rfl) (a_ (sub_lit (cInt .i64) default 1 (fun _ => rfl) [y2, y4, y6]) tr))) (a_ (Nat.le_refl ([y2, y4, y6]).length) (fz_row (enc := (cInt .i64)) (d := default) (fun _ => rfl) [y2, y4, y6]))) (a_ (a_ (a_ (cmp_Or_int_tri ([y2, y4, y6]) y8 e7) tr) tr) (a_ (a_ tr tr) tr)))))))))))))))))) tr)) tr) (by kernel_rfl) rfl

theorem ids_Txs_tri (a : T_api_Tx) (b : T_api_Tx) (r : (Int)) (h : ids_Txs a b = some r) : FnTri Try.prog 17 [v_T_api_Tx a, v_T_api_Tx b] [] (ids_Txs_v r) [] := FnTri.none (ids_Txs_ok a b r h) rfl rfl

theorem so58k72_keys (n : Nat) (Bm b : Nat) (es : Array MapEntry) (clock : Nat) (ks : List (T_api_Tx)) (w : World) (off : Nat) (hm : w.cell? ⟨Bm, off, none⟩ = some (.map (some b))) (hBm : Bm < w.heap.size) (hb : w.heap[b]? = some (.map es clock))
    (hold : ∀ x ∈ es.toList, x.born < clock) (hnd : (es.toList.map (·.born)).Nodup) (hk : es.toList.map (·.key) = ks.map so58_kv) :
    SeqD Fence.wide n Try.prog 72 #[.pointer (some ⟨Bm, off, none⟩)] so58_kv (fun xs => xs.Perm ks) es.size w := fun l J W hW hJ hY h0 => by
  have hbW : W.heap[b]? = some (.map es clock) := (hW.block b (Array.getElem?_eq_some_iff.1 hb).1).trans hb
  have hc : W.cell? ⟨Bm, off, none⟩ = some (.map (some b)) := (World.cell?_of_block (hW.block Bm hBm)).trans hm
  refine callsIn_of_wp Try.func72 rfl trivial ?_ rfl
  simp only [Try.ntmps72, List.size_toArray, List.length_cons, List.length_nil, Nat.reduceAdd, Nat.reduceSub, Array.replicate_succ, Array.replicate_zero, List.push_toArray, List.append_toArray, List.nil_append, List.cons_append]
  gi_wp2_with (first
    | (gi_at_range; refine wpListIn_range_raw _ rfl _ 69 rfl 24 4 Try.underlying69 b es clock rfl hbW ?_)
    | gi_in)
  go_frame
  have hrg0 : Rg (W.alloc (.mapIter (some b) clock #[] clock)) b W.heap.size es clock [] :=
    ⟨(Below.heap_alloc _ _ b (Array.getElem?_eq_some_iff.1 hbW).1).trans hbW, World.alloc_heap_new W _, (fun d hd => by cases hd), List.nodup_nil⟩
  have hJ0 : J [] (W.alloc (.mapIter (some b) clock #[] clock)) := hJ [] W _ none h0 (World.grownBy_alloc W _ none) (Nat.le_refl _) (fun r e => by cases e)
  gi_loopw [3] (fun _ wr => ∃ (ds : List MapEntry) (xs : List (T_api_Tx)), Rg wr b W.heap.size es clock ds ∧ ds.map (·.key) = xs.map so58_kv ∧ J xs wr)
    (fun _ wr => itLeft b W.heap.size wr)
  case atStart => exact ⟨[], [], hrg0, rfl, hJ0⟩
  case round =>
    obtain ⟨ds, xs, hrg, hdx, hJs⟩ := hrel
    gi_wp2_with (first
      | (gi_at_next; refine wpListIn_next_raw _ rfl _ rfl b W.heap.size es clock ds rfl hrg hold hnd ?_ ?_)
      | gi_in)
    · intro hall
      gi_wp2
      go_end0
      refine ⟨⟨_, rfl⟩, xs, ?_, hJs⟩
      have hp := (hrg.perm hnd (fun x hx => hall x (by simpa using hx))).map (·.key)
      rw [hdx, hk] at hp
      exact perm_of_map so58_kv so58_kd so58_kdv hp
    · intro e w2 he hrg2 hg2 hd2 hs2 hen
      obtain ⟨x, hx⟩ : ∃ x, e.key = so58_kv x := by
        have : e.key ∈ es.toList.map (·.key) := List.mem_map.2 ⟨e, by simpa using he, rfl⟩
        rw [hk] at this
        obtain ⟨x, _, hx⟩ := List.mem_map.1 this
        exact ⟨x, hx.symm⟩
      rw [hx] at hen ⊢
      have hJ2 : J xs w2 := hJ xs wr w2 _ hJs hg2 hd2 (fun r e => by cases e; exact ⟨Nat.le_refl _, _, hrg.it, rfl⟩)
      have hlt2 : xs.length < es.size := by
        have h1 := hrg2.len hnd
        have h2 := congrArg List.length hdx
        simp only [List.length_map, List.length_append, List.length_cons, List.length_nil] at h1 h2
        omega
      have hJ3 : J xs (w2.alloc (.cells #[.int .u8 x.f_Node, .int .u32 x.f_Boot, .int .u32 x.f_Num] 24)) := hJ xs w2 _ none hJ2 (World.grownBy_alloc w2 _ none) (Nat.le_refl _) (fun r e => by cases e)
      obtain ⟨fn, tmps, assign, body, hy, hR⟩ := hY xs x _ hJ3 hlt2
      unfold so58_kv at hen hy ⊢
      clear hs2 hd2
      gi_wp2
      refine ⟨fun h => absurd h (by simp [Fence.wide]), hR.mono ?_⟩
      rintro e' W4 ⟨rfl, hJ4, hk4⟩
      gi_wp2
      have hrg4 := (hrg2.walks (KeepsWalks.alloc _ _)).walks hk4
      go_roundw
      case rel => exact ⟨ds ++ [e], xs ++ [x], hrg4, by rw [List.map_append, List.map_append, hdx, List.map_cons, hx]; rfl, hJ4⟩
      case measure =>
        rw [hrg4.left, hrg.left]
        have := hrg2.len hnd
        simp only [List.length_append, List.length_cons, List.length_nil] at this ⊢
        omega


theorem so58k72_keysn (n : Nat) (Bm off : Nat) (w : World) (hm : w.cell? ⟨Bm, off, none⟩ = some (.map none)) (hBm : Bm < w.heap.size) :
    SeqD Fence.wide n Try.prog 72 #[.pointer (some ⟨Bm, off, none⟩)] so58_kv (fun xs => xs.Perm []) 0 w := fun l J W hW hJ hY h0 => by
  have hc : W.cell? ⟨Bm, off, none⟩ = some (.map none) := (World.cell?_of_block (hW.block Bm hBm)).trans hm
  refine callsIn_of_wp Try.func72 rfl trivial ?_ rfl
  simp only [Try.ntmps72, List.size_toArray, List.length_cons, List.length_nil, Nat.reduceAdd, Nat.reduceSub, Array.replicate_succ, Array.replicate_zero, List.push_toArray, List.append_toArray, List.nil_append, List.cons_append]
  gi_wp2_with (first
    | (gi_at_range; refine wpListIn_range_nil _ rfl _ 69 rfl 24 4 Try.underlying69 rfl ?_)
    | gi_in)
  go_frame
  have hJ0 : J [] (W.alloc (.mapIter none 0 #[] 0)) := hJ [] W _ none h0 (World.grownBy_alloc W _ none) (Nat.le_refl _) (fun r e => by cases e)
  gi_loopw [3] (fun _ wr => wr.heap[W.heap.size]? = some (.mapIter none 0 #[] 0) ∧ J [] wr) (fun _ _ => 0)
  case atStart => exact ⟨World.alloc_heap_new W _, hJ0⟩
  case round =>
    obtain ⟨hit, hJs⟩ := hrel
    gi_wp2_with (first
      | (gi_at_next; refine wpListIn_next_nil _ rfl _ rfl W.heap.size rfl hit ?_)
      | gi_in)
    gi_wp2
    go_end0
    exact ⟨⟨_, rfl⟩, [], List.Perm.refl _, hJs⟩

theorem so58k72_det (φ : Fro) (x : (T_api_Tx)) (v : Value) (h : RelF φ (v_T_api_Tx x) v) : v = so58_kv x := so58_det φ x v h
theorem so58k72_rel (μ : Emb) (x : (T_api_Tx)) : Rel μ (v_T_api_Tx x) (.agg (so58_kc x).toArray) := ⟨_, rfl, RelFL.rel (so58_enc μ.fro x)⟩
theorem so58k72_tri (g : FuncId) (cmp : (T_api_Tx) → (T_api_Tx) → Option Int) (r : List (T_api_Tx)) (hcmp : ∀ x y r, cmp x y = some r → FnTri Try.prog g [v_T_api_Tx x, v_T_api_Tx y] [] (.int .i64 r) []) (b c : Nat) (hbc : b ≠ c) (m : List ((T_api_Tx) × (Bool)))
    (h : sortO cmp 12 (m.map (·.1)) = some r) : FnTri Try.prog 58 [.fn 72 [] [.ptr b 0 0], .fn g [] []] [(b, .var [.map c]), (c, .map true [.int .u8, .int .u32, .int .u32] (encM v_T_api_Tx LV.bool m))] (.ds 3 r.length (rowF c_T_api_Tx default r)) [] := by
  obtain ⟨cf, hT, hcf, hL1, hL2, rfl⟩ := sortO_some h
  have hcl : ∀ blk off size w, Go.Proofs.CmpLays Try.prog g #[] so58_kc 3 cf blk off size w := cmp_of_tri (ek := v_T_api_Tx) (fun x y => hcmp x y _ (hcf x y)) so58k72_rel 3
  have eg := enters_tri (hcmp default default _ (hcf default default)).1
  refine ⟨⟨_, Try.func58, by kernel_rfl, by kernel_rfl⟩, fun μ w vals hr hp hf => ?_⟩
  obtain ⟨v0, r0, rfl, ⟨a0, b0, rfl, ha, hb⟩, v1, r1, rfl, ⟨a1, b1, rfl, ha1, hb1⟩, rfl⟩ := hr
  obtain rfl := rel_nocap ha
  obtain rfl := rel_nocap ha1
  obtain rfl := rel_nocap hb1
  obtain ⟨p, hpb, rfl⟩ := rel_cap hb
  obtain ⟨p', hpb', hok⟩ := hp.obj b _ List.mem_cons_self
  obtain rfl := Option.some.inj (hpb.symm.trans hpb')
  obtain ⟨vm, hvm, hcell, hlt⟩ := var_cell hok
  obtain ⟨q, hq, rfl⟩ := hvm
  obtain ⟨q', hq', hok2⟩ := hp.obj c _ (List.mem_cons_of_mem _ List.mem_cons_self)
  obtain rfl := Option.some.inj (hq.symm.trans hq')
  obtain ⟨⟨es, clock, hes, hF2, hnd, hborn⟩, _⟩ := hok2
  have hlen : es.size = (m.map (·.1)).length := by
    have := ents_len _ _ hF2
    rw [List.length_map]; simpa using this
  have hseq := so58k72_keys 8 p.rb q.rb es clock (m.map (·.1)) w _ hcell hlt hes hborn hnd (ents_keys so58k72_det _ _ hF2)
  rw [hlen] at hseq
  refine (so58_sortedF 72 g _ (enters_of Try.func72 (by kernel_rfl) rfl) eg cf hT hcl (m.map (·.1)) hL1 hL2 w hseq).mono ?_
  rintro e w' ⟨v, rfl, hb', hd', hs'⟩
  obtain ⟨μ', h1, h2⟩ := sorted_fin so58_enc so58_len so58_one hp hb' hd' hs'
  exact ⟨v, μ', rfl, h1, h2⟩
theorem so58k72_trin (g : FuncId) (cmp : (T_api_Tx) → (T_api_Tx) → Option Int) (r : List (T_api_Tx)) (hcmp : ∀ x y r, cmp x y = some r → FnTri Try.prog g [v_T_api_Tx x, v_T_api_Tx y] [] (.int .i64 r) []) (b : Nat)
    (h : sortO cmp 12 ([] : List (T_api_Tx)) = some r) : FnTri Try.prog 58 [.fn 72 [] [.ptr b 0 0], .fn g [] []] [(b, .var [.nilmap])] (.ds 3 r.length (rowF c_T_api_Tx default r)) [] := by
  obtain ⟨cf, hT, hcf, hL1, hL2, rfl⟩ := sortO_some h
  have hcl : ∀ blk off size w, Go.Proofs.CmpLays Try.prog g #[] so58_kc 3 cf blk off size w := cmp_of_tri (ek := v_T_api_Tx) (fun x y => hcmp x y _ (hcf x y)) so58k72_rel 3
  have eg := enters_tri (hcmp default default _ (hcf default default)).1
  refine ⟨⟨_, Try.func58, by kernel_rfl, by kernel_rfl⟩, fun μ w vals hr hp hf => ?_⟩
  obtain ⟨v0, r0, rfl, ⟨a0, b0, rfl, ha, hb⟩, v1, r1, rfl, ⟨a1, b1, rfl, ha1, hb1⟩, rfl⟩ := hr
  obtain rfl := rel_nocap ha
  obtain rfl := rel_nocap ha1
  obtain rfl := rel_nocap hb1
  obtain ⟨p, hpb, rfl⟩ := rel_cap hb
  obtain ⟨p', hpb', hok⟩ := hp.obj b _ List.mem_cons_self
  obtain rfl := Option.some.inj (hpb.symm.trans hpb')
  obtain ⟨vm, hvm, hcell, hlt⟩ := var_cell hok
  simp only [Rel] at hvm
  subst hvm
  have hseq := so58k72_keysn 8 p.rb _ w hcell hlt
  refine (so58_sortedF 72 g _ (enters_of Try.func72 (by kernel_rfl) rfl) eg cf hT hcl [] hL1 hL2 w hseq).mono ?_
  rintro e w' ⟨v, rfl, hb', hd', hs'⟩
  obtain ⟨μ', h1, h2⟩ := sorted_fin so58_enc so58_len so58_one hp hb' hd' hs'
  exact ⟨v, μ', rfl, h1, h2⟩

/-- (*parrel/ids.Set).List -/

def ids_Set_List_v (r : (List (T_api_Tx))) : LV := .ds 3 (r).length (rowF c_T_api_Tx default r)

def ids_Set_List_up (m : List (T_api_Tx × Bool)) (r : (List (T_api_Tx))) : Upd := [(0, some (.var [.map 1])), (1, some (.map true [.int .u8, .int .u32, .int .u32] (encM v_T_api_Tx LV.bool m)))]

def ids_Set_List_objs (m : List (T_api_Tx × Bool)) : List LO := [.var [.map 1], .map true [.int .u8, .int .u32, .int .u32] (encM v_T_api_Tx LV.bool m)]

def ids_Set_List (m : List (T_api_Tx × Bool)) : Option ((List (T_api_Tx))) :=
  (maps_Keys_map_api_Tx_bool_api_Tx_bool m).bind fun y2 =>
  (sortO ids_Txs 12 (m.map (·.1))).bind fun y3 =>
  some y3

theorem ids_Set_List_ok (m : List (T_api_Tx × Bool)) (r : (List (T_api_Tx))) (h : ids_Set_List m = some r) : ∀ σ, Inj 2 σ → FnTri Try.prog 38 (renL σ [.ptr 0 0 0]) (preOf σ 0 (ids_Set_List_objs m)) ((ids_Set_List_v r).ren σ) (upOf σ (ids_Set_List_up m r)) := by
  refine fn_of Try.func38 (by kernel_rfl) (by kernel_rfl) (by kernel_rfl) ⟨rfl, trivial, trivial⟩ (by kernel_rfl) ⟨rfl, trivial, trivial⟩ (by kernel_rfl) ?_
  intro w0 W μ0 hμ
  unfold ids_Set_List at h
  obtain ⟨y2, e1, h⟩ := bind_some h
  obtain ⟨y3, e4, h⟩ := bind_some h
  obtain rfl := Option.some.inj h
  exact run_ret mixed (L := []) (n := 21) (s := [.reg [(0, { v := some (.ds 3 (([] : List (T_api_Tx))).length (rowF c_T_api_Tx default ([] : List (T_api_Tx)))) })], .reg [], .reg [(4, { call := some ((maps_Keys_map_api_Tx_bool_api_Tx_bool_v y2).ren (sel [1, 2]), preOf (sel [1, 2]) 0 (maps_Keys_map_api_Tx_bool_api_Tx_bool_objs m), upOf (sel [1, 2]) (maps_Keys_map_api_Tx_bool_api_Tx_bool_up m y2)) }), (5, { call := some (.ds 3 (y3).length (rowF c_T_api_Tx default y3), [(2, .var [.map 1]), (1, .map true [.int .u8, .int .u32, .int .u32] (encM v_T_api_Tx LV.bool m))], []) })]])
    (a_ (a_ (a_ (a_ tr (a_ (le_nil_ds 3 (rowF c_T_api_Tx default [])) tr)) tr) (a_ (a_ (a_ tr tr) (a_ (a_ tr tr) tr)) (a_ (a_ (a_ tr tr) (a_ (a_ tr tr) (a_ (a_ tr tr) (a_ (a_ (a_ tr (lt_ 0 1 rfl)) tr) (a_ (a_ (a_ (maps_Keys_map_api_Tx_bool_api_Tx_bool_ok m y2 e1 (sel [1, 2]) (sel_inj rfl rfl)) (a_ (LO.Le.refl (.map true [.int .u8, .int .u32, .int .u32] (encM v_T_api_Tx LV.bool m))) tr)) tr) (a_ (a_ (a_ (so58k72_tri 17 ids_Txs y3 (fun x y r h => ids_Txs_tri x y r h) 2 1 (by decide) m e4) (a_ (LO.Le.refl (.var [.map 1])) (a_ (LO.Le.refl (.map true [.int .u8, .int .u32, .int .u32] (encM v_T_api_Tx LV.bool m))) tr))) tr) (a_ (a_ tr tr) tr))))))) tr))) tr) (by kernel_rfl) rfl

/-- parrel/parrelref05.Same -/

def parrelref05_Same_v (r : (Bool)) : LV := .bool r

def parrelref05_Same_T0 (a : List (T_api_Tx)) (b : List (T_api_Tx)) (i : Int) : List LV := [.ds 3 (a).length (rowF c_T_api_Tx default a), .ds 3 (b).length (rowF c_T_api_Tx default b), .any, .any, .any, .int .i64 i, .any, .any, .any, .any, .any, .any, .any, .any, .any, .any, .any, .any, .any, .any, .any, .any, .any, .any, .any, .any]

def parrelref05_Same_H0 (a : List (T_api_Tx)) (b : List (T_api_Tx)) (i : Int) : Heap := []

def parrelref05_Same_l0 (a : List (T_api_Tx)) (b : List (T_api_Tx))  : Nat → (Int) → Option ((Bool))
  | 0, _ => none
  | fuel + 1, i =>
    if ((decide (i < ((a).length : Int))) : Bool) then
      if 0 ≤ i ∧ i < (((a).length : Nat) : Int) then
      if 0 ≤ i ∧ i < (((b).length : Nat) : Int) then
      if ((!decide ((a.getD i.toNat default) = (b.getD i.toNat default))) : Bool) then
        some false
      else
        parrelref05_Same_l0 a b  fuel (IntKind.wrap .i64 (i + 1))
      else none
      else none
    else
      some true

def parrelref05_Same (a : List (T_api_Tx)) (b : List (T_api_Tx)) : Option ((Bool)) :=
  if ((((a).length : Int) != ((b).length : Int)) : Bool) then
    some false
  else
    parrelref05_Same_l0 a b  big 0

theorem parrelref05_Same_l0_ok {w0 : World} {W : Nat → Prop} {μ0 : Emb} (hμ : ∀ c p, μ0 c = some p → c < 0) (a : List (T_api_Tx)) (b : List (T_api_Tx))  : ∀ (fuel : Nat) (i : Int) (r : (Bool)), parrelref05_Same_l0 a b  fuel i = some r → kont Try.prog w0 W μ0 (FnPost Try.prog Try.f37 0 0 (parrelref05_Same_v r) []) (kAt (bodyOf Try.f37) 0) none (parrelref05_Same_T0 a b i) (parrelref05_Same_H0 a b i) := by
  intro fuel
  induction fuel with
  | zero => intro i r h; rw [parrelref05_Same_l0] at h; cases h
  | succ fuel ih =>
    intro i r h
    rw [parrelref05_Same_l0] at h
    rcases itb_some h with ⟨cL0_1, h⟩ | ⟨cL0_1, h⟩
    · skip
      obtain ⟨gL0_2, h⟩ := guard_some h
      obtain ⟨gL0_3, h⟩ := guard_some h
      rcases itb_some h with ⟨cL0_4, h⟩ | ⟨cL0_4, h⟩
      · skip
        obtain rfl := Option.some.inj h
        exact run_ret mixed (L := []) (n := 25) (s := [.go, .reg [(3, { v := some (.bool true) })], .reg [(8, { v := some (.bool true) })], .reg []])
          (a_ (a_ (a_ (a_ tr tr) (a_ (a_ tr tr) (a_ (a_ tr tr) (a_ (a_ tr (a_ (leB cL0_1) tr)) tr)))) (a_ (a_ (a_ tr tr) (a_ (a_ tr tr) (a_ (a_ (a_ (Eq.refl 3) gL0_2) tr) (a_ (a_ (le_ 3 3 rfl) tr) (a_ (a_ tr tr) (a_ (a_ tr tr) (a_ (a_ (a_ (Eq.refl 3) gL0_3) tr) (a_ (a_ (le_ 3 3 rfl) tr) (a_ (a_ tr (a_ (LV.Le.trans (leB (congrArg not (k_T_api_Tx (a.getD i.toNat default) (b.getD i.toNat default)))) (leB cL0_4)) tr)) tr))))))))) (a_ (a_ (a_ tr tr) tr) tr))) tr) (by kernel_rfl) rfl
      · skip
        exact run_to mixed hμ (L := []) (n := 26) (s := [.go, .reg [(3, { v := some (.bool true) })], .reg [(8, { v := some (.bool false) })], .reg []])
          (a_ (a_ (a_ tr tr) (a_ (a_ tr tr) (a_ (a_ tr tr) (a_ (a_ tr (a_ (leB cL0_1) tr)) tr)))) (a_ (a_ (a_ tr tr) (a_ (a_ tr tr) (a_ (a_ (a_ (Eq.refl 3) gL0_2) tr) (a_ (a_ (le_ 3 3 rfl) tr) (a_ (a_ tr tr) (a_ (a_ tr tr) (a_ (a_ (a_ (Eq.refl 3) gL0_3) tr) (a_ (a_ (le_ 3 3 rfl) tr) (a_ (a_ tr (a_ (LV.Le.trans (leB (congrArg not (k_T_api_Tx (a.getD i.toNat default) (b.getD i.toNat default)))) (leB cL0_4)) tr)) tr))))))))) (a_ (a_ (a_ tr tr) (a_ (a_ tr tr) (a_ (a_ tr tr) tr))) tr))) (ih _ r h) (by kernel_rfl) trivial
    · skip
      obtain rfl := Option.some.inj h
      exact run_ret mixed (L := []) (n := 19) (s := [.go, .reg [(3, { v := some (.bool false) })], .reg []])
        (a_ (a_ (a_ (a_ tr tr) (a_ (a_ tr tr) (a_ (a_ tr tr) (a_ (a_ tr (a_ (leB cL0_1) tr)) tr)))) (a_ (a_ (a_ tr tr) tr) tr)) tr) (by kernel_rfl) rfl

theorem parrelref05_Same_ok (a : List (T_api_Tx)) (b : List (T_api_Tx)) (r : (Bool)) (h : parrelref05_Same a b = some r) : ∀ σ, Inj 0 σ → FnTri Try.prog 37 (renL σ [.ds 3 (a).length (rowF c_T_api_Tx default a), .ds 3 (b).length (rowF c_T_api_Tx default b)]) (preOf σ 0 []) ((parrelref05_Same_v r).ren σ) (upOf σ []) := by
  refine fn_of Try.func37 (by kernel_rfl) (by kernel_rfl) (by kernel_rfl) trivial (by kernel_rfl) trivial (by kernel_rfl) ?_
  intro w0 W μ0 hμ
  unfold parrelref05_Same at h
  rcases itb_some h with ⟨c1, h⟩ | ⟨c1, h⟩
  · skip
    obtain rfl := Option.some.inj h
    exact run_ret mixed (L := []) (n := 20) (s := [.reg [], .reg [(4, { v := some (.bool true) })], .reg []])
      (a_ (a_ (a_ (a_ tr tr) tr) (a_ (a_ (a_ tr tr) (a_ (a_ tr tr) (a_ (a_ tr tr) (a_ (a_ tr tr) (a_ (a_ tr (a_ (leB c1) tr)) tr))))) (a_ (a_ (a_ tr tr) tr) tr))) tr) (by kernel_rfl) rfl
  · skip
    exact run_to mixed hμ (L := []) (n := 24) (s := [.reg [], .reg [(4, { v := some (.bool false) })], .reg []])
      (a_ (a_ (a_ tr tr) tr) (a_ (a_ (a_ tr tr) (a_ (a_ tr tr) (a_ (a_ tr tr) (a_ (a_ tr tr) (a_ (a_ tr (a_ (leB c1) tr)) tr))))) (a_ (a_ (a_ tr tr) tr) tr))) (parrelref05_Same_l0_ok hμ a b  big _ r h) (by kernel_rfl) trivial

theorem parrelref05_Same_tri (a : List (T_api_Tx)) (b : List (T_api_Tx)) (r : (Bool)) (h : parrelref05_Same a b = some r) : FnTri Try.prog 37 [.ds 3 (a).length (rowF c_T_api_Tx default a), .ds 3 (b).length (rowF c_T_api_Tx default b)] [] (parrelref05_Same_v r) [] := FnTri.none (parrelref05_Same_ok a b r h) rfl rfl

/-- (*parrel/ids.Set).Drop -/

def ids_Set_Drop_v (r : (Bool) × (List (T_api_Tx × Bool))) : LV := .bool r.1

def ids_Set_Drop_up (m : List (T_api_Tx × Bool)) (t : T_api_Tx) (r : (Bool) × (List (T_api_Tx × Bool))) : Upd := [(0, some (.var [.map 1])), (1, some (.map true [.int .u8, .int .u32, .int .u32] (encM v_T_api_Tx LV.bool r.2)))]

def ids_Set_Drop_objs (m : List (T_api_Tx × Bool)) (t : T_api_Tx) : List LO := [.var [.map 1], .map true [.int .u8, .int .u32, .int .u32] (encM v_T_api_Tx LV.bool m)]

def ids_Set_Drop (m : List (T_api_Tx × Bool)) (t : T_api_Tx) : Option ((Bool) × (List (T_api_Tx × Bool))) :=
  (ids_Set_Has m t).bind fun y2 =>
  if ((!y2) : Bool) then
    some (false, m)
  else
    some (true, (mdel m t))

theorem ids_Set_Drop_ok (m : List (T_api_Tx × Bool)) (t : T_api_Tx) (r : (Bool) × (List (T_api_Tx × Bool))) (h : ids_Set_Drop m t = some r) : ∀ σ, Inj 2 σ → FnTri Try.prog 33 (renL σ [.ptr 0 0 0, v_T_api_Tx t]) (preOf σ 0 (ids_Set_Drop_objs m t)) ((ids_Set_Drop_v r).ren σ) (upOf σ (ids_Set_Drop_up m t r)) := by
  refine fn_of Try.func33 (by kernel_rfl) (by kernel_rfl) (by kernel_rfl) ⟨rfl, trivial, trivial⟩ (by kernel_rfl) ⟨rfl, trivial, trivial⟩ (by kernel_rfl) ?_
  intro w0 W μ0 hμ
  unfold ids_Set_Drop at h
  obtain ⟨y2, e1, h⟩ := bind_some h
  rcases itb_some h with ⟨c3, h⟩ | ⟨c3, h⟩
  · skip
    obtain rfl := Option.some.inj h
    exact run_ret mixed (L := []) (n := 20) (s := [.reg [], .reg [(2, { call := some ((ids_Set_Has_v y2).ren (sel [0, 1]), preOf (sel [0, 1]) 0 (ids_Set_Has_objs m t), upOf (sel [0, 1]) (ids_Set_Has_up m t y2)) }), (3, { v := some (.bool true) })], .reg []])
      (a_ (a_ (a_ (a_ tr tr) (a_ (a_ tr tr) tr)) (a_ (a_ (a_ tr tr) (a_ (a_ (a_ tr (le_ 3 3 rfl)) tr) (a_ (a_ (a_ (ids_Set_Has_ok m t y2 e1 (sel [0, 1]) (sel_inj rfl rfl)) (a_ (LO.Le.refl (.var [.map 1])) (a_ (LO.Le.refl (.map true [.int .u8, .int .u32, .int .u32] (encM v_T_api_Tx LV.bool m))) tr))) tr) (a_ (a_ tr (a_ (leB c3) tr)) tr)))) (a_ (a_ (a_ tr tr) tr) tr))) tr) (by kernel_rfl) rfl
  · skip
    obtain rfl := Option.some.inj h
    exact run_ret mixed (L := []) (n := 24) (s := [.reg [], .reg [(2, { call := some ((ids_Set_Has_v y2).ren (sel [0, 1]), preOf (sel [0, 1]) 0 (ids_Set_Has_objs m t), upOf (sel [0, 1]) (ids_Set_Has_up m t y2)) }), (3, { v := some (.bool false) })], .reg [(5, { os := [(1, .map true [.int .u8, .int .u32, .int .u32] (encM v_T_api_Tx LV.bool (mdel m t)))] })], .reg []])
      (a_ (a_ (a_ (a_ tr tr) (a_ (a_ tr tr) tr)) (a_ (a_ (a_ tr tr) (a_ (a_ (a_ tr (le_ 3 3 rfl)) tr) (a_ (a_ (a_ (ids_Set_Has_ok m t y2 e1 (sel [0, 1]) (sel_inj rfl rfl)) (a_ (LO.Le.refl (.var [.map 1])) (a_ (LO.Le.refl (.map true [.int .u8, .int .u32, .int .u32] (encM v_T_api_Tx LV.bool m))) tr))) tr) (a_ (a_ tr (a_ (leB c3) tr)) tr)))) (a_ (a_ (a_ tr tr) (a_ (a_ tr tr) (a_ (a_ tr tr) (a_ (a_ (a_ tr (lt_ 0 1 rfl)) tr) (a_ (a_ (a_ tr (le_ 3 3 rfl)) tr) (a_ (a_ (Eq.refl true) (a_ (sub_del v_T_api_Tx LV.bool k_T_api_Tx true [.int .u8, .int .u32, .int .u32] m t) tr)) tr)))))) (a_ (a_ (a_ tr tr) tr) tr)))) tr) (by kernel_rfl) rfl

/-- (*parrel/parrelref05.Set).Drop -/

def parrelref05_Set_Drop_v (r : (Bool) × (List (T_api_Tx))) : LV := .bool r.1

def parrelref05_Set_Drop_up (s : T_parrelref05_Set) (t : T_api_Tx) (r : (Bool) × (List (T_api_Tx))) : Upd := [(0, some (.var (c_T_parrelref05_Set (T_parrelref05_Set.mk r.2))))]

def parrelref05_Set_Drop_objs (s : T_parrelref05_Set) (t : T_api_Tx) : List LO := [.var (c_T_parrelref05_Set s)]

def parrelref05_Set_Drop (s : T_parrelref05_Set) (t : T_api_Tx) : Option ((Bool) × (List (T_api_Tx))) :=
  (parrelref05_Set_place s t).bind fun y2 =>
  if (y2.2 : Bool) then
    if 0 ≤ (0 : Int) ∧ 0 ≤ y2.1 ∧ y2.1 ≤ (((s.f_L).length : Nat) : Int) then
    if (0 + ((s.f_L.take y2.1.toNat)).length) * 12 ≤ 140737488351232 then
    if 0 ≤ (IntKind.wrap .i64 (y2.1 + 1)) ∧ (IntKind.wrap .i64 (y2.1 + 1)) ≤ (((s.f_L).length : Nat) : Int) ∧ (((s.f_L).length : Nat) : Int) ≤ (((s.f_L).length : Nat) : Int) then
    if (((s.f_L.take y2.1.toNat)).length + ((s.f_L.drop ((IntKind.wrap .i64 (y2.1 + 1))).toNat)).length) * 12 ≤ 140737488351232 then
    some (y2.2, ((s.f_L.take y2.1.toNat) ++ (s.f_L.drop ((IntKind.wrap .i64 (y2.1 + 1))).toNat)))
    else none
    else none
    else none
    else none
  else
    some (y2.2, s.f_L)

theorem parrelref05_Set_Drop_ok (s : T_parrelref05_Set) (t : T_api_Tx) (r : (Bool) × (List (T_api_Tx))) (h : parrelref05_Set_Drop s t = some r) : ∀ σ, Inj 1 σ → FnTri Try.prog 34 (renL σ [.ptr 0 0 0, v_T_api_Tx t]) (preOf σ 0 (parrelref05_Set_Drop_objs s t)) ((parrelref05_Set_Drop_v r).ren σ) (upOf σ (parrelref05_Set_Drop_up s t r)) := by
  refine fn_of Try.func34 (by kernel_rfl) (by kernel_rfl) (by kernel_rfl) ⟨rfl, trivial⟩ (by kernel_rfl) ⟨rfl, trivial⟩ (by kernel_rfl) ?_
  intro w0 W μ0 hμ
  unfold parrelref05_Set_Drop at h
  obtain ⟨y2, e1, h⟩ := bind_some h
  rcases itb_some h with ⟨c3, h⟩ | ⟨c3, h⟩
  · skip
    obtain ⟨g4, h⟩ := guard_some h
    obtain ⟨g5, h⟩ := guard_some h
    obtain ⟨g6, h⟩ := guard_some h
    obtain ⟨g7, h⟩ := guard_some h
    obtain rfl := Option.some.inj h
    exact run_ret mixed (L := []) (n := 26) (s := [.reg [], .reg [(2, { call := some ((parrelref05_Set_place_v y2).ren (sel [0]), preOf (sel [0]) 0 (parrelref05_Set_place_objs s t), upOf (sel [0]) (parrelref05_Set_place_up s t y2)) })], .reg [(0, { v := some (.bool true) })], .reg [(6, { v := some (.ds 3 ((s.f_L.take y2.1.toNat)).length (rowF c_T_api_Tx default (s.f_L.take y2.1.toNat))) }), (7, { app := 3 }), (14, { v := some (.ds 3 ((s.f_L.drop ((IntKind.wrap .i64 (y2.1 + 1))).toNat)).length (rowF c_T_api_Tx default (s.f_L.drop ((IntKind.wrap .i64 (y2.1 + 1))).toNat))) }), (15, { app := 3, os := [(3, .gr 3 (((s.f_L.take y2.1.toNat) ++ (s.f_L.drop ((IntKind.wrap .i64 (y2.1 + 1))).toNat))).length (rowF c_T_api_Tx default ((s.f_L.take y2.1.toNat) ++ (s.f_L.drop ((IntKind.wrap .i64 (y2.1 + 1))).toNat))))], v := some (.gs 3 (((s.f_L.take y2.1.toNat) ++ (s.f_L.drop ((IntKind.wrap .i64 (y2.1 + 1))).toNat))).length) })], .reg [], .frz 3])
      (a_ (a_ (a_ (a_ tr tr) (a_ (a_ tr tr) tr)) (a_ (a_ (a_ tr tr) (a_ (a_ (a_ tr (le_ 3 3 rfl)) tr) (a_ (a_ (a_ (parrelref05_Set_place_ok s t y2 e1 (sel [0]) (sel_inj rfl rfl)) (a_ (LO.Le.refl (.var (c_T_parrelref05_Set s))) tr)) tr) (a_ (a_ tr tr) (a_ (a_ tr tr) (a_ (a_ tr tr) (a_ (a_ tr tr) (a_ (a_ tr tr) tr)))))))) (a_ (a_ (a_ tr (a_ (leB c3) tr)) tr) (a_ (a_ (a_ tr tr) (a_ (a_ tr tr) (a_ (a_ tr tr) (a_ (a_ tr tr) (a_ (a_ (a_ tr (lt_ 0 1 rfl)) tr) (a_ (a_ tr tr) (a_ (a_ (a_ (Eq.refl 3) g4) (a_ (le_take c_T_api_Tx default 3 s.f_L y2.1.toNat (toN_le g4.2.2)) tr)) (a_ (a_ (a_ (Eq.refl 3) (a_ (lt_ 0 3 rfl) (a_ (lt_ 0 12 rfl) (a_ g5 (a_ (Eq.refl 3) (Eq.refl true)))))) tr) (a_ (a_ tr tr) (a_ (a_ tr tr) (a_ (a_ tr tr) (a_ (a_ (a_ tr (lt_ 0 1 rfl)) tr) (a_ (a_ tr tr) (a_ (a_ tr tr) (a_ (a_ (a_ (Eq.refl 3) g6) (a_ (le_drop c_T_api_Tx default 3 s.f_L ((IntKind.wrap .i64 (y2.1 + 1))).toNat (toN_le g6.2.1)) tr)) (a_ (a_ (a_ (Eq.refl 3) (a_ (a_ (lt_ 0 3 rfl) (a_ (lt_ 0 12 rfl) (a_ g7 (a_ (Eq.refl 3) (Eq.refl true))))) (a_ (Eq.refl 3) (Nat.le_refl ((s.f_L.take y2.1.toNat)).length)))) (a_ (le_gs_app 3 (s.f_L.take y2.1.toNat) (s.f_L.drop ((IntKind.wrap .i64 (y2.1 + 1))).toNat)) (a_ (sub_app c_T_api_Tx default 3 (s.f_L.take y2.1.toNat) (s.f_L.drop ((IntKind.wrap .i64 (y2.1 + 1))).toNat)) tr))) (a_ (a_ tr tr) (a_ (a_ tr tr) (a_ (a_ (a_ (Eq.refl 1) (a_ (le_ 1 1 rfl) (Eq.refl 0))) tr) tr))))))))))))))))))) (a_ (a_ (a_ tr tr) (a_ (a_ tr tr) tr)) (a_ (a_ (fz_row (enc := c_T_api_Tx) (d := default) (fun _ => rfl) ((s.f_L.take y2.1.toNat) ++ (s.f_L.drop ((IntKind.wrap .i64 (y2.1 + 1))).toNat))) (a_ (Nat.le_refl (((s.f_L.take y2.1.toNat) ++ (s.f_L.drop ((IntKind.wrap .i64 (y2.1 + 1))).toNat))).length) (a_ (Nat.le_refl (((s.f_L.take y2.1.toNat) ++ (s.f_L.drop ((IntKind.wrap .i64 (y2.1 + 1))).toNat))).length) tr))) tr)))))) tr) (by kernel_rfl) rfl
  · skip
    obtain rfl := Option.some.inj h
    exact run_ret mixed (L := []) (n := 24) (s := [.reg [], .reg [(2, { call := some ((parrelref05_Set_place_v y2).ren (sel [0]), preOf (sel [0]) 0 (parrelref05_Set_place_objs s t), upOf (sel [0]) (parrelref05_Set_place_up s t y2)) })], .reg [(0, { v := some (.bool false) })], .reg []])
      (a_ (a_ (a_ (a_ tr tr) (a_ (a_ tr tr) tr)) (a_ (a_ (a_ tr tr) (a_ (a_ (a_ tr (le_ 3 3 rfl)) tr) (a_ (a_ (a_ (parrelref05_Set_place_ok s t y2 e1 (sel [0]) (sel_inj rfl rfl)) (a_ (LO.Le.refl (.var (c_T_parrelref05_Set s))) tr)) tr) (a_ (a_ tr tr) (a_ (a_ tr tr) (a_ (a_ tr tr) (a_ (a_ tr tr) (a_ (a_ tr tr) tr)))))))) (a_ (a_ (a_ tr (a_ (leB c3) tr)) tr) (a_ (a_ (a_ tr tr) (a_ (a_ tr tr) tr)) tr)))) tr) (by kernel_rfl) rfl

/-- (*parrel/parrelref05.Set).Has -/

def parrelref05_Set_Has_v (r : (Bool)) : LV := .bool r

def parrelref05_Set_Has_up (s : T_parrelref05_Set) (t : T_api_Tx) (r : (Bool)) : Upd := [(0, some (.var (c_T_parrelref05_Set s)))]

def parrelref05_Set_Has_objs (s : T_parrelref05_Set) (t : T_api_Tx) : List LO := [.var (c_T_parrelref05_Set s)]

def parrelref05_Set_Has (s : T_parrelref05_Set) (t : T_api_Tx) : Option ((Bool)) :=
  (parrelref05_Set_place s t).bind fun y2 =>
  some y2.2

theorem parrelref05_Set_Has_ok (s : T_parrelref05_Set) (t : T_api_Tx) (r : (Bool)) (h : parrelref05_Set_Has s t = some r) : ∀ σ, Inj 1 σ → FnTri Try.prog 36 (renL σ [.ptr 0 0 0, v_T_api_Tx t]) (preOf σ 0 (parrelref05_Set_Has_objs s t)) ((parrelref05_Set_Has_v r).ren σ) (upOf σ (parrelref05_Set_Has_up s t r)) := by
  refine fn_of Try.func36 (by kernel_rfl) (by kernel_rfl) (by kernel_rfl) ⟨rfl, trivial⟩ (by kernel_rfl) ⟨rfl, trivial⟩ (by kernel_rfl) ?_
  intro w0 W μ0 hμ
  unfold parrelref05_Set_Has at h
  obtain ⟨y2, e1, h⟩ := bind_some h
  obtain rfl := Option.some.inj h
  exact run_ret mixed (L := []) (n := 18) (s := [.reg [], .reg [(2, { call := some ((parrelref05_Set_place_v y2).ren (sel [0]), preOf (sel [0]) 0 (parrelref05_Set_place_objs s t), upOf (sel [0]) (parrelref05_Set_place_up s t y2)) })], .reg []])
    (a_ (a_ (a_ (a_ tr tr) (a_ (a_ tr tr) tr)) (a_ (a_ (a_ tr tr) (a_ (a_ (a_ tr (le_ 3 3 rfl)) tr) (a_ (a_ (a_ (parrelref05_Set_place_ok s t y2 e1 (sel [0]) (sel_inj rfl rfl)) (a_ (LO.Le.refl (.var (c_T_parrelref05_Set s))) tr)) tr) (a_ (a_ tr tr) (a_ (a_ tr tr) (a_ (a_ tr tr) (a_ (a_ tr tr) (a_ (a_ tr tr) tr)))))))) (a_ (a_ (a_ tr tr) (a_ (a_ tr tr) tr)) tr))) tr) (by kernel_rfl) rfl

/-- (*parrel/ids.Set).Add -/

def ids_Set_Add_2_v (r : Unit) : LV := .bool false

def ids_Set_Add_2 (t : T_api_Tx) : Option (Unit) :=
  some ()

theorem ids_Set_Add_2_ok (t : T_api_Tx) (r : Unit) (h : ids_Set_Add_2 t = some r) : ∀ σ, Inj 0 σ → FnTri Try.prog 31 (renL σ [.nilptr, v_T_api_Tx t]) (preOf σ 0 []) ((ids_Set_Add_2_v r).ren σ) (upOf σ []) := by
  refine fn_of Try.func31 (by kernel_rfl) (by kernel_rfl) (by kernel_rfl) trivial (by kernel_rfl) trivial (by kernel_rfl) ?_
  intro w0 W μ0 hμ
  unfold ids_Set_Add_2 at h
  obtain rfl := Option.some.inj h
  exact run_ret mixed (L := []) (n := 20) (s := [.reg [], .reg [], .reg []])
    (a_ (a_ (a_ (a_ tr tr) (a_ (a_ tr tr) tr)) (a_ (a_ (a_ tr tr) (a_ (a_ tr tr) (a_ (a_ tr tr) (a_ tr (a_ tr (a_ tr (a_ tr (a_ tr (a_ (a_ tr tr) (a_ (a_ tr tr) (a_ tr (a_ tr (a_ tr (a_ tr (a_ tr (a_ tr (a_ (a_ tr tr) tr))))))))))))))))) (a_ (a_ (a_ tr tr) tr) tr))) tr) (by kernel_rfl) rfl

theorem ids_Set_Add_2_tri (t : T_api_Tx) (r : Unit) (h : ids_Set_Add_2 t = some r) : FnTri Try.prog 31 [.nilptr, v_T_api_Tx t] [] (ids_Set_Add_2_v r) [] := FnTri.none (ids_Set_Add_2_ok t r h) rfl rfl

/-- (*parrel/ids.Set).Has -/

def ids_Set_Has_2_v (r : Unit) : LV := .bool false

def ids_Set_Has_2 (t : T_api_Tx) : Option (Unit) :=
  some ()

theorem ids_Set_Has_2_ok (t : T_api_Tx) (r : Unit) (h : ids_Set_Has_2 t = some r) : ∀ σ, Inj 0 σ → FnTri Try.prog 35 (renL σ [.nilptr, v_T_api_Tx t]) (preOf σ 0 []) ((ids_Set_Has_2_v r).ren σ) (upOf σ []) := by
  refine fn_of Try.func35 (by kernel_rfl) (by kernel_rfl) (by kernel_rfl) trivial (by kernel_rfl) trivial (by kernel_rfl) ?_
  intro w0 W μ0 hμ
  unfold ids_Set_Has_2 at h
  obtain rfl := Option.some.inj h
  exact run_ret mixed (L := []) (n := 15) (s := [.reg [], .reg []])
    (a_ (a_ (a_ (a_ tr tr) (a_ (a_ tr tr) tr)) (a_ (a_ (a_ tr tr) (a_ (a_ tr tr) (a_ (a_ tr tr) (a_ tr (a_ tr (a_ tr (a_ tr (a_ tr (a_ tr (a_ (a_ tr tr) (a_ (a_ tr tr) tr))))))))))) tr)) tr) (by kernel_rfl) rfl

theorem ids_Set_Has_2_tri (t : T_api_Tx) (r : Unit) (h : ids_Set_Has_2 t = some r) : FnTri Try.prog 35 [.nilptr, v_T_api_Tx t] [] (ids_Set_Has_2_v r) [] := FnTri.none (ids_Set_Has_2_ok t r h) rfl rfl

/-- (*parrel/ids.Set).Drop -/

def ids_Set_Drop_2_v (r : Unit) : LV := .bool false

def ids_Set_Drop_2 (t : T_api_Tx) : Option (Unit) :=
  (ids_Set_Has_2 t).bind fun y2 =>
  some ()

theorem ids_Set_Drop_2_ok (t : T_api_Tx) (r : Unit) (h : ids_Set_Drop_2 t = some r) : ∀ σ, Inj 0 σ → FnTri Try.prog 33 (renL σ [.nilptr, v_T_api_Tx t]) (preOf σ 0 []) ((ids_Set_Drop_2_v r).ren σ) (upOf σ []) := by
  refine fn_of Try.func33 (by kernel_rfl) (by kernel_rfl) (by kernel_rfl) trivial (by kernel_rfl) trivial (by kernel_rfl) ?_
  intro w0 W μ0 hμ
  unfold ids_Set_Drop_2 at h
  obtain ⟨y2, e1, h⟩ := bind_some h
  obtain rfl := Option.some.inj h
  exact run_ret mixed (L := []) (n := 20) (s := [.reg [], .reg [(2, { call := some (ids_Set_Has_2_v y2, [], []) })], .reg []])
    (a_ (a_ (a_ (a_ tr tr) (a_ (a_ tr tr) tr)) (a_ (a_ (a_ tr tr) (a_ (a_ (a_ tr (le_ 3 3 rfl)) tr) (a_ (a_ (a_ (ids_Set_Has_2_tri t y2 e1) tr) tr) (a_ (a_ tr tr) tr)))) (a_ (a_ (a_ tr tr) tr) tr))) tr) (by kernel_rfl) rfl

theorem ids_Set_Drop_2_tri (t : T_api_Tx) (r : Unit) (h : ids_Set_Drop_2 t = some r) : FnTri Try.prog 33 [.nilptr, v_T_api_Tx t] [] (ids_Set_Drop_2_v r) [] := FnTri.none (ids_Set_Drop_2_ok t r h) rfl rfl

/-- (*parrel/ids.Set).List -/

def ids_Set_List_2_v (r : (List (T_api_Tx))) : LV := .ds 3 (r).length (rowF c_T_api_Tx default r)

def ids_Set_List_2  : Option ((List (T_api_Tx))) :=
  some ([] : List (T_api_Tx))

theorem ids_Set_List_2_ok  (r : (List (T_api_Tx))) (h : ids_Set_List_2  = some r) : ∀ σ, Inj 0 σ → FnTri Try.prog 38 (renL σ [.nilptr]) (preOf σ 0 []) ((ids_Set_List_2_v r).ren σ) (upOf σ []) := by
  refine fn_of Try.func38 (by kernel_rfl) (by kernel_rfl) (by kernel_rfl) trivial (by kernel_rfl) trivial (by kernel_rfl) ?_
  intro w0 W μ0 hμ
  unfold ids_Set_List_2 at h
  obtain rfl := Option.some.inj h
  exact run_ret mixed (L := []) (n := 20) (s := [.reg [(0, { v := some (.ds 3 (([] : List (T_api_Tx))).length (rowF c_T_api_Tx default ([] : List (T_api_Tx)))) })], .reg [], .reg [(0, { v := some (.ds 3 (([] : List (T_api_Tx))).length (rowF c_T_api_Tx default ([] : List (T_api_Tx)))) })]])
    (a_ (a_ (a_ (a_ tr (a_ (le_nil_ds 3 (rowF c_T_api_Tx default [])) tr)) tr) (a_ (a_ (a_ tr tr) (a_ (a_ tr tr) tr)) (a_ (a_ (a_ tr (a_ (le_nil_ds 3 (rowF c_T_api_Tx default [])) tr)) tr) tr))) tr) (by kernel_rfl) rfl

theorem ids_Set_List_2_tri  (r : (List (T_api_Tx))) (h : ids_Set_List_2  = some r) : FnTri Try.prog 38 [.nilptr] [] (ids_Set_List_2_v r) [] := FnTri.none (ids_Set_List_2_ok  r h) rfl rfl

/-- (*parrel/ids.Set).Add -/

def ids_Set_Add_3_v (r : Unit) : LV := .bool false

def ids_Set_Add_3_up (t : T_api_Tx) (r : Unit) : Upd := [(0, some (.var [.nilmap]))]

def ids_Set_Add_3_objs (t : T_api_Tx) : List LO := [.var [.nilmap]]

def ids_Set_Add_3 (t : T_api_Tx) : Option (Unit) :=
  some ()

theorem ids_Set_Add_3_ok (t : T_api_Tx) (r : Unit) (h : ids_Set_Add_3 t = some r) : ∀ σ, Inj 1 σ → FnTri Try.prog 31 (renL σ [.ptr 0 0 0, v_T_api_Tx t]) (preOf σ 0 (ids_Set_Add_3_objs t)) ((ids_Set_Add_3_v r).ren σ) (upOf σ (ids_Set_Add_3_up t r)) := by
  refine fn_of Try.func31 (by kernel_rfl) (by kernel_rfl) (by kernel_rfl) ⟨rfl, trivial⟩ (by kernel_rfl) ⟨rfl, trivial⟩ (by kernel_rfl) ?_
  intro w0 W μ0 hμ
  unfold ids_Set_Add_3 at h
  obtain rfl := Option.some.inj h
  exact run_ret mixed (L := []) (n := 20) (s := [.reg [], .reg [], .reg []])
    (a_ (a_ (a_ (a_ tr tr) (a_ (a_ tr tr) tr)) (a_ (a_ (a_ tr tr) (a_ (a_ tr tr) (a_ (a_ tr tr) (a_ (a_ tr tr) (a_ (a_ tr tr) (a_ (a_ tr tr) (a_ (a_ (a_ tr (lt_ 0 1 rfl)) tr) (a_ (a_ tr tr) (a_ (a_ tr tr) (a_ (a_ tr tr) (a_ tr (a_ tr (a_ tr (a_ tr (a_ tr (a_ tr (a_ (a_ tr tr) tr))))))))))))))))) (a_ (a_ (a_ tr tr) tr) tr))) tr) (by kernel_rfl) rfl

/-- (*parrel/ids.Set).Has -/

def ids_Set_Has_3_v (r : Unit) : LV := .bool false

def ids_Set_Has_3_up (t : T_api_Tx) (r : Unit) : Upd := [(0, some (.var [.nilmap]))]

def ids_Set_Has_3_objs (t : T_api_Tx) : List LO := [.var [.nilmap]]

def ids_Set_Has_3 (t : T_api_Tx) : Option (Unit) :=
  some ()

theorem ids_Set_Has_3_ok (t : T_api_Tx) (r : Unit) (h : ids_Set_Has_3 t = some r) : ∀ σ, Inj 1 σ → FnTri Try.prog 35 (renL σ [.ptr 0 0 0, v_T_api_Tx t]) (preOf σ 0 (ids_Set_Has_3_objs t)) ((ids_Set_Has_3_v r).ren σ) (upOf σ (ids_Set_Has_3_up t r)) := by
  refine fn_of Try.func35 (by kernel_rfl) (by kernel_rfl) (by kernel_rfl) ⟨rfl, trivial⟩ (by kernel_rfl) ⟨rfl, trivial⟩ (by kernel_rfl) ?_
  intro w0 W μ0 hμ
  unfold ids_Set_Has_3 at h
  obtain rfl := Option.some.inj h
  exact run_ret mixed (L := []) (n := 15) (s := [.reg [], .reg []])
    (a_ (a_ (a_ (a_ tr tr) (a_ (a_ tr tr) tr)) (a_ (a_ (a_ tr tr) (a_ (a_ tr tr) (a_ (a_ tr tr) (a_ (a_ tr tr) (a_ (a_ tr tr) (a_ (a_ tr tr) (a_ (a_ (a_ tr (lt_ 0 1 rfl)) tr) (a_ (a_ (a_ tr (le_ 3 3 rfl)) tr) (a_ (a_ (a_ (Eq.refl true) (Eq.refl (none : Option LV))) tr) (a_ (a_ tr tr) (a_ (a_ tr tr) tr))))))))))) tr)) tr) (by kernel_rfl) rfl

/-- (*parrel/ids.Set).Drop -/

def ids_Set_Drop_3_v (r : Unit) : LV := .bool false

def ids_Set_Drop_3_up (t : T_api_Tx) (r : Unit) : Upd := [(0, some (.var [.nilmap]))]

def ids_Set_Drop_3_objs (t : T_api_Tx) : List LO := [.var [.nilmap]]

def ids_Set_Drop_3 (t : T_api_Tx) : Option (Unit) :=
  (ids_Set_Has_3 t).bind fun y2 =>
  some ()

theorem ids_Set_Drop_3_ok (t : T_api_Tx) (r : Unit) (h : ids_Set_Drop_3 t = some r) : ∀ σ, Inj 1 σ → FnTri Try.prog 33 (renL σ [.ptr 0 0 0, v_T_api_Tx t]) (preOf σ 0 (ids_Set_Drop_3_objs t)) ((ids_Set_Drop_3_v r).ren σ) (upOf σ (ids_Set_Drop_3_up t r)) := by
  refine fn_of Try.func33 (by kernel_rfl) (by kernel_rfl) (by kernel_rfl) ⟨rfl, trivial⟩ (by kernel_rfl) ⟨rfl, trivial⟩ (by kernel_rfl) ?_
  intro w0 W μ0 hμ
  unfold ids_Set_Drop_3 at h
  obtain ⟨y2, e1, h⟩ := bind_some h
  obtain rfl := Option.some.inj h
  exact run_ret mixed (L := []) (n := 20) (s := [.reg [], .reg [(2, { call := some ((ids_Set_Has_3_v y2).ren (sel [0]), preOf (sel [0]) 0 (ids_Set_Has_3_objs t), upOf (sel [0]) (ids_Set_Has_3_up t y2)) })], .reg []])
    (a_ (a_ (a_ (a_ tr tr) (a_ (a_ tr tr) tr)) (a_ (a_ (a_ tr tr) (a_ (a_ (a_ tr (le_ 3 3 rfl)) tr) (a_ (a_ (a_ (ids_Set_Has_3_ok t y2 e1 (sel [0]) (sel_inj rfl rfl)) (a_ (LO.Le.refl (.var [.nilmap])) tr)) tr) (a_ (a_ tr tr) tr)))) (a_ (a_ (a_ tr tr) tr) tr))) tr) (by kernel_rfl) rfl

/-- maps.Keys[map[parrel/api.Tx]bool,parrel/api.Tx,bool] -/

def maps_Keys_map_api_Tx_bool_api_Tx_bool_2_v (r : Unit) : LV := .fn 72 [] [.ptr 0 0 0]

def maps_Keys_map_api_Tx_bool_api_Tx_bool_2_up  (r : Unit) : Upd := [(0, some (.var [.nilmap]))]

def maps_Keys_map_api_Tx_bool_api_Tx_bool_2  : Option (Unit) :=
  some ()

theorem maps_Keys_map_api_Tx_bool_api_Tx_bool_2_ok  (r : Unit) (h : maps_Keys_map_api_Tx_bool_api_Tx_bool_2  = some r) : ∀ σ, Inj 1 σ → FnTri Try.prog 59 (renL σ [.nilmap]) (preOf σ 0 []) ((maps_Keys_map_api_Tx_bool_api_Tx_bool_2_v r).ren σ) (upOf σ (maps_Keys_map_api_Tx_bool_api_Tx_bool_2_up  r)) := by
  refine fn_of Try.func59 (by kernel_rfl) (by kernel_rfl) (by kernel_rfl) trivial (by kernel_rfl) ⟨rfl, trivial⟩ (by kernel_rfl) ?_
  intro w0 W μ0 hμ
  unfold maps_Keys_map_api_Tx_bool_api_Tx_bool_2 at h
  obtain rfl := Option.some.inj h
  exact run_ret mixed (L := [0]) (n := 15) (s := [.reg [], .reg []])
    (a_ (a_ (a_ (a_ tr tr) (a_ (a_ tr tr) tr)) (a_ (a_ (a_ tr tr) (a_ (a_ tr tr) tr)) tr)) tr) (by kernel_rfl) rfl

/-- (*parrel/ids.Set).List -/

def ids_Set_List_3_v (r : (List (T_api_Tx))) : LV := .ds 3 (r).length (rowF c_T_api_Tx default r)

def ids_Set_List_3_up  (r : (List (T_api_Tx))) : Upd := [(0, some (.var [.nilmap]))]

def ids_Set_List_3_objs  : List LO := [.var [.nilmap]]

def ids_Set_List_3  : Option ((List (T_api_Tx))) :=
  (maps_Keys_map_api_Tx_bool_api_Tx_bool_2).bind fun y2 =>
  (sortO ids_Txs 12 ([] : List (T_api_Tx))).bind fun y3 =>
  some y3

theorem ids_Set_List_3_ok  (r : (List (T_api_Tx))) (h : ids_Set_List_3  = some r) : ∀ σ, Inj 1 σ → FnTri Try.prog 38 (renL σ [.ptr 0 0 0]) (preOf σ 0 (ids_Set_List_3_objs )) ((ids_Set_List_3_v r).ren σ) (upOf σ (ids_Set_List_3_up  r)) := by
  refine fn_of Try.func38 (by kernel_rfl) (by kernel_rfl) (by kernel_rfl) ⟨rfl, trivial⟩ (by kernel_rfl) ⟨rfl, trivial⟩ (by kernel_rfl) ?_
  intro w0 W μ0 hμ
  unfold ids_Set_List_3 at h
  obtain ⟨y2, e1, h⟩ := bind_some h
  obtain ⟨y3, e4, h⟩ := bind_some h
  obtain rfl := Option.some.inj h
  exact run_ret mixed (L := []) (n := 21) (s := [.reg [(0, { v := some (.ds 3 (([] : List (T_api_Tx))).length (rowF c_T_api_Tx default ([] : List (T_api_Tx)))) })], .reg [], .reg [(4, { call := some ((maps_Keys_map_api_Tx_bool_api_Tx_bool_2_v y2).ren (sel [1]), preOf (sel [1]) 0 [], upOf (sel [1]) (maps_Keys_map_api_Tx_bool_api_Tx_bool_2_up  y2)) }), (5, { call := some (.ds 3 (y3).length (rowF c_T_api_Tx default y3), [(1, .var [.nilmap])], []) })]])
    (a_ (a_ (a_ (a_ tr (a_ (le_nil_ds 3 (rowF c_T_api_Tx default [])) tr)) tr) (a_ (a_ (a_ tr tr) (a_ (a_ tr tr) tr)) (a_ (a_ (a_ tr tr) (a_ (a_ tr tr) (a_ (a_ tr tr) (a_ (a_ (a_ tr (lt_ 0 1 rfl)) tr) (a_ (a_ (a_ (maps_Keys_map_api_Tx_bool_api_Tx_bool_2_ok  y2 e1 (sel [1]) (sel_inj rfl rfl)) tr) tr) (a_ (a_ (a_ (so58k72_trin 17 ids_Txs y3 (fun x y r h => ids_Txs_tri x y r h) 1 e4) (a_ (LO.Le.refl (.var [.nilmap])) tr)) tr) (a_ (a_ tr tr) tr))))))) tr))) tr) (by kernel_rfl) rfl

/-- parrel/parrellaw05.IdsSets -/

def parrellaw05_IdsSets_v (r : (Bool)) : LV := .bool r

def parrellaw05_IdsSets_T0 (script : List (T_parrellaw05_Act)) (t23 : Int) (L : List (T_api_Tx)) (m : List (T_api_Tx × Bool)) : List LV := [.any, .any, .any, .ptr 0 0 0, .ptr 1 0 0, .any, .any, .any, .any, .any, .any, .any, .any, .any, .any, .any, .any, .any, .any, .any, .any, .ds 4 ((script.take ((if 200 < ((script).length : Int) then 200 else ((script).length : Int))).toNat)).length (rowF c_T_parrellaw05_Act default (script.take ((if 200 < ((script).length : Int) then 200 else ((script).length : Int))).toNat)), .int .i64 (((script.take ((if 200 < ((script).length : Int) then 200 else ((script).length : Int))).toNat)).length : Int), .int .i64 t23, .any, .any, .any, .any, .any, .any, .any, .any, .any, .any, .any, .any, .any, .any, .any, .any, .any, .any, .any, .any, .any, .any, .any, .any, .any, .any, .any, .any, .any, .any, .any, .any, .any, .any, .any, .any, .any, .any, .any, .any, .any, .any, .any, .any, .any, .any, .any, .any, .any, .any, .any, .any, .any, .any, .any, .any, .any, .any, .any, .any, .any, .any, .any, .any, .any, .any, .any, .any, .any, .any, .any, .any, .any]

def parrellaw05_IdsSets_H0 (script : List (T_parrellaw05_Act)) (t23 : Int) (L : List (T_api_Tx)) (m : List (T_api_Tx × Bool)) : Heap := [some (.var [.map 2]), some (.var (c_T_parrelref05_Set (T_parrelref05_Set.mk L))), some (.map true [.int .u8, .int .u32, .int .u32] (encM v_T_api_Tx LV.bool m))]

def parrellaw05_IdsSets_l0 (script : List (T_parrellaw05_Act))  : Nat → (Int) → (List (T_api_Tx)) → (List (T_api_Tx × Bool)) → Option ((Bool))
  | 0, _, _, _ => none
  | fuel + 1, t23, L, m =>
    if ((decide (t23 < (((script.take ((if 200 < ((script).length : Int) then 200 else ((script).length : Int))).toNat)).length : Int))) : Bool) then
      if 0 ≤ t23 ∧ t23 < ((((script.take ((if 200 < ((script).length : Int) then 200 else ((script).length : Int))).toNat)).length : Nat) : Int) then
      if (((Int.tmod ((script.take ((if 200 < ((script).length : Int) then 200 else ((script).length : Int))).toNat).getD t23.toNat default).f_Kind 3) == 0) : Bool) then
        (ids_Set_Add m ((script.take ((if 200 < ((script).length : Int) then 200 else ((script).length : Int))).toNat).getD t23.toNat default).f_Tx).bind fun yL0_5 =>
        (parrelref05_Set_Add (T_parrelref05_Set.mk L) ((script.take ((if 200 < ((script).length : Int) then 200 else ((script).length : Int))).toNat).getD t23.toNat default).f_Tx).bind fun yL0_7 =>
        if ((!(yL0_5.1 == yL0_7.1)) : Bool) then
          some false
        else
          (ids_Set_List yL0_5.2).bind fun yL0_10 =>
          (parrelref05_Same yL0_10 yL0_7.2).bind fun yL0_12 =>
          if ((!yL0_12) : Bool) then
            some false
          else
            parrellaw05_IdsSets_l0 script  fuel (IntKind.wrap .i64 (t23 + 1)) yL0_7.2 yL0_5.2
      else
        if (((Int.tmod ((script.take ((if 200 < ((script).length : Int) then 200 else ((script).length : Int))).toNat).getD t23.toNat default).f_Kind 3) == 1) : Bool) then
          (ids_Set_Drop m ((script.take ((if 200 < ((script).length : Int) then 200 else ((script).length : Int))).toNat).getD t23.toNat default).f_Tx).bind fun yL0_6 =>
          (parrelref05_Set_Drop (T_parrelref05_Set.mk L) ((script.take ((if 200 < ((script).length : Int) then 200 else ((script).length : Int))).toNat).getD t23.toNat default).f_Tx).bind fun yL0_8 =>
          if ((!(yL0_6.1 == yL0_8.1)) : Bool) then
            some false
          else
            (ids_Set_List yL0_6.2).bind fun yL0_11 =>
            (parrelref05_Same yL0_11 yL0_8.2).bind fun yL0_13 =>
            if ((!yL0_13) : Bool) then
              some false
            else
              parrellaw05_IdsSets_l0 script  fuel (IntKind.wrap .i64 (t23 + 1)) yL0_8.2 yL0_6.2
        else
          (ids_Set_Has m ((script.take ((if 200 < ((script).length : Int) then 200 else ((script).length : Int))).toNat).getD t23.toNat default).f_Tx).bind fun yL0_6 =>
          (parrelref05_Set_Has (T_parrelref05_Set.mk L) ((script.take ((if 200 < ((script).length : Int) then 200 else ((script).length : Int))).toNat).getD t23.toNat default).f_Tx).bind fun yL0_8 =>
          if ((!(yL0_6 == yL0_8)) : Bool) then
            some false
          else
            (ids_Set_List m).bind fun yL0_11 =>
            (parrelref05_Same yL0_11 (T_parrelref05_Set.mk L).f_L).bind fun yL0_13 =>
            if ((!yL0_13) : Bool) then
              some false
            else
              parrellaw05_IdsSets_l0 script  fuel (IntKind.wrap .i64 (t23 + 1)) (T_parrelref05_Set.mk L).f_L m
      else none
    else
      (ids_Set_Add_2 (T_api_Tx.mk 0 1 1)).bind fun yL0_3 =>
      (ids_Set_Has_2 (T_api_Tx.mk 0 0 0)).bind fun yL0_5 =>
      (ids_Set_Drop_2 (T_api_Tx.mk 0 0 0)).bind fun yL0_7 =>
      (ids_Set_List_2).bind fun yL0_9 =>
      if ((((yL0_9).length : Int) != 0) : Bool) then
        some false
      else
        (ids_Set_Add_3 (T_api_Tx.mk 0 1 1)).bind fun yL0_12 =>
        (ids_Set_Has_3 (T_api_Tx.mk 0 0 0)).bind fun yL0_14 =>
        (ids_Set_Drop_3 (T_api_Tx.mk 0 0 0)).bind fun yL0_16 =>
        (ids_Set_List_3).bind fun yL0_18 =>
        if ((((yL0_18).length : Int) != 0) : Bool) then
          some false
        else
          some true

def parrellaw05_IdsSets (script : List (T_parrellaw05_Act)) : Option ((Bool)) :=
  (ids_New).bind fun y2 =>
  (parrellaw05_alive).bind fun y4 =>
  if ((!y4) : Bool) then
    some false
  else
    if 0 ≤ (0 : Int) ∧ 0 ≤ (if 200 < ((script).length : Int) then 200 else ((script).length : Int)) ∧ (if 200 < ((script).length : Int) then 200 else ((script).length : Int)) ≤ (((script).length : Nat) : Int) then
    parrellaw05_IdsSets_l0 script  big 0 ([] : List (T_api_Tx)) y2
    else none

theorem parrellaw05_IdsSets_l0_ok {w0 : World} {W : Nat → Prop} {μ0 : Emb} (hμ : ∀ c p, μ0 c = some p → c < 0) (script : List (T_parrellaw05_Act))  : ∀ (fuel : Nat) (t23 : Int) (L : List (T_api_Tx)) (m : List (T_api_Tx × Bool)) (r : (Bool)), parrellaw05_IdsSets_l0 script  fuel t23 L m = some r → kont Try.prog w0 W μ0 (FnPost Try.prog Try.f7 0 0 (parrellaw05_IdsSets_v r) []) (kAt (bodyOf Try.f7) 0) none (parrellaw05_IdsSets_T0 script t23 L m) (parrellaw05_IdsSets_H0 script t23 L m) := by
  intro fuel
  induction fuel with
  | zero => intro t23 L m r h; rw [parrellaw05_IdsSets_l0] at h; cases h
  | succ fuel ih =>
    intro t23 L m r h
    rw [parrellaw05_IdsSets_l0] at h
    rcases itb_some h with ⟨cL0_1, h⟩ | ⟨cL0_1, h⟩
    · skip
      obtain ⟨gL0_2, h⟩ := guard_some h
      rcases itb_some h with ⟨cL0_3, h⟩ | ⟨cL0_3, h⟩
      · skip
        obtain ⟨yL0_5, eL0_4, h⟩ := bind_some h
        obtain ⟨yL0_7, eL0_6, h⟩ := bind_some h
        rcases itb_some h with ⟨cL0_8, h⟩ | ⟨cL0_8, h⟩
        · skip
          obtain rfl := Option.some.inj h
          exact run_ret mixed (L := []) (n := 43) (s := [.go, .reg [(0, { v := some (.bool true) })], .reg [], .reg [], .reg [], .reg [(1, { v := some (.bool true) })], .reg [(3, { call := some ((ids_Set_Add_v yL0_5).ren (sel [0, 2]), preOf (sel [0, 2]) 0 (ids_Set_Add_objs m ((script.take ((if 200 < ((script).length : Int) then 200 else ((script).length : Int))).toNat).getD t23.toNat default).f_Tx), upOf (sel [0, 2]) (ids_Set_Add_up m ((script.take ((if 200 < ((script).length : Int) then 200 else ((script).length : Int))).toNat).getD t23.toNat default).f_Tx yL0_5)) }), (6, { call := some ((parrelref05_Set_Add_v yL0_7).ren (sel [1]), preOf (sel [1]) 0 (parrelref05_Set_Add_objs (T_parrelref05_Set.mk L) ((script.take ((if 200 < ((script).length : Int) then 200 else ((script).length : Int))).toNat).getD t23.toNat default).f_Tx), upOf (sel [1]) (parrelref05_Set_Add_up (T_parrelref05_Set.mk L) ((script.take ((if 200 < ((script).length : Int) then 200 else ((script).length : Int))).toNat).getD t23.toNat default).f_Tx yL0_7)) })], .reg [(2, { v := some (.bool true) })], .reg []])
            (a_ (a_ (a_ (a_ tr (a_ (leB cL0_1) tr)) tr) (a_ (a_ (a_ (a_ (Eq.refl 4) gL0_2) tr) (a_ (a_ (le_ 4 4 rfl) tr) (a_ (a_ tr tr) (a_ (a_ (a_ (Eq.refl 4) (a_ (le_ 4 4 rfl) (Eq.refl 0))) tr) tr)))) (a_ (a_ (a_ tr tr) tr) (a_ (a_ (a_ tr tr) (a_ (a_ (a_ tr (lt_ 0 4 rfl)) tr) (a_ (a_ (ne0 3 rfl) tr) tr))) (a_ (a_ (a_ tr tr) (a_ (a_ tr (a_ (leB cL0_3) tr)) tr)) (a_ (a_ (a_ tr tr) (a_ (a_ tr tr) (a_ (a_ (a_ tr (le_ 4 4 rfl)) tr) (a_ (a_ (a_ (ids_Set_Add_ok m ((script.take ((if 200 < ((script).length : Int) then 200 else ((script).length : Int))).toNat).getD t23.toNat default).f_Tx yL0_5 eL0_4 (sel [0, 2]) (sel_inj rfl rfl)) (a_ (LO.Le.refl (.var [.map 2])) (a_ (LO.Le.refl (.map true [.int .u8, .int .u32, .int .u32] (encM v_T_api_Tx LV.bool m))) tr))) tr) (a_ (a_ tr tr) (a_ (a_ (a_ tr (le_ 4 4 rfl)) tr) (a_ (a_ (a_ (parrelref05_Set_Add_ok (T_parrelref05_Set.mk L) ((script.take ((if 200 < ((script).length : Int) then 200 else ((script).length : Int))).toNat).getD t23.toNat default).f_Tx yL0_7 eL0_6 (sel [1]) (sel_inj rfl rfl)) (a_ (LO.Le.refl (.var (c_T_parrelref05_Set (T_parrelref05_Set.mk L)))) tr)) tr) (a_ (a_ tr tr) (a_ (a_ tr tr) tr))))))))) (a_ (a_ (a_ tr tr) (a_ (a_ tr tr) (a_ (a_ tr (a_ (leB cL0_8) tr)) (a_ tr (a_ tr (a_ tr (a_ tr (a_ tr (a_ tr (a_ (a_ tr tr) tr)))))))))) (a_ (a_ (a_ tr tr) tr) tr)))))))) tr) (by kernel_rfl) rfl
        · skip
          obtain ⟨yL0_10, eL0_9, h⟩ := bind_some h
          obtain ⟨yL0_12, eL0_11, h⟩ := bind_some h
          rcases itb_some h with ⟨cL0_13, h⟩ | ⟨cL0_13, h⟩
          · skip
            obtain rfl := Option.some.inj h
            exact run_ret mixed (L := []) (n := 43) (s := [.go, .reg [(0, { v := some (.bool true) })], .reg [], .reg [], .reg [], .reg [(1, { v := some (.bool true) })], .reg [(3, { call := some ((ids_Set_Add_v yL0_5).ren (sel [0, 2]), preOf (sel [0, 2]) 0 (ids_Set_Add_objs m ((script.take ((if 200 < ((script).length : Int) then 200 else ((script).length : Int))).toNat).getD t23.toNat default).f_Tx), upOf (sel [0, 2]) (ids_Set_Add_up m ((script.take ((if 200 < ((script).length : Int) then 200 else ((script).length : Int))).toNat).getD t23.toNat default).f_Tx yL0_5)) }), (6, { call := some ((parrelref05_Set_Add_v yL0_7).ren (sel [1]), preOf (sel [1]) 0 (parrelref05_Set_Add_objs (T_parrelref05_Set.mk L) ((script.take ((if 200 < ((script).length : Int) then 200 else ((script).length : Int))).toNat).getD t23.toNat default).f_Tx), upOf (sel [1]) (parrelref05_Set_Add_up (T_parrelref05_Set.mk L) ((script.take ((if 200 < ((script).length : Int) then 200 else ((script).length : Int))).toNat).getD t23.toNat default).f_Tx yL0_7)) })], .reg [(2, { v := some (.bool false) }), (4, { call := some ((ids_Set_List_v yL0_10).ren (sel [0, 2]), preOf (sel [0, 2]) 0 (ids_Set_List_objs yL0_5.2), upOf (sel [0, 2]) (ids_Set_List_up yL0_5.2 yL0_10)) }), (7, { call := some (parrelref05_Same_v yL0_12, [], []) }), (9, { v := some (.bool true) })], .reg []])
              (a_ (a_ (a_ (a_ tr (a_ (leB cL0_1) tr)) tr) (a_ (a_ (a_ (a_ (Eq.refl 4) gL0_2) tr) (a_ (a_ (le_ 4 4 rfl) tr) (a_ (a_ tr tr) (a_ (a_ (a_ (Eq.refl 4) (a_ (le_ 4 4 rfl) (Eq.refl 0))) tr) tr)))) (a_ (a_ (a_ tr tr) tr) (a_ (a_ (a_ tr tr) (a_ (a_ (a_ tr (lt_ 0 4 rfl)) tr) (a_ (a_ (ne0 3 rfl) tr) tr))) (a_ (a_ (a_ tr tr) (a_ (a_ tr (a_ (leB cL0_3) tr)) tr)) (a_ (a_ (a_ tr tr) (a_ (a_ tr tr) (a_ (a_ (a_ tr (le_ 4 4 rfl)) tr) (a_ (a_ (a_ (ids_Set_Add_ok m ((script.take ((if 200 < ((script).length : Int) then 200 else ((script).length : Int))).toNat).getD t23.toNat default).f_Tx yL0_5 eL0_4 (sel [0, 2]) (sel_inj rfl rfl)) (a_ (LO.Le.refl (.var [.map 2])) (a_ (LO.Le.refl (.map true [.int .u8, .int .u32, .int .u32] (encM v_T_api_Tx LV.bool m))) tr))) tr) (a_ (a_ tr tr) (a_ (a_ (a_ tr (le_ 4 4 rfl)) tr) (a_ (a_ (a_ (parrelref05_Set_Add_ok (T_parrelref05_Set.mk L) ((script.take ((if 200 < ((script).length : Int) then 200 else ((script).length : Int))).toNat).getD t23.toNat default).f_Tx yL0_7 eL0_6 (sel [1]) (sel_inj rfl rfl)) (a_ (LO.Le.refl (.var (c_T_parrelref05_Set (T_parrelref05_Set.mk L)))) tr)) tr) (a_ (a_ tr tr) (a_ (a_ tr tr) tr))))))))) (a_ (a_ (a_ tr tr) (a_ (a_ tr tr) (a_ (a_ tr (a_ (leB cL0_8) tr)) (a_ (a_ tr tr) (a_ (a_ (a_ (ids_Set_List_ok yL0_5.2 yL0_10 eL0_9 (sel [0, 2]) (sel_inj rfl rfl)) (a_ (LO.Le.refl (.var [.map 2])) (a_ (LO.Le.refl (.map true [.int .u8, .int .u32, .int .u32] (encM v_T_api_Tx LV.bool yL0_5.2))) tr))) tr) (a_ (a_ tr tr) (a_ (a_ (a_ tr (lt_ 0 1 rfl)) tr) (a_ (a_ (a_ (parrelref05_Same_tri yL0_10 yL0_7.2 yL0_12 eL0_11) tr) tr) (a_ (a_ tr tr) (a_ (a_ tr (a_ (leB cL0_13) tr)) tr)))))))))) (a_ (a_ (a_ tr tr) tr) tr)))))))) tr) (by kernel_rfl) rfl
          · skip
            exact run_to mixed hμ (L := [0, 1, 2]) (n := 44) (s := [.go, .reg [(0, { v := some (.bool true) })], .reg [], .reg [], .reg [], .reg [(1, { v := some (.bool true) })], .reg [(3, { call := some ((ids_Set_Add_v yL0_5).ren (sel [0, 2]), preOf (sel [0, 2]) 0 (ids_Set_Add_objs m ((script.take ((if 200 < ((script).length : Int) then 200 else ((script).length : Int))).toNat).getD t23.toNat default).f_Tx), upOf (sel [0, 2]) (ids_Set_Add_up m ((script.take ((if 200 < ((script).length : Int) then 200 else ((script).length : Int))).toNat).getD t23.toNat default).f_Tx yL0_5)) }), (6, { call := some ((parrelref05_Set_Add_v yL0_7).ren (sel [1]), preOf (sel [1]) 0 (parrelref05_Set_Add_objs (T_parrelref05_Set.mk L) ((script.take ((if 200 < ((script).length : Int) then 200 else ((script).length : Int))).toNat).getD t23.toNat default).f_Tx), upOf (sel [1]) (parrelref05_Set_Add_up (T_parrelref05_Set.mk L) ((script.take ((if 200 < ((script).length : Int) then 200 else ((script).length : Int))).toNat).getD t23.toNat default).f_Tx yL0_7)) })], .reg [(2, { v := some (.bool false) }), (4, { call := some ((ids_Set_List_v yL0_10).ren (sel [0, 2]), preOf (sel [0, 2]) 0 (ids_Set_List_objs yL0_5.2), upOf (sel [0, 2]) (ids_Set_List_up yL0_5.2 yL0_10)) }), (7, { call := some (parrelref05_Same_v yL0_12, [], []) }), (9, { v := some (.bool false) })], .reg []])
              (a_ (a_ (a_ tr (a_ (leB cL0_1) tr)) tr) (a_ (a_ (a_ (a_ (Eq.refl 4) gL0_2) tr) (a_ (a_ (le_ 4 4 rfl) tr) (a_ (a_ tr tr) (a_ (a_ (a_ (Eq.refl 4) (a_ (le_ 4 4 rfl) (Eq.refl 0))) tr) tr)))) (a_ (a_ (a_ tr tr) tr) (a_ (a_ (a_ tr tr) (a_ (a_ (a_ tr (lt_ 0 4 rfl)) tr) (a_ (a_ (ne0 3 rfl) tr) tr))) (a_ (a_ (a_ tr tr) (a_ (a_ tr (a_ (leB cL0_3) tr)) tr)) (a_ (a_ (a_ tr tr) (a_ (a_ tr tr) (a_ (a_ (a_ tr (le_ 4 4 rfl)) tr) (a_ (a_ (a_ (ids_Set_Add_ok m ((script.take ((if 200 < ((script).length : Int) then 200 else ((script).length : Int))).toNat).getD t23.toNat default).f_Tx yL0_5 eL0_4 (sel [0, 2]) (sel_inj rfl rfl)) (a_ (LO.Le.refl (.var [.map 2])) (a_ (LO.Le.refl (.map true [.int .u8, .int .u32, .int .u32] (encM v_T_api_Tx LV.bool m))) tr))) tr) (a_ (a_ tr tr) (a_ (a_ (a_ tr (le_ 4 4 rfl)) tr) (a_ (a_ (a_ (parrelref05_Set_Add_ok (T_parrelref05_Set.mk L) ((script.take ((if 200 < ((script).length : Int) then 200 else ((script).length : Int))).toNat).getD t23.toNat default).f_Tx yL0_7 eL0_6 (sel [1]) (sel_inj rfl rfl)) (a_ (LO.Le.refl (.var (c_T_parrelref05_Set (T_parrelref05_Set.mk L)))) tr)) tr) (a_ (a_ tr tr) (a_ (a_ tr tr) tr))))))))) (a_ (a_ (a_ tr tr) (a_ (a_ tr tr) (a_ (a_ tr (a_ (leB cL0_8) tr)) (a_ (a_ tr tr) (a_ (a_ (a_ (ids_Set_List_ok yL0_5.2 yL0_10 eL0_9 (sel [0, 2]) (sel_inj rfl rfl)) (a_ (LO.Le.refl (.var [.map 2])) (a_ (LO.Le.refl (.map true [.int .u8, .int .u32, .int .u32] (encM v_T_api_Tx LV.bool yL0_5.2))) tr))) tr) (a_ (a_ tr tr) (a_ (a_ (a_ tr (lt_ 0 1 rfl)) tr) (a_ (a_ (a_ (parrelref05_Same_tri yL0_10 yL0_7.2 yL0_12 eL0_11) tr) tr) (a_ (a_ tr tr) (a_ (a_ tr (a_ (leB cL0_13) tr)) tr)))))))))) (a_ (a_ (a_ tr tr) (a_ (a_ tr tr) tr)) tr)))))))) (ih _ _ _ r h) (by kernel_rfl) ⟨rfl, rfl, trivial, trivial⟩
      · skip
        rcases itb_some h with ⟨cL0_4, h⟩ | ⟨cL0_4, h⟩
        · skip
          obtain ⟨yL0_6, eL0_5, h⟩ := bind_some h
          obtain ⟨yL0_8, eL0_7, h⟩ := bind_some h
          rcases itb_some h with ⟨cL0_9, h⟩ | ⟨cL0_9, h⟩
          · skip
            obtain rfl := Option.some.inj h
            exact run_ret mixed (L := []) (n := 47) (s := [.go, .reg [(0, { v := some (.bool true) })], .reg [], .reg [], .reg [], .reg [(1, { v := some (.bool false) })], .reg [(1, { v := some (.bool true) })], .reg [(3, { call := some ((ids_Set_Drop_v yL0_6).ren (sel [0, 2]), preOf (sel [0, 2]) 0 (ids_Set_Drop_objs m ((script.take ((if 200 < ((script).length : Int) then 200 else ((script).length : Int))).toNat).getD t23.toNat default).f_Tx), upOf (sel [0, 2]) (ids_Set_Drop_up m ((script.take ((if 200 < ((script).length : Int) then 200 else ((script).length : Int))).toNat).getD t23.toNat default).f_Tx yL0_6)) }), (6, { call := some ((parrelref05_Set_Drop_v yL0_8).ren (sel [1]), preOf (sel [1]) 0 (parrelref05_Set_Drop_objs (T_parrelref05_Set.mk L) ((script.take ((if 200 < ((script).length : Int) then 200 else ((script).length : Int))).toNat).getD t23.toNat default).f_Tx), upOf (sel [1]) (parrelref05_Set_Drop_up (T_parrelref05_Set.mk L) ((script.take ((if 200 < ((script).length : Int) then 200 else ((script).length : Int))).toNat).getD t23.toNat default).f_Tx yL0_8)) })], .reg [(2, { v := some (.bool true) })], .reg []])
              (a_ (a_ (a_ (a_ tr (a_ (leB cL0_1) tr)) tr) (a_ (a_ (a_ (a_ (Eq.refl 4) gL0_2) tr) (a_ (a_ (le_ 4 4 rfl) tr) (a_ (a_ tr tr) (a_ (a_ (a_ (Eq.refl 4) (a_ (le_ 4 4 rfl) (Eq.refl 0))) tr) tr)))) (a_ (a_ (a_ tr tr) tr) (a_ (a_ (a_ tr tr) (a_ (a_ (a_ tr (lt_ 0 4 rfl)) tr) (a_ (a_ (ne0 3 rfl) tr) tr))) (a_ (a_ (a_ tr tr) (a_ (a_ tr (a_ (leB cL0_3) tr)) tr)) (a_ (a_ (a_ tr tr) (a_ (a_ tr (a_ (leB cL0_4) tr)) tr)) (a_ (a_ (a_ tr tr) (a_ (a_ tr tr) (a_ (a_ (a_ tr (le_ 4 4 rfl)) tr) (a_ (a_ (a_ (ids_Set_Drop_ok m ((script.take ((if 200 < ((script).length : Int) then 200 else ((script).length : Int))).toNat).getD t23.toNat default).f_Tx yL0_6 eL0_5 (sel [0, 2]) (sel_inj rfl rfl)) (a_ (LO.Le.refl (.var [.map 2])) (a_ (LO.Le.refl (.map true [.int .u8, .int .u32, .int .u32] (encM v_T_api_Tx LV.bool m))) tr))) tr) (a_ (a_ tr tr) (a_ (a_ (a_ tr (le_ 4 4 rfl)) tr) (a_ (a_ (a_ (parrelref05_Set_Drop_ok (T_parrelref05_Set.mk L) ((script.take ((if 200 < ((script).length : Int) then 200 else ((script).length : Int))).toNat).getD t23.toNat default).f_Tx yL0_8 eL0_7 (sel [1]) (sel_inj rfl rfl)) (a_ (LO.Le.refl (.var (c_T_parrelref05_Set (T_parrelref05_Set.mk L)))) tr)) tr) (a_ (a_ tr tr) (a_ (a_ tr tr) tr))))))))) (a_ (a_ (a_ tr tr) (a_ (a_ tr tr) (a_ (a_ tr (a_ (leB cL0_9) tr)) (a_ tr (a_ tr (a_ tr (a_ tr (a_ tr (a_ tr (a_ (a_ tr tr) tr)))))))))) (a_ (a_ (a_ tr tr) tr) tr))))))))) tr) (by kernel_rfl) rfl
          · skip
            obtain ⟨yL0_11, eL0_10, h⟩ := bind_some h
            obtain ⟨yL0_13, eL0_12, h⟩ := bind_some h
            rcases itb_some h with ⟨cL0_14, h⟩ | ⟨cL0_14, h⟩
            · skip
              obtain rfl := Option.some.inj h
              exact run_ret mixed (L := []) (n := 47) (s := [.go, .reg [(0, { v := some (.bool true) })], .reg [], .reg [], .reg [], .reg [(1, { v := some (.bool false) })], .reg [(1, { v := some (.bool true) })], .reg [(3, { call := some ((ids_Set_Drop_v yL0_6).ren (sel [0, 2]), preOf (sel [0, 2]) 0 (ids_Set_Drop_objs m ((script.take ((if 200 < ((script).length : Int) then 200 else ((script).length : Int))).toNat).getD t23.toNat default).f_Tx), upOf (sel [0, 2]) (ids_Set_Drop_up m ((script.take ((if 200 < ((script).length : Int) then 200 else ((script).length : Int))).toNat).getD t23.toNat default).f_Tx yL0_6)) }), (6, { call := some ((parrelref05_Set_Drop_v yL0_8).ren (sel [1]), preOf (sel [1]) 0 (parrelref05_Set_Drop_objs (T_parrelref05_Set.mk L) ((script.take ((if 200 < ((script).length : Int) then 200 else ((script).length : Int))).toNat).getD t23.toNat default).f_Tx), upOf (sel [1]) (parrelref05_Set_Drop_up (T_parrelref05_Set.mk L) ((script.take ((if 200 < ((script).length : Int) then 200 else ((script).length : Int))).toNat).getD t23.toNat default).f_Tx yL0_8)) })], .reg [(2, { v := some (.bool false) }), (4, { call := some ((ids_Set_List_v yL0_11).ren (sel [0, 2]), preOf (sel [0, 2]) 0 (ids_Set_List_objs yL0_6.2), upOf (sel [0, 2]) (ids_Set_List_up yL0_6.2 yL0_11)) }), (7, { call := some (parrelref05_Same_v yL0_13, [], []) }), (9, { v := some (.bool true) })], .reg []])
                (a_ (a_ (a_ (a_ tr (a_ (leB cL0_1) tr)) tr) (a_ (a_ (a_ (a_ (Eq.refl 4) gL0_2) tr) (a_ (a_ (le_ 4 4 rfl) tr) (a_ (a_ tr tr) (a_ (a_ (a_ (Eq.refl 4) (a_ (le_ 4 4 rfl) (Eq.refl 0))) tr) tr)))) (a_ (a_ (a_ tr tr) tr) (a_ (a_ (a_ tr tr) (a_ (a_ (a_ tr (lt_ 0 4 rfl)) tr) (a_ (a_ (ne0 3 rfl) tr) tr))) (a_ (a_ (a_ tr tr) (a_ (a_ tr (a_ (leB cL0_3) tr)) tr)) (a_ (a_ (a_ tr tr) (a_ (a_ tr (a_ (leB cL0_4) tr)) tr)) (a_ (a_ (a_ tr tr) (a_ (a_ tr tr) (a_ (a_ (a_ tr (le_ 4 4 rfl)) tr) (a_ (a_ (a_ (ids_Set_Drop_ok m ((script.take ((if 200 < ((script).length : Int) then 200 else ((script).length : Int))).toNat).getD t23.toNat default).f_Tx yL0_6 eL0_5 (sel [0, 2]) (sel_inj rfl rfl)) (a_ (LO.Le.refl (.var [.map 2])) (a_ (LO.Le.refl (.map true [.int .u8, .int .u32, .int .u32] (encM v_T_api_Tx LV.bool m))) tr))) tr) (a_ (a_ tr tr) (a_ (a_ (a_ tr (le_ 4 4 rfl)) tr) (a_ (a_ (a_ (parrelref05_Set_Drop_ok (T_parrelref05_Set.mk L) ((script.take ((if 200 < ((script).length : Int) then 200 else ((script).length : Int))).toNat).getD t23.toNat default).f_Tx yL0_8 eL0_7 (sel [1]) (sel_inj rfl rfl)) (a_ (LO.Le.refl (.var (c_T_parrelref05_Set (T_parrelref05_Set.mk L)))) tr)) tr) (a_ (a_ tr tr) (a_ (a_ tr tr) tr))))))))) (a_ (a_ (a_ tr tr) (a_ (a_ tr tr) (a_ (a_ tr (a_ (leB cL0_9) tr)) (a_ (a_ tr tr) (a_ (a_ (a_ (ids_Set_List_ok yL0_6.2 yL0_11 eL0_10 (sel [0, 2]) (sel_inj rfl rfl)) (a_ (LO.Le.refl (.var [.map 2])) (a_ (LO.Le.refl (.map true [.int .u8, .int .u32, .int .u32] (encM v_T_api_Tx LV.bool yL0_6.2))) tr))) tr) (a_ (a_ tr tr) (a_ (a_ (a_ tr (lt_ 0 1 rfl)) tr) (a_ (a_ (a_ (parrelref05_Same_tri yL0_11 yL0_8.2 yL0_13 eL0_12) tr) tr) (a_ (a_ tr tr) (a_ (a_ tr (a_ (leB cL0_14) tr)) tr)))))))))) (a_ (a_ (a_ tr tr) tr) tr))))))))) tr) (by kernel_rfl) rfl
            · skip
              exact run_to mixed hμ (L := [0, 1, 2]) (n := 48) (s := [.go, .reg [(0, { v := some (.bool true) })], .reg [], .reg [], .reg [], .reg [(1, { v := some (.bool false) })], .reg [(1, { v := some (.bool true) })], .reg [(3, { call := some ((ids_Set_Drop_v yL0_6).ren (sel [0, 2]), preOf (sel [0, 2]) 0 (ids_Set_Drop_objs m ((script.take ((if 200 < ((script).length : Int) then 200 else ((script).length : Int))).toNat).getD t23.toNat default).f_Tx), upOf (sel [0, 2]) (ids_Set_Drop_up m ((script.take ((if 200 < ((script).length : Int) then 200 else ((script).length : Int))).toNat).getD t23.toNat default).f_Tx yL0_6)) }), (6, { call := some ((parrelref05_Set_Drop_v yL0_8).ren (sel [1]), preOf (sel [1]) 0 (parrelref05_Set_Drop_objs (T_parrelref05_Set.mk L) ((script.take ((if 200 < ((script).length : Int) then 200 else ((script).length : Int))).toNat).getD t23.toNat default).f_Tx), upOf (sel [1]) (parrelref05_Set_Drop_up (T_parrelref05_Set.mk L) ((script.take ((if 200 < ((script).length : Int) then 200 else ((script).length : Int))).toNat).getD t23.toNat default).f_Tx yL0_8)) })], .reg [(2, { v := some (.bool false) }), (4, { call := some ((ids_Set_List_v yL0_11).ren (sel [0, 2]), preOf (sel [0, 2]) 0 (ids_Set_List_objs yL0_6.2), upOf (sel [0, 2]) (ids_Set_List_up yL0_6.2 yL0_11)) }), (7, { call := some (parrelref05_Same_v yL0_13, [], []) }), (9, { v := some (.bool false) })], .reg []])
                (a_ (a_ (a_ tr (a_ (leB cL0_1) tr)) tr) (a_ (a_ (a_ (a_ (Eq.refl 4) gL0_2) tr) (a_ (a_ (le_ 4 4 rfl) tr) (a_ (a_ tr tr) (a_ (a_ (a_ (Eq.refl 4) (a_ (le_ 4 4 rfl) (Eq.refl 0))) tr) tr)))) (a_ (a_ (a_ tr tr) tr) (a_ (a_ (a_ tr tr) (a_ (a_ (a_ tr (lt_ 0 4 rfl)) tr) (a_ (a_ (ne0 3 rfl) tr) tr))) (a_ (a_ (a_ tr tr) (a_ (a_ tr (a_ (leB cL0_3) tr)) tr)) (a_ (a_ (a_ tr tr) (a_ (a_ tr (a_ (leB cL0_4) tr)) tr)) (a_ (a_ (a_ tr tr) (a_ (a_ tr tr) (a_ (a_ (a_ tr (le_ 4 4 rfl)) tr) (a_ (a_ (a_ (ids_Set_Drop_ok m ((script.take ((if 200 < ((script).length : Int) then 200 else ((script).length : Int))).toNat).getD t23.toNat default).f_Tx yL0_6 eL0_5 (sel [0, 2]) (sel_inj rfl rfl)) (a_ (LO.Le.refl (.var [.map 2])) (a_ (LO.Le.refl (.map true [.int .u8, .int .u32, .int .u32] (encM v_T_api_Tx LV.bool m))) tr))) tr) (a_ (a_ tr tr) (a_ (a_ (a_ tr (le_ 4 4 rfl)) tr) (a_ (a_ (a_ (parrelref05_Set_Drop_ok (T_parrelref05_Set.mk L) ((script.take ((if 200 < ((script).length : Int) then 200 else ((script).length : Int))).toNat).getD t23.toNat default).f_Tx yL0_8 eL0_7 (sel [1]) (sel_inj rfl rfl)) (a_ (LO.Le.refl (.var (c_T_parrelref05_Set (T_parrelref05_Set.mk L)))) tr)) tr) (a_ (a_ tr tr) (a_ (a_ tr tr) tr))))))))) (a_ (a_ (a_ tr tr) (a_ (a_ tr tr) (a_ (a_ tr (a_ (leB cL0_9) tr)) (a_ (a_ tr tr) (a_ (a_ (a_ (ids_Set_List_ok yL0_6.2 yL0_11 eL0_10 (sel [0, 2]) (sel_inj rfl rfl)) (a_ (LO.Le.refl (.var [.map 2])) (a_ (LO.Le.refl (.map true [.int .u8, .int .u32, .int .u32] (encM v_T_api_Tx LV.bool yL0_6.2))) tr))) tr) (a_ (a_ tr tr) (a_ (a_ (a_ tr (lt_ 0 1 rfl)) tr) (a_ (a_ (a_ (parrelref05_Same_tri yL0_11 yL0_8.2 yL0_13 eL0_12) tr) tr) (a_ (a_ tr tr) (a_ (a_ tr (a_ (leB cL0_14) tr)) tr)))))))))) (a_ (a_ (a_ tr tr) (a_ (a_ tr tr) tr)) tr))))))))) (ih _ _ _ r h) (by kernel_rfl) ⟨rfl, rfl, trivial, trivial⟩
        · skip
          obtain ⟨yL0_6, eL0_5, h⟩ := bind_some h
          obtain ⟨yL0_8, eL0_7, h⟩ := bind_some h
          rcases itb_some h with ⟨cL0_9, h⟩ | ⟨cL0_9, h⟩
          · skip
            obtain rfl := Option.some.inj h
            exact run_ret mixed (L := []) (n := 47) (s := [.go, .reg [(0, { v := some (.bool true) })], .reg [], .reg [], .reg [], .reg [(1, { v := some (.bool false) })], .reg [(1, { v := some (.bool false) })], .reg [(3, { call := some ((ids_Set_Has_v yL0_6).ren (sel [0, 2]), preOf (sel [0, 2]) 0 (ids_Set_Has_objs m ((script.take ((if 200 < ((script).length : Int) then 200 else ((script).length : Int))).toNat).getD t23.toNat default).f_Tx), upOf (sel [0, 2]) (ids_Set_Has_up m ((script.take ((if 200 < ((script).length : Int) then 200 else ((script).length : Int))).toNat).getD t23.toNat default).f_Tx yL0_6)) }), (6, { call := some ((parrelref05_Set_Has_v yL0_8).ren (sel [1]), preOf (sel [1]) 0 (parrelref05_Set_Has_objs (T_parrelref05_Set.mk L) ((script.take ((if 200 < ((script).length : Int) then 200 else ((script).length : Int))).toNat).getD t23.toNat default).f_Tx), upOf (sel [1]) (parrelref05_Set_Has_up (T_parrelref05_Set.mk L) ((script.take ((if 200 < ((script).length : Int) then 200 else ((script).length : Int))).toNat).getD t23.toNat default).f_Tx yL0_8)) })], .reg [(2, { v := some (.bool true) })], .reg []])
              (a_ (a_ (a_ (a_ tr (a_ (leB cL0_1) tr)) tr) (a_ (a_ (a_ (a_ (Eq.refl 4) gL0_2) tr) (a_ (a_ (le_ 4 4 rfl) tr) (a_ (a_ tr tr) (a_ (a_ (a_ (Eq.refl 4) (a_ (le_ 4 4 rfl) (Eq.refl 0))) tr) tr)))) (a_ (a_ (a_ tr tr) tr) (a_ (a_ (a_ tr tr) (a_ (a_ (a_ tr (lt_ 0 4 rfl)) tr) (a_ (a_ (ne0 3 rfl) tr) tr))) (a_ (a_ (a_ tr tr) (a_ (a_ tr (a_ (leB cL0_3) tr)) tr)) (a_ (a_ (a_ tr tr) (a_ (a_ tr (a_ (leB cL0_4) tr)) tr)) (a_ (a_ (a_ tr tr) (a_ (a_ tr tr) (a_ (a_ (a_ tr (le_ 4 4 rfl)) tr) (a_ (a_ (a_ (ids_Set_Has_ok m ((script.take ((if 200 < ((script).length : Int) then 200 else ((script).length : Int))).toNat).getD t23.toNat default).f_Tx yL0_6 eL0_5 (sel [0, 2]) (sel_inj rfl rfl)) (a_ (LO.Le.refl (.var [.map 2])) (a_ (LO.Le.refl (.map true [.int .u8, .int .u32, .int .u32] (encM v_T_api_Tx LV.bool m))) tr))) tr) (a_ (a_ tr tr) (a_ (a_ (a_ tr (le_ 4 4 rfl)) tr) (a_ (a_ (a_ (parrelref05_Set_Has_ok (T_parrelref05_Set.mk L) ((script.take ((if 200 < ((script).length : Int) then 200 else ((script).length : Int))).toNat).getD t23.toNat default).f_Tx yL0_8 eL0_7 (sel [1]) (sel_inj rfl rfl)) (a_ (LO.Le.refl (.var (c_T_parrelref05_Set (T_parrelref05_Set.mk L)))) tr)) tr) (a_ (a_ tr tr) (a_ (a_ tr tr) tr))))))))) (a_ (a_ (a_ tr tr) (a_ (a_ tr tr) (a_ (a_ tr (a_ (leB cL0_9) tr)) (a_ tr (a_ tr (a_ tr (a_ tr (a_ tr (a_ tr (a_ (a_ tr tr) tr)))))))))) (a_ (a_ (a_ tr tr) tr) tr))))))))) tr) (by kernel_rfl) rfl
          · skip
            obtain ⟨yL0_11, eL0_10, h⟩ := bind_some h
            obtain ⟨yL0_13, eL0_12, h⟩ := bind_some h
            rcases itb_some h with ⟨cL0_14, h⟩ | ⟨cL0_14, h⟩
            · skip
              obtain rfl := Option.some.inj h
              exact run_ret mixed (L := []) (n := 47) (s := [.go, .reg [(0, { v := some (.bool true) })], .reg [], .reg [], .reg [], .reg [(1, { v := some (.bool false) })], .reg [(1, { v := some (.bool false) })], .reg [(3, { call := some ((ids_Set_Has_v yL0_6).ren (sel [0, 2]), preOf (sel [0, 2]) 0 (ids_Set_Has_objs m ((script.take ((if 200 < ((script).length : Int) then 200 else ((script).length : Int))).toNat).getD t23.toNat default).f_Tx), upOf (sel [0, 2]) (ids_Set_Has_up m ((script.take ((if 200 < ((script).length : Int) then 200 else ((script).length : Int))).toNat).getD t23.toNat default).f_Tx yL0_6)) }), (6, { call := some ((parrelref05_Set_Has_v yL0_8).ren (sel [1]), preOf (sel [1]) 0 (parrelref05_Set_Has_objs (T_parrelref05_Set.mk L) ((script.take ((if 200 < ((script).length : Int) then 200 else ((script).length : Int))).toNat).getD t23.toNat default).f_Tx), upOf (sel [1]) (parrelref05_Set_Has_up (T_parrelref05_Set.mk L) ((script.take ((if 200 < ((script).length : Int) then 200 else ((script).length : Int))).toNat).getD t23.toNat default).f_Tx yL0_8)) })], .reg [(2, { v := some (.bool false) }), (4, { call := some ((ids_Set_List_v yL0_11).ren (sel [0, 2]), preOf (sel [0, 2]) 0 (ids_Set_List_objs m), upOf (sel [0, 2]) (ids_Set_List_up m yL0_11)) }), (7, { call := some (parrelref05_Same_v yL0_13, [], []) }), (9, { v := some (.bool true) })], .reg []])
                (a_ (a_ (a_ (a_ tr (a_ (leB cL0_1) tr)) tr) (a_ (a_ (a_ (a_ (Eq.refl 4) gL0_2) tr) (a_ (a_ (le_ 4 4 rfl) tr) (a_ (a_ tr tr) (a_ (a_ (a_ (Eq.refl 4) (a_ (le_ 4 4 rfl) (Eq.refl 0))) tr) tr)))) (a_ (a_ (a_ tr tr) tr) (a_ (a_ (a_ tr tr) (a_ (a_ (a_ tr (lt_ 0 4 rfl)) tr) (a_ (a_ (ne0 3 rfl) tr) tr))) (a_ (a_ (a_ tr tr) (a_ (a_ tr (a_ (leB cL0_3) tr)) tr)) (a_ (a_ (a_ tr tr) (a_ (a_ tr (a_ (leB cL0_4) tr)) tr)) (a_ (a_ (a_ tr tr) (a_ (a_ tr tr) (a_ (a_ (a_ tr (le_ 4 4 rfl)) tr) (a_ (a_ (a_ (ids_Set_Has_ok m ((script.take ((if 200 < ((script).length : Int) then 200 else ((script).length : Int))).toNat).getD t23.toNat default).f_Tx yL0_6 eL0_5 (sel [0, 2]) (sel_inj rfl rfl)) (a_ (LO.Le.refl (.var [.map 2])) (a_ (LO.Le.refl (.map true [.int .u8, .int .u32, .int .u32] (encM v_T_api_Tx LV.bool m))) tr))) tr) (a_ (a_ tr tr) (a_ (a_ (a_ tr (le_ 4 4 rfl)) tr) (a_ (a_ (a_ (parrelref05_Set_Has_ok (T_parrelref05_Set.mk L) ((script.take ((if 200 < ((script).length : Int) then 200 else ((script).length : Int))).toNat).getD t23.toNat default).f_Tx yL0_8 eL0_7 (sel [1]) (sel_inj rfl rfl)) (a_ (LO.Le.refl (.var (c_T_parrelref05_Set (T_parrelref05_Set.mk L)))) tr)) tr) (a_ (a_ tr tr) (a_ (a_ tr tr) tr))))))))) (a_ (a_ (a_ tr tr) (a_ (a_ tr tr) (a_ (a_ tr (a_ (leB cL0_9) tr)) (a_ (a_ tr tr) (a_ (a_ (a_ (ids_Set_List_ok m yL0_11 eL0_10 (sel [0, 2]) (sel_inj rfl rfl)) (a_ (LO.Le.refl (.var [.map 2])) (a_ (LO.Le.refl (.map true [.int .u8, .int .u32, .int .u32] (encM v_T_api_Tx LV.bool m))) tr))) tr) (a_ (a_ tr tr) (a_ (a_ (a_ tr (lt_ 0 1 rfl)) tr) (a_ (a_ (a_ (parrelref05_Same_tri yL0_11 (T_parrelref05_Set.mk L).f_L yL0_13 eL0_12) tr) tr) (a_ (a_ tr tr) (a_ (a_ tr (a_ (leB cL0_14) tr)) tr)))))))))) (a_ (a_ (a_ tr tr) tr) tr))))))))) tr) (by kernel_rfl) rfl
            · skip
              exact run_to mixed hμ (L := [0, 1, 2]) (n := 48) (s := [.go, .reg [(0, { v := some (.bool true) })], .reg [], .reg [], .reg [], .reg [(1, { v := some (.bool false) })], .reg [(1, { v := some (.bool false) })], .reg [(3, { call := some ((ids_Set_Has_v yL0_6).ren (sel [0, 2]), preOf (sel [0, 2]) 0 (ids_Set_Has_objs m ((script.take ((if 200 < ((script).length : Int) then 200 else ((script).length : Int))).toNat).getD t23.toNat default).f_Tx), upOf (sel [0, 2]) (ids_Set_Has_up m ((script.take ((if 200 < ((script).length : Int) then 200 else ((script).length : Int))).toNat).getD t23.toNat default).f_Tx yL0_6)) }), (6, { call := some ((parrelref05_Set_Has_v yL0_8).ren (sel [1]), preOf (sel [1]) 0 (parrelref05_Set_Has_objs (T_parrelref05_Set.mk L) ((script.take ((if 200 < ((script).length : Int) then 200 else ((script).length : Int))).toNat).getD t23.toNat default).f_Tx), upOf (sel [1]) (parrelref05_Set_Has_up (T_parrelref05_Set.mk L) ((script.take ((if 200 < ((script).length : Int) then 200 else ((script).length : Int))).toNat).getD t23.toNat default).f_Tx yL0_8)) })], .reg [(2, { v := some (.bool false) }), (4, { call := some ((ids_Set_List_v yL0_11).ren (sel [0, 2]), preOf (sel [0, 2]) 0 (ids_Set_List_objs m), upOf (sel [0, 2]) (ids_Set_List_up m yL0_11)) }), (7, { call := some (parrelref05_Same_v yL0_13, [], []) }), (9, { v := some (.bool false) })], .reg []])
                (a_ (a_ (a_ tr (a_ (leB cL0_1) tr)) tr) (a_ (a_ (a_ (a_ (Eq.refl 4) gL0_2) tr) (a_ (a_ (le_ 4 4 rfl) tr) (a_ (a_ tr tr) (a_ (a_ (a_ (Eq.refl 4) (a_ (le_ 4 4 rfl) (Eq.refl 0))) tr) tr)))) (a_ (a_ (a_ tr tr) tr) (a_ (a_ (a_ tr tr) (a_ (a_ (a_ tr (lt_ 0 4 rfl)) tr) (a_ (a_ (ne0 3 rfl) tr) tr))) (a_ (a_ (a_ tr tr) (a_ (a_ tr (a_ (leB cL0_3) tr)) tr)) (a_ (a_ (a_ tr tr) (a_ (a_ tr (a_ (leB cL0_4) tr)) tr)) (a_ (a_ (a_ tr tr) (a_ (a_ tr tr) (a_ (a_ (a_ tr (le_ 4 4 rfl)) tr) (a_ (a_ (a_ (ids_Set_Has_ok m ((script.take ((if 200 < ((script).length : Int) then 200 else ((script).length : Int))).toNat).getD t23.toNat default).f_Tx yL0_6 eL0_5 (sel [0, 2]) (sel_inj rfl rfl)) (a_ (LO.Le.refl (.var [.map 2])) (a_ (LO.Le.refl (.map true [.int .u8, .int .u32, .int .u32] (encM v_T_api_Tx LV.bool m))) tr))) tr) (a_ (a_ tr tr) (a_ (a_ (a_ tr (le_ 4 4 rfl)) tr) (a_ (a_ (a_ (parrelref05_Set_Has_ok (T_parrelref05_Set.mk L) ((script.take ((if 200 < ((script).length : Int) then 200 else ((script).length : Int))).toNat).getD t23.toNat default).f_Tx yL0_8 eL0_7 (sel [1]) (sel_inj rfl rfl)) (a_ (LO.Le.refl (.var (c_T_parrelref05_Set (T_parrelref05_Set.mk L)))) tr)) tr) (a_ (a_ tr tr) (a_ (a_ tr tr) tr))))))))) (a_ (a_ (a_ tr tr) (a_ (a_ tr tr) (a_ (a_ tr (a_ (leB cL0_9) tr)) (a_ (a_ tr tr) (a_ (a_ (a_ (ids_Set_List_ok m yL0_11 eL0_10 (sel [0, 2]) (sel_inj rfl rfl)) (a_ (LO.Le.refl (.var [.map 2])) (a_ (LO.Le.refl (.map true [.int .u8, .int .u32, .int .u32] (encM v_T_api_Tx LV.bool m))) tr))) tr) (a_ (a_ tr tr) (a_ (a_ (a_ tr (lt_ 0 1 rfl)) tr) (a_ (a_ (a_ (parrelref05_Same_tri yL0_11 (T_parrelref05_Set.mk L).f_L yL0_13 eL0_12) tr) tr) (a_ (a_ tr tr) (a_ (a_ tr (a_ (leB cL0_14) tr)) tr)))))))))) (a_ (a_ (a_ tr tr) (a_ (a_ tr tr) tr)) tr))))))))) (ih _ _ _ r h) (by kernel_rfl) ⟨rfl, rfl, trivial, trivial⟩
    · skip
      obtain ⟨yL0_3, eL0_2, h⟩ := bind_some h
      obtain ⟨yL0_5, eL0_4, h⟩ := bind_some h
      obtain ⟨yL0_7, eL0_6, h⟩ := bind_some h
      obtain ⟨yL0_9, eL0_8, h⟩ := bind_some h
      rcases itb_some h with ⟨cL0_10, h⟩ | ⟨cL0_10, h⟩
      · skip
        obtain rfl := Option.some.inj h
        exact run_ret mixed (L := []) (n := 42) (s := [.go, .reg [(0, { v := some (.bool false) })], .reg [], .go, .reg [], .reg [], .reg [(2, { call := some (ids_Set_Add_2_v yL0_3, [], []) }), (6, { call := some (ids_Set_Has_2_v yL0_5, [], []) }), (11, { call := some (ids_Set_Drop_2_v yL0_7, [], []) }), (15, { call := some (ids_Set_List_2_v yL0_9, [], []) }), (18, { v := some (.bool true) })], .reg []])
          (a_ (a_ (a_ (a_ tr (a_ (leB cL0_1) tr)) tr) (a_ (a_ (a_ (Eq.refl true) tr) (a_ (a_ tr tr) (a_ (a_ (a_ (Eq.refl true) (a_ (Eq.refl 1) (a_ (lt_ 0 1 rfl) (le_ 2 16777216 rfl)))) tr) (a_ (a_ tr tr) (a_ (a_ tr tr) tr))))) (a_ (a_ (a_ tr tr) tr) (a_ (a_ (a_ (a_ (Eq.refl 1) (a_ (lei_ 0 0 rfl) (lti_ 0 2 rfl))) tr) (a_ (a_ (a_ (lt_ 0 2 rfl) (lt_ 0 1 rfl)) tr) (a_ (a_ tr tr) tr))) (a_ (a_ (a_ tr tr) (a_ (a_ (Eq.refl true) tr) (a_ (a_ (a_ (ids_Set_Add_2_tri (T_api_Tx.mk 0 1 1) yL0_3 eL0_2) tr) tr) (a_ (a_ tr tr) (a_ (a_ tr tr) (a_ (a_ (Eq.refl true) tr) (a_ (a_ (a_ (ids_Set_Has_2_tri (T_api_Tx.mk 0 0 0) yL0_5 eL0_4) tr) tr) (a_ (a_ tr tr) (a_ (a_ tr tr) (a_ (a_ tr tr) (a_ (a_ (Eq.refl true) tr) (a_ (a_ (a_ (ids_Set_Drop_2_tri (T_api_Tx.mk 0 0 0) yL0_7 eL0_6) tr) tr) (a_ (a_ tr tr) (a_ (a_ tr tr) (a_ (a_ tr tr) (a_ (a_ (a_ (ids_Set_List_2_tri  yL0_9 eL0_8) tr) tr) (a_ (a_ tr tr) (a_ (a_ tr tr) (a_ (a_ tr (a_ (leB cL0_10) tr)) tr))))))))))))))))))) (a_ (a_ (a_ tr tr) tr) tr)))))) tr) (by kernel_rfl) rfl
      · skip
        obtain ⟨yL0_12, eL0_11, h⟩ := bind_some h
        obtain ⟨yL0_14, eL0_13, h⟩ := bind_some h
        obtain ⟨yL0_16, eL0_15, h⟩ := bind_some h
        obtain ⟨yL0_18, eL0_17, h⟩ := bind_some h
        rcases itb_some h with ⟨cL0_19, h⟩ | ⟨cL0_19, h⟩
        · skip
          obtain rfl := Option.some.inj h
          exact run_ret mixed (L := []) (n := 63) (s := [.go, .reg [(0, { v := some (.bool false) })], .reg [], .go, .reg [], .reg [], .reg [(2, { call := some (ids_Set_Add_2_v yL0_3, [], []) }), (6, { call := some (ids_Set_Has_2_v yL0_5, [], []) }), (11, { call := some (ids_Set_Drop_2_v yL0_7, [], []) }), (15, { call := some (ids_Set_List_2_v yL0_9, [], []) }), (18, { v := some (.bool false) })], .reg [], .go, .reg [], .reg [], .reg [(2, { call := some ((ids_Set_Add_3_v yL0_12).ren (sel [3]), preOf (sel [3]) 0 (ids_Set_Add_3_objs (T_api_Tx.mk 0 1 1)), upOf (sel [3]) (ids_Set_Add_3_up (T_api_Tx.mk 0 1 1) yL0_12)) }), (6, { call := some ((ids_Set_Has_3_v yL0_14).ren (sel [3]), preOf (sel [3]) 0 (ids_Set_Has_3_objs (T_api_Tx.mk 0 0 0)), upOf (sel [3]) (ids_Set_Has_3_up (T_api_Tx.mk 0 0 0) yL0_14)) }), (11, { call := some ((ids_Set_Drop_3_v yL0_16).ren (sel [3]), preOf (sel [3]) 0 (ids_Set_Drop_3_objs (T_api_Tx.mk 0 0 0)), upOf (sel [3]) (ids_Set_Drop_3_up (T_api_Tx.mk 0 0 0) yL0_16)) }), (15, { call := some ((ids_Set_List_3_v yL0_18).ren (sel [3]), preOf (sel [3]) 0 (ids_Set_List_3_objs ), upOf (sel [3]) (ids_Set_List_3_up  yL0_18)) }), (18, { v := some (.bool true) })], .reg []])
            (a_ (a_ (a_ (a_ tr (a_ (leB cL0_1) tr)) tr) (a_ (a_ (a_ (Eq.refl true) tr) (a_ (a_ tr tr) (a_ (a_ (a_ (Eq.refl true) (a_ (Eq.refl 1) (a_ (lt_ 0 1 rfl) (le_ 2 16777216 rfl)))) tr) (a_ (a_ tr tr) (a_ (a_ tr tr) tr))))) (a_ (a_ (a_ tr tr) tr) (a_ (a_ (a_ (a_ (Eq.refl 1) (a_ (lei_ 0 0 rfl) (lti_ 0 2 rfl))) tr) (a_ (a_ (a_ (lt_ 0 2 rfl) (lt_ 0 1 rfl)) tr) (a_ (a_ tr tr) tr))) (a_ (a_ (a_ tr tr) (a_ (a_ (Eq.refl true) tr) (a_ (a_ (a_ (ids_Set_Add_2_tri (T_api_Tx.mk 0 1 1) yL0_3 eL0_2) tr) tr) (a_ (a_ tr tr) (a_ (a_ tr tr) (a_ (a_ (Eq.refl true) tr) (a_ (a_ (a_ (ids_Set_Has_2_tri (T_api_Tx.mk 0 0 0) yL0_5 eL0_4) tr) tr) (a_ (a_ tr tr) (a_ (a_ tr tr) (a_ (a_ tr tr) (a_ (a_ (Eq.refl true) tr) (a_ (a_ (a_ (ids_Set_Drop_2_tri (T_api_Tx.mk 0 0 0) yL0_7 eL0_6) tr) tr) (a_ (a_ tr tr) (a_ (a_ tr tr) (a_ (a_ tr tr) (a_ (a_ (a_ (ids_Set_List_2_tri  yL0_9 eL0_8) tr) tr) (a_ (a_ tr tr) (a_ (a_ tr tr) (a_ (a_ tr (a_ (leB cL0_10) tr)) tr))))))))))))))))))) (a_ (a_ (a_ tr tr) (a_ (a_ tr tr) tr)) (a_ (a_ (a_ tr tr) tr) (a_ (a_ (a_ (a_ (Eq.refl 1) (a_ (lei_ 0 1 rfl) (lti_ 1 2 rfl))) tr) (a_ (a_ (a_ (lt_ 1 2 rfl) (lt_ 0 1 rfl)) tr) (a_ (a_ tr tr) tr))) (a_ (a_ (a_ tr tr) (a_ (a_ (Eq.refl true) tr) (a_ (a_ (a_ (ids_Set_Add_3_ok (T_api_Tx.mk 0 1 1) yL0_12 eL0_11 (sel [3]) (sel_inj rfl rfl)) (a_ (LO.Le.refl (.var [.nilmap])) tr)) tr) (a_ (a_ tr tr) (a_ (a_ tr tr) (a_ (a_ (Eq.refl true) tr) (a_ (a_ (a_ (ids_Set_Has_3_ok (T_api_Tx.mk 0 0 0) yL0_14 eL0_13 (sel [3]) (sel_inj rfl rfl)) (a_ (LO.Le.refl (.var [.nilmap])) tr)) tr) (a_ (a_ tr tr) (a_ (a_ tr tr) (a_ (a_ tr tr) (a_ (a_ (Eq.refl true) tr) (a_ (a_ (a_ (ids_Set_Drop_3_ok (T_api_Tx.mk 0 0 0) yL0_16 eL0_15 (sel [3]) (sel_inj rfl rfl)) (a_ (LO.Le.refl (.var [.nilmap])) tr)) tr) (a_ (a_ tr tr) (a_ (a_ tr tr) (a_ (a_ tr tr) (a_ (a_ (a_ (ids_Set_List_3_ok  yL0_18 eL0_17 (sel [3]) (sel_inj rfl rfl)) (a_ (LO.Le.refl (.var [.nilmap])) tr)) tr) (a_ (a_ tr tr) (a_ (a_ tr tr) (a_ (a_ tr (a_ (leB cL0_19) tr)) tr))))))))))))))))))) (a_ (a_ (a_ tr tr) tr) tr)))))))))) tr) (by kernel_rfl) rfl
        · skip
          obtain rfl := Option.some.inj h
          exact run_ret mixed (L := []) (n := 75) (s := [.go, .reg [(0, { v := some (.bool false) })], .reg [], .go, .reg [], .reg [], .reg [(2, { call := some (ids_Set_Add_2_v yL0_3, [], []) }), (6, { call := some (ids_Set_Has_2_v yL0_5, [], []) }), (11, { call := some (ids_Set_Drop_2_v yL0_7, [], []) }), (15, { call := some (ids_Set_List_2_v yL0_9, [], []) }), (18, { v := some (.bool false) })], .reg [], .go, .reg [], .reg [], .reg [(2, { call := some ((ids_Set_Add_3_v yL0_12).ren (sel [3]), preOf (sel [3]) 0 (ids_Set_Add_3_objs (T_api_Tx.mk 0 1 1)), upOf (sel [3]) (ids_Set_Add_3_up (T_api_Tx.mk 0 1 1) yL0_12)) }), (6, { call := some ((ids_Set_Has_3_v yL0_14).ren (sel [3]), preOf (sel [3]) 0 (ids_Set_Has_3_objs (T_api_Tx.mk 0 0 0)), upOf (sel [3]) (ids_Set_Has_3_up (T_api_Tx.mk 0 0 0) yL0_14)) }), (11, { call := some ((ids_Set_Drop_3_v yL0_16).ren (sel [3]), preOf (sel [3]) 0 (ids_Set_Drop_3_objs (T_api_Tx.mk 0 0 0)), upOf (sel [3]) (ids_Set_Drop_3_up (T_api_Tx.mk 0 0 0) yL0_16)) }), (15, { call := some ((ids_Set_List_3_v yL0_18).ren (sel [3]), preOf (sel [3]) 0 (ids_Set_List_3_objs ), upOf (sel [3]) (ids_Set_List_3_up  yL0_18)) }), (18, { v := some (.bool false) })], .reg [], .go, .reg [], .reg []])
            (a_ (a_ (a_ (a_ tr (a_ (leB cL0_1) tr)) tr) (a_ (a_ (a_ (Eq.refl true) tr) (a_ (a_ tr tr) (a_ (a_ (a_ (Eq.refl true) (a_ (Eq.refl 1) (a_ (lt_ 0 1 rfl) (le_ 2 16777216 rfl)))) tr) (a_ (a_ tr tr) (a_ (a_ tr tr) tr))))) (a_ (a_ (a_ tr tr) tr) (a_ (a_ (a_ (a_ (Eq.refl 1) (a_ (lei_ 0 0 rfl) (lti_ 0 2 rfl))) tr) (a_ (a_ (a_ (lt_ 0 2 rfl) (lt_ 0 1 rfl)) tr) (a_ (a_ tr tr) tr))) (a_ (a_ (a_ tr tr) (a_ (a_ (Eq.refl true) tr) (a_ (a_ (a_ (ids_Set_Add_2_tri (T_api_Tx.mk 0 1 1) yL0_3 eL0_2) tr) tr) (a_ (a_ tr tr) (a_ (a_ tr tr) (a_ (a_ (Eq.refl true) tr) (a_ (a_ (a_ (ids_Set_Has_2_tri (T_api_Tx.mk 0 0 0) yL0_5 eL0_4) tr) tr) (a_ (a_ tr tr) (a_ (a_ tr tr) (a_ (a_ tr tr) (a_ (a_ (Eq.refl true) tr) (a_ (a_ (a_ (ids_Set_Drop_2_tri (T_api_Tx.mk 0 0 0) yL0_7 eL0_6) tr) tr) (a_ (a_ tr tr) (a_ (a_ tr tr) (a_ (a_ tr tr) (a_ (a_ (a_ (ids_Set_List_2_tri  yL0_9 eL0_8) tr) tr) (a_ (a_ tr tr) (a_ (a_ tr tr) (a_ (a_ tr (a_ (leB cL0_10) tr)) tr))))))))))))))))))) (a_ (a_ (a_ tr tr) (a_ (a_ tr tr) tr)) (a_ (a_ (a_ tr tr) tr) (a_ (a_ (a_ (a_ (Eq.refl 1) (a_ (lei_ 0 1 rfl) (lti_ 1 2 rfl))) tr) (a_ (a_ (a_ (lt_ 1 2 rfl) (lt_ 0 1 rfl)) tr) (a_ (a_ tr tr) tr))) (a_ (a_ (a_ tr tr) (a_ (a_ (Eq.refl true) tr) (a_ (a_ (a_ (ids_Set_Add_3_ok (T_api_Tx.mk 0 1 1) yL0_12 eL0_11 (sel [3]) (sel_inj rfl rfl)) (a_ (LO.Le.refl (.var [.nilmap])) tr)) tr) (a_ (a_ tr tr) (a_ (a_ tr tr) (a_ (a_ (Eq.refl true) tr) (a_ (a_ (a_ (ids_Set_Has_3_ok (T_api_Tx.mk 0 0 0) yL0_14 eL0_13 (sel [3]) (sel_inj rfl rfl)) (a_ (LO.Le.refl (.var [.nilmap])) tr)) tr) (a_ (a_ tr tr) (a_ (a_ tr tr) (a_ (a_ tr tr) (a_ (a_ (Eq.refl true) tr) (a_ (a_ (a_ (ids_Set_Drop_3_ok (T_api_Tx.mk 0 0 0) yL0_16 eL0_15 (sel [3]) (sel_inj rfl rfl)) (a_ (LO.Le.refl (.var [.nilmap])) tr)) tr) (a_ (a_ tr tr) (a_ (a_ tr tr) (a_ (a_ tr tr) (a_ (a_ (a_ (ids_Set_List_3_ok  yL0_18 eL0_17 (sel [3]) (sel_inj rfl rfl)) (a_ (LO.Le.refl (.var [.nilmap])) tr)) tr) (a_ (a_ tr tr) (a_ (a_ tr tr) (a_ (a_ tr (a_ (leB cL0_19) tr)) tr))))))))))))))))))) (a_ (a_ (a_ tr tr) (a_ (a_ tr tr) tr)) (a_ (a_ (a_ tr tr) tr) (a_ (a_ (a_ tr tr) tr) tr)))))))))))) tr) (by kernel_rfl) rfl

theorem parrellaw05_IdsSets_ok (script : List (T_parrellaw05_Act)) (r : (Bool)) (h : parrellaw05_IdsSets script = some r) : ∀ σ, Inj 0 σ → FnTri Try.prog 7 (renL σ [.ds 4 (script).length (rowF c_T_parrellaw05_Act default script)]) (preOf σ 0 []) ((parrellaw05_IdsSets_v r).ren σ) (upOf σ []) := by
  refine fn_of Try.func7 (by kernel_rfl) (by kernel_rfl) (by kernel_rfl) trivial (by kernel_rfl) trivial (by kernel_rfl) ?_
  intro w0 W μ0 hμ
  unfold parrellaw05_IdsSets at h
  obtain ⟨y2, e1, h⟩ := bind_some h
  obtain ⟨y4, e3, h⟩ := bind_some h
  rcases itb_some h with ⟨c5, h⟩ | ⟨c5, h⟩
  · skip
    obtain rfl := Option.some.inj h
    exact run_ret mixed (L := []) (n := 26) (s := [.reg [], .reg [(0, { call := some ((ids_New_v y2).ren (sel [0, 1]), preOf (sel [0, 1]) 0 [], upOf (sel [0, 1]) (ids_New_up  y2)) })], .reg [], .reg [(3, { call := some (parrellaw05_alive_v y4, [], []) }), (5, { v := some (.bool true) })], .reg []])
      (a_ (a_ (a_ (a_ tr tr) tr) (a_ (a_ (a_ (a_ (ids_New_ok  y2 e1 (sel [0, 1]) (sel_inj rfl rfl)) tr) tr) (a_ (a_ tr tr) tr)) (a_ (a_ (a_ tr tr) tr) (a_ (a_ (a_ tr tr) (a_ (a_ tr tr) (a_ (a_ tr tr) (a_ (a_ (a_ (parrellaw05_alive_tri  y4 e3) tr) tr) (a_ (a_ tr tr) (a_ (a_ tr (a_ (leB c5) tr)) tr)))))) (a_ (a_ (a_ tr tr) tr) tr))))) tr) (by kernel_rfl) rfl
  · skip
    obtain ⟨g6, h⟩ := guard_some h
    exact run_to mixed hμ (L := [0, 2, 1]) (n := 31) (s := [.reg [], .reg [(0, { call := some ((ids_New_v y2).ren (sel [0, 1]), preOf (sel [0, 1]) 0 [], upOf (sel [0, 1]) (ids_New_up  y2)) })], .reg [], .reg [(3, { call := some (parrellaw05_alive_v y4, [], []) }), (5, { v := some (.bool false) })], .reg [(4, { v := some (.ds 4 ((script.take ((if 200 < ((script).length : Int) then 200 else ((script).length : Int))).toNat)).length (rowF c_T_parrellaw05_Act default (script.take ((if 200 < ((script).length : Int) then 200 else ((script).length : Int))).toNat))) })], .wk [] [(2, .var (c_T_parrelref05_Set (T_parrelref05_Set.mk ([] : List (T_api_Tx)))))]])
      (a_ (a_ (a_ tr tr) tr) (a_ (a_ (a_ (a_ (ids_New_ok  y2 e1 (sel [0, 1]) (sel_inj rfl rfl)) tr) tr) (a_ (a_ tr tr) tr)) (a_ (a_ (a_ tr tr) tr) (a_ (a_ (a_ tr tr) (a_ (a_ tr tr) (a_ (a_ tr tr) (a_ (a_ (a_ (parrellaw05_alive_tri  y4 e3) tr) tr) (a_ (a_ tr tr) (a_ (a_ tr (a_ (leB c5) tr)) tr)))))) (a_ (a_ (a_ tr tr) (a_ (a_ tr tr) (a_ (a_ tr tr) (a_ (a_ tr tr) (a_ (a_ (a_ (Eq.refl 4) g6) (a_ (le_take c_T_parrellaw05_Act default 4 script ((if 200 < ((script).length : Int) then 200 else ((script).length : Int))).toNat (toN_le g6.2.2)) tr)) (a_ (a_ tr tr) (a_ (a_ tr tr) tr))))))) (a_ (a_ tr (a_ (LO.Sub.var (a := [.nilsl]) (b := [.ds 3 (([] : List (T_api_Tx))).length (rowF c_T_api_Tx default ([] : List (T_api_Tx)))]) (a_ (le_nil_ds 3 (rowF c_T_api_Tx default [])) tr)) tr)) tr)))))) (parrellaw05_IdsSets_l0_ok hμ script  big _ _ _ r h) (by kernel_rfl) ⟨rfl, rfl, trivial, trivial⟩

theorem parrellaw05_IdsSets_tri (script : List (T_parrellaw05_Act)) (r : (Bool)) (h : parrellaw05_IdsSets script = some r) : FnTri Try.prog 7 [.ds 4 (script).length (rowF c_T_parrellaw05_Act default script)] [] (parrellaw05_IdsSets_v r) [] := FnTri.none (parrellaw05_IdsSets_ok script r h) rfl rfl

end
end Go.Proofs.Ytbggiflihpjocaa.Wk
