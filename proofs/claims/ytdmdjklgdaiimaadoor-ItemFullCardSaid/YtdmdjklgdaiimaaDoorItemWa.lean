/- Printed by tr.py: Go functions as Lean functions, with the proofs that they walk so. -/
import Derived.Test.YtdmdjklgdaiimaaDoorProg
import Derived.Test.YtdmdjklgdaiimaaDoorCnW
import Derived.Test.YtdmdjklgdaiimaaDoorCnZ
import Derived.WalkKit
import Derived.TacticsInMore
import Derived.RegionIn
import Derived.LoopNIn
import Derived.LoopIn
import Derived.ControlIn
namespace Go.Proofs.YtdmdjklgdaiimaaDoor.Wk
open Go Go.Cn Go.RowKit
set_option maxRecDepth 100000
set_option maxHeartbeats 4000000
set_option linter.unusedVariables false
set_option linter.unusedSimpArgs false
noncomputable section
theorem mixed : Tryd.prog.follows .mixedOrders = true := by kernel_rfl
structure T_api_Config where
  f_Epoch : Int
  f_R : Int
  f_W : Int
  f_Votes : A8 (Int)
  deriving DecidableEq, Inhabited

def c_T_api_Config (x : T_api_Config) : List LV := [.int .u32 x.f_Epoch, .int .u8 x.f_R, .int .u8 x.f_W, .int .u8 x.f_Votes.a0, .int .u8 x.f_Votes.a1, .int .u8 x.f_Votes.a2, .int .u8 x.f_Votes.a3, .int .u8 x.f_Votes.a4, .int .u8 x.f_Votes.a5, .int .u8 x.f_Votes.a6, .int .u8 x.f_Votes.a7]

def v_T_api_Config (x : T_api_Config) : LV := .agg (c_T_api_Config x)

theorem x_T_api_Config (a b : T_api_Config) : a = b ↔ a.f_Epoch = b.f_Epoch ∧ a.f_R = b.f_R ∧ a.f_W = b.f_W ∧ a.f_Votes = b.f_Votes := by
  cases a; cases b; simp

theorem k_T_api_Config (a b : T_api_Config) : eqK (v_T_api_Config a) (v_T_api_Config b) = decide (a = b) := by
  rw [Bool.eq_iff_iff, decide_eq_true_eq]
  simp only [x_T_api_Config, A8.x, v_T_api_Config, c_T_api_Config, eqK, eqCs, eqC, Bool.and_eq_true, beq_iff_eq, and_assoc, and_true]

structure T_api_Item where
  f_Version : Int
  f_Value : List UInt8
  f_Conf : T_api_Config
  deriving DecidableEq, Inhabited

def c_T_api_Item (x : T_api_Item) : List LV := [.int .u32 x.f_Version, .str x.f_Value, .int .u32 x.f_Conf.f_Epoch, .int .u8 x.f_Conf.f_R, .int .u8 x.f_Conf.f_W, .int .u8 x.f_Conf.f_Votes.a0, .int .u8 x.f_Conf.f_Votes.a1, .int .u8 x.f_Conf.f_Votes.a2, .int .u8 x.f_Conf.f_Votes.a3, .int .u8 x.f_Conf.f_Votes.a4, .int .u8 x.f_Conf.f_Votes.a5, .int .u8 x.f_Conf.f_Votes.a6, .int .u8 x.f_Conf.f_Votes.a7]

def v_T_api_Item (x : T_api_Item) : LV := .agg (c_T_api_Item x)

theorem x_T_api_Item (a b : T_api_Item) : a = b ↔ a.f_Version = b.f_Version ∧ a.f_Value = b.f_Value ∧ a.f_Conf = b.f_Conf := by
  cases a; cases b; simp

theorem k_T_api_Item (a b : T_api_Item) : eqK (v_T_api_Item a) (v_T_api_Item b) = decide (a = b) := by
  rw [Bool.eq_iff_iff, decide_eq_true_eq]
  simp only [x_T_api_Item, x_T_api_Config, A8.x, v_T_api_Item, c_T_api_Item, eqK, eqCs, eqC, Bool.and_eq_true, beq_iff_eq, and_assoc, and_true]

structure T_api_Write where
  f_Key : A8 (Int)
  f_Item : T_api_Item
  deriving DecidableEq, Inhabited

def c_T_api_Write (x : T_api_Write) : List LV := [.int .u8 x.f_Key.a0, .int .u8 x.f_Key.a1, .int .u8 x.f_Key.a2, .int .u8 x.f_Key.a3, .int .u8 x.f_Key.a4, .int .u8 x.f_Key.a5, .int .u8 x.f_Key.a6, .int .u8 x.f_Key.a7, .int .u32 x.f_Item.f_Version, .str x.f_Item.f_Value, .int .u32 x.f_Item.f_Conf.f_Epoch, .int .u8 x.f_Item.f_Conf.f_R, .int .u8 x.f_Item.f_Conf.f_W, .int .u8 x.f_Item.f_Conf.f_Votes.a0, .int .u8 x.f_Item.f_Conf.f_Votes.a1, .int .u8 x.f_Item.f_Conf.f_Votes.a2, .int .u8 x.f_Item.f_Conf.f_Votes.a3, .int .u8 x.f_Item.f_Conf.f_Votes.a4, .int .u8 x.f_Item.f_Conf.f_Votes.a5, .int .u8 x.f_Item.f_Conf.f_Votes.a6, .int .u8 x.f_Item.f_Conf.f_Votes.a7]

def v_T_api_Write (x : T_api_Write) : LV := .agg (c_T_api_Write x)

theorem x_T_api_Write (a b : T_api_Write) : a = b ↔ a.f_Key = b.f_Key ∧ a.f_Item = b.f_Item := by
  cases a; cases b; simp

theorem k_T_api_Write (a b : T_api_Write) : eqK (v_T_api_Write a) (v_T_api_Write b) = decide (a = b) := by
  rw [Bool.eq_iff_iff, decide_eq_true_eq]
  simp only [x_T_api_Write, A8.x, x_T_api_Item, x_T_api_Config, v_T_api_Write, c_T_api_Write, eqK, eqCs, eqC, Bool.and_eq_true, beq_iff_eq, and_assoc, and_true]

structure T_parrelref13_Table where
  f_L : List (T_api_Write)
  deriving DecidableEq, Inhabited

def c_T_parrelref13_Table (x : T_parrelref13_Table) : List LV := [.ds 21 (x.f_L).length (rowF c_T_api_Write default x.f_L)]

def v_T_parrelref13_Table (x : T_parrelref13_Table) : LV := .agg (c_T_parrelref13_Table x)

theorem ext82 (l : List UInt8) (c : Int) : ExtTri Tryd.prog 82 [.str l, .int .u8 c] (.int .i64 (Lib.indexByte l c.toNat.toUInt8)) := ext_indexByte Tryd.func82 (by kernel_rfl) (by kernel_rfl) (by kernel_rfl) (by kernel_rfl) l c

/-- parrel/item.New -/

def item_New_v (r : (List (A8 (Int) × T_api_Item))) : LV := .ptr 0 0 0

def item_New_up  (r : (List (A8 (Int) × T_api_Item))) : Upd := [(0, some (.var [.map 1])), (1, some (.map true [.int .u8, .int .u8, .int .u8, .int .u8, .int .u8, .int .u8, .int .u8, .int .u8] (encM (fun z_ : A8 (Int) => LV.agg [.int .u8 z_.a0, .int .u8 z_.a1, .int .u8 z_.a2, .int .u8 z_.a3, .int .u8 z_.a4, .int .u8 z_.a5, .int .u8 z_.a6, .int .u8 z_.a7]) v_T_api_Item r)))]

def item_New  : Option ((List (A8 (Int) × T_api_Item))) :=
  some ([] : List (A8 (Int) × T_api_Item))

theorem item_New_ok  (r : (List (A8 (Int) × T_api_Item))) (h : item_New  = some r) : ∀ σ, Inj 2 σ → FnTri Tryd.prog 8 (renL σ []) (preOf σ 0 []) ((item_New_v r).ren σ) (upOf σ (item_New_up  r)) := by
  refine fn_of Tryd.func8 (by kernel_rfl) (by kernel_rfl) (by kernel_rfl) trivial (by kernel_rfl) ⟨rfl, trivial, trivial⟩ (by kernel_rfl) ?_
  intro w0 W μ0 hμ
  unfold item_New at h
  obtain rfl := Option.some.inj h
  exact run_ret mixed (L := [1, 0]) (n := 15) (s := [.reg [], .reg []])
    (a_ (a_ (a_ (a_ tr tr) tr) (a_ (a_ (a_ tr tr) (a_ (a_ (Eq.refl true) tr) (a_ (a_ tr tr) (a_ (a_ tr tr) tr)))) tr)) tr) (by kernel_rfl) rfl

/-- parrel/parrellaw13.short -/

def parrellaw13_short_v (r : (List (T_api_Write))) : LV := .ds 21 (r).length (rowF c_T_api_Write default r)

def parrellaw13_short (l : List (T_api_Write)) : Option ((List (T_api_Write))) :=
  if 0 ≤ (0 : Int) ∧ 0 ≤ (if 150 < ((l).length : Int) then 150 else ((l).length : Int)) ∧ (if 150 < ((l).length : Int) then 150 else ((l).length : Int)) ≤ (((l).length : Nat) : Int) then
  some (l.take ((if 150 < ((l).length : Int) then 150 else ((l).length : Int))).toNat)
  else none

theorem parrellaw13_short_ok (l : List (T_api_Write)) (r : (List (T_api_Write))) (h : parrellaw13_short l = some r) : ∀ σ, Inj 0 σ → FnTri Tryd.prog 11 (renL σ [.ds 21 (l).length (rowF c_T_api_Write default l)]) (preOf σ 0 []) ((parrellaw13_short_v r).ren σ) (upOf σ []) := by
  refine fn_of Tryd.func11 (by kernel_rfl) (by kernel_rfl) (by kernel_rfl) trivial (by kernel_rfl) trivial (by kernel_rfl) ?_
  intro w0 W μ0 hμ
  unfold parrellaw13_short at h
  obtain ⟨g1, h⟩ := guard_some h
  obtain rfl := Option.some.inj h
  exact run_ret mixed (L := []) (n := 15) (s := [.reg [(0, { v := some (.ds 21 (([] : List (T_api_Write))).length (rowF c_T_api_Write default ([] : List (T_api_Write)))) })], .reg [(4, { v := some (.ds 21 ((l.take ((if 150 < ((l).length : Int) then 150 else ((l).length : Int))).toNat)).length (rowF c_T_api_Write default (l.take ((if 150 < ((l).length : Int) then 150 else ((l).length : Int))).toNat))) })]])
    (a_ (a_ (a_ (a_ tr (a_ (le_nil_ds 21 (rowF c_T_api_Write default [])) tr)) tr) (a_ (a_ (a_ tr tr) (a_ (a_ tr tr) (a_ (a_ tr tr) (a_ (a_ tr tr) (a_ (a_ (a_ (Eq.refl 21) g1) (a_ (le_take c_T_api_Write default 21 l ((if 150 < ((l).length : Int) then 150 else ((l).length : Int))).toNat (toN_le g1.2.2)) tr)) (a_ (a_ tr tr) tr)))))) tr)) tr) (by kernel_rfl) rfl

theorem parrellaw13_short_tri (l : List (T_api_Write)) (r : (List (T_api_Write))) (h : parrellaw13_short l = some r) : FnTri Tryd.prog 11 [.ds 21 (l).length (rowF c_T_api_Write default l)] [] (parrellaw13_short_v r) [] := FnTri.none (parrellaw13_short_ok l r h) rfl rfl

/-- parrel/parrellaw13.long -/

def parrellaw13_long_v (r : (Bool)) : LV := .bool r

def parrellaw13_long_T0 (y2 : (List (T_api_Write))) (x_n : Int) (t9 : Int) : List LV := [.any, .any, .any, .int .i64 x_n, .any, .any, .any, .ds 21 (y2).length (rowF c_T_api_Write default y2), .int .i64 ((y2).length : Int), .int .i64 t9, .any, .any, .any, .any, .any, .any, .any, .any, .any, .any, .any, .any, .any]

def parrellaw13_long_H0 (y2 : (List (T_api_Write))) (x_n : Int) (t9 : Int) : Heap := []

def parrellaw13_long_l0 (y2 : (List (T_api_Write)))  : Nat → (Int) → (Int) → Option ((Bool))
  | 0, _, _ => none
  | fuel + 1, x_n, t9 =>
    if ((decide (t9 < ((y2).length : Int))) : Bool) then
      if 0 ≤ t9 ∧ t9 < (((y2).length : Nat) : Int) then
      parrellaw13_long_l0 y2  fuel (IntKind.wrap .i64 (x_n + (if 65536 < (((y2.getD t9.toNat default).f_Item.f_Value).length : Int) then 65536 else (((y2.getD t9.toNat default).f_Item.f_Value).length : Int)))) (IntKind.wrap .i64 (t9 + 1))
      else none
    else
      some (decide (65536 < x_n))

def parrellaw13_long (l : List (T_api_Write)) : Option ((Bool)) :=
  (parrellaw13_short l).bind fun y2 =>
  parrellaw13_long_l0 y2  big 0 0

theorem parrellaw13_long_l0_ok {w0 : World} {W : Nat → Prop} {μ0 : Emb} (hμ : ∀ c p, μ0 c = some p → c < 0) (y2 : (List (T_api_Write)))  : ∀ (fuel : Nat) (x_n : Int) (t9 : Int) (r : (Bool)), parrellaw13_long_l0 y2  fuel x_n t9 = some r → kont Tryd.prog w0 W μ0 (FnPost Tryd.prog Tryd.f9 0 0 (parrellaw13_long_v r) []) (kAt (bodyOf Tryd.f9) 0) none (parrellaw13_long_T0 y2 x_n t9) (parrellaw13_long_H0 y2 x_n t9) := by
  intro fuel
  induction fuel with
  | zero => intro x_n t9 r h; rw [parrellaw13_long_l0] at h; cases h
  | succ fuel ih =>
    intro x_n t9 r h
    rw [parrellaw13_long_l0] at h
    rcases itb_some h with ⟨cL0_1, h⟩ | ⟨cL0_1, h⟩
    · skip
      obtain ⟨gL0_2, h⟩ := guard_some h
      exact run_to mixed hμ (L := []) (n := 26) (s := [.go, .reg [(0, { v := some (.bool true) })], .reg [], .reg [], .reg []])
        (a_ (a_ (a_ tr (a_ (leB cL0_1) tr)) tr) (a_ (a_ (a_ (a_ (Eq.refl 21) gL0_2) tr) (a_ (a_ (le_ 21 21 rfl) tr) (a_ (a_ tr tr) (a_ (a_ (a_ (Eq.refl 21) (a_ (le_ 21 21 rfl) (Eq.refl 0))) tr) tr)))) (a_ (a_ (a_ tr tr) (a_ (a_ tr tr) (a_ (a_ tr tr) (a_ (a_ (a_ tr (lt_ 9 21 rfl)) tr) (a_ (a_ tr tr) (a_ (a_ tr tr) (a_ (a_ tr tr) (a_ (a_ tr tr) tr)))))))) (a_ (a_ (a_ tr tr) (a_ (a_ tr tr) tr)) tr)))) (ih _ _ r h) (by kernel_rfl) trivial
    · skip
      obtain rfl := Option.some.inj h
      exact run_ret mixed (L := []) (n := 19) (s := [.go, .reg [(0, { v := some (.bool false) })], .reg []])
        (a_ (a_ (a_ (a_ tr (a_ (leB cL0_1) tr)) tr) (a_ (a_ (a_ tr tr) (a_ (a_ tr tr) (a_ (a_ tr tr) tr))) tr)) tr) (by kernel_rfl) rfl

theorem parrellaw13_long_ok (l : List (T_api_Write)) (r : (Bool)) (h : parrellaw13_long l = some r) : ∀ σ, Inj 0 σ → FnTri Tryd.prog 9 (renL σ [.ds 21 (l).length (rowF c_T_api_Write default l)]) (preOf σ 0 []) ((parrellaw13_long_v r).ren σ) (upOf σ []) := by
  refine fn_of Tryd.func9 (by kernel_rfl) (by kernel_rfl) (by kernel_rfl) trivial (by kernel_rfl) trivial (by kernel_rfl) ?_
  intro w0 W μ0 hμ
  unfold parrellaw13_long at h
  obtain ⟨y2, e1, h⟩ := bind_some h
  exact run_to mixed hμ (L := []) (n := 21) (s := [.reg [], .reg [], .reg [(1, { call := some (parrellaw13_short_v y2, [], []) })]])
    (a_ (a_ (a_ tr tr) tr) (a_ (a_ (a_ tr tr) tr) (a_ (a_ (a_ tr tr) (a_ (a_ (a_ (parrellaw13_short_tri l y2 e1) tr) tr) (a_ (a_ tr tr) (a_ (a_ tr tr) tr)))) tr))) (parrellaw13_long_l0_ok hμ y2  big _ _ r h) (by kernel_rfl) trivial

theorem parrellaw13_long_tri (l : List (T_api_Write)) (r : (Bool)) (h : parrellaw13_long l = some r) : FnTri Tryd.prog 9 [.ds 21 (l).length (rowF c_T_api_Write default l)] [] (parrellaw13_long_v r) [] := FnTri.none (parrellaw13_long_ok l r h) rfl rfl

/-- parrel/parrellaw13.one -/

def parrellaw13_one_v (r : (T_api_Item)) : LV := v_T_api_Item r

def parrellaw13_one (x_n : Int) (s : List UInt8) : Option ((T_api_Item)) :=
  some (T_api_Item.mk x_n s (T_api_Config.mk 1 1 1 (A8.mk 1 0 0 0 0 0 0 0)))

theorem parrellaw13_one_ok (x_n : Int) (s : List UInt8) (r : (T_api_Item)) (h : parrellaw13_one x_n s = some r) : ∀ σ, Inj 0 σ → FnTri Tryd.prog 19 (renL σ [.int .u32 x_n, .str s]) (preOf σ 0 []) ((parrellaw13_one_v r).ren σ) (upOf σ []) := by
  refine fn_of Tryd.func19 (by kernel_rfl) (by kernel_rfl) (by kernel_rfl) trivial (by kernel_rfl) trivial (by kernel_rfl) ?_
  intro w0 W μ0 hμ
  unfold parrellaw13_one at h
  obtain rfl := Option.some.inj h
  exact run_ret mixed (L := []) (n := 15) (s := [.reg [], .reg []])
    (a_ (a_ (a_ (a_ tr tr) tr) (a_ (a_ (a_ tr tr) (a_ (a_ tr tr) (a_ (a_ (Eq.refl true) tr) (a_ (a_ (Eq.refl true) tr) (a_ (a_ (Eq.refl true) tr) (a_ (a_ (a_ (Eq.refl 13) (a_ (le_ 13 13 rfl) (Eq.refl 0))) tr) tr)))))) tr)) (a_ (a_ tr (le_ 13 13 rfl)) tr)) (by kernel_rfl) rfl

theorem parrellaw13_one_tri (x_n : Int) (s : List UInt8) (r : (T_api_Item)) (h : parrellaw13_one x_n s = some r) : FnTri Tryd.prog 19 [.int .u32 x_n, .str s] [] (parrellaw13_one_v r) [] := FnTri.none (parrellaw13_one_ok x_n s r h) rfl rfl

/-- (*parrel/item.Table).ok -/

def item_Table_ok_v (r : Unit) : LV := .bool true

def item_Table_ok_up (m : List (A8 (Int) × T_api_Item)) (r : Unit) : Upd := [(0, some (.var [.map 1])), (1, some (.map true [.int .u8, .int .u8, .int .u8, .int .u8, .int .u8, .int .u8, .int .u8, .int .u8] (encM (fun z_ : A8 (Int) => LV.agg [.int .u8 z_.a0, .int .u8 z_.a1, .int .u8 z_.a2, .int .u8 z_.a3, .int .u8 z_.a4, .int .u8 z_.a5, .int .u8 z_.a6, .int .u8 z_.a7]) v_T_api_Item m)))]

def item_Table_ok_objs (m : List (A8 (Int) × T_api_Item)) : List LO := [.var [.map 1], .map true [.int .u8, .int .u8, .int .u8, .int .u8, .int .u8, .int .u8, .int .u8, .int .u8] (encM (fun z_ : A8 (Int) => LV.agg [.int .u8 z_.a0, .int .u8 z_.a1, .int .u8 z_.a2, .int .u8 z_.a3, .int .u8 z_.a4, .int .u8 z_.a5, .int .u8 z_.a6, .int .u8 z_.a7]) v_T_api_Item m)]

def item_Table_ok (m : List (A8 (Int) × T_api_Item)) : Option (Unit) :=
  some ()

theorem item_Table_ok_ok (m : List (A8 (Int) × T_api_Item)) (r : Unit) (h : item_Table_ok m = some r) : ∀ σ, Inj 2 σ → FnTri Tryd.prog 24 (renL σ [.ptr 0 0 0]) (preOf σ 0 (item_Table_ok_objs m)) ((item_Table_ok_v r).ren σ) (upOf σ (item_Table_ok_up m r)) := by
  refine fn_of Tryd.func24 (by kernel_rfl) (by kernel_rfl) (by kernel_rfl) ⟨rfl, trivial, trivial⟩ (by kernel_rfl) ⟨rfl, trivial, trivial⟩ (by kernel_rfl) ?_
  intro w0 W μ0 hμ
  unfold item_Table_ok at h
  obtain rfl := Option.some.inj h
  exact run_ret mixed (L := []) (n := 15) (s := [.reg [], .reg []])
    (a_ (a_ (a_ (a_ tr tr) tr) (a_ (a_ (a_ tr tr) (a_ (a_ tr tr) (a_ (a_ tr tr) (a_ (a_ tr tr) (a_ (a_ tr tr) (a_ (a_ tr tr) (a_ (a_ (a_ tr (lt_ 0 1 rfl)) tr) (a_ (a_ tr tr) (a_ (a_ tr tr) (a_ (a_ tr tr) tr)))))))))) tr)) tr) (by kernel_rfl) rfl

/-- (*parrel/item.Table).Get -/

def item_Table_Get_v (r : (T_api_Item) × (Bool)) : LV := .tup [v_T_api_Item r.1, .bool r.2]

def item_Table_Get_up (m : List (A8 (Int) × T_api_Item)) (x_k : A8 (Int)) (r : (T_api_Item) × (Bool)) : Upd := [(0, some (.var [.map 1])), (1, some (.map true [.int .u8, .int .u8, .int .u8, .int .u8, .int .u8, .int .u8, .int .u8, .int .u8] (encM (fun z_ : A8 (Int) => LV.agg [.int .u8 z_.a0, .int .u8 z_.a1, .int .u8 z_.a2, .int .u8 z_.a3, .int .u8 z_.a4, .int .u8 z_.a5, .int .u8 z_.a6, .int .u8 z_.a7]) v_T_api_Item m)))]

def item_Table_Get_objs (m : List (A8 (Int) × T_api_Item)) (x_k : A8 (Int)) : List LO := [.var [.map 1], .map true [.int .u8, .int .u8, .int .u8, .int .u8, .int .u8, .int .u8, .int .u8, .int .u8] (encM (fun z_ : A8 (Int) => LV.agg [.int .u8 z_.a0, .int .u8 z_.a1, .int .u8 z_.a2, .int .u8 z_.a3, .int .u8 z_.a4, .int .u8 z_.a5, .int .u8 z_.a6, .int .u8 z_.a7]) v_T_api_Item m)]

def item_Table_Get (m : List (A8 (Int) × T_api_Item)) (x_k : A8 (Int)) : Option ((T_api_Item) × (Bool)) :=
  (item_Table_ok m).bind fun y2 =>
  some (((mget m x_k).getD default), ((mget m x_k).isSome))

theorem item_Table_Get_ok (m : List (A8 (Int) × T_api_Item)) (x_k : A8 (Int)) (r : (T_api_Item) × (Bool)) (h : item_Table_Get m x_k = some r) : ∀ σ, Inj 2 σ → FnTri Tryd.prog 17 (renL σ [.ptr 0 0 0, .agg [.int .u8 x_k.a0, .int .u8 x_k.a1, .int .u8 x_k.a2, .int .u8 x_k.a3, .int .u8 x_k.a4, .int .u8 x_k.a5, .int .u8 x_k.a6, .int .u8 x_k.a7]]) (preOf σ 0 (item_Table_Get_objs m x_k)) ((item_Table_Get_v r).ren σ) (upOf σ (item_Table_Get_up m x_k r)) := by
  refine fn_of Tryd.func17 (by kernel_rfl) (by kernel_rfl) (by kernel_rfl) ⟨rfl, trivial, trivial⟩ (by kernel_rfl) ⟨rfl, trivial, trivial⟩ (by kernel_rfl) ?_
  intro w0 W μ0 hμ
  unfold item_Table_Get at h
  obtain ⟨y2, e1, h⟩ := bind_some h
  obtain rfl := Option.some.inj h
  exact run_ret mixed (L := []) (n := 24) (s := [.reg [], .reg [(1, { call := some ((item_Table_ok_v y2).ren (sel [0, 1]), preOf (sel [0, 1]) 0 (item_Table_ok_objs m), upOf (sel [0, 1]) (item_Table_ok_up m y2)) })], .reg [(5, { look := ((mget m x_k).map v_T_api_Item), v := some (.tup [v_T_api_Item ((mget m x_k).getD default), .bool ((mget m x_k).isSome)]) })], .reg []])
    (a_ (a_ (a_ (a_ tr tr) (a_ (a_ tr tr) (a_ (a_ tr tr) tr))) (a_ (a_ (a_ tr tr) (a_ (a_ (a_ (item_Table_ok_ok m y2 e1 (sel [0, 1]) (sel_inj rfl rfl)) (a_ (LO.Le.refl (.var [.map 1])) (a_ (LO.Le.refl (.map true [.int .u8, .int .u8, .int .u8, .int .u8, .int .u8, .int .u8, .int .u8, .int .u8] (encM (fun z_ : A8 (Int) => LV.agg [.int .u8 z_.a0, .int .u8 z_.a1, .int .u8 z_.a2, .int .u8 z_.a3, .int .u8 z_.a4, .int .u8 z_.a5, .int .u8 z_.a6, .int .u8 z_.a7]) v_T_api_Item m))) tr))) tr) (a_ (a_ tr tr) tr))) (a_ (a_ (a_ tr tr) (a_ (a_ tr tr) (a_ (a_ tr tr) (a_ (a_ (a_ tr (lt_ 0 1 rfl)) tr) (a_ (a_ (a_ tr (le_ 8 8 rfl)) tr) (a_ (a_ (a_ (Eq.refl true) (findE_enc (fun z_ : A8 (Int) => LV.agg [.int .u8 z_.a0, .int .u8 z_.a1, .int .u8 z_.a2, .int .u8 z_.a3, .int .u8 z_.a4, .int .u8 z_.a5, .int .u8 z_.a6, .int .u8 z_.a7]) v_T_api_Item (k_arr8 .u8) m x_k)) (a_ (le_lookok v_T_api_Item (mget m x_k) default) tr)) (a_ (a_ tr tr) (a_ (a_ tr tr) (a_ (a_ tr tr) (a_ (a_ tr tr) (a_ (a_ (a_ (Eq.refl 13) (a_ (le_ 13 13 rfl) (Eq.refl 0))) tr) (a_ (a_ tr tr) tr)))))))))))) (a_ (a_ (a_ (a_ tr (le_ 13 13 rfl)) tr) (a_ (a_ tr tr) (a_ (a_ (a_ (Eq.refl 13) (a_ (le_ 13 13 rfl) (Eq.refl 0))) tr) (a_ (a_ tr tr) tr)))) tr)))) (a_ (a_ tr (le_ 13 13 rfl)) tr)) (by kernel_rfl) rfl

/-- strings.trimRightByte -/

def strings_trimRightByte_v (r : (List UInt8)) : LV := .str r

def strings_trimRightByte_T0 (c : Int) (s2 : List UInt8) : List LV := [.str s2, .int .u8 c, .any, .any, .any, .any, .any, .any, .any, .any, .any, .any, .any, .any, .any, .any, .any, .any, .any, .any, .any, .any, .any]

def strings_trimRightByte_H0 (c : Int) (s2 : List UInt8) : Heap := []

def strings_trimRightByte_l0 (c : Int)  : Nat → (List UInt8) → Option ((List UInt8))
  | 0, _ => none
  | fuel + 1, s2 =>
    if ((decide (0 < ((s2).length : Int))) : Bool) then
      if 0 ≤ (IntKind.wrap .i64 (((s2).length : Int) - 1)) ∧ (IntKind.wrap .i64 (((s2).length : Int) - 1)) < (((s2).length : Nat) : Int) then
      if ((((s2.getD ((IntKind.wrap .i64 (((s2).length : Int) - 1))).toNat 0).toNat : Int) == c) : Bool) then
        if 0 ≤ (0 : Int) ∧ (0 : Int) ≤ (IntKind.wrap .i64 (((s2).length : Int) - 1)) ∧ (IntKind.wrap .i64 (((s2).length : Int) - 1)) ≤ (((s2).length : Nat) : Int) then
        strings_trimRightByte_l0 c  fuel ((s2.drop 0).take (((IntKind.wrap .i64 (((s2).length : Int) - 1))).toNat - 0))
        else none
      else
        some s2
      else none
    else
      some s2

def strings_trimRightByte (s : List UInt8) (c : Int) : Option ((List UInt8)) :=
  strings_trimRightByte_l0 c  big s

theorem strings_trimRightByte_l0_ok {w0 : World} {W : Nat → Prop} {μ0 : Emb} (hμ : ∀ c p, μ0 c = some p → c < 0) (c : Int)  : ∀ (fuel : Nat) (s2 : List UInt8) (r : (List UInt8)), strings_trimRightByte_l0 c  fuel s2 = some r → kont Tryd.prog w0 W μ0 (FnPost Tryd.prog Tryd.f50 0 0 (strings_trimRightByte_v r) []) (kAt (bodyOf Tryd.f50) 0) none (strings_trimRightByte_T0 c s2) (strings_trimRightByte_H0 c s2) := by
  intro fuel
  induction fuel with
  | zero => intro s2 r h; rw [strings_trimRightByte_l0] at h; cases h
  | succ fuel ih =>
    intro s2 r h
    rw [strings_trimRightByte_l0] at h
    rcases itb_some h with ⟨cL0_1, h⟩ | ⟨cL0_1, h⟩
    · skip
      obtain ⟨gL0_2, h⟩ := guard_some h
      rcases itb_some h with ⟨cL0_3, h⟩ | ⟨cL0_3, h⟩
      · skip
        obtain ⟨gL0_4, h⟩ := guard_some h
        exact run_to mixed hμ (L := []) (n := 20) (s := [.go, .reg [(3, { v := some (.bool true) }), (11, { v := some (.bool true) })], .reg []])
          (a_ (a_ (a_ tr tr) (a_ (a_ tr tr) (a_ (a_ tr tr) (a_ (a_ tr (a_ (leB cL0_1) tr)) (a_ (a_ tr tr) (a_ (a_ tr tr) (a_ (a_ tr tr) (a_ (a_ tr tr) (a_ (a_ gL0_2 tr) (a_ (a_ tr tr) (a_ (a_ tr tr) (a_ (a_ tr (a_ (leB cL0_3) tr)) tr)))))))))))) (a_ (a_ (a_ tr tr) (a_ (a_ tr tr) (a_ (a_ tr tr) (a_ (a_ tr tr) (a_ (a_ gL0_4 tr) (a_ (a_ tr tr) tr)))))) tr)) (ih _ r h) (by kernel_rfl) trivial
      · skip
        obtain rfl := Option.some.inj h
        exact run_ret mixed (L := []) (n := 19) (s := [.go, .reg [(3, { v := some (.bool true) }), (11, { v := some (.bool false) })], .reg []])
          (a_ (a_ (a_ (a_ tr tr) (a_ (a_ tr tr) (a_ (a_ tr tr) (a_ (a_ tr (a_ (leB cL0_1) tr)) (a_ (a_ tr tr) (a_ (a_ tr tr) (a_ (a_ tr tr) (a_ (a_ tr tr) (a_ (a_ gL0_2 tr) (a_ (a_ tr tr) (a_ (a_ tr tr) (a_ (a_ tr (a_ (leB cL0_3) tr)) tr)))))))))))) (a_ (a_ (a_ tr tr) (a_ (a_ tr tr) tr)) tr)) tr) (by kernel_rfl) rfl
    · skip
      obtain rfl := Option.some.inj h
      exact run_ret mixed (L := []) (n := 19) (s := [.go, .reg [(3, { v := some (.bool false) })], .reg []])
        (a_ (a_ (a_ (a_ tr tr) (a_ (a_ tr tr) (a_ (a_ tr tr) (a_ (a_ tr (a_ (leB cL0_1) tr)) (a_ tr (a_ tr (a_ tr (a_ tr (a_ tr (a_ tr (a_ tr (a_ (a_ tr tr) tr)))))))))))) (a_ (a_ (a_ tr tr) (a_ (a_ tr tr) tr)) tr)) tr) (by kernel_rfl) rfl

theorem strings_trimRightByte_ok (s : List UInt8) (c : Int) (r : (List UInt8)) (h : strings_trimRightByte s c = some r) : ∀ σ, Inj 0 σ → FnTri Tryd.prog 50 (renL σ [.str s, .int .u8 c]) (preOf σ 0 []) ((strings_trimRightByte_v r).ren σ) (upOf σ []) := by
  refine fn_of Tryd.func50 (by kernel_rfl) (by kernel_rfl) (by kernel_rfl) trivial (by kernel_rfl) trivial (by kernel_rfl) ?_
  intro w0 W μ0 hμ
  unfold strings_trimRightByte at h
  exact run_to mixed hμ (L := []) (n := 15) (s := [.reg []])
    (a_ (a_ (a_ tr tr) tr) tr) (strings_trimRightByte_l0_ok hμ c  big _ r h) (by kernel_rfl) trivial

theorem strings_trimRightByte_tri (s : List UInt8) (c : Int) (r : (List UInt8)) (h : strings_trimRightByte s c = some r) : FnTri Tryd.prog 50 [.str s, .int .u8 c] [] (strings_trimRightByte_v r) [] := FnTri.none (strings_trimRightByte_ok s c r h) rfl rfl

/-- strings.TrimRight -/

def strings_TrimRight_v (r : (List UInt8)) : LV := .str r

def strings_TrimRight (s : List UInt8) : Option ((List UInt8)) :=
  if ((s == []) : Bool) then
    some s
  else
    (strings_trimRightByte s 0).bind fun y3 =>
    some y3

theorem strings_TrimRight_ok (s : List UInt8) (r : (List UInt8)) (h : strings_TrimRight s = some r) : ∀ σ, Inj 0 σ → FnTri Tryd.prog 41 (renL σ [.str s, .str ([0] : List UInt8)]) (preOf σ 0 []) ((strings_TrimRight_v r).ren σ) (upOf σ []) := by
  refine fn_of Tryd.func41 (by kernel_rfl) (by kernel_rfl) (by kernel_rfl) trivial (by kernel_rfl) trivial (by kernel_rfl) ?_
  intro w0 W μ0 hμ
  unfold strings_TrimRight at h
  rcases itb_some h with ⟨c1, h⟩ | ⟨c1, h⟩
  · skip
    obtain rfl := Option.some.inj h
    exact run_ret mixed (L := []) (n := 20) (s := [.reg [], .reg [(2, { v := some (.bool true) })], .reg []])
      (a_ (a_ (a_ (a_ tr tr) tr) (a_ (a_ (a_ tr tr) (a_ (a_ tr tr) (a_ (a_ tr (a_ (leB c1) tr)) (a_ tr (a_ tr (a_ (a_ tr tr) tr)))))) (a_ (a_ (a_ tr tr) (a_ (a_ tr tr) tr)) tr))) tr) (by kernel_rfl) rfl
  · skip
    obtain ⟨y3, e2, h⟩ := bind_some h
    obtain rfl := Option.some.inj h
    exact run_ret mixed (L := []) (n := 26) (s := [.reg [], .reg [(2, { v := some (.bool false) })], .reg [], .reg [(3, { call := some (strings_trimRightByte_v y3, [], []) })]])
      (a_ (a_ (a_ (a_ tr tr) tr) (a_ (a_ (a_ tr tr) (a_ (a_ tr tr) (a_ (a_ tr (a_ (leB c1) tr)) (a_ (a_ tr tr) (a_ (a_ tr tr) (a_ (a_ tr tr) tr)))))) (a_ (a_ (a_ tr tr) (a_ (a_ tr tr) (a_ (a_ tr tr) (a_ (a_ tr tr) (a_ (a_ tr tr) (a_ (a_ (a_ (lei_ 0 0 rfl) (lti_ 0 1 rfl)) tr) (a_ (a_ tr tr) (a_ (a_ tr tr) tr)))))))) (a_ (a_ (a_ tr tr) (a_ (a_ tr tr) (a_ (a_ (a_ (lei_ 0 0 rfl) (lti_ 0 1 rfl)) tr) (a_ (a_ (a_ (strings_trimRightByte_tri s 0 y3 e2) tr) tr) (a_ (a_ tr tr) tr))))) tr)))) tr) (by kernel_rfl) rfl

theorem strings_TrimRight_tri (s : List UInt8) (r : (List UInt8)) (h : strings_TrimRight s = some r) : FnTri Tryd.prog 41 [.str s, .str ([0] : List UInt8)] [] (strings_TrimRight_v r) [] := FnTri.none (strings_TrimRight_ok s r h) rfl rfl

/-- internal/stringslite.IndexByte -/

def internal_stringslite_IndexByte_v (r : (Int)) : LV := .int .i64 r

def internal_stringslite_IndexByte (s : List UInt8) (c : Int) : Option ((Int)) :=
  some (Lib.indexByte s (c).toNat.toUInt8)

theorem internal_stringslite_IndexByte_ok (s : List UInt8) (c : Int) (r : (Int)) (h : internal_stringslite_IndexByte s c = some r) : ∀ σ, Inj 0 σ → FnTri Tryd.prog 72 (renL σ [.str s, .int .u8 c]) (preOf σ 0 []) ((internal_stringslite_IndexByte_v r).ren σ) (upOf σ []) := by
  refine fn_of Tryd.func72 (by kernel_rfl) (by kernel_rfl) (by kernel_rfl) trivial (by kernel_rfl) trivial (by kernel_rfl) ?_
  intro w0 W μ0 hμ
  unfold internal_stringslite_IndexByte at h
  obtain rfl := Option.some.inj h
  exact run_ret mixed (L := []) (n := 15) (s := [.reg [], .reg [(2, { ext := some (.int .i64 (Lib.indexByte s (c).toNat.toUInt8)) })]])
    (a_ (a_ (a_ (a_ tr tr) tr) (a_ (a_ (a_ tr tr) (a_ (a_ tr tr) (a_ (a_ (ext82 s c) tr) (a_ (a_ tr tr) tr)))) tr)) tr) (by kernel_rfl) rfl

theorem internal_stringslite_IndexByte_tri (s : List UInt8) (c : Int) (r : (Int)) (h : internal_stringslite_IndexByte s c = some r) : FnTri Tryd.prog 72 [.str s, .int .u8 c] [] (internal_stringslite_IndexByte_v r) [] := FnTri.none (internal_stringslite_IndexByte_ok s c r h) rfl rfl

/-- strings.IndexByte -/

def strings_IndexByte_v (r : (Int)) : LV := .int .i64 r

def strings_IndexByte (s : List UInt8) (c : Int) : Option ((Int)) :=
  (internal_stringslite_IndexByte s c).bind fun y2 =>
  some y2

theorem strings_IndexByte_ok (s : List UInt8) (c : Int) (r : (Int)) (h : strings_IndexByte s c = some r) : ∀ σ, Inj 0 σ → FnTri Tryd.prog 54 (renL σ [.str s, .int .u8 c]) (preOf σ 0 []) ((strings_IndexByte_v r).ren σ) (upOf σ []) := by
  refine fn_of Tryd.func54 (by kernel_rfl) (by kernel_rfl) (by kernel_rfl) trivial (by kernel_rfl) trivial (by kernel_rfl) ?_
  intro w0 W μ0 hμ
  unfold strings_IndexByte at h
  obtain ⟨y2, e1, h⟩ := bind_some h
  obtain rfl := Option.some.inj h
  exact run_ret mixed (L := []) (n := 15) (s := [.reg [], .reg [(2, { call := some (internal_stringslite_IndexByte_v y2, [], []) })]])
    (a_ (a_ (a_ (a_ tr tr) tr) (a_ (a_ (a_ tr tr) (a_ (a_ tr tr) (a_ (a_ (a_ (internal_stringslite_IndexByte_tri s c y2 e1) tr) tr) (a_ (a_ tr tr) tr)))) tr)) tr) (by kernel_rfl) rfl

theorem strings_IndexByte_tri (s : List UInt8) (c : Int) (r : (Int)) (h : strings_IndexByte s c = some r) : FnTri Tryd.prog 54 [.str s, .int .u8 c] [] (strings_IndexByte_v r) [] := FnTri.none (strings_IndexByte_ok s c r h) rfl rfl

/-- parrel/ids.KeyOf -/

def ids_KeyOf_v (r : (A8 (Int)) × (Int)) : LV := .tup [.agg [.int .u8 r.1.a0, .int .u8 r.1.a1, .int .u8 r.1.a2, .int .u8 r.1.a3, .int .u8 r.1.a4, .int .u8 r.1.a5, .int .u8 r.1.a6, .int .u8 r.1.a7], .int .i64 r.2]

def ids_KeyOf (s : List UInt8) : Option ((A8 (Int)) × (Int)) :=
  if ((s == []) : Bool) then
    some ((A8.mk 0 0 0 0 0 0 0 0), 1)
  else
    if ((decide (8 < ((s).length : Int))) : Bool) then
      some ((A8.mk 0 0 0 0 0 0 0 0), 1)
    else
      (strings_IndexByte s 0).bind fun y4 =>
      if ((decide (0 ≤ y4)) : Bool) then
        some ((A8.mk 0 0 0 0 0 0 0 0), 1)
      else
        some ((A8.mk (if 0 < (s).length then ((s.getD 0 0).toNat : Int) else 0) (if 1 < (s).length then ((s.getD 1 0).toNat : Int) else 0) (if 2 < (s).length then ((s.getD 2 0).toNat : Int) else 0) (if 3 < (s).length then ((s.getD 3 0).toNat : Int) else 0) (if 4 < (s).length then ((s.getD 4 0).toNat : Int) else 0) (if 5 < (s).length then ((s.getD 5 0).toNat : Int) else 0) (if 6 < (s).length then ((s.getD 6 0).toNat : Int) else 0) (if 7 < (s).length then ((s.getD 7 0).toNat : Int) else 0)), 0)

theorem ids_KeyOf_ok (s : List UInt8) (r : (A8 (Int)) × (Int)) (h : ids_KeyOf s = some r) : ∀ σ, Inj 0 σ → FnTri Tryd.prog 42 (renL σ [.str s]) (preOf σ 0 []) ((ids_KeyOf_v r).ren σ) (upOf σ []) := by
  refine fn_of Tryd.func42 (by kernel_rfl) (by kernel_rfl) (by kernel_rfl) trivial (by kernel_rfl) trivial (by kernel_rfl) ?_
  intro w0 W μ0 hμ
  unfold ids_KeyOf at h
  rcases itb_some h with ⟨c1, h⟩ | ⟨c1, h⟩
  · skip
    obtain rfl := Option.some.inj h
    exact run_ret mixed (L := []) (n := 23) (s := [.reg [], .reg [], .reg [(2, { v := some (.bool true) })], .reg []])
      (a_ (a_ (a_ (a_ tr tr) (a_ (a_ tr tr) tr)) (a_ (a_ (a_ tr tr) tr) (a_ (a_ (a_ tr tr) (a_ (a_ tr tr) (a_ (a_ tr (a_ (leB c1) tr)) (a_ tr (a_ tr (a_ tr (a_ (a_ tr tr) (a_ (a_ tr tr) (a_ tr (a_ tr (a_ tr (a_ (a_ tr tr) tr)))))))))))) (a_ (a_ (a_ (a_ tr (le_ 8 8 rfl)) tr) (a_ (a_ (a_ (Eq.refl 8) (a_ (le_ 8 8 rfl) (Eq.refl 0))) tr) (a_ (a_ tr tr) tr))) tr)))) (a_ (a_ tr (le_ 8 8 rfl)) tr)) (by kernel_rfl) rfl
  · skip
    rcases itb_some h with ⟨c2, h⟩ | ⟨c2, h⟩
    · skip
      obtain rfl := Option.some.inj h
      exact run_ret mixed (L := []) (n := 23) (s := [.reg [], .reg [], .reg [(2, { v := some (.bool false) }), (7, { v := some (.bool true) })], .reg []])
        (a_ (a_ (a_ (a_ tr tr) (a_ (a_ tr tr) tr)) (a_ (a_ (a_ tr tr) tr) (a_ (a_ (a_ tr tr) (a_ (a_ tr tr) (a_ (a_ tr (a_ (leB c1) tr)) (a_ (a_ tr tr) (a_ (a_ tr tr) (a_ (a_ tr tr) (a_ (a_ tr tr) (a_ (a_ tr (a_ (leB c2) tr)) (a_ tr (a_ tr (a_ tr (a_ (a_ tr tr) tr)))))))))))) (a_ (a_ (a_ (a_ tr (le_ 8 8 rfl)) tr) (a_ (a_ (a_ (Eq.refl 8) (a_ (le_ 8 8 rfl) (Eq.refl 0))) tr) (a_ (a_ tr tr) tr))) tr)))) (a_ (a_ tr (le_ 8 8 rfl)) tr)) (by kernel_rfl) rfl
    · skip
      obtain ⟨y4, e3, h⟩ := bind_some h
      rcases itb_some h with ⟨c5, h⟩ | ⟨c5, h⟩
      · skip
        obtain rfl := Option.some.inj h
        exact run_ret mixed (L := []) (n := 23) (s := [.reg [], .reg [], .reg [(2, { v := some (.bool false) }), (7, { v := some (.bool false) }), (9, { call := some (strings_IndexByte_v y4, [], []) }), (11, { v := some (.bool true) })], .reg []])
          (a_ (a_ (a_ (a_ tr tr) (a_ (a_ tr tr) tr)) (a_ (a_ (a_ tr tr) tr) (a_ (a_ (a_ tr tr) (a_ (a_ tr tr) (a_ (a_ tr (a_ (leB c1) tr)) (a_ (a_ tr tr) (a_ (a_ tr tr) (a_ (a_ tr tr) (a_ (a_ tr tr) (a_ (a_ tr (a_ (leB c2) tr)) (a_ (a_ tr tr) (a_ (a_ (a_ (strings_IndexByte_tri s 0 y4 e3) tr) tr) (a_ (a_ tr tr) (a_ (a_ tr (a_ (leB c5) tr)) tr)))))))))))) (a_ (a_ (a_ (a_ tr (le_ 8 8 rfl)) tr) (a_ (a_ (a_ (Eq.refl 8) (a_ (le_ 8 8 rfl) (Eq.refl 0))) tr) (a_ (a_ tr tr) tr))) tr)))) (a_ (a_ tr (le_ 8 8 rfl)) tr)) (by kernel_rfl) rfl
      · skip
        obtain rfl := Option.some.inj h
        exact run_ret mixed (L := []) (n := 27) (s := [.reg [], .reg [], .reg [(2, { v := some (.bool false) }), (7, { v := some (.bool false) }), (9, { call := some (strings_IndexByte_v y4, [], []) }), (11, { v := some (.bool false) })], .reg [], .reg []])
          (a_ (a_ (a_ (a_ tr tr) (a_ (a_ tr tr) tr)) (a_ (a_ (a_ tr tr) tr) (a_ (a_ (a_ tr tr) (a_ (a_ tr tr) (a_ (a_ tr (a_ (leB c1) tr)) (a_ (a_ tr tr) (a_ (a_ tr tr) (a_ (a_ tr tr) (a_ (a_ tr tr) (a_ (a_ tr (a_ (leB c2) tr)) (a_ (a_ tr tr) (a_ (a_ (a_ (strings_IndexByte_tri s 0 y4 e3) tr) tr) (a_ (a_ tr tr) (a_ (a_ tr (a_ (leB c5) tr)) tr)))))))))))) (a_ (a_ (a_ (a_ (lei_ 0 0 rfl) (a_ (lei_ 0 8 rfl) (lei_ 8 8 rfl))) tr) (a_ (a_ tr tr) (a_ (a_ (a_ (Eq.refl 1) (a_ (Eq.refl 0) (a_ (le_ 8 8 rfl) (Eq.refl true)))) tr) tr))) (a_ (a_ (a_ (a_ tr (le_ 8 8 rfl)) tr) (a_ (a_ (a_ (Eq.refl 8) (a_ (le_ 8 8 rfl) (Eq.refl 0))) tr) (a_ (a_ tr tr) tr))) tr))))) (a_ (a_ tr (le_ 8 8 rfl)) tr)) (by kernel_rfl) rfl

theorem ids_KeyOf_tri (s : List UInt8) (r : (A8 (Int)) × (Int)) (h : ids_KeyOf s = some r) : FnTri Tryd.prog 42 [.str s] [] (ids_KeyOf_v r) [] := FnTri.none (ids_KeyOf_ok s r h) rfl rfl

/-- parrel/ids.Name -/

def ids_Name_v (r : (List UInt8) × (Bool)) : LV := .tup [.str r.1, .bool r.2]

def ids_Name (x_k : A8 (Int)) : Option ((List UInt8) × (Bool)) :=
  (strings_TrimRight (strI (([x_k.a0, x_k.a1, x_k.a2, x_k.a3, x_k.a4, x_k.a5, x_k.a6, x_k.a7] : List Int).take 8))).bind fun y2 =>
  (ids_KeyOf y2).bind fun y4 =>
  if ((y4.2 != 0) : Bool) then
    some ([], false)
  else
    if ((!decide (y4.1 = x_k)) : Bool) then
      some ([], false)
    else
      some (y2, true)

theorem ids_Name_ok (x_k : A8 (Int)) (r : (List UInt8) × (Bool)) (h : ids_Name x_k = some r) : ∀ σ, Inj 0 σ → FnTri Tryd.prog 32 (renL σ [.agg [.int .u8 x_k.a0, .int .u8 x_k.a1, .int .u8 x_k.a2, .int .u8 x_k.a3, .int .u8 x_k.a4, .int .u8 x_k.a5, .int .u8 x_k.a6, .int .u8 x_k.a7]]) (preOf σ 0 []) ((ids_Name_v r).ren σ) (upOf σ []) := by
  refine fn_of Tryd.func32 (by kernel_rfl) (by kernel_rfl) (by kernel_rfl) trivial (by kernel_rfl) trivial (by kernel_rfl) ?_
  intro w0 W μ0 hμ
  unfold ids_Name at h
  obtain ⟨y2, e1, h⟩ := bind_some h
  obtain ⟨y4, e3, h⟩ := bind_some h
  rcases itb_some h with ⟨c5, h⟩ | ⟨c5, h⟩
  · skip
    obtain rfl := Option.some.inj h
    exact run_ret mixed (L := []) (n := 26) (s := [.reg [], .reg [(1, { v := some (.str (strI (([x_k.a0, x_k.a1, x_k.a2, x_k.a3, x_k.a4, x_k.a5, x_k.a6, x_k.a7] : List Int).take 8))) }), (2, { call := some (strings_TrimRight_v y2, [], []) })], .reg [(1, { call := some (ids_KeyOf_v y4, [], []) })], .reg [(2, { v := some (.bool true) })], .reg []])
      (a_ (a_ (a_ (a_ tr tr) (a_ (a_ tr tr) (a_ (a_ tr tr) tr))) (a_ (a_ (a_ (a_ (lei_ 0 0 rfl) (a_ (lei_ 0 8 rfl) (lei_ 8 8 rfl))) tr) (a_ (a_ (arr_ob [x_k.a0, x_k.a1, x_k.a2, x_k.a3, x_k.a4, x_k.a5, x_k.a6, x_k.a7] 8 8 (le_ 8 8 rfl) rfl) (a_ (le_arr [x_k.a0, x_k.a1, x_k.a2, x_k.a3, x_k.a4, x_k.a5, x_k.a6, x_k.a7] 8 8 (le_ 8 8 rfl) rfl) tr)) (a_ (a_ (a_ (strings_TrimRight_tri (strI (([x_k.a0, x_k.a1, x_k.a2, x_k.a3, x_k.a4, x_k.a5, x_k.a6, x_k.a7] : List Int).take 8)) y2 e1) tr) tr) (a_ (a_ tr tr) tr)))) (a_ (a_ (a_ tr tr) (a_ (a_ (a_ (ids_KeyOf_tri y2 y4 e3) tr) tr) (a_ (a_ tr tr) (a_ (a_ tr tr) (a_ (a_ tr tr) (a_ (a_ tr tr) (a_ (a_ (a_ (Eq.refl 8) (a_ (le_ 8 8 rfl) (Eq.refl 0))) tr) (a_ (a_ tr tr) tr)))))))) (a_ (a_ (a_ tr tr) (a_ (a_ tr tr) (a_ (a_ tr (a_ (leB c5) tr)) (a_ tr (a_ tr (a_ tr (a_ (a_ tr tr) tr))))))) (a_ (a_ (a_ tr tr) (a_ (a_ tr tr) tr)) tr))))) tr) (by kernel_rfl) rfl
  · skip
    rcases itb_some h with ⟨c6, h⟩ | ⟨c6, h⟩
    · skip
      obtain rfl := Option.some.inj h
      exact run_ret mixed (L := []) (n := 26) (s := [.reg [], .reg [(1, { v := some (.str (strI (([x_k.a0, x_k.a1, x_k.a2, x_k.a3, x_k.a4, x_k.a5, x_k.a6, x_k.a7] : List Int).take 8))) }), (2, { call := some (strings_TrimRight_v y2, [], []) })], .reg [(1, { call := some (ids_KeyOf_v y4, [], []) })], .reg [(2, { v := some (.bool false) }), (5, { v := some (.bool (!decide (y4.1 = x_k))) }), (6, { v := some (.bool true) })], .reg []])
        (a_ (a_ (a_ (a_ tr tr) (a_ (a_ tr tr) (a_ (a_ tr tr) tr))) (a_ (a_ (a_ (a_ (lei_ 0 0 rfl) (a_ (lei_ 0 8 rfl) (lei_ 8 8 rfl))) tr) (a_ (a_ (arr_ob [x_k.a0, x_k.a1, x_k.a2, x_k.a3, x_k.a4, x_k.a5, x_k.a6, x_k.a7] 8 8 (le_ 8 8 rfl) rfl) (a_ (le_arr [x_k.a0, x_k.a1, x_k.a2, x_k.a3, x_k.a4, x_k.a5, x_k.a6, x_k.a7] 8 8 (le_ 8 8 rfl) rfl) tr)) (a_ (a_ (a_ (strings_TrimRight_tri (strI (([x_k.a0, x_k.a1, x_k.a2, x_k.a3, x_k.a4, x_k.a5, x_k.a6, x_k.a7] : List Int).take 8)) y2 e1) tr) tr) (a_ (a_ tr tr) tr)))) (a_ (a_ (a_ tr tr) (a_ (a_ (a_ (ids_KeyOf_tri y2 y4 e3) tr) tr) (a_ (a_ tr tr) (a_ (a_ tr tr) (a_ (a_ tr tr) (a_ (a_ tr tr) (a_ (a_ (a_ (Eq.refl 8) (a_ (le_ 8 8 rfl) (Eq.refl 0))) tr) (a_ (a_ tr tr) tr)))))))) (a_ (a_ (a_ tr tr) (a_ (a_ tr tr) (a_ (a_ tr (a_ (leB c5) tr)) (a_ (a_ (a_ tr (le_ 8 8 rfl)) tr) (a_ (a_ (a_ tr (le_ 8 8 rfl)) tr) (a_ (a_ tr (a_ (leB (congrArg not ((k_arr8 .u8) y4.1 x_k))) tr)) (a_ (a_ tr (a_ (leB c6) tr)) tr))))))) (a_ (a_ (a_ tr tr) (a_ (a_ tr tr) tr)) tr))))) tr) (by kernel_rfl) rfl
    · skip
      obtain rfl := Option.some.inj h
      exact run_ret mixed (L := []) (n := 27) (s := [.reg [], .reg [(1, { v := some (.str (strI (([x_k.a0, x_k.a1, x_k.a2, x_k.a3, x_k.a4, x_k.a5, x_k.a6, x_k.a7] : List Int).take 8))) }), (2, { call := some (strings_TrimRight_v y2, [], []) })], .reg [(1, { call := some (ids_KeyOf_v y4, [], []) })], .reg [(2, { v := some (.bool false) }), (5, { v := some (.bool (!decide (y4.1 = x_k))) }), (6, { v := some (.bool false) })], .reg []])
        (a_ (a_ (a_ (a_ tr tr) (a_ (a_ tr tr) (a_ (a_ tr tr) tr))) (a_ (a_ (a_ (a_ (lei_ 0 0 rfl) (a_ (lei_ 0 8 rfl) (lei_ 8 8 rfl))) tr) (a_ (a_ (arr_ob [x_k.a0, x_k.a1, x_k.a2, x_k.a3, x_k.a4, x_k.a5, x_k.a6, x_k.a7] 8 8 (le_ 8 8 rfl) rfl) (a_ (le_arr [x_k.a0, x_k.a1, x_k.a2, x_k.a3, x_k.a4, x_k.a5, x_k.a6, x_k.a7] 8 8 (le_ 8 8 rfl) rfl) tr)) (a_ (a_ (a_ (strings_TrimRight_tri (strI (([x_k.a0, x_k.a1, x_k.a2, x_k.a3, x_k.a4, x_k.a5, x_k.a6, x_k.a7] : List Int).take 8)) y2 e1) tr) tr) (a_ (a_ tr tr) tr)))) (a_ (a_ (a_ tr tr) (a_ (a_ (a_ (ids_KeyOf_tri y2 y4 e3) tr) tr) (a_ (a_ tr tr) (a_ (a_ tr tr) (a_ (a_ tr tr) (a_ (a_ tr tr) (a_ (a_ (a_ (Eq.refl 8) (a_ (le_ 8 8 rfl) (Eq.refl 0))) tr) (a_ (a_ tr tr) tr)))))))) (a_ (a_ (a_ tr tr) (a_ (a_ tr tr) (a_ (a_ tr (a_ (leB c5) tr)) (a_ (a_ (a_ tr (le_ 8 8 rfl)) tr) (a_ (a_ (a_ tr (le_ 8 8 rfl)) tr) (a_ (a_ tr (a_ (leB (congrArg not ((k_arr8 .u8) y4.1 x_k))) tr)) (a_ (a_ tr (a_ (leB c6) tr)) tr))))))) (a_ (a_ (a_ tr tr) (a_ (a_ tr tr) (a_ (a_ tr tr) tr))) tr))))) tr) (by kernel_rfl) rfl

theorem ids_Name_tri (x_k : A8 (Int)) (r : (List UInt8) × (Bool)) (h : ids_Name x_k = some r) : FnTri Tryd.prog 32 [.agg [.int .u8 x_k.a0, .int .u8 x_k.a1, .int .u8 x_k.a2, .int .u8 x_k.a3, .int .u8 x_k.a4, .int .u8 x_k.a5, .int .u8 x_k.a6, .int .u8 x_k.a7]] [] (ids_Name_v r) [] := FnTri.none (ids_Name_ok x_k r h) rfl rfl

/-- parrel/votes.Of -/

def votes_Of_v (r : (Int)) : LV := .int .i64 r

def votes_Of_T0 (c : T_api_Config) (set : Int) (x_n : Int) (t10 : Int) : List LV := [.any, .int .u64 set, .any, .any, .any, .int .i64 x_n, .any, .any, .any, .agg [.int .u8 c.f_Votes.a0, .int .u8 c.f_Votes.a1, .int .u8 c.f_Votes.a2, .int .u8 c.f_Votes.a3, .int .u8 c.f_Votes.a4, .int .u8 c.f_Votes.a5, .int .u8 c.f_Votes.a6, .int .u8 c.f_Votes.a7], .int .i64 t10, .any, .any, .any, .any, .any, .any, .any, .any, .any, .any, .any, .any, .any, .any, .any]

def votes_Of_H0 (c : T_api_Config) (set : Int) (x_n : Int) (t10 : Int) : Heap := []

def votes_Of_l0 (c : T_api_Config) (set : Int)  : Nat → (Int) → (Int) → Option ((Int))
  | 0, _, _ => none
  | fuel + 1, x_n, t10 =>
    if ((decide (t10 < 8)) : Bool) then
      if 0 ≤ t10 ∧ t10 < 8 then
      if 0 ≤ t10 then
      votes_Of_l0 c set  fuel (IntKind.wrap .i64 (x_n + (IntKind.wrap .i64 ((IntKind.wrap .i64 (A8.get c.f_Votes t10.toNat)) * (IntKind.wrap .i64 (IntKind.wrap .u64 ((BitVec.ofInt (IntKind.bits .u64) (Int.fdiv set (2 ^ (min (Int.toNat t10) (IntKind.bits .u64)))) &&& BitVec.ofInt (IntKind.bits .u64) 1).toNat : Int))))))) (IntKind.wrap .i64 (t10 + 1))
      else none
      else none
    else
      some x_n

def votes_Of (c : T_api_Config) (set : Int) : Option ((Int)) :=
  votes_Of_l0 c set  big 0 0

theorem votes_Of_l0_ok {w0 : World} {W : Nat → Prop} {μ0 : Emb} (hμ : ∀ c p, μ0 c = some p → c < 0) (c : T_api_Config) (set : Int)  : ∀ (fuel : Nat) (x_n : Int) (t10 : Int) (r : (Int)), votes_Of_l0 c set  fuel x_n t10 = some r → kont Tryd.prog w0 W μ0 (FnPost Tryd.prog Tryd.f73 0 0 (votes_Of_v r) []) (kAt (bodyOf Tryd.f73) 0) none (votes_Of_T0 c set x_n t10) (votes_Of_H0 c set x_n t10) := by
  intro fuel
  induction fuel with
  | zero => intro x_n t10 r h; rw [votes_Of_l0] at h; cases h
  | succ fuel ih =>
    intro x_n t10 r h
    rw [votes_Of_l0] at h
    rcases itb_some h with ⟨cL0_1, h⟩ | ⟨cL0_1, h⟩
    · skip
      obtain ⟨gL0_2, h⟩ := guard_some h
      obtain ⟨gL0_3, h⟩ := guard_some h
      exact run_to mixed hμ (L := []) (n := 26) (s := [.go, .reg [(0, { v := some (.bool true) })], .reg [(1, { v := some (.int .u8 (A8.get c.f_Votes t10.toNat)) })], .reg [], .reg []])
        (a_ (a_ (a_ tr (a_ (leB cL0_1) tr)) tr) (a_ (a_ (a_ tr tr) (a_ (a_ (a_ gL0_2 (ix8lt gL0_2 1 8 rfl rfl)) (a_ (ix8s (cInt .u8) 1 (fun _ => rfl) c.f_Votes t10.toNat (lt8N gL0_2) (le_ 1 1 rfl)) tr)) (a_ (a_ tr tr) (a_ (a_ tr tr) tr)))) (a_ (a_ (a_ tr tr) (a_ (a_ tr tr) (a_ (a_ tr tr) (a_ (a_ tr tr) (a_ (a_ tr tr) (a_ (a_ gL0_3 tr) (a_ (a_ tr tr) (a_ (a_ tr tr) (a_ (a_ tr tr) (a_ (a_ tr tr) (a_ (a_ tr tr) tr))))))))))) (a_ (a_ (a_ tr tr) (a_ (a_ tr tr) tr)) tr)))) (ih _ _ r h) (by kernel_rfl) trivial
    · skip
      obtain rfl := Option.some.inj h
      exact run_ret mixed (L := []) (n := 19) (s := [.go, .reg [(0, { v := some (.bool false) })], .reg []])
        (a_ (a_ (a_ (a_ tr (a_ (leB cL0_1) tr)) tr) (a_ (a_ (a_ tr tr) (a_ (a_ tr tr) tr)) tr)) tr) (by kernel_rfl) rfl

theorem votes_Of_ok (c : T_api_Config) (set : Int) (r : (Int)) (h : votes_Of c set = some r) : ∀ σ, Inj 0 σ → FnTri Tryd.prog 73 (renL σ [v_T_api_Config c, .int .u64 set]) (preOf σ 0 []) ((votes_Of_v r).ren σ) (upOf σ []) := by
  refine fn_of Tryd.func73 (by kernel_rfl) (by kernel_rfl) (by kernel_rfl) trivial (by kernel_rfl) trivial (by kernel_rfl) ?_
  intro w0 W μ0 hμ
  unfold votes_Of at h
  exact run_to mixed hμ (L := []) (n := 21) (s := [.reg [], .reg [], .reg []])
    (a_ (a_ (a_ tr tr) (a_ (a_ tr tr) tr)) (a_ (a_ (a_ tr tr) tr) (a_ (a_ (a_ tr tr) (a_ (a_ (a_ tr (le_ 11 11 rfl)) tr) (a_ (a_ tr tr) tr))) tr))) (votes_Of_l0_ok hμ c set  big _ _ r h) (by kernel_rfl) trivial

theorem votes_Of_tri (c : T_api_Config) (set : Int) (r : (Int)) (h : votes_Of c set = some r) : FnTri Tryd.prog 73 [v_T_api_Config c, .int .u64 set] [] (votes_Of_v r) [] := FnTri.none (votes_Of_ok c set r h) rfl rfl

/-- parrel/votes.Total -/

def votes_Total_v (r : (Int)) : LV := .int .i64 r

def votes_Total (c : T_api_Config) : Option ((Int)) :=
  (votes_Of c 255).bind fun y2 =>
  some y2

theorem votes_Total_ok (c : T_api_Config) (r : (Int)) (h : votes_Total c = some r) : ∀ σ, Inj 0 σ → FnTri Tryd.prog 55 (renL σ [v_T_api_Config c]) (preOf σ 0 []) ((votes_Total_v r).ren σ) (upOf σ []) := by
  refine fn_of Tryd.func55 (by kernel_rfl) (by kernel_rfl) (by kernel_rfl) trivial (by kernel_rfl) trivial (by kernel_rfl) ?_
  intro w0 W μ0 hμ
  unfold votes_Total at h
  obtain ⟨y2, e1, h⟩ := bind_some h
  obtain rfl := Option.some.inj h
  exact run_ret mixed (L := []) (n := 15) (s := [.reg [], .reg [(1, { call := some (votes_Of_v y2, [], []) })]])
    (a_ (a_ (a_ (a_ tr tr) (a_ (a_ tr tr) tr)) (a_ (a_ (a_ (a_ tr (le_ 11 11 rfl)) tr) (a_ (a_ (a_ (votes_Of_tri c 255 y2 e1) tr) tr) (a_ (a_ tr tr) tr))) tr)) tr) (by kernel_rfl) rfl

theorem votes_Total_tri (c : T_api_Config) (r : (Int)) (h : votes_Total c = some r) : FnTri Tryd.prog 55 [v_T_api_Config c] [] (votes_Total_v r) [] := FnTri.none (votes_Total_ok c r h) rfl rfl

/-- slices.Max[[]uint8,uint8] -/

def slices_Max_uint8_uint8_v (r : (Int)) : LV := .int .u8 r

def slices_Max_uint8_uint8_up (x : T_api_Config) (r : (Int)) : Upd := [(0, some (.var (c_T_api_Config x)))]

def slices_Max_uint8_uint8_objs (x : T_api_Config) : List LO := [.var (c_T_api_Config x)]

def slices_Max_uint8_uint8_T0 (x : T_api_Config) (m : Int) (i : Int) : List LV := [.sl 0 0 3 true 8 (some 8), .any, .any, .int .u8 m, .int .i64 i, .any, .any, .any, .any, .any, .any, .any, .any, .any, .any, .any, .any, .any, .any, .any, .any, .any, .any, .any, .any]

def slices_Max_uint8_uint8_H0 (x : T_api_Config) (m : Int) (i : Int) : Heap := [some (.var (c_T_api_Config x))]

def slices_Max_uint8_uint8_l0 (x : T_api_Config)  : Nat → (Int) → (Int) → Option ((Int))
  | 0, _, _ => none
  | fuel + 1, m, i =>
    if ((decide (i < 8)) : Bool) then
      if 0 ≤ i ∧ i < 8 then
      slices_Max_uint8_uint8_l0 x  fuel (if (A8.get x.f_Votes i.toNat) > m then (A8.get x.f_Votes i.toNat) else m) (IntKind.wrap .i64 (i + 1))
      else none
    else
      some m

def slices_Max_uint8_uint8 (x : T_api_Config) : Option ((Int)) :=
  slices_Max_uint8_uint8_l0 x  big x.f_Votes.a0 1

theorem slices_Max_uint8_uint8_l0_ok {w0 : World} {W : Nat → Prop} {μ0 : Emb} (hμ : ∀ c p, μ0 c = some p → c < 1) (x : T_api_Config)  : ∀ (fuel : Nat) (m : Int) (i : Int) (r : (Int)), slices_Max_uint8_uint8_l0 x  fuel m i = some r → kont Tryd.prog w0 W μ0 (FnPost Tryd.prog Tryd.f57 1 1 (slices_Max_uint8_uint8_v r) (slices_Max_uint8_uint8_up x r)) (kAt (bodyOf Tryd.f57) 0) none (slices_Max_uint8_uint8_T0 x m i) (slices_Max_uint8_uint8_H0 x m i) := by
  intro fuel
  induction fuel with
  | zero => intro m i r h; rw [slices_Max_uint8_uint8_l0] at h; cases h
  | succ fuel ih =>
    intro m i r h
    rw [slices_Max_uint8_uint8_l0] at h
    rcases itb_some h with ⟨cL0_1, h⟩ | ⟨cL0_1, h⟩
    · skip
      obtain ⟨gL0_2, h⟩ := guard_some h
      exact run_to mixed hμ (L := []) (n := 23) (s := [.go, .reg [(3, { v := some (.bool true) })], .reg [(4, { v := some (.int .u8 (A8.get x.f_Votes i.toNat)) })], .reg []])
        (a_ (a_ (a_ tr tr) (a_ (a_ tr tr) (a_ (a_ tr tr) (a_ (a_ tr (a_ (leB cL0_1) tr)) tr)))) (a_ (a_ (a_ tr tr) (a_ (a_ tr tr) (a_ (a_ tr tr) (a_ (a_ gL0_2 tr) (a_ (a_ (a_ tr (arrLt (len := 8) gL0_2 3 1 11 rfl rfl)) (a_ (ld8s (cInt .u8) 1 (fun _ => rfl) x.f_Votes [.int .u32 x.f_Epoch, .int .u8 x.f_R, .int .u8 x.f_W] [] 3 rfl i.toNat (lt8N gL0_2) (le_ (0 + 1) 1 rfl)) tr)) (a_ (a_ tr tr) (a_ (a_ tr tr) tr))))))) (a_ (a_ (a_ tr tr) (a_ (a_ tr tr) (a_ (a_ tr tr) tr))) tr))) (ih _ _ r h) (by kernel_rfl) ⟨rfl, trivial⟩
    · skip
      obtain rfl := Option.some.inj h
      exact run_ret mixed (L := []) (n := 19) (s := [.go, .reg [(3, { v := some (.bool false) })], .reg []])
        (a_ (a_ (a_ (a_ tr tr) (a_ (a_ tr tr) (a_ (a_ tr tr) (a_ (a_ tr (a_ (leB cL0_1) tr)) tr)))) (a_ (a_ (a_ tr tr) (a_ (a_ tr tr) tr)) tr)) tr) (by kernel_rfl) rfl

theorem slices_Max_uint8_uint8_ok (x : T_api_Config) (r : (Int)) (h : slices_Max_uint8_uint8 x = some r) : ∀ σ, Inj 1 σ → FnTri Tryd.prog 57 (renL σ [.sl 0 0 3 true 8 (some 8)]) (preOf σ 0 (slices_Max_uint8_uint8_objs x)) ((slices_Max_uint8_uint8_v r).ren σ) (upOf σ (slices_Max_uint8_uint8_up x r)) := by
  refine fn_of Tryd.func57 (by kernel_rfl) (by kernel_rfl) (by kernel_rfl) ⟨rfl, trivial⟩ (by kernel_rfl) ⟨rfl, trivial⟩ (by kernel_rfl) ?_
  intro w0 W μ0 hμ
  unfold slices_Max_uint8_uint8 at h
  exact run_to mixed hμ (L := []) (n := 27) (s := [.reg [], .reg [], .reg [], .reg []])
    (a_ (a_ (a_ tr tr) tr) (a_ (a_ (a_ tr tr) (a_ (a_ tr tr) (a_ (a_ tr tr) tr))) (a_ (a_ (a_ tr tr) (a_ (a_ (a_ (lei_ 0 0 rfl) (lti_ 0 8 rfl)) tr) (a_ (a_ (a_ tr (lt_ 3 11 rfl)) tr) (a_ (a_ tr tr) tr)))) (a_ (a_ (a_ tr tr) tr) tr)))) (slices_Max_uint8_uint8_l0_ok hμ x  big _ _ r h) (by kernel_rfl) ⟨rfl, trivial⟩

/-- parrel/votes.May$1 -/

def votes_May_L1_v (r : (Bool)) : LV := .bool r

def votes_May_L1_up (x_n : Int) (x1 : Int) (r : (Bool)) : Upd := [(0, some (.var [.int .i64 x1]))]

def votes_May_L1_objs (x_n : Int) (x1 : Int) : List LO := [.var [.int .i64 x1]]

def votes_May_L1 (x_n : Int) (x1 : Int) : Option ((Bool)) :=
  if ((decide (1 ≤ x_n)) : Bool) then
    some (decide ((IntKind.wrap .i64 x_n) ≤ x1))
  else
    some false

theorem votes_May_L1_ok (x_n : Int) (x1 : Int) (r : (Bool)) (h : votes_May_L1 x_n x1 = some r) : ∀ σ, Inj 1 σ → FnTri Tryd.prog 56 (renL σ [.int .u8 x_n, .ptr 0 0 0]) (preOf σ 0 (votes_May_L1_objs x_n x1)) ((votes_May_L1_v r).ren σ) (upOf σ (votes_May_L1_up x_n x1 r)) := by
  refine fn_of Tryd.func56 (by kernel_rfl) (by kernel_rfl) (by kernel_rfl) ⟨rfl, trivial⟩ (by kernel_rfl) ⟨rfl, trivial⟩ (by kernel_rfl) ?_
  intro w0 W μ0 hμ
  unfold votes_May_L1 at h
  rcases itb_some h with ⟨c1, h⟩ | ⟨c1, h⟩
  · skip
    obtain rfl := Option.some.inj h
    exact run_ret mixed (L := []) (n := 15) (s := [.reg [], .reg [(2, { v := some (.bool true) })]])
      (a_ (a_ (a_ (a_ tr tr) tr) (a_ (a_ (a_ tr tr) (a_ (a_ tr tr) (a_ (a_ tr (a_ (leB c1) tr)) (a_ (a_ tr tr) (a_ (a_ tr tr) (a_ (a_ (a_ tr (lt_ 0 1 rfl)) tr) (a_ (a_ tr tr) (a_ (a_ tr tr) (a_ (a_ tr tr) tr))))))))) tr)) tr) (by kernel_rfl) rfl
  · skip
    obtain rfl := Option.some.inj h
    exact run_ret mixed (L := []) (n := 15) (s := [.reg [], .reg [(2, { v := some (.bool false) })]])
      (a_ (a_ (a_ (a_ tr tr) tr) (a_ (a_ (a_ tr tr) (a_ (a_ tr tr) (a_ (a_ tr (a_ (leB c1) tr)) (a_ tr (a_ tr (a_ tr (a_ tr (a_ (a_ tr tr) (a_ (a_ tr tr) tr))))))))) tr)) tr) (by kernel_rfl) rfl

/-- parrel/votes.May -/

def votes_May_v (r : (Bool)) : LV := .bool r

def votes_May (c : T_api_Config) : Option ((Bool)) :=
  (votes_Total c).bind fun y2 =>
  if ((decide ((IntKind.wrap .u32 (c.f_Epoch - 1)) < 2147483647)) : Bool) then
    (slices_Max_uint8_uint8 c).bind fun y5 =>
    if ((decide (y5 ≤ 15)) : Bool) then
      (votes_May_L1 c.f_R y2).bind fun y8 =>
      if (y8 : Bool) then
        (votes_May_L1 c.f_W y2).bind fun y11 =>
        if (y11 : Bool) then
          if ((decide (y2 < (IntKind.wrap .i64 ((IntKind.wrap .i64 c.f_R) + (IntKind.wrap .i64 c.f_W))))) : Bool) then
            some (decide (y2 < (IntKind.wrap .i64 (2 * (IntKind.wrap .i64 c.f_W)))))
          else
            some false
        else
          some false
      else
        some false
    else
      some false
  else
    some false

theorem votes_May_ok (c : T_api_Config) (r : (Bool)) (h : votes_May c = some r) : ∀ σ, Inj 0 σ → FnTri Tryd.prog 43 (renL σ [v_T_api_Config c]) (preOf σ 0 []) ((votes_May_v r).ren σ) (upOf σ []) := by
  refine fn_of Tryd.func43 (by kernel_rfl) (by kernel_rfl) (by kernel_rfl) trivial (by kernel_rfl) trivial (by kernel_rfl) ?_
  intro w0 W μ0 hμ
  unfold votes_May at h
  obtain ⟨y2, e1, h⟩ := bind_some h
  rcases itb_some h with ⟨c3, h⟩ | ⟨c3, h⟩
  · skip
    obtain ⟨y5, e4, h⟩ := bind_some h
    rcases itb_some h with ⟨c6, h⟩ | ⟨c6, h⟩
    · skip
      obtain ⟨y8, e7, h⟩ := bind_some h
      rcases itb_some h with ⟨c9, h⟩ | ⟨c9, h⟩
      · skip
        obtain ⟨y11, e10, h⟩ := bind_some h
        rcases itb_some h with ⟨c12, h⟩ | ⟨c12, h⟩
        · skip
          rcases itb_some h with ⟨c13, h⟩ | ⟨c13, h⟩
          · skip
            obtain rfl := Option.some.inj h
            exact run_ret mixed (L := []) (n := 21) (s := [.reg [], .reg [(1, { call := some (votes_Total_v y2, [], []) })], .reg [], .reg [(4, { v := some (.bool true) }), (7, { call := some ((slices_Max_uint8_uint8_v y5).ren (sel [0]), preOf (sel [0]) 0 (slices_Max_uint8_uint8_objs c), upOf (sel [0]) (slices_Max_uint8_uint8_up c y5)) }), (10, { v := some (.bool true) }), (14, { call := some ((votes_May_L1_v y8).ren (sel [1]), preOf (sel [1]) 0 (votes_May_L1_objs c.f_R y2), upOf (sel [1]) (votes_May_L1_up c.f_R y2 y8)) }), (16, { v := some (.bool true) }), (20, { call := some ((votes_May_L1_v y11).ren (sel [1]), preOf (sel [1]) 0 (votes_May_L1_objs c.f_W y2), upOf (sel [1]) (votes_May_L1_up c.f_W y2 y11)) }), (22, { v := some (.bool true) }), (33, { v := some (.bool true) })]])
              (a_ (a_ (a_ (a_ tr tr) (a_ (a_ tr tr) tr)) (a_ (a_ (a_ (a_ tr (le_ 11 11 rfl)) tr) (a_ (a_ (a_ (votes_Total_tri c y2 e1) tr) tr) (a_ (a_ tr tr) (a_ (a_ (a_ (Eq.refl 1) (a_ (le_ 1 1 rfl) (Eq.refl 0))) tr) tr)))) (a_ (a_ (a_ tr tr) (a_ (a_ tr tr) tr)) (a_ (a_ (a_ tr tr) (a_ (a_ (a_ tr (lt_ 0 11 rfl)) tr) (a_ (a_ tr tr) (a_ (a_ tr tr) (a_ (a_ tr (a_ (leB c3) tr)) (a_ (a_ tr tr) (a_ (a_ (a_ (lei_ 0 0 rfl) (a_ (lei_ 0 8 rfl) (lei_ 8 8 rfl))) tr) (a_ (a_ (a_ (slices_Max_uint8_uint8_ok c y5 e4 (sel [0]) (sel_inj rfl rfl)) (a_ (LO.Le.refl (.var (c_T_api_Config c))) tr)) tr) (a_ (a_ tr tr) (a_ (a_ tr tr) (a_ (a_ tr (a_ (leB c6) tr)) (a_ (a_ tr tr) (a_ (a_ tr tr) (a_ (a_ (a_ tr (lt_ 1 11 rfl)) tr) (a_ (a_ (a_ (votes_May_L1_ok c.f_R y2 y8 e7 (sel [1]) (sel_inj rfl rfl)) (a_ (LO.Le.refl (.var [.int .i64 y2])) tr)) tr) (a_ (a_ tr tr) (a_ (a_ tr (a_ (leB c9) tr)) (a_ (a_ tr tr) (a_ (a_ tr tr) (a_ (a_ (a_ tr (lt_ 2 11 rfl)) tr) (a_ (a_ (a_ (votes_May_L1_ok c.f_W y2 y11 e10 (sel [1]) (sel_inj rfl rfl)) (a_ (LO.Le.refl (.var [.int .i64 y2])) tr)) tr) (a_ (a_ tr tr) (a_ (a_ tr (a_ (leB c12) tr)) (a_ (a_ tr tr) (a_ (a_ (a_ tr (lt_ 1 11 rfl)) tr) (a_ (a_ tr tr) (a_ (a_ tr tr) (a_ (a_ (a_ tr (lt_ 2 11 rfl)) tr) (a_ (a_ tr tr) (a_ (a_ tr tr) (a_ (a_ (a_ tr (lt_ 0 1 rfl)) tr) (a_ (a_ tr tr) (a_ (a_ tr tr) (a_ (a_ tr (a_ (leB c13) tr)) (a_ (a_ tr tr) (a_ (a_ (a_ tr (lt_ 2 11 rfl)) tr) (a_ (a_ tr tr) (a_ (a_ tr tr) (a_ (a_ (a_ tr (lt_ 0 1 rfl)) tr) (a_ (a_ tr tr) (a_ (a_ tr tr) (a_ (a_ tr tr) tr)))))))))))))))))))))))))))))))))))))))))) tr)))) tr) (by kernel_rfl) rfl
          · skip
            obtain rfl := Option.some.inj h
            exact run_ret mixed (L := []) (n := 21) (s := [.reg [], .reg [(1, { call := some (votes_Total_v y2, [], []) })], .reg [], .reg [(4, { v := some (.bool true) }), (7, { call := some ((slices_Max_uint8_uint8_v y5).ren (sel [0]), preOf (sel [0]) 0 (slices_Max_uint8_uint8_objs c), upOf (sel [0]) (slices_Max_uint8_uint8_up c y5)) }), (10, { v := some (.bool true) }), (14, { call := some ((votes_May_L1_v y8).ren (sel [1]), preOf (sel [1]) 0 (votes_May_L1_objs c.f_R y2), upOf (sel [1]) (votes_May_L1_up c.f_R y2 y8)) }), (16, { v := some (.bool true) }), (20, { call := some ((votes_May_L1_v y11).ren (sel [1]), preOf (sel [1]) 0 (votes_May_L1_objs c.f_W y2), upOf (sel [1]) (votes_May_L1_up c.f_W y2 y11)) }), (22, { v := some (.bool true) }), (33, { v := some (.bool false) })]])
              (a_ (a_ (a_ (a_ tr tr) (a_ (a_ tr tr) tr)) (a_ (a_ (a_ (a_ tr (le_ 11 11 rfl)) tr) (a_ (a_ (a_ (votes_Total_tri c y2 e1) tr) tr) (a_ (a_ tr tr) (a_ (a_ (a_ (Eq.refl 1) (a_ (le_ 1 1 rfl) (Eq.refl 0))) tr) tr)))) (a_ (a_ (a_ tr tr) (a_ (a_ tr tr) tr)) (a_ (a_ (a_ tr tr) (a_ (a_ (a_ tr (lt_ 0 11 rfl)) tr) (a_ (a_ tr tr) (a_ (a_ tr tr) (a_ (a_ tr (a_ (leB c3) tr)) (a_ (a_ tr tr) (a_ (a_ (a_ (lei_ 0 0 rfl) (a_ (lei_ 0 8 rfl) (lei_ 8 8 rfl))) tr) (a_ (a_ (a_ (slices_Max_uint8_uint8_ok c y5 e4 (sel [0]) (sel_inj rfl rfl)) (a_ (LO.Le.refl (.var (c_T_api_Config c))) tr)) tr) (a_ (a_ tr tr) (a_ (a_ tr tr) (a_ (a_ tr (a_ (leB c6) tr)) (a_ (a_ tr tr) (a_ (a_ tr tr) (a_ (a_ (a_ tr (lt_ 1 11 rfl)) tr) (a_ (a_ (a_ (votes_May_L1_ok c.f_R y2 y8 e7 (sel [1]) (sel_inj rfl rfl)) (a_ (LO.Le.refl (.var [.int .i64 y2])) tr)) tr) (a_ (a_ tr tr) (a_ (a_ tr (a_ (leB c9) tr)) (a_ (a_ tr tr) (a_ (a_ tr tr) (a_ (a_ (a_ tr (lt_ 2 11 rfl)) tr) (a_ (a_ (a_ (votes_May_L1_ok c.f_W y2 y11 e10 (sel [1]) (sel_inj rfl rfl)) (a_ (LO.Le.refl (.var [.int .i64 y2])) tr)) tr) (a_ (a_ tr tr) (a_ (a_ tr (a_ (leB c12) tr)) (a_ (a_ tr tr) (a_ (a_ (a_ tr (lt_ 1 11 rfl)) tr) (a_ (a_ tr tr) (a_ (a_ tr tr) (a_ (a_ (a_ tr (lt_ 2 11 rfl)) tr) (a_ (a_ tr tr) (a_ (a_ tr tr) (a_ (a_ (a_ tr (lt_ 0 1 rfl)) tr) (a_ (a_ tr tr) (a_ (a_ tr tr) (a_ (a_ tr (a_ (leB c13) tr)) (a_ tr (a_ tr (a_ tr (a_ tr (a_ tr (a_ tr (a_ (a_ tr tr) (a_ (a_ tr tr) tr)))))))))))))))))))))))))))))))))))))))))) tr)))) tr) (by kernel_rfl) rfl
        · skip
          obtain rfl := Option.some.inj h
          exact run_ret mixed (L := []) (n := 21) (s := [.reg [], .reg [(1, { call := some (votes_Total_v y2, [], []) })], .reg [], .reg [(4, { v := some (.bool true) }), (7, { call := some ((slices_Max_uint8_uint8_v y5).ren (sel [0]), preOf (sel [0]) 0 (slices_Max_uint8_uint8_objs c), upOf (sel [0]) (slices_Max_uint8_uint8_up c y5)) }), (10, { v := some (.bool true) }), (14, { call := some ((votes_May_L1_v y8).ren (sel [1]), preOf (sel [1]) 0 (votes_May_L1_objs c.f_R y2), upOf (sel [1]) (votes_May_L1_up c.f_R y2 y8)) }), (16, { v := some (.bool true) }), (20, { call := some ((votes_May_L1_v y11).ren (sel [1]), preOf (sel [1]) 0 (votes_May_L1_objs c.f_W y2), upOf (sel [1]) (votes_May_L1_up c.f_W y2 y11)) }), (22, { v := some (.bool false) })]])
            (a_ (a_ (a_ (a_ tr tr) (a_ (a_ tr tr) tr)) (a_ (a_ (a_ (a_ tr (le_ 11 11 rfl)) tr) (a_ (a_ (a_ (votes_Total_tri c y2 e1) tr) tr) (a_ (a_ tr tr) (a_ (a_ (a_ (Eq.refl 1) (a_ (le_ 1 1 rfl) (Eq.refl 0))) tr) tr)))) (a_ (a_ (a_ tr tr) (a_ (a_ tr tr) tr)) (a_ (a_ (a_ tr tr) (a_ (a_ (a_ tr (lt_ 0 11 rfl)) tr) (a_ (a_ tr tr) (a_ (a_ tr tr) (a_ (a_ tr (a_ (leB c3) tr)) (a_ (a_ tr tr) (a_ (a_ (a_ (lei_ 0 0 rfl) (a_ (lei_ 0 8 rfl) (lei_ 8 8 rfl))) tr) (a_ (a_ (a_ (slices_Max_uint8_uint8_ok c y5 e4 (sel [0]) (sel_inj rfl rfl)) (a_ (LO.Le.refl (.var (c_T_api_Config c))) tr)) tr) (a_ (a_ tr tr) (a_ (a_ tr tr) (a_ (a_ tr (a_ (leB c6) tr)) (a_ (a_ tr tr) (a_ (a_ tr tr) (a_ (a_ (a_ tr (lt_ 1 11 rfl)) tr) (a_ (a_ (a_ (votes_May_L1_ok c.f_R y2 y8 e7 (sel [1]) (sel_inj rfl rfl)) (a_ (LO.Le.refl (.var [.int .i64 y2])) tr)) tr) (a_ (a_ tr tr) (a_ (a_ tr (a_ (leB c9) tr)) (a_ (a_ tr tr) (a_ (a_ tr tr) (a_ (a_ (a_ tr (lt_ 2 11 rfl)) tr) (a_ (a_ (a_ (votes_May_L1_ok c.f_W y2 y11 e10 (sel [1]) (sel_inj rfl rfl)) (a_ (LO.Le.refl (.var [.int .i64 y2])) tr)) tr) (a_ (a_ tr tr) (a_ (a_ tr (a_ (leB c12) tr)) (a_ tr (a_ tr (a_ tr (a_ tr (a_ tr (a_ tr (a_ tr (a_ tr (a_ tr (a_ (a_ tr tr) (a_ (a_ tr tr) (a_ tr (a_ tr (a_ tr (a_ tr (a_ tr (a_ tr (a_ (a_ tr tr) (a_ (a_ tr tr) tr)))))))))))))))))))))))))))))))))))))))))) tr)))) tr) (by kernel_rfl) rfl
      · skip
        obtain rfl := Option.some.inj h
        exact run_ret mixed (L := []) (n := 21) (s := [.reg [], .reg [(1, { call := some (votes_Total_v y2, [], []) })], .reg [], .reg [(4, { v := some (.bool true) }), (7, { call := some ((slices_Max_uint8_uint8_v y5).ren (sel [0]), preOf (sel [0]) 0 (slices_Max_uint8_uint8_objs c), upOf (sel [0]) (slices_Max_uint8_uint8_up c y5)) }), (10, { v := some (.bool true) }), (14, { call := some ((votes_May_L1_v y8).ren (sel [1]), preOf (sel [1]) 0 (votes_May_L1_objs c.f_R y2), upOf (sel [1]) (votes_May_L1_up c.f_R y2 y8)) }), (16, { v := some (.bool false) })]])
          (a_ (a_ (a_ (a_ tr tr) (a_ (a_ tr tr) tr)) (a_ (a_ (a_ (a_ tr (le_ 11 11 rfl)) tr) (a_ (a_ (a_ (votes_Total_tri c y2 e1) tr) tr) (a_ (a_ tr tr) (a_ (a_ (a_ (Eq.refl 1) (a_ (le_ 1 1 rfl) (Eq.refl 0))) tr) tr)))) (a_ (a_ (a_ tr tr) (a_ (a_ tr tr) tr)) (a_ (a_ (a_ tr tr) (a_ (a_ (a_ tr (lt_ 0 11 rfl)) tr) (a_ (a_ tr tr) (a_ (a_ tr tr) (a_ (a_ tr (a_ (leB c3) tr)) (a_ (a_ tr tr) (a_ (a_ (a_ (lei_ 0 0 rfl) (a_ (lei_ 0 8 rfl) (lei_ 8 8 rfl))) tr) (a_ (a_ (a_ (slices_Max_uint8_uint8_ok c y5 e4 (sel [0]) (sel_inj rfl rfl)) (a_ (LO.Le.refl (.var (c_T_api_Config c))) tr)) tr) (a_ (a_ tr tr) (a_ (a_ tr tr) (a_ (a_ tr (a_ (leB c6) tr)) (a_ (a_ tr tr) (a_ (a_ tr tr) (a_ (a_ (a_ tr (lt_ 1 11 rfl)) tr) (a_ (a_ (a_ (votes_May_L1_ok c.f_R y2 y8 e7 (sel [1]) (sel_inj rfl rfl)) (a_ (LO.Le.refl (.var [.int .i64 y2])) tr)) tr) (a_ (a_ tr tr) (a_ (a_ tr (a_ (leB c9) tr)) (a_ tr (a_ tr (a_ tr (a_ tr (a_ (a_ tr tr) (a_ (a_ tr tr) (a_ tr (a_ tr (a_ tr (a_ tr (a_ tr (a_ tr (a_ tr (a_ tr (a_ tr (a_ (a_ tr tr) (a_ (a_ tr tr) (a_ tr (a_ tr (a_ tr (a_ tr (a_ tr (a_ tr (a_ (a_ tr tr) (a_ (a_ tr tr) tr)))))))))))))))))))))))))))))))))))))))))) tr)))) tr) (by kernel_rfl) rfl
    · skip
      obtain rfl := Option.some.inj h
      exact run_ret mixed (L := []) (n := 21) (s := [.reg [], .reg [(1, { call := some (votes_Total_v y2, [], []) })], .reg [], .reg [(4, { v := some (.bool true) }), (7, { call := some ((slices_Max_uint8_uint8_v y5).ren (sel [0]), preOf (sel [0]) 0 (slices_Max_uint8_uint8_objs c), upOf (sel [0]) (slices_Max_uint8_uint8_up c y5)) }), (10, { v := some (.bool false) })]])
        (a_ (a_ (a_ (a_ tr tr) (a_ (a_ tr tr) tr)) (a_ (a_ (a_ (a_ tr (le_ 11 11 rfl)) tr) (a_ (a_ (a_ (votes_Total_tri c y2 e1) tr) tr) (a_ (a_ tr tr) (a_ (a_ (a_ (Eq.refl 1) (a_ (le_ 1 1 rfl) (Eq.refl 0))) tr) tr)))) (a_ (a_ (a_ tr tr) (a_ (a_ tr tr) tr)) (a_ (a_ (a_ tr tr) (a_ (a_ (a_ tr (lt_ 0 11 rfl)) tr) (a_ (a_ tr tr) (a_ (a_ tr tr) (a_ (a_ tr (a_ (leB c3) tr)) (a_ (a_ tr tr) (a_ (a_ (a_ (lei_ 0 0 rfl) (a_ (lei_ 0 8 rfl) (lei_ 8 8 rfl))) tr) (a_ (a_ (a_ (slices_Max_uint8_uint8_ok c y5 e4 (sel [0]) (sel_inj rfl rfl)) (a_ (LO.Le.refl (.var (c_T_api_Config c))) tr)) tr) (a_ (a_ tr tr) (a_ (a_ tr tr) (a_ (a_ tr (a_ (leB c6) tr)) (a_ tr (a_ tr (a_ tr (a_ tr (a_ (a_ tr tr) (a_ (a_ tr tr) (a_ tr (a_ tr (a_ tr (a_ tr (a_ (a_ tr tr) (a_ (a_ tr tr) (a_ tr (a_ tr (a_ tr (a_ tr (a_ tr (a_ tr (a_ tr (a_ tr (a_ tr (a_ (a_ tr tr) (a_ (a_ tr tr) (a_ tr (a_ tr (a_ tr (a_ tr (a_ tr (a_ tr (a_ (a_ tr tr) (a_ (a_ tr tr) tr)))))))))))))))))))))))))))))))))))))))))) tr)))) tr) (by kernel_rfl) rfl
  · skip
    obtain rfl := Option.some.inj h
    exact run_ret mixed (L := []) (n := 21) (s := [.reg [], .reg [(1, { call := some (votes_Total_v y2, [], []) })], .reg [], .reg [(4, { v := some (.bool false) })]])
      (a_ (a_ (a_ (a_ tr tr) (a_ (a_ tr tr) tr)) (a_ (a_ (a_ (a_ tr (le_ 11 11 rfl)) tr) (a_ (a_ (a_ (votes_Total_tri c y2 e1) tr) tr) (a_ (a_ tr tr) (a_ (a_ (a_ (Eq.refl 1) (a_ (le_ 1 1 rfl) (Eq.refl 0))) tr) tr)))) (a_ (a_ (a_ tr tr) (a_ (a_ tr tr) tr)) (a_ (a_ (a_ tr tr) (a_ (a_ (a_ tr (lt_ 0 11 rfl)) tr) (a_ (a_ tr tr) (a_ (a_ tr tr) (a_ (a_ tr (a_ (leB c3) tr)) (a_ tr (a_ tr (a_ tr (a_ tr (a_ (a_ tr tr) (a_ (a_ tr tr) (a_ tr (a_ tr (a_ tr (a_ tr (a_ (a_ tr tr) (a_ (a_ tr tr) (a_ tr (a_ tr (a_ tr (a_ tr (a_ (a_ tr tr) (a_ (a_ tr tr) (a_ tr (a_ tr (a_ tr (a_ tr (a_ tr (a_ tr (a_ tr (a_ tr (a_ tr (a_ (a_ tr tr) (a_ (a_ tr tr) (a_ tr (a_ tr (a_ tr (a_ tr (a_ tr (a_ tr (a_ (a_ tr tr) (a_ (a_ tr tr) tr)))))))))))))))))))))))))))))))))))))))))) tr)))) tr) (by kernel_rfl) rfl

theorem votes_May_tri (c : T_api_Config) (r : (Bool)) (h : votes_May c = some r) : FnTri Tryd.prog 43 [v_T_api_Config c] [] (votes_May_v r) [] := FnTri.none (votes_May_ok c r h) rfl rfl

/-- parrel/msg.ItemMay -/

def msg_ItemMay_v (r : (Bool)) : LV := .bool r

def msg_ItemMay (i : T_api_Item) : Option ((Bool)) :=
  if ((decide (i.f_Version ≤ 2147483647)) : Bool) then
    if ((decide (((i.f_Value).length : Int) ≤ 64)) : Bool) then
      (votes_May i.f_Conf).bind fun y4 =>
      some y4
    else
      some false
  else
    some false

theorem msg_ItemMay_ok (i : T_api_Item) (r : (Bool)) (h : msg_ItemMay i = some r) : ∀ σ, Inj 0 σ → FnTri Tryd.prog 33 (renL σ [v_T_api_Item i]) (preOf σ 0 []) ((msg_ItemMay_v r).ren σ) (upOf σ []) := by
  refine fn_of Tryd.func33 (by kernel_rfl) (by kernel_rfl) (by kernel_rfl) trivial (by kernel_rfl) trivial (by kernel_rfl) ?_
  intro w0 W μ0 hμ
  unfold msg_ItemMay at h
  rcases itb_some h with ⟨c1, h⟩ | ⟨c1, h⟩
  · skip
    rcases itb_some h with ⟨c2, h⟩ | ⟨c2, h⟩
    · skip
      obtain ⟨y4, e3, h⟩ := bind_some h
      obtain rfl := Option.some.inj h
      exact run_ret mixed (L := []) (n := 15) (s := [.reg [], .reg [(3, { v := some (.bool true) }), (9, { v := some (.bool true) }), (12, { call := some (votes_May_v y4, [], []) })]])
        (a_ (a_ (a_ (a_ tr tr) (a_ (a_ tr tr) tr)) (a_ (a_ (a_ tr tr) (a_ (a_ (a_ tr (lt_ 0 13 rfl)) tr) (a_ (a_ tr tr) (a_ (a_ tr (a_ (leB c1) tr)) (a_ (a_ tr tr) (a_ (a_ (a_ tr (lt_ 1 13 rfl)) tr) (a_ (a_ tr tr) (a_ (a_ tr tr) (a_ (a_ tr tr) (a_ (a_ tr (a_ (leB c2) tr)) (a_ (a_ tr tr) (a_ (a_ (a_ tr (le_ 13 13 rfl)) tr) (a_ (a_ (a_ (votes_May_tri i.f_Conf y4 e3) tr) tr) (a_ (a_ tr tr) (a_ (a_ tr tr) tr))))))))))))))) tr)) tr) (by kernel_rfl) rfl
    · skip
      obtain rfl := Option.some.inj h
      exact run_ret mixed (L := []) (n := 15) (s := [.reg [], .reg [(3, { v := some (.bool true) }), (9, { v := some (.bool false) })]])
        (a_ (a_ (a_ (a_ tr tr) (a_ (a_ tr tr) tr)) (a_ (a_ (a_ tr tr) (a_ (a_ (a_ tr (lt_ 0 13 rfl)) tr) (a_ (a_ tr tr) (a_ (a_ tr (a_ (leB c1) tr)) (a_ (a_ tr tr) (a_ (a_ (a_ tr (lt_ 1 13 rfl)) tr) (a_ (a_ tr tr) (a_ (a_ tr tr) (a_ (a_ tr tr) (a_ (a_ tr (a_ (leB c2) tr)) (a_ tr (a_ tr (a_ tr (a_ (a_ tr tr) (a_ (a_ tr tr) tr))))))))))))))) tr)) tr) (by kernel_rfl) rfl
  · skip
    obtain rfl := Option.some.inj h
    exact run_ret mixed (L := []) (n := 15) (s := [.reg [], .reg [(3, { v := some (.bool false) })]])
      (a_ (a_ (a_ (a_ tr tr) (a_ (a_ tr tr) tr)) (a_ (a_ (a_ tr tr) (a_ (a_ (a_ tr (lt_ 0 13 rfl)) tr) (a_ (a_ tr tr) (a_ (a_ tr (a_ (leB c1) tr)) (a_ tr (a_ tr (a_ tr (a_ tr (a_ (a_ tr tr) (a_ (a_ tr tr) (a_ tr (a_ tr (a_ tr (a_ (a_ tr tr) (a_ (a_ tr tr) tr))))))))))))))) tr)) tr) (by kernel_rfl) rfl

theorem msg_ItemMay_tri (i : T_api_Item) (r : (Bool)) (h : msg_ItemMay i = some r) : FnTri Tryd.prog 33 [v_T_api_Item i] [] (msg_ItemMay_v r) [] := FnTri.none (msg_ItemMay_ok i r h) rfl rfl

/-- parrel/item.may -/

def item_may_v (r : (Bool)) : LV := .bool r

def item_may (x_k : A8 (Int)) (i : T_api_Item) : Option ((Bool)) :=
  (ids_Name x_k).bind fun y2 =>
  if (y2.2 : Bool) then
    (msg_ItemMay i).bind fun y5 =>
    some y5
  else
    some false

theorem item_may_ok (x_k : A8 (Int)) (i : T_api_Item) (r : (Bool)) (h : item_may x_k i = some r) : ∀ σ, Inj 0 σ → FnTri Tryd.prog 25 (renL σ [.agg [.int .u8 x_k.a0, .int .u8 x_k.a1, .int .u8 x_k.a2, .int .u8 x_k.a3, .int .u8 x_k.a4, .int .u8 x_k.a5, .int .u8 x_k.a6, .int .u8 x_k.a7], v_T_api_Item i]) (preOf σ 0 []) ((item_may_v r).ren σ) (upOf σ []) := by
  refine fn_of Tryd.func25 (by kernel_rfl) (by kernel_rfl) (by kernel_rfl) trivial (by kernel_rfl) trivial (by kernel_rfl) ?_
  intro w0 W μ0 hμ
  unfold item_may at h
  obtain ⟨y2, e1, h⟩ := bind_some h
  rcases itb_some h with ⟨c3, h⟩ | ⟨c3, h⟩
  · skip
    obtain ⟨y5, e4, h⟩ := bind_some h
    obtain rfl := Option.some.inj h
    exact run_ret mixed (L := []) (n := 18) (s := [.reg [], .reg [(1, { call := some (ids_Name_v y2, [], []) })], .reg [(1, { v := some (.bool true) }), (3, { call := some (msg_ItemMay_v y5, [], []) })]])
      (a_ (a_ (a_ (a_ tr tr) (a_ (a_ tr tr) (a_ (a_ tr tr) tr))) (a_ (a_ (a_ (a_ tr (le_ 8 8 rfl)) tr) (a_ (a_ (a_ (ids_Name_tri x_k y2 e1) tr) tr) (a_ (a_ tr tr) (a_ (a_ tr tr) (a_ (a_ tr tr) (a_ (a_ tr tr) (a_ (a_ tr tr) tr))))))) (a_ (a_ (a_ tr tr) (a_ (a_ tr (a_ (leB c3) tr)) (a_ (a_ (a_ tr (le_ 13 13 rfl)) tr) (a_ (a_ (a_ (msg_ItemMay_tri i y5 e4) tr) tr) (a_ (a_ tr tr) (a_ (a_ tr tr) tr)))))) tr))) tr) (by kernel_rfl) rfl
  · skip
    obtain rfl := Option.some.inj h
    exact run_ret mixed (L := []) (n := 18) (s := [.reg [], .reg [(1, { call := some (ids_Name_v y2, [], []) })], .reg [(1, { v := some (.bool false) })]])
      (a_ (a_ (a_ (a_ tr tr) (a_ (a_ tr tr) (a_ (a_ tr tr) tr))) (a_ (a_ (a_ (a_ tr (le_ 8 8 rfl)) tr) (a_ (a_ (a_ (ids_Name_tri x_k y2 e1) tr) tr) (a_ (a_ tr tr) (a_ (a_ tr tr) (a_ (a_ tr tr) (a_ (a_ tr tr) (a_ (a_ tr tr) tr))))))) (a_ (a_ (a_ tr tr) (a_ (a_ tr (a_ (leB c3) tr)) (a_ tr (a_ tr (a_ (a_ tr tr) (a_ (a_ tr tr) tr)))))) tr))) tr) (by kernel_rfl) rfl

theorem item_may_tri (x_k : A8 (Int)) (i : T_api_Item) (r : (Bool)) (h : item_may x_k i = some r) : FnTri Tryd.prog 25 [.agg [.int .u8 x_k.a0, .int .u8 x_k.a1, .int .u8 x_k.a2, .int .u8 x_k.a3, .int .u8 x_k.a4, .int .u8 x_k.a5, .int .u8 x_k.a6, .int .u8 x_k.a7], v_T_api_Item i] [] (item_may_v r) [] := FnTri.none (item_may_ok x_k i r h) rfl rfl

/-- (*parrel/item.Table).Install -/

def item_Table_Install_v (r : (Int) × (List (A8 (Int) × T_api_Item))) : LV := .int .i64 r.1

def item_Table_Install_up (m : List (A8 (Int) × T_api_Item)) (x_k : A8 (Int)) (i : T_api_Item) (r : (Int) × (List (A8 (Int) × T_api_Item))) : Upd := [(0, some (.var [.map 1])), (1, some (.map true [.int .u8, .int .u8, .int .u8, .int .u8, .int .u8, .int .u8, .int .u8, .int .u8] (encM (fun z_ : A8 (Int) => LV.agg [.int .u8 z_.a0, .int .u8 z_.a1, .int .u8 z_.a2, .int .u8 z_.a3, .int .u8 z_.a4, .int .u8 z_.a5, .int .u8 z_.a6, .int .u8 z_.a7]) v_T_api_Item r.2)))]

def item_Table_Install_objs (m : List (A8 (Int) × T_api_Item)) (x_k : A8 (Int)) (i : T_api_Item) : List LO := [.var [.map 1], .map true [.int .u8, .int .u8, .int .u8, .int .u8, .int .u8, .int .u8, .int .u8, .int .u8] (encM (fun z_ : A8 (Int) => LV.agg [.int .u8 z_.a0, .int .u8 z_.a1, .int .u8 z_.a2, .int .u8 z_.a3, .int .u8 z_.a4, .int .u8 z_.a5, .int .u8 z_.a6, .int .u8 z_.a7]) v_T_api_Item m)]

def item_Table_Install (m : List (A8 (Int) × T_api_Item)) (x_k : A8 (Int)) (i : T_api_Item) : Option ((Int) × (List (A8 (Int) × T_api_Item))) :=
  (item_Table_Get m x_k).bind fun y2 =>
  (item_Table_ok m).bind fun y4 =>
  (item_may x_k i).bind fun y6 =>
  if ((!y6) : Bool) then
    some (1, m)
  else
    if ((!y2.2) : Bool) then
      if ((((m).length : Int) == 64) : Bool) then
        some (5, m)
      else
        if (y2.2 : Bool) then
          if ((decide (i.f_Version < y2.1.f_Version)) : Bool) then
            some (13, m)
          else
            if (y2.2 : Bool) then
              if ((y2.1.f_Version == i.f_Version) : Bool) then
                if ((!decide (y2.1 = i)) : Bool) then
                  some (7, m)
                else
                  some (0, (mset m x_k i))
              else
                some (0, (mset m x_k i))
            else
              some (0, (mset m x_k i))
        else
          if (y2.2 : Bool) then
            if ((y2.1.f_Version == i.f_Version) : Bool) then
              if ((!decide (y2.1 = i)) : Bool) then
                some (7, m)
              else
                some (0, (mset m x_k i))
            else
              some (0, (mset m x_k i))
          else
            some (0, (mset m x_k i))
    else
      if (y2.2 : Bool) then
        if ((decide (i.f_Version < y2.1.f_Version)) : Bool) then
          some (13, m)
        else
          if (y2.2 : Bool) then
            if ((y2.1.f_Version == i.f_Version) : Bool) then
              if ((!decide (y2.1 = i)) : Bool) then
                some (7, m)
              else
                some (0, (mset m x_k i))
            else
              some (0, (mset m x_k i))
          else
            some (0, (mset m x_k i))
      else
        if (y2.2 : Bool) then
          if ((y2.1.f_Version == i.f_Version) : Bool) then
            if ((!decide (y2.1 = i)) : Bool) then
              some (7, m)
            else
              some (0, (mset m x_k i))
          else
            some (0, (mset m x_k i))
        else
          some (0, (mset m x_k i))

theorem item_Table_Install_ok (m : List (A8 (Int) × T_api_Item)) (x_k : A8 (Int)) (i : T_api_Item) (r : (Int) × (List (A8 (Int) × T_api_Item))) (h : item_Table_Install m x_k i = some r) : ∀ σ, Inj 2 σ → FnTri Tryd.prog 12 (renL σ [.ptr 0 0 0, .agg [.int .u8 x_k.a0, .int .u8 x_k.a1, .int .u8 x_k.a2, .int .u8 x_k.a3, .int .u8 x_k.a4, .int .u8 x_k.a5, .int .u8 x_k.a6, .int .u8 x_k.a7], v_T_api_Item i]) (preOf σ 0 (item_Table_Install_objs m x_k i)) ((item_Table_Install_v r).ren σ) (upOf σ (item_Table_Install_up m x_k i r)) := by
  refine fn_of Tryd.func12 (by kernel_rfl) (by kernel_rfl) (by kernel_rfl) ⟨rfl, trivial, trivial⟩ (by kernel_rfl) ⟨rfl, trivial, trivial⟩ (by kernel_rfl) ?_
  intro w0 W μ0 hμ
  unfold item_Table_Install at h
  obtain ⟨y2, e1, h⟩ := bind_some h
  obtain ⟨y4, e3, h⟩ := bind_some h
  obtain ⟨y6, e5, h⟩ := bind_some h
  rcases itb_some h with ⟨c7, h⟩ | ⟨c7, h⟩
  · skip
    obtain rfl := Option.some.inj h
    exact run_ret mixed (L := []) (n := 28) (s := [.reg [], .reg [(2, { call := some ((item_Table_Get_v y2).ren (sel [0, 1]), preOf (sel [0, 1]) 0 (item_Table_Get_objs m x_k), upOf (sel [0, 1]) (item_Table_Get_up m x_k y2)) })], .reg [(1, { call := some ((item_Table_ok_v y4).ren (sel [0, 1]), preOf (sel [0, 1]) 0 (item_Table_ok_objs m), upOf (sel [0, 1]) (item_Table_ok_up m y4)) })], .reg [(2, { call := some (item_may_v y6, [], []) }), (4, { v := some (.bool true) })], .reg []])
      (a_ (a_ (a_ (a_ tr tr) (a_ (a_ tr tr) (a_ (a_ tr tr) tr))) (a_ (a_ (a_ tr tr) (a_ (a_ (a_ tr (le_ 8 8 rfl)) tr) (a_ (a_ (a_ (item_Table_Get_ok m x_k y2 e1 (sel [0, 1]) (sel_inj rfl rfl)) (a_ (LO.Le.refl (.var [.map 1])) (a_ (LO.Le.refl (.map true [.int .u8, .int .u8, .int .u8, .int .u8, .int .u8, .int .u8, .int .u8, .int .u8] (encM (fun z_ : A8 (Int) => LV.agg [.int .u8 z_.a0, .int .u8 z_.a1, .int .u8 z_.a2, .int .u8 z_.a3, .int .u8 z_.a4, .int .u8 z_.a5, .int .u8 z_.a6, .int .u8 z_.a7]) v_T_api_Item m))) tr))) tr) (a_ (a_ tr tr) (a_ (a_ tr tr) (a_ (a_ tr tr) (a_ (a_ tr tr) (a_ (a_ (a_ (Eq.refl 13) (a_ (le_ 13 13 rfl) (Eq.refl 0))) tr) (a_ (a_ tr tr) tr))))))))) (a_ (a_ (a_ tr tr) (a_ (a_ (a_ (item_Table_ok_ok m y4 e3 (sel [0, 1]) (sel_inj rfl rfl)) (a_ (LO.Le.refl (.var [.map 1])) (a_ (LO.Le.refl (.map true [.int .u8, .int .u8, .int .u8, .int .u8, .int .u8, .int .u8, .int .u8, .int .u8] (encM (fun z_ : A8 (Int) => LV.agg [.int .u8 z_.a0, .int .u8 z_.a1, .int .u8 z_.a2, .int .u8 z_.a3, .int .u8 z_.a4, .int .u8 z_.a5, .int .u8 z_.a6, .int .u8 z_.a7]) v_T_api_Item m))) tr))) tr) (a_ (a_ tr tr) (a_ (a_ tr tr) tr)))) (a_ (a_ (a_ (a_ tr (le_ 8 8 rfl)) tr) (a_ (a_ (a_ tr (le_ 13 13 rfl)) tr) (a_ (a_ (a_ (item_may_tri x_k i y6 e5) tr) tr) (a_ (a_ tr tr) (a_ (a_ tr (a_ (leB c7) tr)) tr))))) (a_ (a_ (a_ tr tr) tr) tr))))) tr) (by kernel_rfl) rfl
  · skip
    rcases itb_some h with ⟨c8, h⟩ | ⟨c8, h⟩
    · skip
      rcases itb_some h with ⟨c9, h⟩ | ⟨c9, h⟩
      · skip
        obtain rfl := Option.some.inj h
        exact run_ret mixed (L := []) (n := 32) (s := [.reg [], .reg [(2, { call := some ((item_Table_Get_v y2).ren (sel [0, 1]), preOf (sel [0, 1]) 0 (item_Table_Get_objs m x_k), upOf (sel [0, 1]) (item_Table_Get_up m x_k y2)) })], .reg [(1, { call := some ((item_Table_ok_v y4).ren (sel [0, 1]), preOf (sel [0, 1]) 0 (item_Table_ok_objs m), upOf (sel [0, 1]) (item_Table_ok_up m y4)) })], .reg [(2, { call := some (item_may_v y6, [], []) }), (4, { v := some (.bool false) })], .reg [(2, { v := some (.bool true) }), (7, { v := some (.int .i64 ((m).length : Int)) }), (10, { v := some (.bool true) })], .reg []])
          (a_ (a_ (a_ (a_ tr tr) (a_ (a_ tr tr) (a_ (a_ tr tr) tr))) (a_ (a_ (a_ tr tr) (a_ (a_ (a_ tr (le_ 8 8 rfl)) tr) (a_ (a_ (a_ (item_Table_Get_ok m x_k y2 e1 (sel [0, 1]) (sel_inj rfl rfl)) (a_ (LO.Le.refl (.var [.map 1])) (a_ (LO.Le.refl (.map true [.int .u8, .int .u8, .int .u8, .int .u8, .int .u8, .int .u8, .int .u8, .int .u8] (encM (fun z_ : A8 (Int) => LV.agg [.int .u8 z_.a0, .int .u8 z_.a1, .int .u8 z_.a2, .int .u8 z_.a3, .int .u8 z_.a4, .int .u8 z_.a5, .int .u8 z_.a6, .int .u8 z_.a7]) v_T_api_Item m))) tr))) tr) (a_ (a_ tr tr) (a_ (a_ tr tr) (a_ (a_ tr tr) (a_ (a_ tr tr) (a_ (a_ (a_ (Eq.refl 13) (a_ (le_ 13 13 rfl) (Eq.refl 0))) tr) (a_ (a_ tr tr) tr))))))))) (a_ (a_ (a_ tr tr) (a_ (a_ (a_ (item_Table_ok_ok m y4 e3 (sel [0, 1]) (sel_inj rfl rfl)) (a_ (LO.Le.refl (.var [.map 1])) (a_ (LO.Le.refl (.map true [.int .u8, .int .u8, .int .u8, .int .u8, .int .u8, .int .u8, .int .u8, .int .u8] (encM (fun z_ : A8 (Int) => LV.agg [.int .u8 z_.a0, .int .u8 z_.a1, .int .u8 z_.a2, .int .u8 z_.a3, .int .u8 z_.a4, .int .u8 z_.a5, .int .u8 z_.a6, .int .u8 z_.a7]) v_T_api_Item m))) tr))) tr) (a_ (a_ tr tr) (a_ (a_ tr tr) tr)))) (a_ (a_ (a_ (a_ tr (le_ 8 8 rfl)) tr) (a_ (a_ (a_ tr (le_ 13 13 rfl)) tr) (a_ (a_ (a_ (item_may_tri x_k i y6 e5) tr) tr) (a_ (a_ tr tr) (a_ (a_ tr (a_ (leB c7) tr)) tr))))) (a_ (a_ (a_ tr tr) (a_ (a_ tr tr) (a_ (a_ tr (a_ (leB c8) tr)) (a_ (a_ tr tr) (a_ (a_ tr tr) (a_ (a_ tr tr) (a_ (a_ (a_ tr (lt_ 0 1 rfl)) tr) (a_ (a_ tr (a_ (le_maplen (fun z_ : A8 (Int) => LV.agg [.int .u8 z_.a0, .int .u8 z_.a1, .int .u8 z_.a2, .int .u8 z_.a3, .int .u8 z_.a4, .int .u8 z_.a5, .int .u8 z_.a6, .int .u8 z_.a7]) v_T_api_Item m) tr)) (a_ (a_ tr tr) (a_ (a_ tr tr) (a_ (a_ tr (a_ (leB c9) tr)) tr))))))))))) (a_ (a_ (a_ tr tr) tr) tr)))))) tr) (by kernel_rfl) rfl
      · skip
        rcases itb_some h with ⟨c10, h⟩ | ⟨c10, h⟩
        · skip
          rcases itb_some h with ⟨c11, h⟩ | ⟨c11, h⟩
          · skip
            obtain rfl := Option.some.inj h
            exact run_ret mixed (L := []) (n := 36) (s := [.reg [], .reg [(2, { call := some ((item_Table_Get_v y2).ren (sel [0, 1]), preOf (sel [0, 1]) 0 (item_Table_Get_objs m x_k), upOf (sel [0, 1]) (item_Table_Get_up m x_k y2)) })], .reg [(1, { call := some ((item_Table_ok_v y4).ren (sel [0, 1]), preOf (sel [0, 1]) 0 (item_Table_ok_objs m), upOf (sel [0, 1]) (item_Table_ok_up m y4)) })], .reg [(2, { call := some (item_may_v y6, [], []) }), (4, { v := some (.bool false) })], .reg [(2, { v := some (.bool true) }), (7, { v := some (.int .i64 ((m).length : Int)) }), (10, { v := some (.bool false) })], .reg [(1, { v := some (.bool true) }), (8, { v := some (.bool true) })], .reg []])
              (a_ (a_ (a_ (a_ tr tr) (a_ (a_ tr tr) (a_ (a_ tr tr) tr))) (a_ (a_ (a_ tr tr) (a_ (a_ (a_ tr (le_ 8 8 rfl)) tr) (a_ (a_ (a_ (item_Table_Get_ok m x_k y2 e1 (sel [0, 1]) (sel_inj rfl rfl)) (a_ (LO.Le.refl (.var [.map 1])) (a_ (LO.Le.refl (.map true [.int .u8, .int .u8, .int .u8, .int .u8, .int .u8, .int .u8, .int .u8, .int .u8] (encM (fun z_ : A8 (Int) => LV.agg [.int .u8 z_.a0, .int .u8 z_.a1, .int .u8 z_.a2, .int .u8 z_.a3, .int .u8 z_.a4, .int .u8 z_.a5, .int .u8 z_.a6, .int .u8 z_.a7]) v_T_api_Item m))) tr))) tr) (a_ (a_ tr tr) (a_ (a_ tr tr) (a_ (a_ tr tr) (a_ (a_ tr tr) (a_ (a_ (a_ (Eq.refl 13) (a_ (le_ 13 13 rfl) (Eq.refl 0))) tr) (a_ (a_ tr tr) tr))))))))) (a_ (a_ (a_ tr tr) (a_ (a_ (a_ (item_Table_ok_ok m y4 e3 (sel [0, 1]) (sel_inj rfl rfl)) (a_ (LO.Le.refl (.var [.map 1])) (a_ (LO.Le.refl (.map true [.int .u8, .int .u8, .int .u8, .int .u8, .int .u8, .int .u8, .int .u8, .int .u8] (encM (fun z_ : A8 (Int) => LV.agg [.int .u8 z_.a0, .int .u8 z_.a1, .int .u8 z_.a2, .int .u8 z_.a3, .int .u8 z_.a4, .int .u8 z_.a5, .int .u8 z_.a6, .int .u8 z_.a7]) v_T_api_Item m))) tr))) tr) (a_ (a_ tr tr) (a_ (a_ tr tr) tr)))) (a_ (a_ (a_ (a_ tr (le_ 8 8 rfl)) tr) (a_ (a_ (a_ tr (le_ 13 13 rfl)) tr) (a_ (a_ (a_ (item_may_tri x_k i y6 e5) tr) tr) (a_ (a_ tr tr) (a_ (a_ tr (a_ (leB c7) tr)) tr))))) (a_ (a_ (a_ tr tr) (a_ (a_ tr tr) (a_ (a_ tr (a_ (leB c8) tr)) (a_ (a_ tr tr) (a_ (a_ tr tr) (a_ (a_ tr tr) (a_ (a_ (a_ tr (lt_ 0 1 rfl)) tr) (a_ (a_ tr (a_ (le_maplen (fun z_ : A8 (Int) => LV.agg [.int .u8 z_.a0, .int .u8 z_.a1, .int .u8 z_.a2, .int .u8 z_.a3, .int .u8 z_.a4, .int .u8 z_.a5, .int .u8 z_.a6, .int .u8 z_.a7]) v_T_api_Item m) tr)) (a_ (a_ tr tr) (a_ (a_ tr tr) (a_ (a_ tr (a_ (leB c9) tr)) tr))))))))))) (a_ (a_ (a_ tr tr) (a_ (a_ tr (a_ (leB c10) tr)) (a_ (a_ tr tr) (a_ (a_ (a_ tr (lt_ 0 13 rfl)) tr) (a_ (a_ tr tr) (a_ (a_ (a_ tr (lt_ 0 13 rfl)) tr) (a_ (a_ tr tr) (a_ (a_ tr tr) (a_ (a_ tr (a_ (leB c11) tr)) tr))))))))) (a_ (a_ (a_ tr tr) tr) tr))))))) tr) (by kernel_rfl) rfl
          · skip
            rcases itb_some h with ⟨c12, h⟩ | ⟨c12, h⟩
            · skip
              rcases itb_some h with ⟨c13, h⟩ | ⟨c13, h⟩
              · skip
                rcases itb_some h with ⟨c14, h⟩ | ⟨c14, h⟩
                · skip
                  obtain rfl := Option.some.inj h
                  exact run_ret mixed (L := []) (n := 40) (s := [.reg [], .reg [(2, { call := some ((item_Table_Get_v y2).ren (sel [0, 1]), preOf (sel [0, 1]) 0 (item_Table_Get_objs m x_k), upOf (sel [0, 1]) (item_Table_Get_up m x_k y2)) })], .reg [(1, { call := some ((item_Table_ok_v y4).ren (sel [0, 1]), preOf (sel [0, 1]) 0 (item_Table_ok_objs m), upOf (sel [0, 1]) (item_Table_ok_up m y4)) })], .reg [(2, { call := some (item_may_v y6, [], []) }), (4, { v := some (.bool false) })], .reg [(2, { v := some (.bool true) }), (7, { v := some (.int .i64 ((m).length : Int)) }), (10, { v := some (.bool false) })], .reg [(1, { v := some (.bool true) }), (8, { v := some (.bool false) })], .reg [(1, { v := some (.bool true) }), (8, { v := some (.bool true) }), (11, { v := some (.bool (!decide (y2.1 = i))) }), (13, { v := some (.bool true) })], .reg []])
                    (a_ (a_ (a_ (a_ tr tr) (a_ (a_ tr tr) (a_ (a_ tr tr) tr))) (a_ (a_ (a_ tr tr) (a_ (a_ (a_ tr (le_ 8 8 rfl)) tr) (a_ (a_ (a_ (item_Table_Get_ok m x_k y2 e1 (sel [0, 1]) (sel_inj rfl rfl)) (a_ (LO.Le.refl (.var [.map 1])) (a_ (LO.Le.refl (.map true [.int .u8, .int .u8, .int .u8, .int .u8, .int .u8, .int .u8, .int .u8, .int .u8] (encM (fun z_ : A8 (Int) => LV.agg [.int .u8 z_.a0, .int .u8 z_.a1, .int .u8 z_.a2, .int .u8 z_.a3, .int .u8 z_.a4, .int .u8 z_.a5, .int .u8 z_.a6, .int .u8 z_.a7]) v_T_api_Item m))) tr))) tr) (a_ (a_ tr tr) (a_ (a_ tr tr) (a_ (a_ tr tr) (a_ (a_ tr tr) (a_ (a_ (a_ (Eq.refl 13) (a_ (le_ 13 13 rfl) (Eq.refl 0))) tr) (a_ (a_ tr tr) tr))))))))) (a_ (a_ (a_ tr tr) (a_ (a_ (a_ (item_Table_ok_ok m y4 e3 (sel [0, 1]) (sel_inj rfl rfl)) (a_ (LO.Le.refl (.var [.map 1])) (a_ (LO.Le.refl (.map true [.int .u8, .int .u8, .int .u8, .int .u8, .int .u8, .int .u8, .int .u8, .int .u8] (encM (fun z_ : A8 (Int) => LV.agg [.int .u8 z_.a0, .int .u8 z_.a1, .int .u8 z_.a2, .int .u8 z_.a3, .int .u8 z_.a4, .int .u8 z_.a5, .int .u8 z_.a6, .int .u8 z_.a7]) v_T_api_Item m))) tr))) tr) (a_ (a_ tr tr) (a_ (a_ tr tr) tr)))) (a_ (a_ (a_ (a_ tr (le_ 8 8 rfl)) tr) (a_ (a_ (a_ tr (le_ 13 13 rfl)) tr) (a_ (a_ (a_ (item_may_tri x_k i y6 e5) tr) tr) (a_ (a_ tr tr) (a_ (a_ tr (a_ (leB c7) tr)) tr))))) (a_ (a_ (a_ tr tr) (a_ (a_ tr tr) (a_ (a_ tr (a_ (leB c8) tr)) (a_ (a_ tr tr) (a_ (a_ tr tr) (a_ (a_ tr tr) (a_ (a_ (a_ tr (lt_ 0 1 rfl)) tr) (a_ (a_ tr (a_ (le_maplen (fun z_ : A8 (Int) => LV.agg [.int .u8 z_.a0, .int .u8 z_.a1, .int .u8 z_.a2, .int .u8 z_.a3, .int .u8 z_.a4, .int .u8 z_.a5, .int .u8 z_.a6, .int .u8 z_.a7]) v_T_api_Item m) tr)) (a_ (a_ tr tr) (a_ (a_ tr tr) (a_ (a_ tr (a_ (leB c9) tr)) tr))))))))))) (a_ (a_ (a_ tr tr) (a_ (a_ tr (a_ (leB c10) tr)) (a_ (a_ tr tr) (a_ (a_ (a_ tr (lt_ 0 13 rfl)) tr) (a_ (a_ tr tr) (a_ (a_ (a_ tr (lt_ 0 13 rfl)) tr) (a_ (a_ tr tr) (a_ (a_ tr tr) (a_ (a_ tr (a_ (leB c11) tr)) tr))))))))) (a_ (a_ (a_ tr tr) (a_ (a_ tr (a_ (leB c12) tr)) (a_ (a_ tr tr) (a_ (a_ (a_ tr (lt_ 0 13 rfl)) tr) (a_ (a_ tr tr) (a_ (a_ (a_ tr (lt_ 0 13 rfl)) tr) (a_ (a_ tr tr) (a_ (a_ tr tr) (a_ (a_ tr (a_ (leB c13) tr)) (a_ (a_ (a_ tr (le_ 13 13 rfl)) tr) (a_ (a_ (a_ tr (le_ 13 13 rfl)) tr) (a_ (a_ tr (a_ (leB (congrArg not (k_T_api_Item y2.1 i))) tr)) (a_ (a_ tr tr) (a_ (a_ tr (a_ (leB c14) tr)) tr)))))))))))))) (a_ (a_ (a_ tr tr) tr) tr)))))))) tr) (by kernel_rfl) rfl
                · skip
                  obtain rfl := Option.some.inj h
                  exact run_ret mixed (L := []) (n := 45) (s := [.reg [], .reg [(2, { call := some ((item_Table_Get_v y2).ren (sel [0, 1]), preOf (sel [0, 1]) 0 (item_Table_Get_objs m x_k), upOf (sel [0, 1]) (item_Table_Get_up m x_k y2)) })], .reg [(1, { call := some ((item_Table_ok_v y4).ren (sel [0, 1]), preOf (sel [0, 1]) 0 (item_Table_ok_objs m), upOf (sel [0, 1]) (item_Table_ok_up m y4)) })], .reg [(2, { call := some (item_may_v y6, [], []) }), (4, { v := some (.bool false) })], .reg [(2, { v := some (.bool true) }), (7, { v := some (.int .i64 ((m).length : Int)) }), (10, { v := some (.bool false) })], .reg [(1, { v := some (.bool true) }), (8, { v := some (.bool false) })], .reg [(1, { v := some (.bool true) }), (8, { v := some (.bool true) }), (11, { v := some (.bool (!decide (y2.1 = i))) }), (13, { v := some (.bool false) })], .reg [(6, { os := [(1, .map true [.int .u8, .int .u8, .int .u8, .int .u8, .int .u8, .int .u8, .int .u8, .int .u8] (encM (fun z_ : A8 (Int) => LV.agg [.int .u8 z_.a0, .int .u8 z_.a1, .int .u8 z_.a2, .int .u8 z_.a3, .int .u8 z_.a4, .int .u8 z_.a5, .int .u8 z_.a6, .int .u8 z_.a7]) v_T_api_Item (mset m x_k i)))] })], .reg []])
                    (a_ (a_ (a_ (a_ tr tr) (a_ (a_ tr tr) (a_ (a_ tr tr) tr))) (a_ (a_ (a_ tr tr) (a_ (a_ (a_ tr (le_ 8 8 rfl)) tr) (a_ (a_ (a_ (item_Table_Get_ok m x_k y2 e1 (sel [0, 1]) (sel_inj rfl rfl)) (a_ (LO.Le.refl (.var [.map 1])) (a_ (LO.Le.refl (.map true [.int .u8, .int .u8, .int .u8, .int .u8, .int .u8, .int .u8, .int .u8, .int .u8] (encM (fun z_ : A8 (Int) => LV.agg [.int .u8 z_.a0, .int .u8 z_.a1, .int .u8 z_.a2, .int .u8 z_.a3, .int .u8 z_.a4, .int .u8 z_.a5, .int .u8 z_.a6, .int .u8 z_.a7]) v_T_api_Item m))) tr))) tr) (a_ (a_ tr tr) (a_ (a_ tr tr) (a_ (a_ tr tr) (a_ (a_ tr tr) (a_ (a_ (a_ (Eq.refl 13) (a_ (le_ 13 13 rfl) (Eq.refl 0))) tr) (a_ (a_ tr tr) tr))))))))) (a_ (a_ (a_ tr tr) (a_ (a_ (a_ (item_Table_ok_ok m y4 e3 (sel [0, 1]) (sel_inj rfl rfl)) (a_ (LO.Le.refl (.var [.map 1])) (a_ (LO.Le.refl (.map true [.int .u8, .int .u8, .int .u8, .int .u8, .int .u8, .int .u8, .int .u8, .int .u8] (encM (fun z_ : A8 (Int) => LV.agg [.int .u8 z_.a0, .int .u8 z_.a1, .int .u8 z_.a2, .int .u8 z_.a3, .int .u8 z_.a4, .int .u8 z_.a5, .int .u8 z_.a6, .int .u8 z_.a7]) v_T_api_Item m))) tr))) tr) (a_ (a_ tr tr) (a_ (a_ tr tr) tr)))) (a_ (a_ (a_ (a_ tr (le_ 8 8 rfl)) tr) (a_ (a_ (a_ tr (le_ 13 13 rfl)) tr) (a_ (a_ (a_ (item_may_tri x_k i y6 e5) tr) tr) (a_ (a_ tr tr) (a_ (a_ tr (a_ (leB c7) tr)) tr))))) (a_ (a_ (a_ tr tr) (a_ (a_ tr tr) (a_ (a_ tr (a_ (leB c8) tr)) (a_ (a_ tr tr) (a_ (a_ tr tr) (a_ (a_ tr tr) (a_ (a_ (a_ tr (lt_ 0 1 rfl)) tr) (a_ (a_ tr (a_ (le_maplen (fun z_ : A8 (Int) => LV.agg [.int .u8 z_.a0, .int .u8 z_.a1, .int .u8 z_.a2, .int .u8 z_.a3, .int .u8 z_.a4, .int .u8 z_.a5, .int .u8 z_.a6, .int .u8 z_.a7]) v_T_api_Item m) tr)) (a_ (a_ tr tr) (a_ (a_ tr tr) (a_ (a_ tr (a_ (leB c9) tr)) tr))))))))))) (a_ (a_ (a_ tr tr) (a_ (a_ tr (a_ (leB c10) tr)) (a_ (a_ tr tr) (a_ (a_ (a_ tr (lt_ 0 13 rfl)) tr) (a_ (a_ tr tr) (a_ (a_ (a_ tr (lt_ 0 13 rfl)) tr) (a_ (a_ tr tr) (a_ (a_ tr tr) (a_ (a_ tr (a_ (leB c11) tr)) tr))))))))) (a_ (a_ (a_ tr tr) (a_ (a_ tr (a_ (leB c12) tr)) (a_ (a_ tr tr) (a_ (a_ (a_ tr (lt_ 0 13 rfl)) tr) (a_ (a_ tr tr) (a_ (a_ (a_ tr (lt_ 0 13 rfl)) tr) (a_ (a_ tr tr) (a_ (a_ tr tr) (a_ (a_ tr (a_ (leB c13) tr)) (a_ (a_ (a_ tr (le_ 13 13 rfl)) tr) (a_ (a_ (a_ tr (le_ 13 13 rfl)) tr) (a_ (a_ tr (a_ (leB (congrArg not (k_T_api_Item y2.1 i))) tr)) (a_ (a_ tr tr) (a_ (a_ tr (a_ (leB c14) tr)) tr)))))))))))))) (a_ (a_ (a_ tr tr) (a_ (a_ tr tr) (a_ (a_ tr tr) (a_ (a_ (a_ tr (lt_ 0 1 rfl)) tr) (a_ (a_ (a_ tr (le_ 8 8 rfl)) tr) (a_ (a_ (a_ tr (le_ 13 13 rfl)) tr) (a_ (a_ (a_ (Eq.refl true) (Eq.refl true)) (a_ (sub_upd (fun z_ : A8 (Int) => LV.agg [.int .u8 z_.a0, .int .u8 z_.a1, .int .u8 z_.a2, .int .u8 z_.a3, .int .u8 z_.a4, .int .u8 z_.a5, .int .u8 z_.a6, .int .u8 z_.a7]) v_T_api_Item (k_arr8 .u8) true [.int .u8, .int .u8, .int .u8, .int .u8, .int .u8, .int .u8, .int .u8, .int .u8] m x_k i) tr)) tr))))))) (a_ (a_ (a_ tr tr) tr) tr))))))))) tr) (by kernel_rfl) rfl
              · skip
                obtain rfl := Option.some.inj h
                exact run_ret mixed (L := []) (n := 45) (s := [.reg [], .reg [(2, { call := some ((item_Table_Get_v y2).ren (sel [0, 1]), preOf (sel [0, 1]) 0 (item_Table_Get_objs m x_k), upOf (sel [0, 1]) (item_Table_Get_up m x_k y2)) })], .reg [(1, { call := some ((item_Table_ok_v y4).ren (sel [0, 1]), preOf (sel [0, 1]) 0 (item_Table_ok_objs m), upOf (sel [0, 1]) (item_Table_ok_up m y4)) })], .reg [(2, { call := some (item_may_v y6, [], []) }), (4, { v := some (.bool false) })], .reg [(2, { v := some (.bool true) }), (7, { v := some (.int .i64 ((m).length : Int)) }), (10, { v := some (.bool false) })], .reg [(1, { v := some (.bool true) }), (8, { v := some (.bool false) })], .reg [(1, { v := some (.bool true) }), (8, { v := some (.bool false) })], .reg [(6, { os := [(1, .map true [.int .u8, .int .u8, .int .u8, .int .u8, .int .u8, .int .u8, .int .u8, .int .u8] (encM (fun z_ : A8 (Int) => LV.agg [.int .u8 z_.a0, .int .u8 z_.a1, .int .u8 z_.a2, .int .u8 z_.a3, .int .u8 z_.a4, .int .u8 z_.a5, .int .u8 z_.a6, .int .u8 z_.a7]) v_T_api_Item (mset m x_k i)))] })], .reg []])
                  (a_ (a_ (a_ (a_ tr tr) (a_ (a_ tr tr) (a_ (a_ tr tr) tr))) (a_ (a_ (a_ tr tr) (a_ (a_ (a_ tr (le_ 8 8 rfl)) tr) (a_ (a_ (a_ (item_Table_Get_ok m x_k y2 e1 (sel [0, 1]) (sel_inj rfl rfl)) (a_ (LO.Le.refl (.var [.map 1])) (a_ (LO.Le.refl (.map true [.int .u8, .int .u8, .int .u8, .int .u8, .int .u8, .int .u8, .int .u8, .int .u8] (encM (fun z_ : A8 (Int) => LV.agg [.int .u8 z_.a0, .int .u8 z_.a1, .int .u8 z_.a2, .int .u8 z_.a3, .int .u8 z_.a4, .int .u8 z_.a5, .int .u8 z_.a6, .int .u8 z_.a7]) v_T_api_Item m))) tr))) tr) (a_ (a_ tr tr) (a_ (a_ tr tr) (a_ (a_ tr tr) (a_ (a_ tr tr) (a_ (a_ (a_ (Eq.refl 13) (a_ (le_ 13 13 rfl) (Eq.refl 0))) tr) (a_ (a_ tr tr) tr))))))))) (a_ (a_ (a_ tr tr) (a_ (a_ (a_ (item_Table_ok_ok m y4 e3 (sel [0, 1]) (sel_inj rfl rfl)) (a_ (LO.Le.refl (.var [.map 1])) (a_ (LO.Le.refl (.map true [.int .u8, .int .u8, .int .u8, .int .u8, .int .u8, .int .u8, .int .u8, .int .u8] (encM (fun z_ : A8 (Int) => LV.agg [.int .u8 z_.a0, .int .u8 z_.a1, .int .u8 z_.a2, .int .u8 z_.a3, .int .u8 z_.a4, .int .u8 z_.a5, .int .u8 z_.a6, .int .u8 z_.a7]) v_T_api_Item m))) tr))) tr) (a_ (a_ tr tr) (a_ (a_ tr tr) tr)))) (a_ (a_ (a_ (a_ tr (le_ 8 8 rfl)) tr) (a_ (a_ (a_ tr (le_ 13 13 rfl)) tr) (a_ (a_ (a_ (item_may_tri x_k i y6 e5) tr) tr) (a_ (a_ tr tr) (a_ (a_ tr (a_ (leB c7) tr)) tr))))) (a_ (a_ (a_ tr tr) (a_ (a_ tr tr) (a_ (a_ tr (a_ (leB c8) tr)) (a_ (a_ tr tr) (a_ (a_ tr tr) (a_ (a_ tr tr) (a_ (a_ (a_ tr (lt_ 0 1 rfl)) tr) (a_ (a_ tr (a_ (le_maplen (fun z_ : A8 (Int) => LV.agg [.int .u8 z_.a0, .int .u8 z_.a1, .int .u8 z_.a2, .int .u8 z_.a3, .int .u8 z_.a4, .int .u8 z_.a5, .int .u8 z_.a6, .int .u8 z_.a7]) v_T_api_Item m) tr)) (a_ (a_ tr tr) (a_ (a_ tr tr) (a_ (a_ tr (a_ (leB c9) tr)) tr))))))))))) (a_ (a_ (a_ tr tr) (a_ (a_ tr (a_ (leB c10) tr)) (a_ (a_ tr tr) (a_ (a_ (a_ tr (lt_ 0 13 rfl)) tr) (a_ (a_ tr tr) (a_ (a_ (a_ tr (lt_ 0 13 rfl)) tr) (a_ (a_ tr tr) (a_ (a_ tr tr) (a_ (a_ tr (a_ (leB c11) tr)) tr))))))))) (a_ (a_ (a_ tr tr) (a_ (a_ tr (a_ (leB c12) tr)) (a_ (a_ tr tr) (a_ (a_ (a_ tr (lt_ 0 13 rfl)) tr) (a_ (a_ tr tr) (a_ (a_ (a_ tr (lt_ 0 13 rfl)) tr) (a_ (a_ tr tr) (a_ (a_ tr tr) (a_ (a_ tr (a_ (leB c13) tr)) (a_ tr (a_ tr (a_ tr (a_ (a_ tr tr) (a_ (a_ tr tr) tr)))))))))))))) (a_ (a_ (a_ tr tr) (a_ (a_ tr tr) (a_ (a_ tr tr) (a_ (a_ (a_ tr (lt_ 0 1 rfl)) tr) (a_ (a_ (a_ tr (le_ 8 8 rfl)) tr) (a_ (a_ (a_ tr (le_ 13 13 rfl)) tr) (a_ (a_ (a_ (Eq.refl true) (Eq.refl true)) (a_ (sub_upd (fun z_ : A8 (Int) => LV.agg [.int .u8 z_.a0, .int .u8 z_.a1, .int .u8 z_.a2, .int .u8 z_.a3, .int .u8 z_.a4, .int .u8 z_.a5, .int .u8 z_.a6, .int .u8 z_.a7]) v_T_api_Item (k_arr8 .u8) true [.int .u8, .int .u8, .int .u8, .int .u8, .int .u8, .int .u8, .int .u8, .int .u8] m x_k i) tr)) tr))))))) (a_ (a_ (a_ tr tr) tr) tr))))))))) tr) (by kernel_rfl) rfl
            · skip
              obtain rfl := Option.some.inj h
              exact run_ret mixed (L := []) (n := 45) (s := [.reg [], .reg [(2, { call := some ((item_Table_Get_v y2).ren (sel [0, 1]), preOf (sel [0, 1]) 0 (item_Table_Get_objs m x_k), upOf (sel [0, 1]) (item_Table_Get_up m x_k y2)) })], .reg [(1, { call := some ((item_Table_ok_v y4).ren (sel [0, 1]), preOf (sel [0, 1]) 0 (item_Table_ok_objs m), upOf (sel [0, 1]) (item_Table_ok_up m y4)) })], .reg [(2, { call := some (item_may_v y6, [], []) }), (4, { v := some (.bool false) })], .reg [(2, { v := some (.bool true) }), (7, { v := some (.int .i64 ((m).length : Int)) }), (10, { v := some (.bool false) })], .reg [(1, { v := some (.bool true) }), (8, { v := some (.bool false) })], .reg [(1, { v := some (.bool false) })], .reg [(6, { os := [(1, .map true [.int .u8, .int .u8, .int .u8, .int .u8, .int .u8, .int .u8, .int .u8, .int .u8] (encM (fun z_ : A8 (Int) => LV.agg [.int .u8 z_.a0, .int .u8 z_.a1, .int .u8 z_.a2, .int .u8 z_.a3, .int .u8 z_.a4, .int .u8 z_.a5, .int .u8 z_.a6, .int .u8 z_.a7]) v_T_api_Item (mset m x_k i)))] })], .reg []])
                (a_ (a_ (a_ (a_ tr tr) (a_ (a_ tr tr) (a_ (a_ tr tr) tr))) (a_ (a_ (a_ tr tr) (a_ (a_ (a_ tr (le_ 8 8 rfl)) tr) (a_ (a_ (a_ (item_Table_Get_ok m x_k y2 e1 (sel [0, 1]) (sel_inj rfl rfl)) (a_ (LO.Le.refl (.var [.map 1])) (a_ (LO.Le.refl (.map true [.int .u8, .int .u8, .int .u8, .int .u8, .int .u8, .int .u8, .int .u8, .int .u8] (encM (fun z_ : A8 (Int) => LV.agg [.int .u8 z_.a0, .int .u8 z_.a1, .int .u8 z_.a2, .int .u8 z_.a3, .int .u8 z_.a4, .int .u8 z_.a5, .int .u8 z_.a6, .int .u8 z_.a7]) v_T_api_Item m))) tr))) tr) (a_ (a_ tr tr) (a_ (a_ tr tr) (a_ (a_ tr tr) (a_ (a_ tr tr) (a_ (a_ (a_ (Eq.refl 13) (a_ (le_ 13 13 rfl) (Eq.refl 0))) tr) (a_ (a_ tr tr) tr))))))))) (a_ (a_ (a_ tr tr) (a_ (a_ (a_ (item_Table_ok_ok m y4 e3 (sel [0, 1]) (sel_inj rfl rfl)) (a_ (LO.Le.refl (.var [.map 1])) (a_ (LO.Le.refl (.map true [.int .u8, .int .u8, .int .u8, .int .u8, .int .u8, .int .u8, .int .u8, .int .u8] (encM (fun z_ : A8 (Int) => LV.agg [.int .u8 z_.a0, .int .u8 z_.a1, .int .u8 z_.a2, .int .u8 z_.a3, .int .u8 z_.a4, .int .u8 z_.a5, .int .u8 z_.a6, .int .u8 z_.a7]) v_T_api_Item m))) tr))) tr) (a_ (a_ tr tr) (a_ (a_ tr tr) tr)))) (a_ (a_ (a_ (a_ tr (le_ 8 8 rfl)) tr) (a_ (a_ (a_ tr (le_ 13 13 rfl)) tr) (a_ (a_ (a_ (item_may_tri x_k i y6 e5) tr) tr) (a_ (a_ tr tr) (a_ (a_ tr (a_ (leB c7) tr)) tr))))) (a_ (a_ (a_ tr tr) (a_ (a_ tr tr) (a_ (a_ tr (a_ (leB c8) tr)) (a_ (a_ tr tr) (a_ (a_ tr tr) (a_ (a_ tr tr) (a_ (a_ (a_ tr (lt_ 0 1 rfl)) tr) (a_ (a_ tr (a_ (le_maplen (fun z_ : A8 (Int) => LV.agg [.int .u8 z_.a0, .int .u8 z_.a1, .int .u8 z_.a2, .int .u8 z_.a3, .int .u8 z_.a4, .int .u8 z_.a5, .int .u8 z_.a6, .int .u8 z_.a7]) v_T_api_Item m) tr)) (a_ (a_ tr tr) (a_ (a_ tr tr) (a_ (a_ tr (a_ (leB c9) tr)) tr))))))))))) (a_ (a_ (a_ tr tr) (a_ (a_ tr (a_ (leB c10) tr)) (a_ (a_ tr tr) (a_ (a_ (a_ tr (lt_ 0 13 rfl)) tr) (a_ (a_ tr tr) (a_ (a_ (a_ tr (lt_ 0 13 rfl)) tr) (a_ (a_ tr tr) (a_ (a_ tr tr) (a_ (a_ tr (a_ (leB c11) tr)) tr))))))))) (a_ (a_ (a_ tr tr) (a_ (a_ tr (a_ (leB c12) tr)) (a_ tr (a_ tr (a_ tr (a_ tr (a_ tr (a_ (a_ tr tr) (a_ (a_ tr tr) (a_ tr (a_ tr (a_ tr (a_ (a_ tr tr) (a_ (a_ tr tr) tr)))))))))))))) (a_ (a_ (a_ tr tr) (a_ (a_ tr tr) (a_ (a_ tr tr) (a_ (a_ (a_ tr (lt_ 0 1 rfl)) tr) (a_ (a_ (a_ tr (le_ 8 8 rfl)) tr) (a_ (a_ (a_ tr (le_ 13 13 rfl)) tr) (a_ (a_ (a_ (Eq.refl true) (Eq.refl true)) (a_ (sub_upd (fun z_ : A8 (Int) => LV.agg [.int .u8 z_.a0, .int .u8 z_.a1, .int .u8 z_.a2, .int .u8 z_.a3, .int .u8 z_.a4, .int .u8 z_.a5, .int .u8 z_.a6, .int .u8 z_.a7]) v_T_api_Item (k_arr8 .u8) true [.int .u8, .int .u8, .int .u8, .int .u8, .int .u8, .int .u8, .int .u8, .int .u8] m x_k i) tr)) tr))))))) (a_ (a_ (a_ tr tr) tr) tr))))))))) tr) (by kernel_rfl) rfl
        · skip
          rcases itb_some h with ⟨c11, h⟩ | ⟨c11, h⟩
          · skip
            rcases itb_some h with ⟨c12, h⟩ | ⟨c12, h⟩
            · skip
              rcases itb_some h with ⟨c13, h⟩ | ⟨c13, h⟩
              · skip
                obtain rfl := Option.some.inj h
                exact run_ret mixed (L := []) (n := 40) (s := [.reg [], .reg [(2, { call := some ((item_Table_Get_v y2).ren (sel [0, 1]), preOf (sel [0, 1]) 0 (item_Table_Get_objs m x_k), upOf (sel [0, 1]) (item_Table_Get_up m x_k y2)) })], .reg [(1, { call := some ((item_Table_ok_v y4).ren (sel [0, 1]), preOf (sel [0, 1]) 0 (item_Table_ok_objs m), upOf (sel [0, 1]) (item_Table_ok_up m y4)) })], .reg [(2, { call := some (item_may_v y6, [], []) }), (4, { v := some (.bool false) })], .reg [(2, { v := some (.bool true) }), (7, { v := some (.int .i64 ((m).length : Int)) }), (10, { v := some (.bool false) })], .reg [(1, { v := some (.bool false) })], .reg [(1, { v := some (.bool true) }), (8, { v := some (.bool true) }), (11, { v := some (.bool (!decide (y2.1 = i))) }), (13, { v := some (.bool true) })], .reg []])
                  (a_ (a_ (a_ (a_ tr tr) (a_ (a_ tr tr) (a_ (a_ tr tr) tr))) (a_ (a_ (a_ tr tr) (a_ (a_ (a_ tr (le_ 8 8 rfl)) tr) (a_ (a_ (a_ (item_Table_Get_ok m x_k y2 e1 (sel [0, 1]) (sel_inj rfl rfl)) (a_ (LO.Le.refl (.var [.map 1])) (a_ (LO.Le.refl (.map true [.int .u8, .int .u8, .int .u8, .int .u8, .int .u8, .int .u8, .int .u8, .int .u8] (encM (fun z_ : A8 (Int) => LV.agg [.int .u8 z_.a0, .int .u8 z_.a1, .int .u8 z_.a2, .int .u8 z_.a3, .int .u8 z_.a4, .int .u8 z_.a5, .int .u8 z_.a6, .int .u8 z_.a7]) v_T_api_Item m))) tr))) tr) (a_ (a_ tr tr) (a_ (a_ tr tr) (a_ (a_ tr tr) (a_ (a_ tr tr) (a_ (a_ (a_ (Eq.refl 13) (a_ (le_ 13 13 rfl) (Eq.refl 0))) tr) (a_ (a_ tr tr) tr))))))))) (a_ (a_ (a_ tr tr) (a_ (a_ (a_ (item_Table_ok_ok m y4 e3 (sel [0, 1]) (sel_inj rfl rfl)) (a_ (LO.Le.refl (.var [.map 1])) (a_ (LO.Le.refl (.map true [.int .u8, .int .u8, .int .u8, .int .u8, .int .u8, .int .u8, .int .u8, .int .u8] (encM (fun z_ : A8 (Int) => LV.agg [.int .u8 z_.a0, .int .u8 z_.a1, .int .u8 z_.a2, .int .u8 z_.a3, .int .u8 z_.a4, .int .u8 z_.a5, .int .u8 z_.a6, .int .u8 z_.a7]) v_T_api_Item m))) tr))) tr) (a_ (a_ tr tr) (a_ (a_ tr tr) tr)))) (a_ (a_ (a_ (a_ tr (le_ 8 8 rfl)) tr) (a_ (a_ (a_ tr (le_ 13 13 rfl)) tr) (a_ (a_ (a_ (item_may_tri x_k i y6 e5) tr) tr) (a_ (a_ tr tr) (a_ (a_ tr (a_ (leB c7) tr)) tr))))) (a_ (a_ (a_ tr tr) (a_ (a_ tr tr) (a_ (a_ tr (a_ (leB c8) tr)) (a_ (a_ tr tr) (a_ (a_ tr tr) (a_ (a_ tr tr) (a_ (a_ (a_ tr (lt_ 0 1 rfl)) tr) (a_ (a_ tr (a_ (le_maplen (fun z_ : A8 (Int) => LV.agg [.int .u8 z_.a0, .int .u8 z_.a1, .int .u8 z_.a2, .int .u8 z_.a3, .int .u8 z_.a4, .int .u8 z_.a5, .int .u8 z_.a6, .int .u8 z_.a7]) v_T_api_Item m) tr)) (a_ (a_ tr tr) (a_ (a_ tr tr) (a_ (a_ tr (a_ (leB c9) tr)) tr))))))))))) (a_ (a_ (a_ tr tr) (a_ (a_ tr (a_ (leB c10) tr)) (a_ tr (a_ tr (a_ tr (a_ tr (a_ tr (a_ (a_ tr tr) (a_ (a_ tr tr) tr))))))))) (a_ (a_ (a_ tr tr) (a_ (a_ tr (a_ (leB c11) tr)) (a_ (a_ tr tr) (a_ (a_ (a_ tr (lt_ 0 13 rfl)) tr) (a_ (a_ tr tr) (a_ (a_ (a_ tr (lt_ 0 13 rfl)) tr) (a_ (a_ tr tr) (a_ (a_ tr tr) (a_ (a_ tr (a_ (leB c12) tr)) (a_ (a_ (a_ tr (le_ 13 13 rfl)) tr) (a_ (a_ (a_ tr (le_ 13 13 rfl)) tr) (a_ (a_ tr (a_ (leB (congrArg not (k_T_api_Item y2.1 i))) tr)) (a_ (a_ tr tr) (a_ (a_ tr (a_ (leB c13) tr)) tr)))))))))))))) (a_ (a_ (a_ tr tr) tr) tr)))))))) tr) (by kernel_rfl) rfl
              · skip
                obtain rfl := Option.some.inj h
                exact run_ret mixed (L := []) (n := 45) (s := [.reg [], .reg [(2, { call := some ((item_Table_Get_v y2).ren (sel [0, 1]), preOf (sel [0, 1]) 0 (item_Table_Get_objs m x_k), upOf (sel [0, 1]) (item_Table_Get_up m x_k y2)) })], .reg [(1, { call := some ((item_Table_ok_v y4).ren (sel [0, 1]), preOf (sel [0, 1]) 0 (item_Table_ok_objs m), upOf (sel [0, 1]) (item_Table_ok_up m y4)) })], .reg [(2, { call := some (item_may_v y6, [], []) }), (4, { v := some (.bool false) })], .reg [(2, { v := some (.bool true) }), (7, { v := some (.int .i64 ((m).length : Int)) }), (10, { v := some (.bool false) })], .reg [(1, { v := some (.bool false) })], .reg [(1, { v := some (.bool true) }), (8, { v := some (.bool true) }), (11, { v := some (.bool (!decide (y2.1 = i))) }), (13, { v := some (.bool false) })], .reg [(6, { os := [(1, .map true [.int .u8, .int .u8, .int .u8, .int .u8, .int .u8, .int .u8, .int .u8, .int .u8] (encM (fun z_ : A8 (Int) => LV.agg [.int .u8 z_.a0, .int .u8 z_.a1, .int .u8 z_.a2, .int .u8 z_.a3, .int .u8 z_.a4, .int .u8 z_.a5, .int .u8 z_.a6, .int .u8 z_.a7]) v_T_api_Item (mset m x_k i)))] })], .reg []])
                  (a_ (a_ (a_ (a_ tr tr) (a_ (a_ tr tr) (a_ (a_ tr tr) tr))) (a_ (a_ (a_ tr tr) (a_ (a_ (a_ tr (le_ 8 8 rfl)) tr) (a_ (a_ (a_ (item_Table_Get_ok m x_k y2 e1 (sel [0, 1]) (sel_inj rfl rfl)) (a_ (LO.Le.refl (.var [.map 1])) (a_ (LO.Le.refl (.map true [.int .u8, .int .u8, .int .u8, .int .u8, .int .u8, .int .u8, .int .u8, .int .u8] (encM (fun z_ : A8 (Int) => LV.agg [.int .u8 z_.a0, .int .u8 z_.a1, .int .u8 z_.a2, .int .u8 z_.a3, .int .u8 z_.a4, .int .u8 z_.a5, .int .u8 z_.a6, .int .u8 z_.a7]) v_T_api_Item m))) tr))) tr) (a_ (a_ tr tr) (a_ (a_ tr tr) (a_ (a_ tr tr) (a_ (a_ tr tr) (a_ (a_ (a_ (Eq.refl 13) (a_ (le_ 13 13 rfl) (Eq.refl 0))) tr) (a_ (a_ tr tr) tr))))))))) (a_ (a_ (a_ tr tr) (a_ (a_ (a_ (item_Table_ok_ok m y4 e3 (sel [0, 1]) (sel_inj rfl rfl)) (a_ (LO.Le.refl (.var [.map 1])) (a_ (LO.Le.refl (.map true [.int .u8, .int .u8, .int .u8, .int .u8, .int .u8, .int .u8, .int .u8, .int .u8] (encM (fun z_ : A8 (Int) => LV.agg [.int .u8 z_.a0, .int .u8 z_.a1, .int .u8 z_.a2, .int .u8 z_.a3, .int .u8 z_.a4, .int .u8 z_.a5, .int .u8 z_.a6, .int .u8 z_.a7]) v_T_api_Item m))) tr))) tr) (a_ (a_ tr tr) (a_ (a_ tr tr) tr)))) (a_ (a_ (a_ (a_ tr (le_ 8 8 rfl)) tr) (a_ (a_ (a_ tr (le_ 13 13 rfl)) tr) (a_ (a_ (a_ (item_may_tri x_k i y6 e5) tr) tr) (a_ (a_ tr tr) (a_ (a_ tr (a_ (leB c7) tr)) tr))))) (a_ (a_ (a_ tr tr) (a_ (a_ tr tr) (a_ (a_ tr (a_ (leB c8) tr)) (a_ (a_ tr tr) (a_ (a_ tr tr) (a_ (a_ tr tr) (a_ (a_ (a_ tr (lt_ 0 1 rfl)) tr) (a_ (a_ tr (a_ (le_maplen (fun z_ : A8 (Int) => LV.agg [.int .u8 z_.a0, .int .u8 z_.a1, .int .u8 z_.a2, .int .u8 z_.a3, .int .u8 z_.a4, .int .u8 z_.a5, .int .u8 z_.a6, .int .u8 z_.a7]) v_T_api_Item m) tr)) (a_ (a_ tr tr) (a_ (a_ tr tr) (a_ (a_ tr (a_ (leB c9) tr)) tr))))))))))) (a_ (a_ (a_ tr tr) (a_ (a_ tr (a_ (leB c10) tr)) (a_ tr (a_ tr (a_ tr (a_ tr (a_ tr (a_ (a_ tr tr) (a_ (a_ tr tr) tr))))))))) (a_ (a_ (a_ tr tr) (a_ (a_ tr (a_ (leB c11) tr)) (a_ (a_ tr tr) (a_ (a_ (a_ tr (lt_ 0 13 rfl)) tr) (a_ (a_ tr tr) (a_ (a_ (a_ tr (lt_ 0 13 rfl)) tr) (a_ (a_ tr tr) (a_ (a_ tr tr) (a_ (a_ tr (a_ (leB c12) tr)) (a_ (a_ (a_ tr (le_ 13 13 rfl)) tr) (a_ (a_ (a_ tr (le_ 13 13 rfl)) tr) (a_ (a_ tr (a_ (leB (congrArg not (k_T_api_Item y2.1 i))) tr)) (a_ (a_ tr tr) (a_ (a_ tr (a_ (leB c13) tr)) tr)))))))))))))) (a_ (a_ (a_ tr tr) (a_ (a_ tr tr) (a_ (a_ tr tr) (a_ (a_ (a_ tr (lt_ 0 1 rfl)) tr) (a_ (a_ (a_ tr (le_ 8 8 rfl)) tr) (a_ (a_ (a_ tr (le_ 13 13 rfl)) tr) (a_ (a_ (a_ (Eq.refl true) (Eq.refl true)) (a_ (sub_upd (fun z_ : A8 (Int) => LV.agg [.int .u8 z_.a0, .int .u8 z_.a1, .int .u8 z_.a2, .int .u8 z_.a3, .int .u8 z_.a4, .int .u8 z_.a5, .int .u8 z_.a6, .int .u8 z_.a7]) v_T_api_Item (k_arr8 .u8) true [.int .u8, .int .u8, .int .u8, .int .u8, .int .u8, .int .u8, .int .u8, .int .u8] m x_k i) tr)) tr))))))) (a_ (a_ (a_ tr tr) tr) tr))))))))) tr) (by kernel_rfl) rfl
            · skip
              obtain rfl := Option.some.inj h
              exact run_ret mixed (L := []) (n := 45) (s := [.reg [], .reg [(2, { call := some ((item_Table_Get_v y2).ren (sel [0, 1]), preOf (sel [0, 1]) 0 (item_Table_Get_objs m x_k), upOf (sel [0, 1]) (item_Table_Get_up m x_k y2)) })], .reg [(1, { call := some ((item_Table_ok_v y4).ren (sel [0, 1]), preOf (sel [0, 1]) 0 (item_Table_ok_objs m), upOf (sel [0, 1]) (item_Table_ok_up m y4)) })], .reg [(2, { call := some (item_may_v y6, [], []) }), (4, { v := some (.bool false) })], .reg [(2, { v := some (.bool true) }), (7, { v := some (.int .i64 ((m).length : Int)) }), (10, { v := some (.bool false) })], .reg [(1, { v := some (.bool false) })], .reg [(1, { v := some (.bool true) }), (8, { v := some (.bool false) })], .reg [(6, { os := [(1, .map true [.int .u8, .int .u8, .int .u8, .int .u8, .int .u8, .int .u8, .int .u8, .int .u8] (encM (fun z_ : A8 (Int) => LV.agg [.int .u8 z_.a0, .int .u8 z_.a1, .int .u8 z_.a2, .int .u8 z_.a3, .int .u8 z_.a4, .int .u8 z_.a5, .int .u8 z_.a6, .int .u8 z_.a7]) v_T_api_Item (mset m x_k i)))] })], .reg []])
                (a_ (a_ (a_ (a_ tr tr) (a_ (a_ tr tr) (a_ (a_ tr tr) tr))) (a_ (a_ (a_ tr tr) (a_ (a_ (a_ tr (le_ 8 8 rfl)) tr) (a_ (a_ (a_ (item_Table_Get_ok m x_k y2 e1 (sel [0, 1]) (sel_inj rfl rfl)) (a_ (LO.Le.refl (.var [.map 1])) (a_ (LO.Le.refl (.map true [.int .u8, .int .u8, .int .u8, .int .u8, .int .u8, .int .u8, .int .u8, .int .u8] (encM (fun z_ : A8 (Int) => LV.agg [.int .u8 z_.a0, .int .u8 z_.a1, .int .u8 z_.a2, .int .u8 z_.a3, .int .u8 z_.a4, .int .u8 z_.a5, .int .u8 z_.a6, .int .u8 z_.a7]) v_T_api_Item m))) tr))) tr) (a_ (a_ tr tr) (a_ (a_ tr tr) (a_ (a_ tr tr) (a_ (a_ tr tr) (a_ (a_ (a_ (Eq.refl 13) (a_ (le_ 13 13 rfl) (Eq.refl 0))) tr) (a_ (a_ tr tr) tr))))))))) (a_ (a_ (a_ tr tr) (a_ (a_ (a_ (item_Table_ok_ok m y4 e3 (sel [0, 1]) (sel_inj rfl rfl)) (a_ (LO.Le.refl (.var [.map 1])) (a_ (LO.Le.refl (.map true [.int .u8, .int .u8, .int .u8, .int .u8, .int .u8, .int .u8, .int .u8, .int .u8] (encM (fun z_ : A8 (Int) => LV.agg [.int .u8 z_.a0, .int .u8 z_.a1, .int .u8 z_.a2, .int .u8 z_.a3, .int .u8 z_.a4, .int .u8 z_.a5, .int .u8 z_.a6, .int .u8 z_.a7]) v_T_api_Item m))) tr))) tr) (a_ (a_ tr tr) (a_ (a_ tr tr) tr)))) (a_ (a_ (a_ (a_ tr (le_ 8 8 rfl)) tr) (a_ (a_ (a_ tr (le_ 13 13 rfl)) tr) (a_ (a_ (a_ (item_may_tri x_k i y6 e5) tr) tr) (a_ (a_ tr tr) (a_ (a_ tr (a_ (leB c7) tr)) tr))))) (a_ (a_ (a_ tr tr) (a_ (a_ tr tr) (a_ (a_ tr (a_ (leB c8) tr)) (a_ (a_ tr tr) (a_ (a_ tr tr) (a_ (a_ tr tr) (a_ (a_ (a_ tr (lt_ 0 1 rfl)) tr) (a_ (a_ tr (a_ (le_maplen (fun z_ : A8 (Int) => LV.agg [.int .u8 z_.a0, .int .u8 z_.a1, .int .u8 z_.a2, .int .u8 z_.a3, .int .u8 z_.a4, .int .u8 z_.a5, .int .u8 z_.a6, .int .u8 z_.a7]) v_T_api_Item m) tr)) (a_ (a_ tr tr) (a_ (a_ tr tr) (a_ (a_ tr (a_ (leB c9) tr)) tr))))))))))) (a_ (a_ (a_ tr tr) (a_ (a_ tr (a_ (leB c10) tr)) (a_ tr (a_ tr (a_ tr (a_ tr (a_ tr (a_ (a_ tr tr) (a_ (a_ tr tr) tr))))))))) (a_ (a_ (a_ tr tr) (a_ (a_ tr (a_ (leB c11) tr)) (a_ (a_ tr tr) (a_ (a_ (a_ tr (lt_ 0 13 rfl)) tr) (a_ (a_ tr tr) (a_ (a_ (a_ tr (lt_ 0 13 rfl)) tr) (a_ (a_ tr tr) (a_ (a_ tr tr) (a_ (a_ tr (a_ (leB c12) tr)) (a_ tr (a_ tr (a_ tr (a_ (a_ tr tr) (a_ (a_ tr tr) tr)))))))))))))) (a_ (a_ (a_ tr tr) (a_ (a_ tr tr) (a_ (a_ tr tr) (a_ (a_ (a_ tr (lt_ 0 1 rfl)) tr) (a_ (a_ (a_ tr (le_ 8 8 rfl)) tr) (a_ (a_ (a_ tr (le_ 13 13 rfl)) tr) (a_ (a_ (a_ (Eq.refl true) (Eq.refl true)) (a_ (sub_upd (fun z_ : A8 (Int) => LV.agg [.int .u8 z_.a0, .int .u8 z_.a1, .int .u8 z_.a2, .int .u8 z_.a3, .int .u8 z_.a4, .int .u8 z_.a5, .int .u8 z_.a6, .int .u8 z_.a7]) v_T_api_Item (k_arr8 .u8) true [.int .u8, .int .u8, .int .u8, .int .u8, .int .u8, .int .u8, .int .u8, .int .u8] m x_k i) tr)) tr))))))) (a_ (a_ (a_ tr tr) tr) tr))))))))) tr) (by kernel_rfl) rfl
          · skip
            obtain rfl := Option.some.inj h
            exact run_ret mixed (L := []) (n := 45) (s := [.reg [], .reg [(2, { call := some ((item_Table_Get_v y2).ren (sel [0, 1]), preOf (sel [0, 1]) 0 (item_Table_Get_objs m x_k), upOf (sel [0, 1]) (item_Table_Get_up m x_k y2)) })], .reg [(1, { call := some ((item_Table_ok_v y4).ren (sel [0, 1]), preOf (sel [0, 1]) 0 (item_Table_ok_objs m), upOf (sel [0, 1]) (item_Table_ok_up m y4)) })], .reg [(2, { call := some (item_may_v y6, [], []) }), (4, { v := some (.bool false) })], .reg [(2, { v := some (.bool true) }), (7, { v := some (.int .i64 ((m).length : Int)) }), (10, { v := some (.bool false) })], .reg [(1, { v := some (.bool false) })], .reg [(1, { v := some (.bool false) })], .reg [(6, { os := [(1, .map true [.int .u8, .int .u8, .int .u8, .int .u8, .int .u8, .int .u8, .int .u8, .int .u8] (encM (fun z_ : A8 (Int) => LV.agg [.int .u8 z_.a0, .int .u8 z_.a1, .int .u8 z_.a2, .int .u8 z_.a3, .int .u8 z_.a4, .int .u8 z_.a5, .int .u8 z_.a6, .int .u8 z_.a7]) v_T_api_Item (mset m x_k i)))] })], .reg []])
              (a_ (a_ (a_ (a_ tr tr) (a_ (a_ tr tr) (a_ (a_ tr tr) tr))) (a_ (a_ (a_ tr tr) (a_ (a_ (a_ tr (le_ 8 8 rfl)) tr) (a_ (a_ (a_ (item_Table_Get_ok m x_k y2 e1 (sel [0, 1]) (sel_inj rfl rfl)) (a_ (LO.Le.refl (.var [.map 1])) (a_ (LO.Le.refl (.map true [.int .u8, .int .u8, .int .u8, .int .u8, .int .u8, .int .u8, .int .u8, .int .u8] (encM (fun z_ : A8 (Int) => LV.agg [.int .u8 z_.a0, .int .u8 z_.a1, .int .u8 z_.a2, .int .u8 z_.a3, .int .u8 z_.a4, .int .u8 z_.a5, .int .u8 z_.a6, .int .u8 z_.a7]) v_T_api_Item m))) tr))) tr) (a_ (a_ tr tr) (a_ (a_ tr tr) (a_ (a_ tr tr) (a_ (a_ tr tr) (a_ (a_ (a_ (Eq.refl 13) (a_ (le_ 13 13 rfl) (Eq.refl 0))) tr) (a_ (a_ tr tr) tr))))))))) (a_ (a_ (a_ tr tr) (a_ (a_ (a_ (item_Table_ok_ok m y4 e3 (sel [0, 1]) (sel_inj rfl rfl)) (a_ (LO.Le.refl (.var [.map 1])) (a_ (LO.Le.refl (.map true [.int .u8, .int .u8, .int .u8, .int .u8, .int .u8, .int .u8, .int .u8, .int .u8] (encM (fun z_ : A8 (Int) => LV.agg [.int .u8 z_.a0, .int .u8 z_.a1, .int .u8 z_.a2, .int .u8 z_.a3, .int .u8 z_.a4, .int .u8 z_.a5, .int .u8 z_.a6, .int .u8 z_.a7]) v_T_api_Item m))) tr))) tr) (a_ (a_ tr tr) (a_ (a_ tr tr) tr)))) (a_ (a_ (a_ (a_ tr (le_ 8 8 rfl)) tr) (a_ (a_ (a_ tr (le_ 13 13 rfl)) tr) (a_ (a_ (a_ (item_may_tri x_k i y6 e5) tr) tr) (a_ (a_ tr tr) (a_ (a_ tr (a_ (leB c7) tr)) tr))))) (a_ (a_ (a_ tr tr) (a_ (a_ tr tr) (a_ (a_ tr (a_ (leB c8) tr)) (a_ (a_ tr tr) (a_ (a_ tr tr) (a_ (a_ tr tr) (a_ (a_ (a_ tr (lt_ 0 1 rfl)) tr) (a_ (a_ tr (a_ (le_maplen (fun z_ : A8 (Int) => LV.agg [.int .u8 z_.a0, .int .u8 z_.a1, .int .u8 z_.a2, .int .u8 z_.a3, .int .u8 z_.a4, .int .u8 z_.a5, .int .u8 z_.a6, .int .u8 z_.a7]) v_T_api_Item m) tr)) (a_ (a_ tr tr) (a_ (a_ tr tr) (a_ (a_ tr (a_ (leB c9) tr)) tr))))))))))) (a_ (a_ (a_ tr tr) (a_ (a_ tr (a_ (leB c10) tr)) (a_ tr (a_ tr (a_ tr (a_ tr (a_ tr (a_ (a_ tr tr) (a_ (a_ tr tr) tr))))))))) (a_ (a_ (a_ tr tr) (a_ (a_ tr (a_ (leB c11) tr)) (a_ tr (a_ tr (a_ tr (a_ tr (a_ tr (a_ (a_ tr tr) (a_ (a_ tr tr) (a_ tr (a_ tr (a_ tr (a_ (a_ tr tr) (a_ (a_ tr tr) tr)))))))))))))) (a_ (a_ (a_ tr tr) (a_ (a_ tr tr) (a_ (a_ tr tr) (a_ (a_ (a_ tr (lt_ 0 1 rfl)) tr) (a_ (a_ (a_ tr (le_ 8 8 rfl)) tr) (a_ (a_ (a_ tr (le_ 13 13 rfl)) tr) (a_ (a_ (a_ (Eq.refl true) (Eq.refl true)) (a_ (sub_upd (fun z_ : A8 (Int) => LV.agg [.int .u8 z_.a0, .int .u8 z_.a1, .int .u8 z_.a2, .int .u8 z_.a3, .int .u8 z_.a4, .int .u8 z_.a5, .int .u8 z_.a6, .int .u8 z_.a7]) v_T_api_Item (k_arr8 .u8) true [.int .u8, .int .u8, .int .u8, .int .u8, .int .u8, .int .u8, .int .u8, .int .u8] m x_k i) tr)) tr))))))) (a_ (a_ (a_ tr tr) tr) tr))))))))) tr) (by kernel_rfl) rfl
    · skip
      rcases itb_some h with ⟨c9, h⟩ | ⟨c9, h⟩
      · skip
        rcases itb_some h with ⟨c10, h⟩ | ⟨c10, h⟩
        · skip
          obtain rfl := Option.some.inj h
          exact run_ret mixed (L := []) (n := 36) (s := [.reg [], .reg [(2, { call := some ((item_Table_Get_v y2).ren (sel [0, 1]), preOf (sel [0, 1]) 0 (item_Table_Get_objs m x_k), upOf (sel [0, 1]) (item_Table_Get_up m x_k y2)) })], .reg [(1, { call := some ((item_Table_ok_v y4).ren (sel [0, 1]), preOf (sel [0, 1]) 0 (item_Table_ok_objs m), upOf (sel [0, 1]) (item_Table_ok_up m y4)) })], .reg [(2, { call := some (item_may_v y6, [], []) }), (4, { v := some (.bool false) })], .reg [(2, { v := some (.bool false) })], .reg [(1, { v := some (.bool true) }), (8, { v := some (.bool true) })], .reg []])
            (a_ (a_ (a_ (a_ tr tr) (a_ (a_ tr tr) (a_ (a_ tr tr) tr))) (a_ (a_ (a_ tr tr) (a_ (a_ (a_ tr (le_ 8 8 rfl)) tr) (a_ (a_ (a_ (item_Table_Get_ok m x_k y2 e1 (sel [0, 1]) (sel_inj rfl rfl)) (a_ (LO.Le.refl (.var [.map 1])) (a_ (LO.Le.refl (.map true [.int .u8, .int .u8, .int .u8, .int .u8, .int .u8, .int .u8, .int .u8, .int .u8] (encM (fun z_ : A8 (Int) => LV.agg [.int .u8 z_.a0, .int .u8 z_.a1, .int .u8 z_.a2, .int .u8 z_.a3, .int .u8 z_.a4, .int .u8 z_.a5, .int .u8 z_.a6, .int .u8 z_.a7]) v_T_api_Item m))) tr))) tr) (a_ (a_ tr tr) (a_ (a_ tr tr) (a_ (a_ tr tr) (a_ (a_ tr tr) (a_ (a_ (a_ (Eq.refl 13) (a_ (le_ 13 13 rfl) (Eq.refl 0))) tr) (a_ (a_ tr tr) tr))))))))) (a_ (a_ (a_ tr tr) (a_ (a_ (a_ (item_Table_ok_ok m y4 e3 (sel [0, 1]) (sel_inj rfl rfl)) (a_ (LO.Le.refl (.var [.map 1])) (a_ (LO.Le.refl (.map true [.int .u8, .int .u8, .int .u8, .int .u8, .int .u8, .int .u8, .int .u8, .int .u8] (encM (fun z_ : A8 (Int) => LV.agg [.int .u8 z_.a0, .int .u8 z_.a1, .int .u8 z_.a2, .int .u8 z_.a3, .int .u8 z_.a4, .int .u8 z_.a5, .int .u8 z_.a6, .int .u8 z_.a7]) v_T_api_Item m))) tr))) tr) (a_ (a_ tr tr) (a_ (a_ tr tr) tr)))) (a_ (a_ (a_ (a_ tr (le_ 8 8 rfl)) tr) (a_ (a_ (a_ tr (le_ 13 13 rfl)) tr) (a_ (a_ (a_ (item_may_tri x_k i y6 e5) tr) tr) (a_ (a_ tr tr) (a_ (a_ tr (a_ (leB c7) tr)) tr))))) (a_ (a_ (a_ tr tr) (a_ (a_ tr tr) (a_ (a_ tr (a_ (leB c8) tr)) (a_ tr (a_ tr (a_ tr (a_ tr (a_ tr (a_ tr (a_ (a_ tr tr) (a_ (a_ tr tr) tr))))))))))) (a_ (a_ (a_ tr tr) (a_ (a_ tr (a_ (leB c9) tr)) (a_ (a_ tr tr) (a_ (a_ (a_ tr (lt_ 0 13 rfl)) tr) (a_ (a_ tr tr) (a_ (a_ (a_ tr (lt_ 0 13 rfl)) tr) (a_ (a_ tr tr) (a_ (a_ tr tr) (a_ (a_ tr (a_ (leB c10) tr)) tr))))))))) (a_ (a_ (a_ tr tr) tr) tr))))))) tr) (by kernel_rfl) rfl
        · skip
          rcases itb_some h with ⟨c11, h⟩ | ⟨c11, h⟩
          · skip
            rcases itb_some h with ⟨c12, h⟩ | ⟨c12, h⟩
            · skip
              rcases itb_some h with ⟨c13, h⟩ | ⟨c13, h⟩
              · skip
                obtain rfl := Option.some.inj h
                exact run_ret mixed (L := []) (n := 40) (s := [.reg [], .reg [(2, { call := some ((item_Table_Get_v y2).ren (sel [0, 1]), preOf (sel [0, 1]) 0 (item_Table_Get_objs m x_k), upOf (sel [0, 1]) (item_Table_Get_up m x_k y2)) })], .reg [(1, { call := some ((item_Table_ok_v y4).ren (sel [0, 1]), preOf (sel [0, 1]) 0 (item_Table_ok_objs m), upOf (sel [0, 1]) (item_Table_ok_up m y4)) })], .reg [(2, { call := some (item_may_v y6, [], []) }), (4, { v := some (.bool false) })], .reg [(2, { v := some (.bool false) })], .reg [(1, { v := some (.bool true) }), (8, { v := some (.bool false) })], .reg [(1, { v := some (.bool true) }), (8, { v := some (.bool true) }), (11, { v := some (.bool (!decide (y2.1 = i))) }), (13, { v := some (.bool true) })], .reg []])
                  (a_ (a_ (a_ (a_ tr tr) (a_ (a_ tr tr) (a_ (a_ tr tr) tr))) (a_ (a_ (a_ tr tr) (a_ (a_ (a_ tr (le_ 8 8 rfl)) tr) (a_ (a_ (a_ (item_Table_Get_ok m x_k y2 e1 (sel [0, 1]) (sel_inj rfl rfl)) (a_ (LO.Le.refl (.var [.map 1])) (a_ (LO.Le.refl (.map true [.int .u8, .int .u8, .int .u8, .int .u8, .int .u8, .int .u8, .int .u8, .int .u8] (encM (fun z_ : A8 (Int) => LV.agg [.int .u8 z_.a0, .int .u8 z_.a1, .int .u8 z_.a2, .int .u8 z_.a3, .int .u8 z_.a4, .int .u8 z_.a5, .int .u8 z_.a6, .int .u8 z_.a7]) v_T_api_Item m))) tr))) tr) (a_ (a_ tr tr) (a_ (a_ tr tr) (a_ (a_ tr tr) (a_ (a_ tr tr) (a_ (a_ (a_ (Eq.refl 13) (a_ (le_ 13 13 rfl) (Eq.refl 0))) tr) (a_ (a_ tr tr) tr))))))))) (a_ (a_ (a_ tr tr) (a_ (a_ (a_ (item_Table_ok_ok m y4 e3 (sel [0, 1]) (sel_inj rfl rfl)) (a_ (LO.Le.refl (.var [.map 1])) (a_ (LO.Le.refl (.map true [.int .u8, .int .u8, .int .u8, .int .u8, .int .u8, .int .u8, .int .u8, .int .u8] (encM (fun z_ : A8 (Int) => LV.agg [.int .u8 z_.a0, .int .u8 z_.a1, .int .u8 z_.a2, .int .u8 z_.a3, .int .u8 z_.a4, .int .u8 z_.a5, .int .u8 z_.a6, .int .u8 z_.a7]) v_T_api_Item m))) tr))) tr) (a_ (a_ tr tr) (a_ (a_ tr tr) tr)))) (a_ (a_ (a_ (a_ tr (le_ 8 8 rfl)) tr) (a_ (a_ (a_ tr (le_ 13 13 rfl)) tr) (a_ (a_ (a_ (item_may_tri x_k i y6 e5) tr) tr) (a_ (a_ tr tr) (a_ (a_ tr (a_ (leB c7) tr)) tr))))) (a_ (a_ (a_ tr tr) (a_ (a_ tr tr) (a_ (a_ tr (a_ (leB c8) tr)) (a_ tr (a_ tr (a_ tr (a_ tr (a_ tr (a_ tr (a_ (a_ tr tr) (a_ (a_ tr tr) tr))))))))))) (a_ (a_ (a_ tr tr) (a_ (a_ tr (a_ (leB c9) tr)) (a_ (a_ tr tr) (a_ (a_ (a_ tr (lt_ 0 13 rfl)) tr) (a_ (a_ tr tr) (a_ (a_ (a_ tr (lt_ 0 13 rfl)) tr) (a_ (a_ tr tr) (a_ (a_ tr tr) (a_ (a_ tr (a_ (leB c10) tr)) tr))))))))) (a_ (a_ (a_ tr tr) (a_ (a_ tr (a_ (leB c11) tr)) (a_ (a_ tr tr) (a_ (a_ (a_ tr (lt_ 0 13 rfl)) tr) (a_ (a_ tr tr) (a_ (a_ (a_ tr (lt_ 0 13 rfl)) tr) (a_ (a_ tr tr) (a_ (a_ tr tr) (a_ (a_ tr (a_ (leB c12) tr)) (a_ (a_ (a_ tr (le_ 13 13 rfl)) tr) (a_ (a_ (a_ tr (le_ 13 13 rfl)) tr) (a_ (a_ tr (a_ (leB (congrArg not (k_T_api_Item y2.1 i))) tr)) (a_ (a_ tr tr) (a_ (a_ tr (a_ (leB c13) tr)) tr)))))))))))))) (a_ (a_ (a_ tr tr) tr) tr)))))))) tr) (by kernel_rfl) rfl
              · skip
                obtain rfl := Option.some.inj h
                exact run_ret mixed (L := []) (n := 45) (s := [.reg [], .reg [(2, { call := some ((item_Table_Get_v y2).ren (sel [0, 1]), preOf (sel [0, 1]) 0 (item_Table_Get_objs m x_k), upOf (sel [0, 1]) (item_Table_Get_up m x_k y2)) })], .reg [(1, { call := some ((item_Table_ok_v y4).ren (sel [0, 1]), preOf (sel [0, 1]) 0 (item_Table_ok_objs m), upOf (sel [0, 1]) (item_Table_ok_up m y4)) })], .reg [(2, { call := some (item_may_v y6, [], []) }), (4, { v := some (.bool false) })], .reg [(2, { v := some (.bool false) })], .reg [(1, { v := some (.bool true) }), (8, { v := some (.bool false) })], .reg [(1, { v := some (.bool true) }), (8, { v := some (.bool true) }), (11, { v := some (.bool (!decide (y2.1 = i))) }), (13, { v := some (.bool false) })], .reg [(6, { os := [(1, .map true [.int .u8, .int .u8, .int .u8, .int .u8, .int .u8, .int .u8, .int .u8, .int .u8] (encM (fun z_ : A8 (Int) => LV.agg [.int .u8 z_.a0, .int .u8 z_.a1, .int .u8 z_.a2, .int .u8 z_.a3, .int .u8 z_.a4, .int .u8 z_.a5, .int .u8 z_.a6, .int .u8 z_.a7]) v_T_api_Item (mset m x_k i)))] })], .reg []])
                  (a_ (a_ (a_ (a_ tr tr) (a_ (a_ tr tr) (a_ (a_ tr tr) tr))) (a_ (a_ (a_ tr tr) (a_ (a_ (a_ tr (le_ 8 8 rfl)) tr) (a_ (a_ (a_ (item_Table_Get_ok m x_k y2 e1 (sel [0, 1]) (sel_inj rfl rfl)) (a_ (LO.Le.refl (.var [.map 1])) (a_ (LO.Le.refl (.map true [.int .u8, .int .u8, .int .u8, .int .u8, .int .u8, .int .u8, .int .u8, .int .u8] (encM (fun z_ : A8 (Int) => LV.agg [.int .u8 z_.a0, .int .u8 z_.a1, .int .u8 z_.a2, .int .u8 z_.a3, .int .u8 z_.a4, .int .u8 z_.a5, .int .u8 z_.a6, .int .u8 z_.a7]) v_T_api_Item m))) tr))) tr) (a_ (a_ tr tr) (a_ (a_ tr tr) (a_ (a_ tr tr) (a_ (a_ tr tr) (a_ (a_ (a_ (Eq.refl 13) (a_ (le_ 13 13 rfl) (Eq.refl 0))) tr) (a_ (a_ tr tr) tr))))))))) (a_ (a_ (a_ tr tr) (a_ (a_ (a_ (item_Table_ok_ok m y4 e3 (sel [0, 1]) (sel_inj rfl rfl)) (a_ (LO.Le.refl (.var [.map 1])) (a_ (LO.Le.refl (.map true [.int .u8, .int .u8, .int .u8, .int .u8, .int .u8, .int .u8, .int .u8, .int .u8] (encM (fun z_ : A8 (Int) => LV.agg [.int .u8 z_.a0, .int .u8 z_.a1, .int .u8 z_.a2, .int .u8 z_.a3, .int .u8 z_.a4, .int .u8 z_.a5, .int .u8 z_.a6, .int .u8 z_.a7]) v_T_api_Item m))) tr))) tr) (a_ (a_ tr tr) (a_ (a_ tr tr) tr)))) (a_ (a_ (a_ (a_ tr (le_ 8 8 rfl)) tr) (a_ (a_ (a_ tr (le_ 13 13 rfl)) tr) (a_ (a_ (a_ (item_may_tri x_k i y6 e5) tr) tr) (a_ (a_ tr tr) (a_ (a_ tr (a_ (leB c7) tr)) tr))))) (a_ (a_ (a_ tr tr) (a_ (a_ tr tr) (a_ (a_ tr (a_ (leB c8) tr)) (a_ tr (a_ tr (a_ tr (a_ tr (a_ tr (a_ tr (a_ (a_ tr tr) (a_ (a_ tr tr) tr))))))))))) (a_ (a_ (a_ tr tr) (a_ (a_ tr (a_ (leB c9) tr)) (a_ (a_ tr tr) (a_ (a_ (a_ tr (lt_ 0 13 rfl)) tr) (a_ (a_ tr tr) (a_ (a_ (a_ tr (lt_ 0 13 rfl)) tr) (a_ (a_ tr tr) (a_ (a_ tr tr) (a_ (a_ tr (a_ (leB c10) tr)) tr))))))))) (a_ (a_ (a_ tr tr) (a_ (a_ tr (a_ (leB c11) tr)) (a_ (a_ tr tr) (a_ (a_ (a_ tr (lt_ 0 13 rfl)) tr) (a_ (a_ tr tr) (a_ (a_ (a_ tr (lt_ 0 13 rfl)) tr) (a_ (a_ tr tr) (a_ (a_ tr tr) (a_ (a_ tr (a_ (leB c12) tr)) (a_ (a_ (a_ tr (le_ 13 13 rfl)) tr) (a_ (a_ (a_ tr (le_ 13 13 rfl)) tr) (a_ (a_ tr (a_ (leB (congrArg not (k_T_api_Item y2.1 i))) tr)) (a_ (a_ tr tr) (a_ (a_ tr (a_ (leB c13) tr)) tr)))))))))))))) (a_ (a_ (a_ tr tr) (a_ (a_ tr tr) (a_ (a_ tr tr) (a_ (a_ (a_ tr (lt_ 0 1 rfl)) tr) (a_ (a_ (a_ tr (le_ 8 8 rfl)) tr) (a_ (a_ (a_ tr (le_ 13 13 rfl)) tr) (a_ (a_ (a_ (Eq.refl true) (Eq.refl true)) (a_ (sub_upd (fun z_ : A8 (Int) => LV.agg [.int .u8 z_.a0, .int .u8 z_.a1, .int .u8 z_.a2, .int .u8 z_.a3, .int .u8 z_.a4, .int .u8 z_.a5, .int .u8 z_.a6, .int .u8 z_.a7]) v_T_api_Item (k_arr8 .u8) true [.int .u8, .int .u8, .int .u8, .int .u8, .int .u8, .int .u8, .int .u8, .int .u8] m x_k i) tr)) tr))))))) (a_ (a_ (a_ tr tr) tr) tr))))))))) tr) (by kernel_rfl) rfl
            · skip
              obtain rfl := Option.some.inj h
              exact run_ret mixed (L := []) (n := 45) (s := [.reg [], .reg [(2, { call := some ((item_Table_Get_v y2).ren (sel [0, 1]), preOf (sel [0, 1]) 0 (item_Table_Get_objs m x_k), upOf (sel [0, 1]) (item_Table_Get_up m x_k y2)) })], .reg [(1, { call := some ((item_Table_ok_v y4).ren (sel [0, 1]), preOf (sel [0, 1]) 0 (item_Table_ok_objs m), upOf (sel [0, 1]) (item_Table_ok_up m y4)) })], .reg [(2, { call := some (item_may_v y6, [], []) }), (4, { v := some (.bool false) })], .reg [(2, { v := some (.bool false) })], .reg [(1, { v := some (.bool true) }), (8, { v := some (.bool false) })], .reg [(1, { v := some (.bool true) }), (8, { v := some (.bool false) })], .reg [(6, { os := [(1, .map true [.int .u8, .int .u8, .int .u8, .int .u8, .int .u8, .int .u8, .int .u8, .int .u8] (encM (fun z_ : A8 (Int) => LV.agg [.int .u8 z_.a0, .int .u8 z_.a1, .int .u8 z_.a2, .int .u8 z_.a3, .int .u8 z_.a4, .int .u8 z_.a5, .int .u8 z_.a6, .int .u8 z_.a7]) v_T_api_Item (mset m x_k i)))] })], .reg []])
                (a_ (a_ (a_ (a_ tr tr) (a_ (a_ tr tr) (a_ (a_ tr tr) tr))) (a_ (a_ (a_ tr tr) (a_ (a_ (a_ tr (le_ 8 8 rfl)) tr) (a_ (a_ (a_ (item_Table_Get_ok m x_k y2 e1 (sel [0, 1]) (sel_inj rfl rfl)) (a_ (LO.Le.refl (.var [.map 1])) (a_ (LO.Le.refl (.map true [.int .u8, .int .u8, .int .u8, .int .u8, .int .u8, .int .u8, .int .u8, .int .u8] (encM (fun z_ : A8 (Int) => LV.agg [.int .u8 z_.a0, .int .u8 z_.a1, .int .u8 z_.a2, .int .u8 z_.a3, .int .u8 z_.a4, .int .u8 z_.a5, .int .u8 z_.a6, .int .u8 z_.a7]) v_T_api_Item m))) tr))) tr) (a_ (a_ tr tr) (a_ (a_ tr tr) (a_ (a_ tr tr) (a_ (a_ tr tr) (a_ (a_ (a_ (Eq.refl 13) (a_ (le_ 13 13 rfl) (Eq.refl 0))) tr) (a_ (a_ tr tr) tr))))))))) (a_ (a_ (a_ tr tr) (a_ (a_ (a_ (item_Table_ok_ok m y4 e3 (sel [0, 1]) (sel_inj rfl rfl)) (a_ (LO.Le.refl (.var [.map 1])) (a_ (LO.Le.refl (.map true [.int .u8, .int .u8, .int .u8, .int .u8, .int .u8, .int .u8, .int .u8, .int .u8] (encM (fun z_ : A8 (Int) => LV.agg [.int .u8 z_.a0, .int .u8 z_.a1, .int .u8 z_.a2, .int .u8 z_.a3, .int .u8 z_.a4, .int .u8 z_.a5, .int .u8 z_.a6, .int .u8 z_.a7]) v_T_api_Item m))) tr))) tr) (a_ (a_ tr tr) (a_ (a_ tr tr) tr)))) (a_ (a_ (a_ (a_ tr (le_ 8 8 rfl)) tr) (a_ (a_ (a_ tr (le_ 13 13 rfl)) tr) (a_ (a_ (a_ (item_may_tri x_k i y6 e5) tr) tr) (a_ (a_ tr tr) (a_ (a_ tr (a_ (leB c7) tr)) tr))))) (a_ (a_ (a_ tr tr) (a_ (a_ tr tr) (a_ (a_ tr (a_ (leB c8) tr)) (a_ tr (a_ tr (a_ tr (a_ tr (a_ tr (a_ tr (a_ (a_ tr tr) (a_ (a_ tr tr) tr))))))))))) (a_ (a_ (a_ tr tr) (a_ (a_ tr (a_ (leB c9) tr)) (a_ (a_ tr tr) (a_ (a_ (a_ tr (lt_ 0 13 rfl)) tr) (a_ (a_ tr tr) (a_ (a_ (a_ tr (lt_ 0 13 rfl)) tr) (a_ (a_ tr tr) (a_ (a_ tr tr) (a_ (a_ tr (a_ (leB c10) tr)) tr))))))))) (a_ (a_ (a_ tr tr) (a_ (a_ tr (a_ (leB c11) tr)) (a_ (a_ tr tr) (a_ (a_ (a_ tr (lt_ 0 13 rfl)) tr) (a_ (a_ tr tr) (a_ (a_ (a_ tr (lt_ 0 13 rfl)) tr) (a_ (a_ tr tr) (a_ (a_ tr tr) (a_ (a_ tr (a_ (leB c12) tr)) (a_ tr (a_ tr (a_ tr (a_ (a_ tr tr) (a_ (a_ tr tr) tr)))))))))))))) (a_ (a_ (a_ tr tr) (a_ (a_ tr tr) (a_ (a_ tr tr) (a_ (a_ (a_ tr (lt_ 0 1 rfl)) tr) (a_ (a_ (a_ tr (le_ 8 8 rfl)) tr) (a_ (a_ (a_ tr (le_ 13 13 rfl)) tr) (a_ (a_ (a_ (Eq.refl true) (Eq.refl true)) (a_ (sub_upd (fun z_ : A8 (Int) => LV.agg [.int .u8 z_.a0, .int .u8 z_.a1, .int .u8 z_.a2, .int .u8 z_.a3, .int .u8 z_.a4, .int .u8 z_.a5, .int .u8 z_.a6, .int .u8 z_.a7]) v_T_api_Item (k_arr8 .u8) true [.int .u8, .int .u8, .int .u8, .int .u8, .int .u8, .int .u8, .int .u8, .int .u8] m x_k i) tr)) tr))))))) (a_ (a_ (a_ tr tr) tr) tr))))))))) tr) (by kernel_rfl) rfl
          · skip
            obtain rfl := Option.some.inj h
            exact run_ret mixed (L := []) (n := 45) (s := [.reg [], .reg [(2, { call := some ((item_Table_Get_v y2).ren (sel [0, 1]), preOf (sel [0, 1]) 0 (item_Table_Get_objs m x_k), upOf (sel [0, 1]) (item_Table_Get_up m x_k y2)) })], .reg [(1, { call := some ((item_Table_ok_v y4).ren (sel [0, 1]), preOf (sel [0, 1]) 0 (item_Table_ok_objs m), upOf (sel [0, 1]) (item_Table_ok_up m y4)) })], .reg [(2, { call := some (item_may_v y6, [], []) }), (4, { v := some (.bool false) })], .reg [(2, { v := some (.bool false) })], .reg [(1, { v := some (.bool true) }), (8, { v := some (.bool false) })], .reg [(1, { v := some (.bool false) })], .reg [(6, { os := [(1, .map true [.int .u8, .int .u8, .int .u8, .int .u8, .int .u8, .int .u8, .int .u8, .int .u8] (encM (fun z_ : A8 (Int) => LV.agg [.int .u8 z_.a0, .int .u8 z_.a1, .int .u8 z_.a2, .int .u8 z_.a3, .int .u8 z_.a4, .int .u8 z_.a5, .int .u8 z_.a6, .int .u8 z_.a7]) v_T_api_Item (mset m x_k i)))] })], .reg []])
              (a_ (a_ (a_ (a_ tr tr) (a_ (a_ tr tr) (a_ (a_ tr tr) tr))) (a_ (a_ (a_ tr tr) (a_ (a_ (a_ tr (le_ 8 8 rfl)) tr) (a_ (a_ (a_ (item_Table_Get_ok m x_k y2 e1 (sel [0, 1]) (sel_inj rfl rfl)) (a_ (LO.Le.refl (.var [.map 1])) (a_ (LO.Le.refl (.map true [.int .u8, .int .u8, .int .u8, .int .u8, .int .u8, .int .u8, .int .u8, .int .u8] (encM (fun z_ : A8 (Int) => LV.agg [.int .u8 z_.a0, .int .u8 z_.a1, .int .u8 z_.a2, .int .u8 z_.a3, .int .u8 z_.a4, .int .u8 z_.a5, .int .u8 z_.a6, .int .u8 z_.a7]) v_T_api_Item m))) tr))) tr) (a_ (a_ tr tr) (a_ (a_ tr tr) (a_ (a_ tr tr) (a_ (a_ tr tr) (a_ (a_ (a_ (Eq.refl 13) (a_ (le_ 13 13 rfl) (Eq.refl 0))) tr) (a_ (a_ tr tr) tr))))))))) (a_ (a_ (a_ tr tr) (a_ (a_ (a_ (item_Table_ok_ok m y4 e3 (sel [0, 1]) (sel_inj rfl rfl)) (a_ (LO.Le.refl (.var [.map 1])) (a_ (LO.Le.refl (.map true [.int .u8, .int .u8, .int .u8, .int .u8, .int .u8, .int .u8, .int .u8, .int .u8] (encM (fun z_ : A8 (Int) => LV.agg [.int .u8 z_.a0, .int .u8 z_.a1, .int .u8 z_.a2, .int .u8 z_.a3, .int .u8 z_.a4, .int .u8 z_.a5, .int .u8 z_.a6, .int .u8 z_.a7]) v_T_api_Item m))) tr))) tr) (a_ (a_ tr tr) (a_ (a_ tr tr) tr)))) (a_ (a_ (a_ (a_ tr (le_ 8 8 rfl)) tr) (a_ (a_ (a_ tr (le_ 13 13 rfl)) tr) (a_ (a_ (a_ (item_may_tri x_k i y6 e5) tr) tr) (a_ (a_ tr tr) (a_ (a_ tr (a_ (leB c7) tr)) tr))))) (a_ (a_ (a_ tr tr) (a_ (a_ tr tr) (a_ (a_ tr (a_ (leB c8) tr)) (a_ tr (a_ tr (a_ tr (a_ tr (a_ tr (a_ tr (a_ (a_ tr tr) (a_ (a_ tr tr) tr))))))))))) (a_ (a_ (a_ tr tr) (a_ (a_ tr (a_ (leB c9) tr)) (a_ (a_ tr tr) (a_ (a_ (a_ tr (lt_ 0 13 rfl)) tr) (a_ (a_ tr tr) (a_ (a_ (a_ tr (lt_ 0 13 rfl)) tr) (a_ (a_ tr tr) (a_ (a_ tr tr) (a_ (a_ tr (a_ (leB c10) tr)) tr))))))))) (a_ (a_ (a_ tr tr) (a_ (a_ tr (a_ (leB c11) tr)) (a_ tr (a_ tr (a_ tr (a_ tr (a_ tr (a_ (a_ tr tr) (a_ (a_ tr tr) (a_ tr (a_ tr (a_ tr (a_ (a_ tr tr) (a_ (a_ tr tr) tr)))))))))))))) (a_ (a_ (a_ tr tr) (a_ (a_ tr tr) (a_ (a_ tr tr) (a_ (a_ (a_ tr (lt_ 0 1 rfl)) tr) (a_ (a_ (a_ tr (le_ 8 8 rfl)) tr) (a_ (a_ (a_ tr (le_ 13 13 rfl)) tr) (a_ (a_ (a_ (Eq.refl true) (Eq.refl true)) (a_ (sub_upd (fun z_ : A8 (Int) => LV.agg [.int .u8 z_.a0, .int .u8 z_.a1, .int .u8 z_.a2, .int .u8 z_.a3, .int .u8 z_.a4, .int .u8 z_.a5, .int .u8 z_.a6, .int .u8 z_.a7]) v_T_api_Item (k_arr8 .u8) true [.int .u8, .int .u8, .int .u8, .int .u8, .int .u8, .int .u8, .int .u8, .int .u8] m x_k i) tr)) tr))))))) (a_ (a_ (a_ tr tr) tr) tr))))))))) tr) (by kernel_rfl) rfl
      · skip
        rcases itb_some h with ⟨c10, h⟩ | ⟨c10, h⟩
        · skip
          rcases itb_some h with ⟨c11, h⟩ | ⟨c11, h⟩
          · skip
            rcases itb_some h with ⟨c12, h⟩ | ⟨c12, h⟩
            · skip
              obtain rfl := Option.some.inj h
              exact run_ret mixed (L := []) (n := 40) (s := [.reg [], .reg [(2, { call := some ((item_Table_Get_v y2).ren (sel [0, 1]), preOf (sel [0, 1]) 0 (item_Table_Get_objs m x_k), upOf (sel [0, 1]) (item_Table_Get_up m x_k y2)) })], .reg [(1, { call := some ((item_Table_ok_v y4).ren (sel [0, 1]), preOf (sel [0, 1]) 0 (item_Table_ok_objs m), upOf (sel [0, 1]) (item_Table_ok_up m y4)) })], .reg [(2, { call := some (item_may_v y6, [], []) }), (4, { v := some (.bool false) })], .reg [(2, { v := some (.bool false) })], .reg [(1, { v := some (.bool false) })], .reg [(1, { v := some (.bool true) }), (8, { v := some (.bool true) }), (11, { v := some (.bool (!decide (y2.1 = i))) }), (13, { v := some (.bool true) })], .reg []])
                (a_ (a_ (a_ (a_ tr tr) (a_ (a_ tr tr) (a_ (a_ tr tr) tr))) (a_ (a_ (a_ tr tr) (a_ (a_ (a_ tr (le_ 8 8 rfl)) tr) (a_ (a_ (a_ (item_Table_Get_ok m x_k y2 e1 (sel [0, 1]) (sel_inj rfl rfl)) (a_ (LO.Le.refl (.var [.map 1])) (a_ (LO.Le.refl (.map true [.int .u8, .int .u8, .int .u8, .int .u8, .int .u8, .int .u8, .int .u8, .int .u8] (encM (fun z_ : A8 (Int) => LV.agg [.int .u8 z_.a0, .int .u8 z_.a1, .int .u8 z_.a2, .int .u8 z_.a3, .int .u8 z_.a4, .int .u8 z_.a5, .int .u8 z_.a6, .int .u8 z_.a7]) v_T_api_Item m))) tr))) tr) (a_ (a_ tr tr) (a_ (a_ tr tr) (a_ (a_ tr tr) (a_ (a_ tr tr) (a_ (a_ (a_ (Eq.refl 13) (a_ (le_ 13 13 rfl) (Eq.refl 0))) tr) (a_ (a_ tr tr) tr))))))))) (a_ (a_ (a_ tr tr) (a_ (a_ (a_ (item_Table_ok_ok m y4 e3 (sel [0, 1]) (sel_inj rfl rfl)) (a_ (LO.Le.refl (.var [.map 1])) (a_ (LO.Le.refl (.map true [.int .u8, .int .u8, .int .u8, .int .u8, .int .u8, .int .u8, .int .u8, .int .u8] (encM (fun z_ : A8 (Int) => LV.agg [.int .u8 z_.a0, .int .u8 z_.a1, .int .u8 z_.a2, .int .u8 z_.a3, .int .u8 z_.a4, .int .u8 z_.a5, .int .u8 z_.a6, .int .u8 z_.a7]) v_T_api_Item m))) tr))) tr) (a_ (a_ tr tr) (a_ (a_ tr tr) tr)))) (a_ (a_ (a_ (a_ tr (le_ 8 8 rfl)) tr) (a_ (a_ (a_ tr (le_ 13 13 rfl)) tr) (a_ (a_ (a_ (item_may_tri x_k i y6 e5) tr) tr) (a_ (a_ tr tr) (a_ (a_ tr (a_ (leB c7) tr)) tr))))) (a_ (a_ (a_ tr tr) (a_ (a_ tr tr) (a_ (a_ tr (a_ (leB c8) tr)) (a_ tr (a_ tr (a_ tr (a_ tr (a_ tr (a_ tr (a_ (a_ tr tr) (a_ (a_ tr tr) tr))))))))))) (a_ (a_ (a_ tr tr) (a_ (a_ tr (a_ (leB c9) tr)) (a_ tr (a_ tr (a_ tr (a_ tr (a_ tr (a_ (a_ tr tr) (a_ (a_ tr tr) tr))))))))) (a_ (a_ (a_ tr tr) (a_ (a_ tr (a_ (leB c10) tr)) (a_ (a_ tr tr) (a_ (a_ (a_ tr (lt_ 0 13 rfl)) tr) (a_ (a_ tr tr) (a_ (a_ (a_ tr (lt_ 0 13 rfl)) tr) (a_ (a_ tr tr) (a_ (a_ tr tr) (a_ (a_ tr (a_ (leB c11) tr)) (a_ (a_ (a_ tr (le_ 13 13 rfl)) tr) (a_ (a_ (a_ tr (le_ 13 13 rfl)) tr) (a_ (a_ tr (a_ (leB (congrArg not (k_T_api_Item y2.1 i))) tr)) (a_ (a_ tr tr) (a_ (a_ tr (a_ (leB c12) tr)) tr)))))))))))))) (a_ (a_ (a_ tr tr) tr) tr)))))))) tr) (by kernel_rfl) rfl
            · skip
              obtain rfl := Option.some.inj h
              exact run_ret mixed (L := []) (n := 45) (s := [.reg [], .reg [(2, { call := some ((item_Table_Get_v y2).ren (sel [0, 1]), preOf (sel [0, 1]) 0 (item_Table_Get_objs m x_k), upOf (sel [0, 1]) (item_Table_Get_up m x_k y2)) })], .reg [(1, { call := some ((item_Table_ok_v y4).ren (sel [0, 1]), preOf (sel [0, 1]) 0 (item_Table_ok_objs m), upOf (sel [0, 1]) (item_Table_ok_up m y4)) })], .reg [(2, { call := some (item_may_v y6, [], []) }), (4, { v := some (.bool false) })], .reg [(2, { v := some (.bool false) })], .reg [(1, { v := some (.bool false) })], .reg [(1, { v := some (.bool true) }), (8, { v := some (.bool true) }), (11, { v := some (.bool (!decide (y2.1 = i))) }), (13, { v := some (.bool false) })], .reg [(6, { os := [(1, .map true [.int .u8, .int .u8, .int .u8, .int .u8, .int .u8, .int .u8, .int .u8, .int .u8] (encM (fun z_ : A8 (Int) => LV.agg [.int .u8 z_.a0, .int .u8 z_.a1, .int .u8 z_.a2, .int .u8 z_.a3, .int .u8 z_.a4, .int .u8 z_.a5, .int .u8 z_.a6, .int .u8 z_.a7]) v_T_api_Item (mset m x_k i)))] })], .reg []])
                (a_ (a_ (a_ (a_ tr tr) (a_ (a_ tr tr) (a_ (a_ tr tr) tr))) (a_ (a_ (a_ tr tr) (a_ (a_ (a_ tr (le_ 8 8 rfl)) tr) (a_ (a_ (a_ (item_Table_Get_ok m x_k y2 e1 (sel [0, 1]) (sel_inj rfl rfl)) (a_ (LO.Le.refl (.var [.map 1])) (a_ (LO.Le.refl (.map true [.int .u8, .int .u8, .int .u8, .int .u8, .int .u8, .int .u8, .int .u8, .int .u8] (encM (fun z_ : A8 (Int) => LV.agg [.int .u8 z_.a0, .int .u8 z_.a1, .int .u8 z_.a2, .int .u8 z_.a3, .int .u8 z_.a4, .int .u8 z_.a5, .int .u8 z_.a6, .int .u8 z_.a7]) v_T_api_Item m))) tr))) tr) (a_ (a_ tr tr) (a_ (a_ tr tr) (a_ (a_ tr tr) (a_ (a_ tr tr) (a_ (a_ (a_ (Eq.refl 13) (a_ (le_ 13 13 rfl) (Eq.refl 0))) tr) (a_ (a_ tr tr) tr))))))))) (a_ (a_ (a_ tr tr) (a_ (a_ (a_ (item_Table_ok_ok m y4 e3 (sel [0, 1]) (sel_inj rfl rfl)) (a_ (LO.Le.refl (.var [.map 1])) (a_ (LO.Le.refl (.map true [.int .u8, .int .u8, .int .u8, .int .u8, .int .u8, .int .u8, .int .u8, .int .u8] (encM (fun z_ : A8 (Int) => LV.agg [.int .u8 z_.a0, .int .u8 z_.a1, .int .u8 z_.a2, .int .u8 z_.a3, .int .u8 z_.a4, .int .u8 z_.a5, .int .u8 z_.a6, .int .u8 z_.a7]) v_T_api_Item m))) tr))) tr) (a_ (a_ tr tr) (a_ (a_ tr tr) tr)))) (a_ (a_ (a_ (a_ tr (le_ 8 8 rfl)) tr) (a_ (a_ (a_ tr (le_ 13 13 rfl)) tr) (a_ (a_ (a_ (item_may_tri x_k i y6 e5) tr) tr) (a_ (a_ tr tr) (a_ (a_ tr (a_ (leB c7) tr)) tr))))) (a_ (a_ (a_ tr tr) (a_ (a_ tr tr) (a_ (a_ tr (a_ (leB c8) tr)) (a_ tr (a_ tr (a_ tr (a_ tr (a_ tr (a_ tr (a_ (a_ tr tr) (a_ (a_ tr tr) tr))))))))))) (a_ (a_ (a_ tr tr) (a_ (a_ tr (a_ (leB c9) tr)) (a_ tr (a_ tr (a_ tr (a_ tr (a_ tr (a_ (a_ tr tr) (a_ (a_ tr tr) tr))))))))) (a_ (a_ (a_ tr tr) (a_ (a_ tr (a_ (leB c10) tr)) (a_ (a_ tr tr) (a_ (a_ (a_ tr (lt_ 0 13 rfl)) tr) (a_ (a_ tr tr) (a_ (a_ (a_ tr (lt_ 0 13 rfl)) tr) (a_ (a_ tr tr) (a_ (a_ tr tr) (a_ (a_ tr (a_ (leB c11) tr)) (a_ (a_ (a_ tr (le_ 13 13 rfl)) tr) (a_ (a_ (a_ tr (le_ 13 13 rfl)) tr) (a_ (a_ tr (a_ (leB (congrArg not (k_T_api_Item y2.1 i))) tr)) (a_ (a_ tr tr) (a_ (a_ tr (a_ (leB c12) tr)) tr)))))))))))))) (a_ (a_ (a_ tr tr) (a_ (a_ tr tr) (a_ (a_ tr tr) (a_ (a_ (a_ tr (lt_ 0 1 rfl)) tr) (a_ (a_ (a_ tr (le_ 8 8 rfl)) tr) (a_ (a_ (a_ tr (le_ 13 13 rfl)) tr) (a_ (a_ (a_ (Eq.refl true) (Eq.refl true)) (a_ (sub_upd (fun z_ : A8 (Int) => LV.agg [.int .u8 z_.a0, .int .u8 z_.a1, .int .u8 z_.a2, .int .u8 z_.a3, .int .u8 z_.a4, .int .u8 z_.a5, .int .u8 z_.a6, .int .u8 z_.a7]) v_T_api_Item (k_arr8 .u8) true [.int .u8, .int .u8, .int .u8, .int .u8, .int .u8, .int .u8, .int .u8, .int .u8] m x_k i) tr)) tr))))))) (a_ (a_ (a_ tr tr) tr) tr))))))))) tr) (by kernel_rfl) rfl
          · skip
            obtain rfl := Option.some.inj h
            exact run_ret mixed (L := []) (n := 45) (s := [.reg [], .reg [(2, { call := some ((item_Table_Get_v y2).ren (sel [0, 1]), preOf (sel [0, 1]) 0 (item_Table_Get_objs m x_k), upOf (sel [0, 1]) (item_Table_Get_up m x_k y2)) })], .reg [(1, { call := some ((item_Table_ok_v y4).ren (sel [0, 1]), preOf (sel [0, 1]) 0 (item_Table_ok_objs m), upOf (sel [0, 1]) (item_Table_ok_up m y4)) })], .reg [(2, { call := some (item_may_v y6, [], []) }), (4, { v := some (.bool false) })], .reg [(2, { v := some (.bool false) })], .reg [(1, { v := some (.bool false) })], .reg [(1, { v := some (.bool true) }), (8, { v := some (.bool false) })], .reg [(6, { os := [(1, .map true [.int .u8, .int .u8, .int .u8, .int .u8, .int .u8, .int .u8, .int .u8, .int .u8] (encM (fun z_ : A8 (Int) => LV.agg [.int .u8 z_.a0, .int .u8 z_.a1, .int .u8 z_.a2, .int .u8 z_.a3, .int .u8 z_.a4, .int .u8 z_.a5, .int .u8 z_.a6, .int .u8 z_.a7]) v_T_api_Item (mset m x_k i)))] })], .reg []])
              (a_ (a_ (a_ (a_ tr tr) (a_ (a_ tr tr) (a_ (a_ tr tr) tr))) (a_ (a_ (a_ tr tr) (a_ (a_ (a_ tr (le_ 8 8 rfl)) tr) (a_ (a_ (a_ (item_Table_Get_ok m x_k y2 e1 (sel [0, 1]) (sel_inj rfl rfl)) (a_ (LO.Le.refl (.var [.map 1])) (a_ (LO.Le.refl (.map true [.int .u8, .int .u8, .int .u8, .int .u8, .int .u8, .int .u8, .int .u8, .int .u8] (encM (fun z_ : A8 (Int) => LV.agg [.int .u8 z_.a0, .int .u8 z_.a1, .int .u8 z_.a2, .int .u8 z_.a3, .int .u8 z_.a4, .int .u8 z_.a5, .int .u8 z_.a6, .int .u8 z_.a7]) v_T_api_Item m))) tr))) tr) (a_ (a_ tr tr) (a_ (a_ tr tr) (a_ (a_ tr tr) (a_ (a_ tr tr) (a_ (a_ (a_ (Eq.refl 13) (a_ (le_ 13 13 rfl) (Eq.refl 0))) tr) (a_ (a_ tr tr) tr))))))))) (a_ (a_ (a_ tr tr) (a_ (a_ (a_ (item_Table_ok_ok m y4 e3 (sel [0, 1]) (sel_inj rfl rfl)) (a_ (LO.Le.refl (.var [.map 1])) (a_ (LO.Le.refl (.map true [.int .u8, .int .u8, .int .u8, .int .u8, .int .u8, .int .u8, .int .u8, .int .u8] (encM (fun z_ : A8 (Int) => LV.agg [.int .u8 z_.a0, .int .u8 z_.a1, .int .u8 z_.a2, .int .u8 z_.a3, .int .u8 z_.a4, .int .u8 z_.a5, .int .u8 z_.a6, .int .u8 z_.a7]) v_T_api_Item m))) tr))) tr) (a_ (a_ tr tr) (a_ (a_ tr tr) tr)))) (a_ (a_ (a_ (a_ tr (le_ 8 8 rfl)) tr) (a_ (a_ (a_ tr (le_ 13 13 rfl)) tr) (a_ (a_ (a_ (item_may_tri x_k i y6 e5) tr) tr) (a_ (a_ tr tr) (a_ (a_ tr (a_ (leB c7) tr)) tr))))) (a_ (a_ (a_ tr tr) (a_ (a_ tr tr) (a_ (a_ tr (a_ (leB c8) tr)) (a_ tr (a_ tr (a_ tr (a_ tr (a_ tr (a_ tr (a_ (a_ tr tr) (a_ (a_ tr tr) tr))))))))))) (a_ (a_ (a_ tr tr) (a_ (a_ tr (a_ (leB c9) tr)) (a_ tr (a_ tr (a_ tr (a_ tr (a_ tr (a_ (a_ tr tr) (a_ (a_ tr tr) tr))))))))) (a_ (a_ (a_ tr tr) (a_ (a_ tr (a_ (leB c10) tr)) (a_ (a_ tr tr) (a_ (a_ (a_ tr (lt_ 0 13 rfl)) tr) (a_ (a_ tr tr) (a_ (a_ (a_ tr (lt_ 0 13 rfl)) tr) (a_ (a_ tr tr) (a_ (a_ tr tr) (a_ (a_ tr (a_ (leB c11) tr)) (a_ tr (a_ tr (a_ tr (a_ (a_ tr tr) (a_ (a_ tr tr) tr)))))))))))))) (a_ (a_ (a_ tr tr) (a_ (a_ tr tr) (a_ (a_ tr tr) (a_ (a_ (a_ tr (lt_ 0 1 rfl)) tr) (a_ (a_ (a_ tr (le_ 8 8 rfl)) tr) (a_ (a_ (a_ tr (le_ 13 13 rfl)) tr) (a_ (a_ (a_ (Eq.refl true) (Eq.refl true)) (a_ (sub_upd (fun z_ : A8 (Int) => LV.agg [.int .u8 z_.a0, .int .u8 z_.a1, .int .u8 z_.a2, .int .u8 z_.a3, .int .u8 z_.a4, .int .u8 z_.a5, .int .u8 z_.a6, .int .u8 z_.a7]) v_T_api_Item (k_arr8 .u8) true [.int .u8, .int .u8, .int .u8, .int .u8, .int .u8, .int .u8, .int .u8, .int .u8] m x_k i) tr)) tr))))))) (a_ (a_ (a_ tr tr) tr) tr))))))))) tr) (by kernel_rfl) rfl
        · skip
          obtain rfl := Option.some.inj h
          exact run_ret mixed (L := []) (n := 45) (s := [.reg [], .reg [(2, { call := some ((item_Table_Get_v y2).ren (sel [0, 1]), preOf (sel [0, 1]) 0 (item_Table_Get_objs m x_k), upOf (sel [0, 1]) (item_Table_Get_up m x_k y2)) })], .reg [(1, { call := some ((item_Table_ok_v y4).ren (sel [0, 1]), preOf (sel [0, 1]) 0 (item_Table_ok_objs m), upOf (sel [0, 1]) (item_Table_ok_up m y4)) })], .reg [(2, { call := some (item_may_v y6, [], []) }), (4, { v := some (.bool false) })], .reg [(2, { v := some (.bool false) })], .reg [(1, { v := some (.bool false) })], .reg [(1, { v := some (.bool false) })], .reg [(6, { os := [(1, .map true [.int .u8, .int .u8, .int .u8, .int .u8, .int .u8, .int .u8, .int .u8, .int .u8] (encM (fun z_ : A8 (Int) => LV.agg [.int .u8 z_.a0, .int .u8 z_.a1, .int .u8 z_.a2, .int .u8 z_.a3, .int .u8 z_.a4, .int .u8 z_.a5, .int .u8 z_.a6, .int .u8 z_.a7]) v_T_api_Item (mset m x_k i)))] })], .reg []])
            (a_ (a_ (a_ (a_ tr tr) (a_ (a_ tr tr) (a_ (a_ tr tr) tr))) (a_ (a_ (a_ tr tr) (a_ (a_ (a_ tr (le_ 8 8 rfl)) tr) (a_ (a_ (a_ (item_Table_Get_ok m x_k y2 e1 (sel [0, 1]) (sel_inj rfl rfl)) (a_ (LO.Le.refl (.var [.map 1])) (a_ (LO.Le.refl (.map true [.int .u8, .int .u8, .int .u8, .int .u8, .int .u8, .int .u8, .int .u8, .int .u8] (encM (fun z_ : A8 (Int) => LV.agg [.int .u8 z_.a0, .int .u8 z_.a1, .int .u8 z_.a2, .int .u8 z_.a3, .int .u8 z_.a4, .int .u8 z_.a5, .int .u8 z_.a6, .int .u8 z_.a7]) v_T_api_Item m))) tr))) tr) (a_ (a_ tr tr) (a_ (a_ tr tr) (a_ (a_ tr tr) (a_ (a_ tr tr) (a_ (a_ (a_ (Eq.refl 13) (a_ (le_ 13 13 rfl) (Eq.refl 0))) tr) (a_ (a_ tr tr) tr))))))))) (a_ (a_ (a_ tr tr) (a_ (a_ (a_ (item_Table_ok_ok m y4 e3 (sel [0, 1]) (sel_inj rfl rfl)) (a_ (LO.Le.refl (.var [.map 1])) (a_ (LO.Le.refl (.map true [.int .u8, .int .u8, .int .u8, .int .u8, .int .u8, .int .u8, .int .u8, .int .u8] (encM (fun z_ : A8 (Int) => LV.agg [.int .u8 z_.a0, .int .u8 z_.a1, .int .u8 z_.a2, .int .u8 z_.a3, .int .u8 z_.a4, .int .u8 z_.a5, .int .u8 z_.a6, .int .u8 z_.a7]) v_T_api_Item m))) tr))) tr) (a_ (a_ tr tr) (a_ (a_ tr tr) tr)))) (a_ (a_ (a_ (a_ tr (le_ 8 8 rfl)) tr) (a_ (a_ (a_ tr (le_ 13 13 rfl)) tr) (a_ (a_ (a_ (item_may_tri x_k i y6 e5) tr) tr) (a_ (a_ tr tr) (a_ (a_ tr (a_ (leB c7) tr)) tr))))) (a_ (a_ (a_ tr tr) (a_ (a_ tr tr) (a_ (a_ tr (a_ (leB c8) tr)) (a_ tr (a_ tr (a_ tr (a_ tr (a_ tr (a_ tr (a_ (a_ tr tr) (a_ (a_ tr tr) tr))))))))))) (a_ (a_ (a_ tr tr) (a_ (a_ tr (a_ (leB c9) tr)) (a_ tr (a_ tr (a_ tr (a_ tr (a_ tr (a_ (a_ tr tr) (a_ (a_ tr tr) tr))))))))) (a_ (a_ (a_ tr tr) (a_ (a_ tr (a_ (leB c10) tr)) (a_ tr (a_ tr (a_ tr (a_ tr (a_ tr (a_ (a_ tr tr) (a_ (a_ tr tr) (a_ tr (a_ tr (a_ tr (a_ (a_ tr tr) (a_ (a_ tr tr) tr)))))))))))))) (a_ (a_ (a_ tr tr) (a_ (a_ tr tr) (a_ (a_ tr tr) (a_ (a_ (a_ tr (lt_ 0 1 rfl)) tr) (a_ (a_ (a_ tr (le_ 8 8 rfl)) tr) (a_ (a_ (a_ tr (le_ 13 13 rfl)) tr) (a_ (a_ (a_ (Eq.refl true) (Eq.refl true)) (a_ (sub_upd (fun z_ : A8 (Int) => LV.agg [.int .u8 z_.a0, .int .u8 z_.a1, .int .u8 z_.a2, .int .u8 z_.a3, .int .u8 z_.a4, .int .u8 z_.a5, .int .u8 z_.a6, .int .u8 z_.a7]) v_T_api_Item (k_arr8 .u8) true [.int .u8, .int .u8, .int .u8, .int .u8, .int .u8, .int .u8, .int .u8, .int .u8] m x_k i) tr)) tr))))))) (a_ (a_ (a_ tr tr) tr) tr))))))))) tr) (by kernel_rfl) rfl

/-- maps.Keys[map[parrel/api.Key]parrel/api.Item,parrel/api.Key,parrel/api.Item] -/

def maps_Keys_map_api_Key_api_Item_api_Key_api_Item_v (r : Unit) : LV := .fn 39 [] [.ptr 1 0 0]

def maps_Keys_map_api_Key_api_Item_api_Key_api_Item_up (m : List (A8 (Int) × T_api_Item)) (r : Unit) : Upd := [(0, some (.map true [.int .u8, .int .u8, .int .u8, .int .u8, .int .u8, .int .u8, .int .u8, .int .u8] (encM (fun z_ : A8 (Int) => LV.agg [.int .u8 z_.a0, .int .u8 z_.a1, .int .u8 z_.a2, .int .u8 z_.a3, .int .u8 z_.a4, .int .u8 z_.a5, .int .u8 z_.a6, .int .u8 z_.a7]) v_T_api_Item m))), (1, some (.var [.map 0]))]

def maps_Keys_map_api_Key_api_Item_api_Key_api_Item_objs (m : List (A8 (Int) × T_api_Item)) : List LO := [.map true [.int .u8, .int .u8, .int .u8, .int .u8, .int .u8, .int .u8, .int .u8, .int .u8] (encM (fun z_ : A8 (Int) => LV.agg [.int .u8 z_.a0, .int .u8 z_.a1, .int .u8 z_.a2, .int .u8 z_.a3, .int .u8 z_.a4, .int .u8 z_.a5, .int .u8 z_.a6, .int .u8 z_.a7]) v_T_api_Item m)]

def maps_Keys_map_api_Key_api_Item_api_Key_api_Item (m : List (A8 (Int) × T_api_Item)) : Option (Unit) :=
  some ()

theorem maps_Keys_map_api_Key_api_Item_api_Key_api_Item_ok (m : List (A8 (Int) × T_api_Item)) (r : Unit) (h : maps_Keys_map_api_Key_api_Item_api_Key_api_Item m = some r) : ∀ σ, Inj 2 σ → FnTri Tryd.prog 30 (renL σ [.map 0]) (preOf σ 0 (maps_Keys_map_api_Key_api_Item_api_Key_api_Item_objs m)) ((maps_Keys_map_api_Key_api_Item_api_Key_api_Item_v r).ren σ) (upOf σ (maps_Keys_map_api_Key_api_Item_api_Key_api_Item_up m r)) := by
  refine fn_of Tryd.func30 (by kernel_rfl) (by kernel_rfl) (by kernel_rfl) ⟨trivial, trivial⟩ (by kernel_rfl) ⟨trivial, rfl, trivial⟩ (by kernel_rfl) ?_
  intro w0 W μ0 hμ
  unfold maps_Keys_map_api_Key_api_Item_api_Key_api_Item at h
  obtain rfl := Option.some.inj h
  exact run_ret mixed (L := [1]) (n := 15) (s := [.reg [], .reg []])
    (a_ (a_ (a_ (a_ tr tr) (a_ (a_ tr tr) tr)) (a_ (a_ (a_ tr tr) (a_ (a_ tr tr) tr)) tr)) tr) (by kernel_rfl) rfl

/-! Keys of a map, sorted: PRE -/
def so29_kc (x : (A8 (Int))) : List Value := [.int .u8 x.a0, .int .u8 x.a1, .int .u8 x.a2, .int .u8 x.a3, .int .u8 x.a4, .int .u8 x.a5, .int .u8 x.a6, .int .u8 x.a7]
def so29_kv (x : (A8 (Int))) : Value := .agg #[.int .u8 x.a0, .int .u8 x.a1, .int .u8 x.a2, .int .u8 x.a3, .int .u8 x.a4, .int .u8 x.a5, .int .u8 x.a6, .int .u8 x.a7]
def so29_kd (v : Value) : (A8 (Int)) :=
  match v with
  | .agg cs => match cs.toList with
    | [.int _ a0, .int _ a1, .int _ a2, .int _ a3, .int _ a4, .int _ a5, .int _ a6, .int _ a7] => (A8.mk a0 a1 a2 a3 a4 a5 a6 a7)
    | _ => default
  | _ => default
theorem so29_kdv (x : (A8 (Int))) : so29_kd (so29_kv x) = x := rfl
theorem so29_len (x : (A8 (Int))) : (so29_kc x).length = 8 := rfl
theorem so29_one (x : (A8 (Int))) : ∀ v ∈ so29_kc x, v.oneCell' = true := by
  intro u hu
  simp only [so29_kc, List.mem_cons, List.not_mem_nil, or_false] at hu
  rcases hu with rfl | rfl | rfl | rfl | rfl | rfl | rfl | rfl <;> rfl
theorem so29_enc (φ : Fro) (x : (A8 (Int))) : RelFL φ ((fun z_ : A8 (Int) => [.int .u8 z_.a0, .int .u8 z_.a1, .int .u8 z_.a2, .int .u8 z_.a3, .int .u8 z_.a4, .int .u8 z_.a5, .int .u8 z_.a6, .int .u8 z_.a7]) x) (so29_kc x) := ⟨_, _, rfl, rfl, ⟨_, _, rfl, rfl, ⟨_, _, rfl, rfl, ⟨_, _, rfl, rfl, ⟨_, _, rfl, rfl, ⟨_, _, rfl, rfl, ⟨_, _, rfl, rfl, ⟨_, _, rfl, rfl, rfl⟩⟩⟩⟩⟩⟩⟩⟩
theorem so29_det (φ : Fro) (x : (A8 (Int))) (v : Value) (h : RelF φ (.agg ((fun z_ : A8 (Int) => [.int .u8 z_.a0, .int .u8 z_.a1, .int .u8 z_.a2, .int .u8 z_.a3, .int .u8 z_.a4, .int .u8 z_.a5, .int .u8 z_.a6, .int .u8 z_.a7]) x)) v) : v = so29_kv x := by
  obtain ⟨vs, rfl, h⟩ := h
  have key : ∀ (l : List Value), RelFL φ ((fun z_ : A8 (Int) => [.int .u8 z_.a0, .int .u8 z_.a1, .int .u8 z_.a2, .int .u8 z_.a3, .int .u8 z_.a4, .int .u8 z_.a5, .int .u8 z_.a6, .int .u8 z_.a7]) x) l → l = so29_kc x := by
    intro l h
    obtain ⟨r0, e0, h0⟩ := det_int h
    obtain ⟨r1, e1, h1⟩ := det_int h0
    obtain ⟨r2, e2, h2⟩ := det_int h1
    obtain ⟨r3, e3, h3⟩ := det_int h2
    obtain ⟨r4, e4, h4⟩ := det_int h3
    obtain ⟨r5, e5, h5⟩ := det_int h4
    obtain ⟨r6, e6, h6⟩ := det_int h5
    obtain ⟨r7, e7, h7⟩ := det_int h6
    have e : _ = [] := h7
    subst e
    subst_vars
    rfl
  have := key _ h
  rw [← Array.toArray_toList (xs := vs), this]
  rfl

theorem so29_info : ∃ i, Tryd.prog.info? 31 = some i ∧ i.zero = some (.agg #[.int .u8 0, .int .u8 0, .int .u8 0, .int .u8 0, .int .u8 0, .int .u8 0, .int .u8 0, .int .u8 0]) ∧ i.size = 8 ∧ i.bytes = 8 := by
  have h : (Tryd.prog.info? 31).map (fun i => (i.zero, i.size, i.bytes)) = some (some (.agg #[.int .u8 0, .int .u8 0, .int .u8 0, .int .u8 0, .int .u8 0, .int .u8 0, .int .u8 0, .int .u8 0]), 8, 8) := by kernel_rfl
  obtain ⟨i, h1, h2⟩ := Option.map_eq_some_iff.1 h
  exact ⟨i, h1, congrArg (·.1) h2, congrArg (·.2.1) h2, congrArg (·.2.2) h2⟩

/-- Between two rounds: the box holds what has come so far. -/
def so29_ApI (w : World) (pre : List (A8 (Int))) (W : World) : Prop :=
  (∃ v, Boxed W w.heap.size 65 v ∧ W.ownsRow w.heap.size 31 8 v pre.length (pre.flatMap so29_kc) ∧ (v = .slice none 0 0 ↔ pre = [])) ∧ Below w.heap.size w W ∧ w.drawn ≤ W.drawn
theorem so29_ApI.own (w : World) (B : Nat) (hB : w.heap.size ≤ B) : OwnD B (so29_ApI w) :=
  OwnD.and (OwnFrom.d ((holdsRow_own w.heap.size w.heap.size 65 31 8 (fun (pre : List (A8 (Int))) => pre.length) (fun pre => pre.flatMap so29_kc) (fun pre v => v = .slice none 0 0 ↔ pre = [])).from B)) (OwnD.and (OwnFrom.d (ownFrom_below (Nat.le_refl _) hB)) (ownD_drawn B _))

theorem so29_appendSeq (n : Nat) (hn : 2 ≤ n) (g : Nat) (lb : Array Value) (eg : ∀ args w, (callFunc g args).run Tryd.prog w = .ok (.enter g args) w) (S : List (A8 (Int)) → Prop) (N : Nat) (hN : N ≤ maxLen) (hNb : N * 8 ≤ 140737488355328)
    (w : World) (hseq : SeqD Fence.wide (n - 1) Tryd.prog g lb so29_kv S N w) :
    CallsIn Fence.wide n Tryd.prog 46 #[.slice none 0 0, .func (.func g) #[] lb] w fun e w' => ∃ (v : Value) (ss : List (A8 (Int))), e = .returned v ∧ S ss ∧ w'.ownsRow w.heap.size 31 8 v ss.length (ss.flatMap so29_kc) ∧ (v = .slice none 0 0 ↔ ss = []) ∧ Below w.heap.size w w' ∧ w.drawn ≤ w'.drawn := by
  have h1 : 1 ≤ n := by omega
  refine callsIn_of_wp_marks Tryd.func46 rfl trivial ?_ rfl
  simp only [Tryd.ntmps46, List.size_toArray, List.length_cons, List.length_nil, Nat.reduceAdd, Nat.reduceSub, Array.replicate_succ, Array.replicate_zero, List.push_toArray, List.append_toArray, List.nil_append, List.cons_append]
  gi_wp2
  obtain ⟨W0, hW0⟩ : ∃ W0, w.alloc (.cells #[.slice none 0 0] 65) = W0 := ⟨_, rfl⟩
  have hs0 : W0.heap.size = w.heap.size + 1 := by rw [← hW0]; simp
  have hB0 : Boxed W0 w.heap.size 65 (.slice none 0 0) := by rw [← hW0]; exact Boxed.new w _ _
  have hb0 : Below w.heap.size w W0 := by rw [← hW0]; exact (Below.refl _ w).alloc (Nat.le_refl _) _
  rw [hW0]
  refine rangeFunc_box rfl h1 (gf := g) (lb := lb) rfl trivial eg hseq hb0 rfl (so29_ApI w) (so29_ApI.own w _ (by omega)) ⟨⟨_, hB0, World.ownsRow_nil _ _ _ _, by simp⟩, hb0, by rw [← hW0]; exact Nat.le_refl _⟩
    (fun pre x a1 W => so29_ApI w pre W ∧ ∃ bx, W.heap[bx]? = some (.cells #[.int .u8 x.a0, .int .u8 x.a1, .int .u8 x.a2, .int .u8 x.a3, .int .u8 x.a4, .int .u8 x.a5, .int .u8 x.a6, .int .u8 x.a7] 31 (0, 0)) ∧
      a1 = { tmps := #[.slice none 0 0, .func (.func g) #[] lb, .pointer (some ⟨w.heap.size, 0, none⟩), undef, .slice none 0 0, .pointer (some ⟨bx, 0, none⟩), .func (.func g) #[] lb, so29_kv x, undef, undef, undef, undef, undef], defers := [] })
    (fun x a1 => OwnD.and (so29_ApI.own w _ (by omega)) (fun s X Y row hs hg _ hr => by
      obtain ⟨bx, hx, e⟩ := hs
      exact ⟨bx, (grownBy_keeps_cells hg (fun r e => (hr r e).2) hx rfl).trans hx, e⟩)) ?assign ?body ?done
  case assign =>
    intro l pre x W hI hlen
    unfold so29_kv
    gi_wp2_with (rw [Oper.semAt_eq _ _ _ (fun c h => by cases h)]; go_simp; try go_bits)
    exact ⟨⟨(so29_ApI.own w w.heap.size (Nat.le_refl _)).alloc _ hI, W.heap.size, World.alloc_heap_new W _, rfl⟩, KeepsOthers.alloc _ _⟩
  case body =>
    rintro l pre x a1 W ⟨⟨⟨v, hv, hrow, hnil⟩, hB, hD0⟩, bx, hbx, rfl⟩ hlen
    obtain ⟨i0, hi, hz0, hz1, hz2⟩ := so29_info
    have hc := hv.cell
    have hf := hv.frozen
    have hx0 : W.cell? ⟨bx, 0, none⟩ = some (.int .u8 x.a0) := by simp [World.cell?, hbx]
    have hx1 : W.cell? ⟨bx, 1, none⟩ = some (.int .u8 x.a1) := by simp [World.cell?, hbx]
    have hx2 : W.cell? ⟨bx, 2, none⟩ = some (.int .u8 x.a2) := by simp [World.cell?, hbx]
    have hx3 : W.cell? ⟨bx, 3, none⟩ = some (.int .u8 x.a3) := by simp [World.cell?, hbx]
    have hx4 : W.cell? ⟨bx, 4, none⟩ = some (.int .u8 x.a4) := by simp [World.cell?, hbx]
    have hx5 : W.cell? ⟨bx, 5, none⟩ = some (.int .u8 x.a5) := by simp [World.cell?, hbx]
    have hx6 : W.cell? ⟨bx, 6, none⟩ = some (.int .u8 x.a6) := by simp [World.cell?, hbx]
    have hx7 : W.cell? ⟨bx, 7, none⟩ = some (.int .u8 x.a7) := by simp [World.cell?, hbx]
    have hbs := hB.size
    unfold so29_kv
    gi_wp2_with (first
      | (gi_at_builtin; refine wpListIn_append_d _ rfl _ _ 65 rfl w.heap.size 31 i0 _ 8 8 Tryd.underlying65 hi hz0 hz1 hz2 rfl (by decide) _ _ _ rfl (hrow.alloc _) ⟨W.heap.size, 0, none⟩ 1 1 (so29_kc x) rfl rfl ?_ ?_ (by omega) (by omega) (by simp; omega) ?_)
      | (rw [Oper.semAt_eq _ _ _ (fun c h => by cases h)]; go_simp; try go_bits))
    · exact fun j u hj => cell_new W (so29_kc x) 31 j u hj
    · intro u hu
      simp only [so29_kc, List.mem_cons, List.not_mem_nil, or_false] at hu
      rcases hu with rfl | rfl | rfl | rfl | rfl | rfl | rfl | rfl <;> rfl
    · intro v' w3 hown' hg3 hd3 hnil3
      obtain ⟨hv3, hv4, hrow4, hko, hbe⟩ := hv.appended (by decide) hrow hbs (Nat.le_refl _) hown' hg3
      have hc3 := hv3.cell
      have hf3 := hv3.frozen
      obtain ⟨g', cap', hv'⟩ := ownsRow_succ hown'
      subst hv'
      gi_wp2_with (rw [Oper.semAt_eq _ _ _ (fun c h => by cases h)]; go_simp; try go_bits)
      refine ⟨⟨_, hv4, ?_, by simp⟩, hB.trans hbe, Nat.le_trans hD0 hd3⟩
      rw [List.length_append, List.flatMap_append]
      simpa using hrow4
  case done =>
    rintro D ss W hD hS ⟨⟨v, hv, hrow, hnil⟩, hB, hD0⟩ hK
    have hc := hv.cell
    have hf := hv.frozen
    gi_wp2
    refine ⟨by simp, .inl ⟨_, _, rfl, run_takeDeferred hK, ?_⟩⟩
    exact ⟨_, results_tmp rfl _ _ _, v, ss, rfl, hS, ownsRow_putObj hrow _ hK rfl, hnil, hB.grown (grownBy_putObj' _ _ _) hB.size (fun k e => by cases e; omega), hD0⟩

theorem so29_collect (n : Nat) (hn : 3 ≤ n) (g : Nat) (lb : Array Value) (eg : ∀ args w, (callFunc g args).run Tryd.prog w = .ok (.enter g args) w) (S : List (A8 (Int)) → Prop) (N : Nat) (hN : N ≤ maxLen) (hNb : N * 8 ≤ 140737488355328)
    (w : World) (hseq : SeqD Fence.wide (n - 1 - 1) Tryd.prog g lb so29_kv S N w) :
    CallsIn Fence.wide n Tryd.prog 37 #[.func (.func g) #[] lb] w fun e w' => ∃ (v : Value) (ss : List (A8 (Int))), e = .returned v ∧ S ss ∧ w'.ownsRow w.heap.size 31 8 v ss.length (ss.flatMap so29_kc) ∧ (v = .slice none 0 0 ↔ ss = []) ∧ Below w.heap.size w w' ∧ w.drawn ≤ w'.drawn := by
  have h1 : 1 ≤ n := by omega
  have F78 : Fence.wide.fn 46 := trivial
  refine callsIn_of_wp Tryd.func37 rfl trivial ?_ rfl
  simp only [Tryd.ntmps37, List.size_toArray, List.length_cons, List.length_nil, Nat.reduceAdd, Nat.reduceSub, Array.replicate_succ, Array.replicate_zero, List.push_toArray, List.append_toArray, List.nil_append, List.cons_append]
  gi_wp2_with (gi_at_call 46; refine (so29_appendSeq (n - 1) (by omega) g lb eg S N hN hNb _ hseq).mono ?_; rintro e w' ⟨v, ss, rfl, hS, hrow, hnil, hb⟩)
  go_ret
  exact ⟨v, ss, rfl, hS, hrow, hnil, hb⟩

def so29_lay_ren : Go.Shelf.Ren := ⟨fun | 6 => 38 | 15 => 48 | 14 => 47 | 28 => 66 | 29 => 67 | 20 => 58 | 21 => 59 | 22 => 60 | 23 => 61 | 24 => 62 | 25 => 63 | 26 => 64 | 27 => 65 | 46 => 74 | 47 => 75 | 48 => 76 | 49 => 77 | 50 => 78 | 57 => 83 | n => n, fun | 22 => 65 | 24 => 31 | 25 => 70 | 3 => 3 | 39 => 86 | 0 => 0 | 53 => 32 | 55 => 107 | 4 => 4 | 46 => 100 | 45 => 99 | 50 => 63 | 5 => 5 | 9 => 9 | 66 => 112 | 70 => 116 | 76 => 119 | 77 => 120 | n => n, fun | n => n⟩
theorem so29_lay : Go.Proofs.SlLaysF0.n6 Tryd.prog so29_lay_ren where
  mixed := by kernel_rfl
  f6 := ⟨Tryd.f38.name, by decide, Tryd.func38.trans (congrArg some (by kernel_rfl))⟩
  f14 := ⟨Tryd.f47.name, by decide, Tryd.func47.trans (congrArg some (by kernel_rfl))⟩
  f15 := Tryd.func48.trans (congrArg some (by kernel_rfl))
  f20 := ⟨Tryd.f58.name, by decide, Tryd.func58.trans (congrArg some (by kernel_rfl))⟩
  f21 := ⟨Tryd.f59.name, by decide, Tryd.func59.trans (congrArg some (by kernel_rfl))⟩
  f22 := ⟨Tryd.f60.name, by decide, Tryd.func60.trans (congrArg some (by kernel_rfl))⟩
  f23 := ⟨Tryd.f61.name, by decide, Tryd.func61.trans (congrArg some (by kernel_rfl))⟩
  f24 := ⟨Tryd.f62.name, by decide, Tryd.func62.trans (congrArg some (by kernel_rfl))⟩
  f25 := ⟨Tryd.f63.name, by decide, Tryd.func63.trans (congrArg some (by kernel_rfl))⟩
  f26 := ⟨Tryd.f64.name, by decide, Tryd.func64.trans (congrArg some (by kernel_rfl))⟩
  f27 := ⟨Tryd.f65.name, by decide, Tryd.func65.trans (congrArg some (by kernel_rfl))⟩
  f28 := Tryd.func66.trans (congrArg some (by kernel_rfl))
  f29 := Tryd.func67.trans (congrArg some (by kernel_rfl))
  f46 := ⟨Tryd.f74.name, by decide, Tryd.func74.trans (congrArg some (by kernel_rfl))⟩
  f47 := Tryd.func75.trans (congrArg some (by kernel_rfl))
  f48 := Tryd.func76.trans (congrArg some (by kernel_rfl))
  f49 := ⟨Tryd.f77.name, by decide, Tryd.func77.trans (congrArg some (by kernel_rfl))⟩
  f50 := ⟨Tryd.f78.name, by decide, Tryd.func78.trans (congrArg some (by kernel_rfl))⟩
  f57 := ⟨Tryd.f83.name, by decide, Tryd.func83.trans (congrArg some (by kernel_rfl))⟩
  t0 := Tryd.underlying0
  a0 := Tryd.isAgg0
  z0 := Tryd.sizeOf0
  v0 := Tryd.zeroValue0
  t3 := Tryd.underlying3
  a3 := Tryd.isAgg3
  z3 := Tryd.sizeOf3
  v3 := Tryd.zeroValue3
  t4 := Tryd.underlying4
  a4 := Tryd.isAgg4
  z4 := Tryd.sizeOf4
  v4 := Tryd.zeroValue4
  t5 := Tryd.underlying5
  a5 := Tryd.isAgg5
  z5 := Tryd.sizeOf5
  v5 := Tryd.zeroValue5
  t9 := Tryd.underlying9
  a9 := Tryd.isAgg9
  z9 := Tryd.sizeOf9
  v9 := Tryd.zeroValue9
  t22 := Tryd.underlying65
  a22 := Tryd.isAgg65
  z22 := Tryd.sizeOf65
  v22 := Tryd.zeroValue65
  t25 := Tryd.underlying70
  a25 := Tryd.isAgg70
  z25 := Tryd.sizeOf70
  v25 := Tryd.zeroValue70
  t39 := Tryd.underlying86
  a39 := Tryd.isAgg86
  z39 := Tryd.sizeOf86
  v39 := Tryd.zeroValue86
  t45 := Tryd.underlying99
  a45 := Tryd.isAgg99
  z45 := Tryd.sizeOf99
  v45 := Tryd.zeroValue99
  t46 := Tryd.underlying100
  a46 := Tryd.isAgg100
  z46 := Tryd.sizeOf100
  v46 := Tryd.zeroValue100
  t50 := Tryd.underlying63
  a50 := Tryd.isAgg63
  z50 := Tryd.sizeOf63
  v50 := Tryd.zeroValue63
  t53 := Tryd.underlying32
  a53 := Tryd.isAgg32
  z53 := Tryd.sizeOf32
  v53 := Tryd.zeroValue32
  t55 := Tryd.underlying107
  a55 := Tryd.isAgg107
  z55 := Tryd.sizeOf107
  v55 := Tryd.zeroValue107
  t66 := Tryd.underlying112
  a66 := Tryd.isAgg112
  z66 := Tryd.sizeOf112
  v66 := Tryd.zeroValue112
  t70 := Tryd.underlying116
  a70 := Tryd.isAgg116
  z70 := Tryd.sizeOf116
  v70 := Tryd.zeroValue116
  t76 := Tryd.underlying119
  a76 := Tryd.isAgg119
  z76 := Tryd.sizeOf119
  v76 := Tryd.zeroValue119
  t77 := Tryd.underlying120
  a77 := Tryd.isAgg120
  z77 := Tryd.sizeOf120
  v77 := Tryd.zeroValue120

theorem so29_sortedF (k1 g : Nat) (lb : Array Value) (e1 : ∀ args w, (callFunc k1 args).run Tryd.prog w = .ok (.enter k1 args) w) (eg : ∀ args w, (callFunc g args).run Tryd.prog w = .ok (.enter g args) w)
    (cf : (A8 (Int)) → (A8 (Int)) → Int) (hT : TotCmp cf) (hcmp : ∀ blk off size w, Go.Proofs.CmpLays Tryd.prog g #[] so29_kc 8 cf blk off size w)
    (ks : List (A8 (Int))) (hN : ks.length ≤ maxLen) (hNb : ks.length * 8 ≤ 140737488355328) (w : World) (hseq : SeqD Fence.wide 8 Tryd.prog k1 lb so29_kv (fun xs => xs.Perm ks) ks.length w) :
    Calls Tryd.prog 29 #[.func (.func k1) #[] lb, .func (.func g) #[] #[]] w fun e w' => ∃ v, e = .returned v ∧ Below w.heap.size w w' ∧ w.drawn ≤ w'.drawn ∧ SortedAt so29_kc 8 w w' v (sortL cf ks) := by
  have hc : Calls Tryd.prog 37 #[.func (.func k1) #[] lb] w _ := callsIn_wide.1 (so29_collect 10 (by omega) k1 lb e1 _ ks.length hN hNb w hseq)
  have hsort : ∀ (w1 : World) (v : Value) (ss : List (A8 (Int))), ss.Perm ks → w1.ownsRow w.heap.size 31 8 v ss.length (ss.flatMap so29_kc) → (v = .slice none 0 0 ↔ ss = []) → Below w.heap.size w w1 →
      Calls Tryd.prog 38 #[v, .func (.func g) #[] #[]] w1 fun e w' => e = .returned (.tuple #[]) ∧ Below w.heap.size w1 w' ∧ w1.drawn ≤ w'.drawn ∧ SortedAt so29_kc 8 w w' v (sortL cf ks) := by
    intro w1 v ss hS hrow hnil hb
    by_cases hss : ss = []
    · subst hss
      rw [hnil.2 rfl]
      have hks : ks = [] := List.length_eq_zero_iff.1 (by rw [← hS.length_eq]; rfl)
      have h := Go.Proofs.AnyF.slices_SortFunc_none so29_lay none 0 (.func (.func g) #[] #[]) w1
      change Calls Tryd.prog 38 _ _ _ at h
      refine h.mono ?_
      rintro e w' ⟨rfl, rfl⟩
      exact ⟨rfl, Below.refl _ _, Nat.le_refl _, .inl ⟨rfl, by subst hks; exact List.eq_nil_of_length_eq_zero (sortL_len cf [])⟩⟩
    · obtain ⟨m, hm⟩ : ∃ m, ss.length = m + 1 := ⟨ss.length - 1, by have := List.length_pos_iff.2 hss; omega⟩
      obtain ⟨blk, cap, hv⟩ := ownsRow_succ (by rw [hm] at hrow; exact hrow)
      rw [← hm] at hv
      subst hv
      obtain ⟨h1, h2, h3, h4, _⟩ := holds_of_owns so29_len hrow
      have hsz : ss.toArray.size < 4611686018427387904 := by
        have := hS.length_eq
        simp only [List.size_toArray]
        omega
      have h := Go.Proofs.AnyQ.slices_SortFunc_total so29_lay 8 Tryd.isAgg31 Tryd.sizeOf31 so29_kc so29_len so29_one cf hT.swo g #[] blk 0 cap ss.toArray w1 eg (hcmp blk 0 _ w1) h1 h3 hsz hT.tot
      change Calls Tryd.prog 38 _ _ _ at h
      rw [List.size_toArray] at h
      refine h.mono ?_
      rintro e w' ⟨rfl, n, os, rfl⟩
      have hbs := below_sort so29_kc 8 w1 blk 0 n (sortL cf ss).toArray os w.heap.size h2 hb.size
      refine ⟨rfl, hbs.1, hbs.2, ?_⟩
      rw [← sortL_of_perm hT hS]
      exact sortedAt_of so29_len (by decide) (Nat.le_refl _) hrow (sortL_len cf ss) hss rfl
  clear hseq hcmp
  go_enter Tryd.func29, Tryd.ntmps29
  go_wp2_with (first
    | (go_at_call 37; refine hc.mono ?_; rintro e w1 ⟨v, ss, rfl, hS, hrow, hnil, hb, hd⟩)
    | (go_at_call 38; refine (hsort w1 v ss hS hrow hnil hb).mono ?_; rintro e w2 ⟨rfl, hb2, hd2, hs2⟩))
  go_ret
  exact ⟨v, rfl, hb.trans hb2, Nat.le_trans hd hd2, hs2⟩

/-- cmp.isNaN[byte] -/

def cmp_isNaN_byte_v (r : (Bool)) : LV := .bool r

def cmp_isNaN_byte (x : Int) : Option ((Bool)) :=
  some (x != x)

theorem cmp_isNaN_byte_ok (x : Int) (r : (Bool)) (h : cmp_isNaN_byte x = some r) : ∀ σ, Inj 0 σ → FnTri Tryd.prog 68 (renL σ [.int .u8 x]) (preOf σ 0 []) ((cmp_isNaN_byte_v r).ren σ) (upOf σ []) := by
  refine fn_of Tryd.func68 (by kernel_rfl) (by kernel_rfl) (by kernel_rfl) trivial (by kernel_rfl) trivial (by kernel_rfl) ?_
  intro w0 W μ0 hμ
  unfold cmp_isNaN_byte at h
  obtain rfl := Option.some.inj h
  exact run_ret mixed (L := []) (n := 15) (s := [.reg [], .reg []])
    (a_ (a_ (a_ (a_ tr tr) tr) (a_ (a_ (a_ tr tr) (a_ (a_ tr tr) (a_ (a_ tr tr) (a_ (a_ tr tr) tr)))) tr)) tr) (by kernel_rfl) rfl

theorem cmp_isNaN_byte_tri (x : Int) (r : (Bool)) (h : cmp_isNaN_byte x = some r) : FnTri Tryd.prog 68 [.int .u8 x] [] (cmp_isNaN_byte_v r) [] := FnTri.none (cmp_isNaN_byte_ok x r h) rfl rfl

/-- cmp.Compare[byte] -/

def cmp_Compare_byte_v (r : (Int)) : LV := .int .i64 r

def cmp_Compare_byte (x : Int) (y : Int) : Option ((Int)) :=
  (cmp_isNaN_byte x).bind fun y2 =>
  (cmp_isNaN_byte y).bind fun y4 =>
  if (y2 : Bool) then
    if (y4 : Bool) then
      some 0
    else
      some (-1)
  else
    if (y4 : Bool) then
      some 1
    else
      if ((decide (x < y)) : Bool) then
        some (-1)
      else
        if ((decide (y < x)) : Bool) then
          some 1
        else
          some 0

theorem cmp_Compare_byte_ok (x : Int) (y : Int) (r : (Int)) (h : cmp_Compare_byte x y = some r) : ∀ σ, Inj 0 σ → FnTri Tryd.prog 49 (renL σ [.int .u8 x, .int .u8 y]) (preOf σ 0 []) ((cmp_Compare_byte_v r).ren σ) (upOf σ []) := by
  refine fn_of Tryd.func49 (by kernel_rfl) (by kernel_rfl) (by kernel_rfl) trivial (by kernel_rfl) trivial (by kernel_rfl) ?_
  intro w0 W μ0 hμ
  unfold cmp_Compare_byte at h
  obtain ⟨y2, e1, h⟩ := bind_some h
  obtain ⟨y4, e3, h⟩ := bind_some h
  rcases itb_some h with ⟨c5, h⟩ | ⟨c5, h⟩
  · skip
    rcases itb_some h with ⟨c6, h⟩ | ⟨c6, h⟩
    · skip
      obtain rfl := Option.some.inj h
      exact run_ret mixed (L := []) (n := 31) (s := [.reg [], .reg [(1, { call := some (cmp_isNaN_byte_v y2, [], []) })], .reg [(1, { call := some (cmp_isNaN_byte_v y4, [], []) })], .reg [(0, { v := some (.bool true) })], .reg [(0, { v := some (.bool true) })], .reg []])
        (a_ (a_ (a_ (a_ tr tr) tr) (a_ (a_ (a_ tr tr) (a_ (a_ (a_ (cmp_isNaN_byte_tri x y2 e1) tr) tr) (a_ (a_ tr tr) tr))) (a_ (a_ (a_ tr tr) (a_ (a_ (a_ (cmp_isNaN_byte_tri y y4 e3) tr) tr) (a_ (a_ tr tr) tr))) (a_ (a_ (a_ tr (a_ (leB c5) tr)) tr) (a_ (a_ (a_ tr (a_ (leB c6) tr)) tr) (a_ (a_ (a_ tr tr) tr) tr)))))) tr) (by kernel_rfl) rfl
    · skip
      obtain rfl := Option.some.inj h
      exact run_ret mixed (L := []) (n := 32) (s := [.reg [], .reg [(1, { call := some (cmp_isNaN_byte_v y2, [], []) })], .reg [(1, { call := some (cmp_isNaN_byte_v y4, [], []) })], .reg [(0, { v := some (.bool true) })], .reg [(0, { v := some (.bool false) })], .reg []])
        (a_ (a_ (a_ (a_ tr tr) tr) (a_ (a_ (a_ tr tr) (a_ (a_ (a_ (cmp_isNaN_byte_tri x y2 e1) tr) tr) (a_ (a_ tr tr) tr))) (a_ (a_ (a_ tr tr) (a_ (a_ (a_ (cmp_isNaN_byte_tri y y4 e3) tr) tr) (a_ (a_ tr tr) tr))) (a_ (a_ (a_ tr (a_ (leB c5) tr)) tr) (a_ (a_ (a_ tr (a_ (leB c6) tr)) tr) (a_ (a_ (a_ tr tr) tr) tr)))))) tr) (by kernel_rfl) rfl
  · skip
    rcases itb_some h with ⟨c6, h⟩ | ⟨c6, h⟩
    · skip
      obtain rfl := Option.some.inj h
      exact run_ret mixed (L := []) (n := 32) (s := [.reg [], .reg [(1, { call := some (cmp_isNaN_byte_v y2, [], []) })], .reg [(1, { call := some (cmp_isNaN_byte_v y4, [], []) })], .reg [(0, { v := some (.bool false) })], .reg [(0, { v := some (.bool true) })], .reg []])
        (a_ (a_ (a_ (a_ tr tr) tr) (a_ (a_ (a_ tr tr) (a_ (a_ (a_ (cmp_isNaN_byte_tri x y2 e1) tr) tr) (a_ (a_ tr tr) tr))) (a_ (a_ (a_ tr tr) (a_ (a_ (a_ (cmp_isNaN_byte_tri y y4 e3) tr) tr) (a_ (a_ tr tr) tr))) (a_ (a_ (a_ tr (a_ (leB c5) tr)) tr) (a_ (a_ (a_ tr (a_ (leB c6) tr)) tr) (a_ (a_ (a_ tr tr) tr) tr)))))) tr) (by kernel_rfl) rfl
    · skip
      rcases itb_some h with ⟨c7, h⟩ | ⟨c7, h⟩
      · skip
        obtain rfl := Option.some.inj h
        exact run_ret mixed (L := []) (n := 38) (s := [.reg [], .reg [(1, { call := some (cmp_isNaN_byte_v y2, [], []) })], .reg [(1, { call := some (cmp_isNaN_byte_v y4, [], []) })], .reg [(0, { v := some (.bool false) })], .reg [(0, { v := some (.bool false) })], .reg [(2, { v := some (.bool true) })], .reg []])
          (a_ (a_ (a_ (a_ tr tr) tr) (a_ (a_ (a_ tr tr) (a_ (a_ (a_ (cmp_isNaN_byte_tri x y2 e1) tr) tr) (a_ (a_ tr tr) tr))) (a_ (a_ (a_ tr tr) (a_ (a_ (a_ (cmp_isNaN_byte_tri y y4 e3) tr) tr) (a_ (a_ tr tr) tr))) (a_ (a_ (a_ tr (a_ (leB c5) tr)) tr) (a_ (a_ (a_ tr (a_ (leB c6) tr)) tr) (a_ (a_ (a_ tr tr) (a_ (a_ tr tr) (a_ (a_ tr (a_ (leB c7) tr)) tr))) (a_ (a_ (a_ tr tr) tr) tr))))))) tr) (by kernel_rfl) rfl
      · skip
        rcases itb_some h with ⟨c8, h⟩ | ⟨c8, h⟩
        · skip
          obtain rfl := Option.some.inj h
          exact run_ret mixed (L := []) (n := 44) (s := [.reg [], .reg [(1, { call := some (cmp_isNaN_byte_v y2, [], []) })], .reg [(1, { call := some (cmp_isNaN_byte_v y4, [], []) })], .reg [(0, { v := some (.bool false) })], .reg [(0, { v := some (.bool false) })], .reg [(2, { v := some (.bool false) })], .reg [(2, { v := some (.bool true) })], .reg []])
            (a_ (a_ (a_ (a_ tr tr) tr) (a_ (a_ (a_ tr tr) (a_ (a_ (a_ (cmp_isNaN_byte_tri x y2 e1) tr) tr) (a_ (a_ tr tr) tr))) (a_ (a_ (a_ tr tr) (a_ (a_ (a_ (cmp_isNaN_byte_tri y y4 e3) tr) tr) (a_ (a_ tr tr) tr))) (a_ (a_ (a_ tr (a_ (leB c5) tr)) tr) (a_ (a_ (a_ tr (a_ (leB c6) tr)) tr) (a_ (a_ (a_ tr tr) (a_ (a_ tr tr) (a_ (a_ tr (a_ (leB c7) tr)) tr))) (a_ (a_ (a_ tr tr) (a_ (a_ tr tr) (a_ (a_ tr (a_ (leB c8) tr)) tr))) (a_ (a_ (a_ tr tr) tr) tr)))))))) tr) (by kernel_rfl) rfl
        · skip
          obtain rfl := Option.some.inj h
          exact run_ret mixed (L := []) (n := 45) (s := [.reg [], .reg [(1, { call := some (cmp_isNaN_byte_v y2, [], []) })], .reg [(1, { call := some (cmp_isNaN_byte_v y4, [], []) })], .reg [(0, { v := some (.bool false) })], .reg [(0, { v := some (.bool false) })], .reg [(2, { v := some (.bool false) })], .reg [(2, { v := some (.bool false) })], .reg []])
            (a_ (a_ (a_ (a_ tr tr) tr) (a_ (a_ (a_ tr tr) (a_ (a_ (a_ (cmp_isNaN_byte_tri x y2 e1) tr) tr) (a_ (a_ tr tr) tr))) (a_ (a_ (a_ tr tr) (a_ (a_ (a_ (cmp_isNaN_byte_tri y y4 e3) tr) tr) (a_ (a_ tr tr) tr))) (a_ (a_ (a_ tr (a_ (leB c5) tr)) tr) (a_ (a_ (a_ tr (a_ (leB c6) tr)) tr) (a_ (a_ (a_ tr tr) (a_ (a_ tr tr) (a_ (a_ tr (a_ (leB c7) tr)) tr))) (a_ (a_ (a_ tr tr) (a_ (a_ tr tr) (a_ (a_ tr (a_ (leB c8) tr)) tr))) (a_ (a_ (a_ tr tr) tr) tr)))))))) tr) (by kernel_rfl) rfl

theorem cmp_Compare_byte_tri (x : Int) (y : Int) (r : (Int)) (h : cmp_Compare_byte x y = some r) : FnTri Tryd.prog 49 [.int .u8 x, .int .u8 y] [] (cmp_Compare_byte_v r) [] := FnTri.none (cmp_Compare_byte_ok x y r h) rfl rfl

/-- slices.Compare[[]byte,byte] -/

def slices_Compare_byte_byte_v (r : (Int)) : LV := .int .i64 r

def slices_Compare_byte_byte_up (s1 : A8 (Int)) (s2 : A8 (Int)) (r : (Int)) : Upd := [(0, some (.var [.int .u8 s1.a0, .int .u8 s1.a1, .int .u8 s1.a2, .int .u8 s1.a3, .int .u8 s1.a4, .int .u8 s1.a5, .int .u8 s1.a6, .int .u8 s1.a7])), (1, some (.var [.int .u8 s2.a0, .int .u8 s2.a1, .int .u8 s2.a2, .int .u8 s2.a3, .int .u8 s2.a4, .int .u8 s2.a5, .int .u8 s2.a6, .int .u8 s2.a7]))]

def slices_Compare_byte_byte_objs (s1 : A8 (Int)) (s2 : A8 (Int)) : List LO := [.var [.int .u8 s1.a0, .int .u8 s1.a1, .int .u8 s1.a2, .int .u8 s1.a3, .int .u8 s1.a4, .int .u8 s1.a5, .int .u8 s1.a6, .int .u8 s1.a7], .var [.int .u8 s2.a0, .int .u8 s2.a1, .int .u8 s2.a2, .int .u8 s2.a3, .int .u8 s2.a4, .int .u8 s2.a5, .int .u8 s2.a6, .int .u8 s2.a7]]

def slices_Compare_byte_byte_T0 (s1 : A8 (Int)) (s2 : A8 (Int)) (t11 : Int) : List LV := [.sl 0 0 0 true 8 (some 8), .sl 1 0 0 true 8 (some 8), .any, .any, .any, .any, .any, .any, .any, .sl 0 0 0 true 8 (some 8), .int .i64 8, .int .i64 t11, .any, .any, .any, .any, .any, .any, .any, .any, .any, .any, .any, .any, .any, .any, .any, .any, .any, .any, .any, .any, .any, .any, .any, .any]

def slices_Compare_byte_byte_H0 (s1 : A8 (Int)) (s2 : A8 (Int)) (t11 : Int) : Heap := [some (.var [.int .u8 s1.a0, .int .u8 s1.a1, .int .u8 s1.a2, .int .u8 s1.a3, .int .u8 s1.a4, .int .u8 s1.a5, .int .u8 s1.a6, .int .u8 s1.a7]), some (.var [.int .u8 s2.a0, .int .u8 s2.a1, .int .u8 s2.a2, .int .u8 s2.a3, .int .u8 s2.a4, .int .u8 s2.a5, .int .u8 s2.a6, .int .u8 s2.a7])]

def slices_Compare_byte_byte_l0 (s1 : A8 (Int)) (s2 : A8 (Int))  : Nat → (Int) → Option ((Int))
  | 0, _ => none
  | fuel + 1, t11 =>
    if ((decide (t11 < 8)) : Bool) then
      if 0 ≤ t11 ∧ t11 < 8 then
      if ((decide (8 ≤ t11)) : Bool) then
        some 1
      else
        (cmp_Compare_byte (A8.get s1 t11.toNat) (A8.get s2 t11.toNat)).bind fun yL0_5 =>
        if ((yL0_5 != 0) : Bool) then
          some yL0_5
        else
          slices_Compare_byte_byte_l0 s1 s2  fuel (IntKind.wrap .i64 (t11 + 1))
      else none
    else
      some 0

def slices_Compare_byte_byte (s1 : A8 (Int)) (s2 : A8 (Int)) : Option ((Int)) :=
  slices_Compare_byte_byte_l0 s1 s2  big 0

theorem slices_Compare_byte_byte_l0_ok {w0 : World} {W : Nat → Prop} {μ0 : Emb} (hμ : ∀ c p, μ0 c = some p → c < 2) (s1 : A8 (Int)) (s2 : A8 (Int))  : ∀ (fuel : Nat) (t11 : Int) (r : (Int)), slices_Compare_byte_byte_l0 s1 s2  fuel t11 = some r → kont Tryd.prog w0 W μ0 (FnPost Tryd.prog Tryd.f40 2 2 (slices_Compare_byte_byte_v r) (slices_Compare_byte_byte_up s1 s2 r)) (kAt (bodyOf Tryd.f40) 0) none (slices_Compare_byte_byte_T0 s1 s2 t11) (slices_Compare_byte_byte_H0 s1 s2 t11) := by
  intro fuel
  induction fuel with
  | zero => intro t11 r h; rw [slices_Compare_byte_byte_l0] at h; cases h
  | succ fuel ih =>
    intro t11 r h
    rw [slices_Compare_byte_byte_l0] at h
    rcases itb_some h with ⟨cL0_1, h⟩ | ⟨cL0_1, h⟩
    · skip
      obtain ⟨gL0_2, h⟩ := guard_some h
      rcases itb_some h with ⟨cL0_3, h⟩ | ⟨cL0_3, h⟩
      · skip
        obtain rfl := Option.some.inj h
        exact run_ret mixed (L := []) (n := 29) (s := [.go, .reg [(0, { v := some (.bool true) })], .reg [(2, { v := some (.int .u8 (A8.get s1 t11.toNat)) })], .reg [(3, { v := some (.bool true) })], .reg []])
          (a_ (a_ (a_ (a_ tr (a_ (leB cL0_1) tr)) tr) (a_ (a_ (a_ tr tr) (a_ (a_ gL0_2 tr) (a_ (a_ (a_ tr (arrLt (len := 8) gL0_2 0 1 8 rfl rfl)) (a_ (ld8s (cInt .u8) 1 (fun _ => rfl) s1 [] [] 0 rfl t11.toNat (lt8N gL0_2) (le_ (0 + 1) 1 rfl)) tr)) (a_ (a_ tr tr) (a_ (a_ tr tr) tr))))) (a_ (a_ (a_ tr tr) (a_ (a_ tr tr) (a_ (a_ tr tr) (a_ (a_ tr (a_ (leB cL0_3) tr)) tr)))) (a_ (a_ (a_ tr tr) tr) tr)))) tr) (by kernel_rfl) rfl
      · skip
        obtain ⟨yL0_5, eL0_4, h⟩ := bind_some h
        rcases itb_some h with ⟨cL0_6, h⟩ | ⟨cL0_6, h⟩
        · skip
          obtain rfl := Option.some.inj h
          exact run_ret mixed (L := []) (n := 40) (s := [.go, .reg [(0, { v := some (.bool true) })], .reg [(2, { v := some (.int .u8 (A8.get s1 t11.toNat)) })], .reg [(3, { v := some (.bool false) })], .reg [(3, { v := some (.int .u8 (A8.get s2 t11.toNat)) })], .reg [(2, { call := some (cmp_Compare_byte_v yL0_5, [], []) })], .reg [(1, { v := some (.bool true) })], .reg []])
            (a_ (a_ (a_ (a_ tr (a_ (leB cL0_1) tr)) tr) (a_ (a_ (a_ tr tr) (a_ (a_ gL0_2 tr) (a_ (a_ (a_ tr (arrLt (len := 8) gL0_2 0 1 8 rfl rfl)) (a_ (ld8s (cInt .u8) 1 (fun _ => rfl) s1 [] [] 0 rfl t11.toNat (lt8N gL0_2) (le_ (0 + 1) 1 rfl)) tr)) (a_ (a_ tr tr) (a_ (a_ tr tr) tr))))) (a_ (a_ (a_ tr tr) (a_ (a_ tr tr) (a_ (a_ tr tr) (a_ (a_ tr (a_ (leB cL0_3) tr)) tr)))) (a_ (a_ (a_ tr tr) (a_ (a_ tr tr) (a_ (a_ gL0_2 tr) (a_ (a_ (a_ tr (arrLt (len := 8) gL0_2 0 1 8 rfl rfl)) (a_ (ld8s (cInt .u8) 1 (fun _ => rfl) s2 [] [] 0 rfl t11.toNat (lt8N gL0_2) (le_ (0 + 1) 1 rfl)) tr)) (a_ (a_ tr tr) tr))))) (a_ (a_ (a_ tr tr) (a_ (a_ tr tr) (a_ (a_ (a_ (cmp_Compare_byte_tri (A8.get s1 t11.toNat) (A8.get s2 t11.toNat) yL0_5 eL0_4) tr) tr) (a_ (a_ tr tr) tr)))) (a_ (a_ (a_ tr tr) (a_ (a_ tr (a_ (leB cL0_6) tr)) tr)) (a_ (a_ (a_ tr tr) (a_ (a_ tr tr) tr)) tr))))))) tr) (by kernel_rfl) rfl
        · skip
          exact run_to mixed hμ (L := []) (n := 41) (s := [.go, .reg [(0, { v := some (.bool true) })], .reg [(2, { v := some (.int .u8 (A8.get s1 t11.toNat)) })], .reg [(3, { v := some (.bool false) })], .reg [(3, { v := some (.int .u8 (A8.get s2 t11.toNat)) })], .reg [(2, { call := some (cmp_Compare_byte_v yL0_5, [], []) })], .reg [(1, { v := some (.bool false) })], .reg []])
            (a_ (a_ (a_ tr (a_ (leB cL0_1) tr)) tr) (a_ (a_ (a_ tr tr) (a_ (a_ gL0_2 tr) (a_ (a_ (a_ tr (arrLt (len := 8) gL0_2 0 1 8 rfl rfl)) (a_ (ld8s (cInt .u8) 1 (fun _ => rfl) s1 [] [] 0 rfl t11.toNat (lt8N gL0_2) (le_ (0 + 1) 1 rfl)) tr)) (a_ (a_ tr tr) (a_ (a_ tr tr) tr))))) (a_ (a_ (a_ tr tr) (a_ (a_ tr tr) (a_ (a_ tr tr) (a_ (a_ tr (a_ (leB cL0_3) tr)) tr)))) (a_ (a_ (a_ tr tr) (a_ (a_ tr tr) (a_ (a_ gL0_2 tr) (a_ (a_ (a_ tr (arrLt (len := 8) gL0_2 0 1 8 rfl rfl)) (a_ (ld8s (cInt .u8) 1 (fun _ => rfl) s2 [] [] 0 rfl t11.toNat (lt8N gL0_2) (le_ (0 + 1) 1 rfl)) tr)) (a_ (a_ tr tr) tr))))) (a_ (a_ (a_ tr tr) (a_ (a_ tr tr) (a_ (a_ (a_ (cmp_Compare_byte_tri (A8.get s1 t11.toNat) (A8.get s2 t11.toNat) yL0_5 eL0_4) tr) tr) (a_ (a_ tr tr) tr)))) (a_ (a_ (a_ tr tr) (a_ (a_ tr (a_ (leB cL0_6) tr)) tr)) (a_ (a_ (a_ tr tr) (a_ (a_ tr tr) tr)) tr))))))) (ih _ r h) (by kernel_rfl) ⟨rfl, rfl, trivial⟩
    · skip
      obtain rfl := Option.some.inj h
      exact run_ret mixed (L := []) (n := 25) (s := [.go, .reg [(0, { v := some (.bool false) })], .reg [], .reg []])
        (a_ (a_ (a_ (a_ tr (a_ (leB cL0_1) tr)) tr) (a_ (a_ (a_ tr tr) (a_ (a_ tr tr) (a_ (a_ tr tr) (a_ (a_ tr tr) (a_ (a_ tr tr) tr))))) (a_ (a_ (a_ tr tr) tr) tr))) tr) (by kernel_rfl) rfl

theorem slices_Compare_byte_byte_ok (s1 : A8 (Int)) (s2 : A8 (Int)) (r : (Int)) (h : slices_Compare_byte_byte s1 s2 = some r) : ∀ σ, Inj 2 σ → FnTri Tryd.prog 40 (renL σ [.sl 0 0 0 true 8 (some 8), .sl 1 0 0 true 8 (some 8)]) (preOf σ 0 (slices_Compare_byte_byte_objs s1 s2)) ((slices_Compare_byte_byte_v r).ren σ) (upOf σ (slices_Compare_byte_byte_up s1 s2 r)) := by
  refine fn_of Tryd.func40 (by kernel_rfl) (by kernel_rfl) (by kernel_rfl) ⟨rfl, rfl, trivial⟩ (by kernel_rfl) ⟨rfl, rfl, trivial⟩ (by kernel_rfl) ?_
  intro w0 W μ0 hμ
  unfold slices_Compare_byte_byte at h
  exact run_to mixed hμ (L := []) (n := 18) (s := [.reg [], .reg []])
    (a_ (a_ (a_ tr tr) tr) (a_ (a_ (a_ tr tr) (a_ (a_ tr tr) (a_ (a_ tr tr) tr))) tr)) (slices_Compare_byte_byte_l0_ok hμ s1 s2  big _ r h) (by kernel_rfl) ⟨rfl, rfl, trivial⟩

/-- parrel/ids.Keys -/

def ids_Keys_v (r : (Int)) : LV := .int .i64 r

def ids_Keys (a : A8 (Int)) (b : A8 (Int)) : Option ((Int)) :=
  (slices_Compare_byte_byte a b).bind fun y2 =>
  some y2

theorem ids_Keys_ok (a : A8 (Int)) (b : A8 (Int)) (r : (Int)) (h : ids_Keys a b = some r) : ∀ σ, Inj 0 σ → FnTri Tryd.prog 31 (renL σ [.agg [.int .u8 a.a0, .int .u8 a.a1, .int .u8 a.a2, .int .u8 a.a3, .int .u8 a.a4, .int .u8 a.a5, .int .u8 a.a6, .int .u8 a.a7], .agg [.int .u8 b.a0, .int .u8 b.a1, .int .u8 b.a2, .int .u8 b.a3, .int .u8 b.a4, .int .u8 b.a5, .int .u8 b.a6, .int .u8 b.a7]]) (preOf σ 0 []) ((ids_Keys_v r).ren σ) (upOf σ []) := by
  refine fn_of Tryd.func31 (by kernel_rfl) (by kernel_rfl) (by kernel_rfl) trivial (by kernel_rfl) trivial (by kernel_rfl) ?_
  intro w0 W μ0 hμ
  unfold ids_Keys at h
  obtain ⟨y2, e1, h⟩ := bind_some h
  obtain rfl := Option.some.inj h
  exact run_ret mixed (L := []) (n := 15) (s := [.reg [], .reg [(2, { call := some ((slices_Compare_byte_byte_v y2).ren (sel [0, 1]), preOf (sel [0, 1]) 0 (slices_Compare_byte_byte_objs a b), upOf (sel [0, 1]) (slices_Compare_byte_byte_up a b y2)) })]])
    (a_ (a_ (a_ (a_ tr tr) (a_ (a_ tr tr) (a_ (a_ tr tr) tr))) (a_ (a_ (a_ (a_ (lei_ 0 0 rfl) (a_ (lei_ 0 8 rfl) (lei_ 8 8 rfl))) tr) (a_ (a_ (a_ (lei_ 0 0 rfl) (a_ (lei_ 0 8 rfl) (lei_ 8 8 rfl))) tr) (a_ (a_ (a_ (slices_Compare_byte_byte_ok a b y2 e1 (sel [0, 1]) (sel_inj rfl rfl)) (a_ (LO.Le.refl (.var [.int .u8 a.a0, .int .u8 a.a1, .int .u8 a.a2, .int .u8 a.a3, .int .u8 a.a4, .int .u8 a.a5, .int .u8 a.a6, .int .u8 a.a7])) (a_ (LO.Le.refl (.var [.int .u8 b.a0, .int .u8 b.a1, .int .u8 b.a2, .int .u8 b.a3, .int .u8 b.a4, .int .u8 b.a5, .int .u8 b.a6, .int .u8 b.a7])) tr))) tr) (a_ (a_ tr tr) tr)))) tr)) tr) (by kernel_rfl) rfl

theorem ids_Keys_tri (a : A8 (Int)) (b : A8 (Int)) (r : (Int)) (h : ids_Keys a b = some r) : FnTri Tryd.prog 31 [.agg [.int .u8 a.a0, .int .u8 a.a1, .int .u8 a.a2, .int .u8 a.a3, .int .u8 a.a4, .int .u8 a.a5, .int .u8 a.a6, .int .u8 a.a7], .agg [.int .u8 b.a0, .int .u8 b.a1, .int .u8 b.a2, .int .u8 b.a3, .int .u8 b.a4, .int .u8 b.a5, .int .u8 b.a6, .int .u8 b.a7]] [] (ids_Keys_v r) [] := FnTri.none (ids_Keys_ok a b r h) rfl rfl

theorem so29k39_keys (n : Nat) (Bm b : Nat) (es : Array MapEntry) (clock : Nat) (ks : List (A8 (Int))) (w : World) (off : Nat) (hm : w.cell? ⟨Bm, off, none⟩ = some (.map (some b))) (hBm : Bm < w.heap.size) (hb : w.heap[b]? = some (.map es clock))
    (hold : ∀ x ∈ es.toList, x.born < clock) (hnd : (es.toList.map (·.born)).Nodup) (hk : es.toList.map (·.key) = ks.map so29_kv) :
    SeqD Fence.wide n Tryd.prog 39 #[.pointer (some ⟨Bm, off, none⟩)] so29_kv (fun xs => xs.Perm ks) es.size w := fun l J W hW hJ hY h0 => by
  have hbW : W.heap[b]? = some (.map es clock) := (hW.block b (Array.getElem?_eq_some_iff.1 hb).1).trans hb
  have hc : W.cell? ⟨Bm, off, none⟩ = some (.map (some b)) := (World.cell?_of_block (hW.block Bm hBm)).trans hm
  refine callsIn_of_wp Tryd.func39 rfl trivial ?_ rfl
  simp only [Tryd.ntmps39, List.size_toArray, List.length_cons, List.length_nil, Nat.reduceAdd, Nat.reduceSub, Array.replicate_succ, Array.replicate_zero, List.push_toArray, List.append_toArray, List.nil_append, List.cons_append]
  gi_wp2_with (first
    | (gi_at_range; refine wpListIn_range_raw _ rfl _ 50 rfl 31 36 Tryd.underlying50 b es clock rfl hbW ?_)
    | gi_in)
  go_frame
  have hrg0 : Rg (W.alloc (.mapIter (some b) clock #[] clock)) b W.heap.size es clock [] :=
    ⟨(Below.heap_alloc _ _ b (Array.getElem?_eq_some_iff.1 hbW).1).trans hbW, World.alloc_heap_new W _, (fun d hd => by cases hd), List.nodup_nil⟩
  have hJ0 : J [] (W.alloc (.mapIter (some b) clock #[] clock)) := hJ [] W _ none h0 (World.grownBy_alloc W _ none) (Nat.le_refl _) (fun r e => by cases e)
  gi_loopw [3] (fun _ wr => ∃ (ds : List MapEntry) (xs : List (A8 (Int))), Rg wr b W.heap.size es clock ds ∧ ds.map (·.key) = xs.map so29_kv ∧ J xs wr)
    (fun _ wr => itLeft b W.heap.size wr)
  case atStart => exact ⟨[], [], hrg0, rfl, hJ0⟩
  case round =>
    obtain ⟨ds, xs, hrg, hdx, hJs⟩ := hrel
    gi_wp2_with (first
      | (gi_at_next; refine wpListIn_next_raw _ rfl _ rfl b W.heap.size es clock ds rfl hrg hold hnd ?_ ?_)
      | gi_in)
    · intro hall
      gi_wp2
      go_end0
      refine ⟨⟨_, rfl⟩, xs, ?_, hJs⟩
      have hp := (hrg.perm hnd (fun x hx => hall x (by simpa using hx))).map (·.key)
      rw [hdx, hk] at hp
      exact perm_of_map so29_kv so29_kd so29_kdv hp
    · intro e w2 he hrg2 hg2 hd2 hs2 hen
      obtain ⟨x, hx⟩ : ∃ x, e.key = so29_kv x := by
        have : e.key ∈ es.toList.map (·.key) := List.mem_map.2 ⟨e, by simpa using he, rfl⟩
        rw [hk] at this
        obtain ⟨x, _, hx⟩ := List.mem_map.1 this
        exact ⟨x, hx.symm⟩
      rw [hx] at hen ⊢
      have hJ2 : J xs w2 := hJ xs wr w2 _ hJs hg2 hd2 (fun r e => by cases e; exact ⟨Nat.le_refl _, _, hrg.it, rfl⟩)
      have hlt2 : xs.length < es.size := by
        have h1 := hrg2.len hnd
        have h2 := congrArg List.length hdx
        simp only [List.length_map, List.length_append, List.length_cons, List.length_nil] at h1 h2
        omega
      have hJ3 : J xs (w2.alloc (.cells #[.int .u8 x.a0, .int .u8 x.a1, .int .u8 x.a2, .int .u8 x.a3, .int .u8 x.a4, .int .u8 x.a5, .int .u8 x.a6, .int .u8 x.a7] 31)) := hJ xs w2 _ none hJ2 (World.grownBy_alloc w2 _ none) (Nat.le_refl _) (fun r e => by cases e)
      obtain ⟨fn, tmps, assign, body, hy, hR⟩ := hY xs x _ hJ3 hlt2
      unfold so29_kv at hen hy ⊢
      clear hs2 hd2
      gi_wp2
      refine ⟨fun h => absurd h (by simp [Fence.wide]), hR.mono ?_⟩
      rintro e' W4 ⟨rfl, hJ4, hk4⟩
      gi_wp2
      have hrg4 := (hrg2.walks (KeepsWalks.alloc _ _)).walks hk4
      go_roundw
      case rel => exact ⟨ds ++ [e], xs ++ [x], hrg4, by rw [List.map_append, List.map_append, hdx, List.map_cons, hx]; rfl, hJ4⟩
      case measure =>
        rw [hrg4.left, hrg.left]
        have := hrg2.len hnd
        simp only [List.length_append, List.length_cons, List.length_nil] at this ⊢
        omega


theorem so29k39_keysn (n : Nat) (Bm off : Nat) (w : World) (hm : w.cell? ⟨Bm, off, none⟩ = some (.map none)) (hBm : Bm < w.heap.size) :
    SeqD Fence.wide n Tryd.prog 39 #[.pointer (some ⟨Bm, off, none⟩)] so29_kv (fun xs => xs.Perm []) 0 w := fun l J W hW hJ hY h0 => by
  have hc : W.cell? ⟨Bm, off, none⟩ = some (.map none) := (World.cell?_of_block (hW.block Bm hBm)).trans hm
  refine callsIn_of_wp Tryd.func39 rfl trivial ?_ rfl
  simp only [Tryd.ntmps39, List.size_toArray, List.length_cons, List.length_nil, Nat.reduceAdd, Nat.reduceSub, Array.replicate_succ, Array.replicate_zero, List.push_toArray, List.append_toArray, List.nil_append, List.cons_append]
  gi_wp2_with (first
    | (gi_at_range; refine wpListIn_range_nil _ rfl _ 50 rfl 31 36 Tryd.underlying50 rfl ?_)
    | gi_in)
  go_frame
  have hJ0 : J [] (W.alloc (.mapIter none 0 #[] 0)) := hJ [] W _ none h0 (World.grownBy_alloc W _ none) (Nat.le_refl _) (fun r e => by cases e)
  gi_loopw [3] (fun _ wr => wr.heap[W.heap.size]? = some (.mapIter none 0 #[] 0) ∧ J [] wr) (fun _ _ => 0)
  case atStart => exact ⟨World.alloc_heap_new W _, hJ0⟩
  case round =>
    obtain ⟨hit, hJs⟩ := hrel
    gi_wp2_with (first
      | (gi_at_next; refine wpListIn_next_nil _ rfl _ rfl W.heap.size rfl hit ?_)
      | gi_in)
    gi_wp2
    go_end0
    exact ⟨⟨_, rfl⟩, [], List.Perm.refl _, hJs⟩

theorem so29k39_det (φ : Fro) (x : (A8 (Int))) (v : Value) (h : RelF φ ((fun z_ : A8 (Int) => LV.agg [.int .u8 z_.a0, .int .u8 z_.a1, .int .u8 z_.a2, .int .u8 z_.a3, .int .u8 z_.a4, .int .u8 z_.a5, .int .u8 z_.a6, .int .u8 z_.a7]) x) v) : v = so29_kv x := so29_det φ x v h
theorem so29k39_rel (μ : Emb) (x : (A8 (Int))) : Rel μ ((fun z_ : A8 (Int) => LV.agg [.int .u8 z_.a0, .int .u8 z_.a1, .int .u8 z_.a2, .int .u8 z_.a3, .int .u8 z_.a4, .int .u8 z_.a5, .int .u8 z_.a6, .int .u8 z_.a7]) x) (.agg (so29_kc x).toArray) := ⟨_, rfl, RelFL.rel (so29_enc μ.fro x)⟩
theorem so29k39_tri (g : FuncId) (cmp : (A8 (Int)) → (A8 (Int)) → Option Int) (r : List (A8 (Int))) (hcmp : ∀ x y r, cmp x y = some r → FnTri Tryd.prog g [(fun z_ : A8 (Int) => LV.agg [.int .u8 z_.a0, .int .u8 z_.a1, .int .u8 z_.a2, .int .u8 z_.a3, .int .u8 z_.a4, .int .u8 z_.a5, .int .u8 z_.a6, .int .u8 z_.a7]) x, (fun z_ : A8 (Int) => LV.agg [.int .u8 z_.a0, .int .u8 z_.a1, .int .u8 z_.a2, .int .u8 z_.a3, .int .u8 z_.a4, .int .u8 z_.a5, .int .u8 z_.a6, .int .u8 z_.a7]) y] [] (.int .i64 r) []) (b c : Nat) (hbc : b ≠ c) (m : List ((A8 (Int)) × (T_api_Item)))
    (h : sortO cmp 8 (m.map (·.1)) = some r) : FnTri Tryd.prog 29 [.fn 39 [] [.ptr b 0 0], .fn g [] []] [(b, .var [.map c]), (c, .map true [.int .u8, .int .u8, .int .u8, .int .u8, .int .u8, .int .u8, .int .u8, .int .u8] (encM (fun z_ : A8 (Int) => LV.agg [.int .u8 z_.a0, .int .u8 z_.a1, .int .u8 z_.a2, .int .u8 z_.a3, .int .u8 z_.a4, .int .u8 z_.a5, .int .u8 z_.a6, .int .u8 z_.a7]) v_T_api_Item m))] (.ds 8 r.length (rowF (fun z_ : A8 (Int) => [.int .u8 z_.a0, .int .u8 z_.a1, .int .u8 z_.a2, .int .u8 z_.a3, .int .u8 z_.a4, .int .u8 z_.a5, .int .u8 z_.a6, .int .u8 z_.a7]) default r)) [] := by
  obtain ⟨cf, hT, hcf, hL1, hL2, rfl⟩ := sortO_some h
  have hcl : ∀ blk off size w, Go.Proofs.CmpLays Tryd.prog g #[] so29_kc 8 cf blk off size w := cmp_of_tri (ek := (fun z_ : A8 (Int) => LV.agg [.int .u8 z_.a0, .int .u8 z_.a1, .int .u8 z_.a2, .int .u8 z_.a3, .int .u8 z_.a4, .int .u8 z_.a5, .int .u8 z_.a6, .int .u8 z_.a7])) (fun x y => hcmp x y _ (hcf x y)) so29k39_rel 8
  have eg := enters_tri (hcmp default default _ (hcf default default)).1
  refine ⟨⟨_, Tryd.func29, by kernel_rfl, by kernel_rfl⟩, fun μ w vals hr hp hf => ?_⟩
  obtain ⟨v0, r0, rfl, ⟨a0, b0, rfl, ha, hb⟩, v1, r1, rfl, ⟨a1, b1, rfl, ha1, hb1⟩, rfl⟩ := hr
  obtain rfl := rel_nocap ha
  obtain rfl := rel_nocap ha1
  obtain rfl := rel_nocap hb1
  obtain ⟨p, hpb, rfl⟩ := rel_cap hb
  obtain ⟨p', hpb', hok⟩ := hp.obj b _ List.mem_cons_self
  obtain rfl := Option.some.inj (hpb.symm.trans hpb')
  obtain ⟨vm, hvm, hcell, hlt⟩ := var_cell hok
  obtain ⟨q, hq, rfl⟩ := hvm
  obtain ⟨q', hq', hok2⟩ := hp.obj c _ (List.mem_cons_of_mem _ List.mem_cons_self)
  obtain rfl := Option.some.inj (hq.symm.trans hq')
  obtain ⟨⟨es, clock, hes, hF2, hnd, hborn⟩, _⟩ := hok2
  have hlen : es.size = (m.map (·.1)).length := by
    have := ents_len _ _ hF2
    rw [List.length_map]; simpa using this
  have hseq := so29k39_keys 8 p.rb q.rb es clock (m.map (·.1)) w _ hcell hlt hes hborn hnd (ents_keys so29k39_det _ _ hF2)
  rw [hlen] at hseq
  refine (so29_sortedF 39 g _ (enters_of Tryd.func39 (by kernel_rfl) rfl) eg cf hT hcl (m.map (·.1)) hL1 hL2 w hseq).mono ?_
  rintro e w' ⟨v, rfl, hb', hd', hs'⟩
  obtain ⟨μ', h1, h2⟩ := sorted_fin so29_enc so29_len so29_one hp hb' hd' hs'
  exact ⟨v, μ', rfl, h1, h2⟩
theorem so29k39_trin (g : FuncId) (cmp : (A8 (Int)) → (A8 (Int)) → Option Int) (r : List (A8 (Int))) (hcmp : ∀ x y r, cmp x y = some r → FnTri Tryd.prog g [(fun z_ : A8 (Int) => LV.agg [.int .u8 z_.a0, .int .u8 z_.a1, .int .u8 z_.a2, .int .u8 z_.a3, .int .u8 z_.a4, .int .u8 z_.a5, .int .u8 z_.a6, .int .u8 z_.a7]) x, (fun z_ : A8 (Int) => LV.agg [.int .u8 z_.a0, .int .u8 z_.a1, .int .u8 z_.a2, .int .u8 z_.a3, .int .u8 z_.a4, .int .u8 z_.a5, .int .u8 z_.a6, .int .u8 z_.a7]) y] [] (.int .i64 r) []) (b : Nat)
    (h : sortO cmp 8 ([] : List (A8 (Int))) = some r) : FnTri Tryd.prog 29 [.fn 39 [] [.ptr b 0 0], .fn g [] []] [(b, .var [.nilmap])] (.ds 8 r.length (rowF (fun z_ : A8 (Int) => [.int .u8 z_.a0, .int .u8 z_.a1, .int .u8 z_.a2, .int .u8 z_.a3, .int .u8 z_.a4, .int .u8 z_.a5, .int .u8 z_.a6, .int .u8 z_.a7]) default r)) [] := by
  obtain ⟨cf, hT, hcf, hL1, hL2, rfl⟩ := sortO_some h
  have hcl : ∀ blk off size w, Go.Proofs.CmpLays Tryd.prog g #[] so29_kc 8 cf blk off size w := cmp_of_tri (ek := (fun z_ : A8 (Int) => LV.agg [.int .u8 z_.a0, .int .u8 z_.a1, .int .u8 z_.a2, .int .u8 z_.a3, .int .u8 z_.a4, .int .u8 z_.a5, .int .u8 z_.a6, .int .u8 z_.a7])) (fun x y => hcmp x y _ (hcf x y)) so29k39_rel 8
  have eg := enters_tri (hcmp default default _ (hcf default default)).1
  refine ⟨⟨_, Tryd.func29, by kernel_rfl, by kernel_rfl⟩, fun μ w vals hr hp hf => ?_⟩
  obtain ⟨v0, r0, rfl, ⟨a0, b0, rfl, ha, hb⟩, v1, r1, rfl, ⟨a1, b1, rfl, ha1, hb1⟩, rfl⟩ := hr
  obtain rfl := rel_nocap ha
  obtain rfl := rel_nocap ha1
  obtain rfl := rel_nocap hb1
  obtain ⟨p, hpb, rfl⟩ := rel_cap hb
  obtain ⟨p', hpb', hok⟩ := hp.obj b _ List.mem_cons_self
  obtain rfl := Option.some.inj (hpb.symm.trans hpb')
  obtain ⟨vm, hvm, hcell, hlt⟩ := var_cell hok
  simp only [Rel] at hvm
  subst hvm
  have hseq := so29k39_keysn 8 p.rb _ w hcell hlt
  refine (so29_sortedF 39 g _ (enters_of Tryd.func39 (by kernel_rfl) rfl) eg cf hT hcl [] hL1 hL2 w hseq).mono ?_
  rintro e w' ⟨v, rfl, hb', hd', hs'⟩
  obtain ⟨μ', h1, h2⟩ := sorted_fin so29_enc so29_len so29_one hp hb' hd' hs'
  exact ⟨v, μ', rfl, h1, h2⟩

/-- (*parrel/item.Table).All -/

def item_Table_All_v (r : (List (T_api_Write))) : LV := .ds 21 (r).length (rowF c_T_api_Write default r)

def item_Table_All_up (m : List (A8 (Int) × T_api_Item)) (r : (List (T_api_Write))) : Upd := [(0, some (.var [.map 1])), (1, some (.map true [.int .u8, .int .u8, .int .u8, .int .u8, .int .u8, .int .u8, .int .u8, .int .u8] (encM (fun z_ : A8 (Int) => LV.agg [.int .u8 z_.a0, .int .u8 z_.a1, .int .u8 z_.a2, .int .u8 z_.a3, .int .u8 z_.a4, .int .u8 z_.a5, .int .u8 z_.a6, .int .u8 z_.a7]) v_T_api_Item m)))]

def item_Table_All_objs (m : List (A8 (Int) × T_api_Item)) : List LO := [.var [.map 1], .map true [.int .u8, .int .u8, .int .u8, .int .u8, .int .u8, .int .u8, .int .u8, .int .u8] (encM (fun z_ : A8 (Int) => LV.agg [.int .u8 z_.a0, .int .u8 z_.a1, .int .u8 z_.a2, .int .u8 z_.a3, .int .u8 z_.a4, .int .u8 z_.a5, .int .u8 z_.a6, .int .u8 z_.a7]) v_T_api_Item m)]

def item_Table_All_T0 (m : List (A8 (Int) × T_api_Item)) (y5 : List (A8 (Int))) (t16 : Int) (l : List (T_api_Write)) : List LV := [.ptr 0 0 0, .any, .any, .gs 2 (l).length, .any, .any, .any, .any, .any, .any, .any, .any, .any, .any, .ds 8 (y5).length (rowF (fun z_ : A8 (Int) => [.int .u8 z_.a0, .int .u8 z_.a1, .int .u8 z_.a2, .int .u8 z_.a3, .int .u8 z_.a4, .int .u8 z_.a5, .int .u8 z_.a6, .int .u8 z_.a7]) default y5), .int .i64 ((y5).length : Int), .int .i64 t16, .any, .any, .any, .any, .any, .any, .any, .any, .any, .any, .any, .any, .any, .any, .any, .any]

def item_Table_All_H0 (m : List (A8 (Int) × T_api_Item)) (y5 : List (A8 (Int))) (t16 : Int) (l : List (T_api_Write)) : Heap := [some (.var [.map 1]), some (.map true [.int .u8, .int .u8, .int .u8, .int .u8, .int .u8, .int .u8, .int .u8, .int .u8] (encM (fun z_ : A8 (Int) => LV.agg [.int .u8 z_.a0, .int .u8 z_.a1, .int .u8 z_.a2, .int .u8 z_.a3, .int .u8 z_.a4, .int .u8 z_.a5, .int .u8 z_.a6, .int .u8 z_.a7]) v_T_api_Item m)), some (.gr 21 (l).length (rowF c_T_api_Write default l))]

def item_Table_All_l0 (m : List (A8 (Int) × T_api_Item)) (y5 : List (A8 (Int)))  : Nat → (Int) → (List (T_api_Write)) → Option ((List (T_api_Write)))
  | 0, _, _ => none
  | fuel + 1, t16, l =>
    if ((decide (t16 < ((y5).length : Int))) : Bool) then
      if 0 ≤ t16 ∧ t16 < (((y5).length : Nat) : Int) then
      if ((l).length + ([(T_api_Write.mk (y5.getD t16.toNat default) ((mget m (y5.getD t16.toNat default)).getD default))]).length) * 48 ≤ 140737488351232 then
      item_Table_All_l0 m y5  fuel (IntKind.wrap .i64 (t16 + 1)) (l ++ [(T_api_Write.mk (y5.getD t16.toNat default) ((mget m (y5.getD t16.toNat default)).getD default))])
      else none
      else none
    else
      some l

def item_Table_All (m : List (A8 (Int) × T_api_Item)) : Option ((List (T_api_Write))) :=
  (item_Table_ok m).bind fun y2 =>
  (maps_Keys_map_api_Key_api_Item_api_Key_api_Item m).bind fun y4 =>
  (sortO ids_Keys 8 (m.map (·.1))).bind fun y5 =>
  item_Table_All_l0 m y5  big 0 ([] : List (T_api_Write))

theorem item_Table_All_l0_ok {w0 : World} {W : Nat → Prop} {μ0 : Emb} (hμ : ∀ c p, μ0 c = some p → c < 2) (m : List (A8 (Int) × T_api_Item)) (y5 : List (A8 (Int)))  : ∀ (fuel : Nat) (t16 : Int) (l : List (T_api_Write)) (r : (List (T_api_Write))), item_Table_All_l0 m y5  fuel t16 l = some r → kont Tryd.prog w0 W μ0 (FnPost Tryd.prog Tryd.f15 2 2 (item_Table_All_v r) (item_Table_All_up m r)) (kAt (bodyOf Tryd.f15) 0) none (item_Table_All_T0 m y5 t16 l) (item_Table_All_H0 m y5 t16 l) := by
  intro fuel
  induction fuel with
  | zero => intro t16 l r h; rw [item_Table_All_l0] at h; cases h
  | succ fuel ih =>
    intro t16 l r h
    rw [item_Table_All_l0] at h
    rcases itb_some h with ⟨cL0_1, h⟩ | ⟨cL0_1, h⟩
    · skip
      obtain ⟨gL0_2, h⟩ := guard_some h
      obtain ⟨gL0_3, h⟩ := guard_some h
      exact run_to mixed hμ (L := [5]) (n := 26) (s := [.go, .reg [(0, { v := some (.bool true) })], .reg [], .reg [(7, { look := ((mget m (y5.getD t16.toNat default)).map v_T_api_Item), v := some (v_T_api_Item ((mget m (y5.getD t16.toNat default)).getD default)) }), (9, { os := [(4, .gr 21 ([(T_api_Write.mk (y5.getD t16.toNat default) ((mget m (y5.getD t16.toNat default)).getD default))]).length (rowF c_T_api_Write default [(T_api_Write.mk (y5.getD t16.toNat default) ((mget m (y5.getD t16.toNat default)).getD default))]))], v := some (.gs 4 ([(T_api_Write.mk (y5.getD t16.toNat default) ((mget m (y5.getD t16.toNat default)).getD default))]).length) }), (10, { app := 3, os := [(5, .gr 21 ((l ++ [(T_api_Write.mk (y5.getD t16.toNat default) ((mget m (y5.getD t16.toNat default)).getD default))])).length (rowF c_T_api_Write default (l ++ [(T_api_Write.mk (y5.getD t16.toNat default) ((mget m (y5.getD t16.toNat default)).getD default))])))], v := some (.gs 5 ((l ++ [(T_api_Write.mk (y5.getD t16.toNat default) ((mget m (y5.getD t16.toNat default)).getD default))])).length) })], .reg []])
        (a_ (a_ (a_ tr (a_ (leB cL0_1) tr)) tr) (a_ (a_ (a_ (a_ (Eq.refl 8) gL0_2) tr) (a_ (a_ (le_ 8 8 rfl) tr) (a_ (a_ tr tr) (a_ (a_ (a_ (Eq.refl 8) (a_ (le_ 8 8 rfl) (Eq.refl 0))) tr) tr)))) (a_ (a_ (a_ tr tr) (a_ (a_ (a_ tr (le_ 8 8 rfl)) tr) (a_ (a_ tr tr) (a_ (a_ tr tr) (a_ (a_ tr tr) (a_ (a_ (a_ tr (lt_ 0 1 rfl)) tr) (a_ (a_ (a_ tr (le_ 8 8 rfl)) tr) (a_ (a_ (a_ (Eq.refl true) (findE_enc (fun z_ : A8 (Int) => LV.agg [.int .u8 z_.a0, .int .u8 z_.a1, .int .u8 z_.a2, .int .u8 z_.a3, .int .u8 z_.a4, .int .u8 z_.a5, .int .u8 z_.a6, .int .u8 z_.a7]) v_T_api_Item (k_arr8 .u8) m (y5.getD t16.toNat default))) (a_ (le_look v_T_api_Item (mget m (y5.getD t16.toNat default)) default) tr)) (a_ (a_ (Eq.refl true) tr) (a_ (a_ (a_ (Eq.refl true) (a_ (Eq.refl 21) (a_ (lt_ 0 21 rfl) (le_ 21 16777216 rfl)))) (a_ (le_sl_gs 4 1 (some 1) rfl) (a_ (sub_lit c_T_api_Write default 21 (fun _ => rfl) [(T_api_Write.mk (y5.getD t16.toNat default) ((mget m (y5.getD t16.toNat default)).getD default))]) tr))) (a_ (a_ (a_ (a_ (Eq.refl 21) (Nat.le_refl ([(T_api_Write.mk (y5.getD t16.toNat default) ((mget m (y5.getD t16.toNat default)).getD default))]).length)) (a_ (a_ (lt_ 0 21 rfl) (a_ (lt_ 0 48 rfl) (a_ gL0_3 (a_ (Eq.refl 21) (Eq.refl true))))) (a_ (Eq.refl 21) (Nat.le_refl (l).length)))) (a_ (le_gs_app 5 l [(T_api_Write.mk (y5.getD t16.toNat default) ((mget m (y5.getD t16.toNat default)).getD default))]) (a_ (sub_app c_T_api_Write default 21 l [(T_api_Write.mk (y5.getD t16.toNat default) ((mget m (y5.getD t16.toNat default)).getD default))]) tr))) (a_ (a_ tr tr) tr)))))))))))) (a_ (a_ (a_ tr tr) (a_ (a_ tr tr) tr)) tr)))) (ih _ _ r h) (by kernel_rfl) ⟨rfl, trivial, fun _ _ => rfl, trivial⟩
    · skip
      obtain rfl := Option.some.inj h
      exact run_ret mixed (L := []) (n := 20) (s := [.go, .reg [(0, { v := some (.bool false) })], .reg [], .frz 2])
        (a_ (a_ (a_ (a_ tr (a_ (leB cL0_1) tr)) tr) (a_ (a_ (a_ tr tr) (a_ (a_ tr tr) tr)) (a_ (a_ (fz_row (enc := c_T_api_Write) (d := default) (fun _ => rfl) l) (a_ (Nat.le_refl (l).length) (a_ (Nat.le_refl (l).length) (a_ (Nat.le_refl (l).length) tr)))) tr))) tr) (by kernel_rfl) rfl

theorem item_Table_All_ok (m : List (A8 (Int) × T_api_Item)) (r : (List (T_api_Write))) (h : item_Table_All m = some r) : ∀ σ, Inj 2 σ → FnTri Tryd.prog 15 (renL σ [.ptr 0 0 0]) (preOf σ 0 (item_Table_All_objs m)) ((item_Table_All_v r).ren σ) (upOf σ (item_Table_All_up m r)) := by
  refine fn_of Tryd.func15 (by kernel_rfl) (by kernel_rfl) (by kernel_rfl) ⟨rfl, trivial, trivial⟩ (by kernel_rfl) ⟨rfl, trivial, trivial⟩ (by kernel_rfl) ?_
  intro w0 W μ0 hμ
  unfold item_Table_All at h
  obtain ⟨y2, e1, h⟩ := bind_some h
  obtain ⟨y4, e3, h⟩ := bind_some h
  obtain ⟨y5, e6, h⟩ := bind_some h
  exact run_to mixed hμ (L := [2]) (n := 28) (s := [.reg [(0, { v := some (.ds 21 (([] : List (T_api_Write))).length (rowF c_T_api_Write default ([] : List (T_api_Write)))) })], .reg [(1, { call := some ((item_Table_ok_v y2).ren (sel [0, 1]), preOf (sel [0, 1]) 0 (item_Table_ok_objs m), upOf (sel [0, 1]) (item_Table_ok_up m y2)) })], .void (.gr 21 (([] : List (T_api_Write))).length (rowF c_T_api_Write default ([] : List (T_api_Write)))), .reg [(0, { v := some (.gs 2 (([] : List (T_api_Write))).length) })], .reg [(4, { call := some ((maps_Keys_map_api_Key_api_Item_api_Key_api_Item_v y4).ren (sel [1, 3]), preOf (sel [1, 3]) 0 (maps_Keys_map_api_Key_api_Item_api_Key_api_Item_objs m), upOf (sel [1, 3]) (maps_Keys_map_api_Key_api_Item_api_Key_api_Item_up m y4)) }), (5, { call := some (.ds 8 (y5).length (rowF (fun z_ : A8 (Int) => [.int .u8 z_.a0, .int .u8 z_.a1, .int .u8 z_.a2, .int .u8 z_.a3, .int .u8 z_.a4, .int .u8 z_.a5, .int .u8 z_.a6, .int .u8 z_.a7]) default y5), [(3, .var [.map 1]), (1, .map true [.int .u8, .int .u8, .int .u8, .int .u8, .int .u8, .int .u8, .int .u8, .int .u8] (encM (fun z_ : A8 (Int) => LV.agg [.int .u8 z_.a0, .int .u8 z_.a1, .int .u8 z_.a2, .int .u8 z_.a3, .int .u8 z_.a4, .int .u8 z_.a5, .int .u8 z_.a6, .int .u8 z_.a7]) v_T_api_Item m))], []) })]])
    (a_ (a_ (a_ tr (a_ (le_nil_ds 21 (rowF c_T_api_Write default [])) tr)) tr) (a_ (a_ (a_ tr tr) (a_ (a_ (a_ (item_Table_ok_ok m y2 e1 (sel [0, 1]) (sel_inj rfl rfl)) (a_ (LO.Le.refl (.var [.map 1])) (a_ (LO.Le.refl (.map true [.int .u8, .int .u8, .int .u8, .int .u8, .int .u8, .int .u8, .int .u8, .int .u8] (encM (fun z_ : A8 (Int) => LV.agg [.int .u8 z_.a0, .int .u8 z_.a1, .int .u8 z_.a2, .int .u8 z_.a3, .int .u8 z_.a4, .int .u8 z_.a5, .int .u8 z_.a6, .int .u8 z_.a7]) v_T_api_Item m))) tr))) tr) (a_ (a_ tr tr) tr))) (a_ (Eq.refl 0) (a_ (a_ (a_ tr (a_ (le_nil_gs 2) tr)) tr) (a_ (a_ (a_ tr tr) (a_ (a_ tr tr) (a_ (a_ tr tr) (a_ (a_ (a_ tr (lt_ 0 1 rfl)) tr) (a_ (a_ (a_ (maps_Keys_map_api_Key_api_Item_api_Key_api_Item_ok m y4 e3 (sel [1, 3]) (sel_inj rfl rfl)) (a_ (LO.Le.refl (.map true [.int .u8, .int .u8, .int .u8, .int .u8, .int .u8, .int .u8, .int .u8, .int .u8] (encM (fun z_ : A8 (Int) => LV.agg [.int .u8 z_.a0, .int .u8 z_.a1, .int .u8 z_.a2, .int .u8 z_.a3, .int .u8 z_.a4, .int .u8 z_.a5, .int .u8 z_.a6, .int .u8 z_.a7]) v_T_api_Item m))) tr)) tr) (a_ (a_ (a_ (so29k39_tri 31 ids_Keys y5 (fun x y r h => ids_Keys_tri x y r h) 3 1 (by decide) m e6) (a_ (LO.Le.refl (.var [.map 1])) (a_ (LO.Le.refl (.map true [.int .u8, .int .u8, .int .u8, .int .u8, .int .u8, .int .u8, .int .u8, .int .u8] (encM (fun z_ : A8 (Int) => LV.agg [.int .u8 z_.a0, .int .u8 z_.a1, .int .u8 z_.a2, .int .u8 z_.a3, .int .u8 z_.a4, .int .u8 z_.a5, .int .u8 z_.a6, .int .u8 z_.a7]) v_T_api_Item m))) tr))) tr) (a_ (a_ tr tr) (a_ (a_ tr tr) tr)))))))) tr))))) (item_Table_All_l0_ok hμ m y5  big _ _ r h) (by kernel_rfl) ⟨rfl, trivial, fun _ _ => rfl, trivial⟩

/-- (*parrel/item.Table).Len -/

def item_Table_Len_v (r : (Int)) : LV := .int .i64 r

def item_Table_Len_up (m : List (A8 (Int) × T_api_Item)) (r : (Int)) : Upd := [(0, some (.var [.map 1])), (1, some (.map true [.int .u8, .int .u8, .int .u8, .int .u8, .int .u8, .int .u8, .int .u8, .int .u8] (encM (fun z_ : A8 (Int) => LV.agg [.int .u8 z_.a0, .int .u8 z_.a1, .int .u8 z_.a2, .int .u8 z_.a3, .int .u8 z_.a4, .int .u8 z_.a5, .int .u8 z_.a6, .int .u8 z_.a7]) v_T_api_Item m)))]

def item_Table_Len_objs (m : List (A8 (Int) × T_api_Item)) : List LO := [.var [.map 1], .map true [.int .u8, .int .u8, .int .u8, .int .u8, .int .u8, .int .u8, .int .u8, .int .u8] (encM (fun z_ : A8 (Int) => LV.agg [.int .u8 z_.a0, .int .u8 z_.a1, .int .u8 z_.a2, .int .u8 z_.a3, .int .u8 z_.a4, .int .u8 z_.a5, .int .u8 z_.a6, .int .u8 z_.a7]) v_T_api_Item m)]

def item_Table_Len (m : List (A8 (Int) × T_api_Item)) : Option ((Int)) :=
  (item_Table_All m).bind fun y2 =>
  some ((y2).length : Int)

theorem item_Table_Len_ok (m : List (A8 (Int) × T_api_Item)) (r : (Int)) (h : item_Table_Len m = some r) : ∀ σ, Inj 2 σ → FnTri Tryd.prog 16 (renL σ [.ptr 0 0 0]) (preOf σ 0 (item_Table_Len_objs m)) ((item_Table_Len_v r).ren σ) (upOf σ (item_Table_Len_up m r)) := by
  refine fn_of Tryd.func16 (by kernel_rfl) (by kernel_rfl) (by kernel_rfl) ⟨rfl, trivial, trivial⟩ (by kernel_rfl) ⟨rfl, trivial, trivial⟩ (by kernel_rfl) ?_
  intro w0 W μ0 hμ
  unfold item_Table_Len at h
  obtain ⟨y2, e1, h⟩ := bind_some h
  obtain rfl := Option.some.inj h
  exact run_ret mixed (L := []) (n := 15) (s := [.reg [], .reg [(1, { call := some ((item_Table_All_v y2).ren (sel [0, 1]), preOf (sel [0, 1]) 0 (item_Table_All_objs m), upOf (sel [0, 1]) (item_Table_All_up m y2)) })]])
    (a_ (a_ (a_ (a_ tr tr) tr) (a_ (a_ (a_ tr tr) (a_ (a_ (a_ (item_Table_All_ok m y2 e1 (sel [0, 1]) (sel_inj rfl rfl)) (a_ (LO.Le.refl (.var [.map 1])) (a_ (LO.Le.refl (.map true [.int .u8, .int .u8, .int .u8, .int .u8, .int .u8, .int .u8, .int .u8, .int .u8] (encM (fun z_ : A8 (Int) => LV.agg [.int .u8 z_.a0, .int .u8 z_.a1, .int .u8 z_.a2, .int .u8 z_.a3, .int .u8 z_.a4, .int .u8 z_.a5, .int .u8 z_.a6, .int .u8 z_.a7]) v_T_api_Item m))) tr))) tr) (a_ (a_ tr tr) (a_ (a_ tr tr) tr)))) tr)) tr) (by kernel_rfl) rfl

/-- parrel/parrellaw13.alive -/

def parrellaw13_alive_v (r : (Bool)) : LV := .bool r

def parrellaw13_alive  : Option ((Bool)) :=
  (item_New).bind fun y2 =>
  (parrellaw13_one 2 ([120] : List UInt8)).bind fun y4 =>
  (item_Table_Install y2 (A8.mk 97 0 0 0 0 0 0 0) y4).bind fun y6 =>
  if ((y6.1 != 0) : Bool) then
    some false
  else
    (parrellaw13_one 1 ([121] : List UInt8)).bind fun y9 =>
    (item_Table_Install y6.2 (A8.mk 97 0 0 0 0 0 0 0) y9).bind fun y11 =>
    if ((y11.1 != 13) : Bool) then
      some false
    else
      (item_Table_Get y11.2 (A8.mk 97 0 0 0 0 0 0 0)).bind fun y14 =>
      if (y14.2 : Bool) then
        (parrellaw13_one 2 ([120] : List UInt8)).bind fun y17 =>
        if ((decide (y14.1 = y17)) : Bool) then
          (item_Table_Len y11.2).bind fun y20 =>
          some (y20 == 1)
        else
          some false
      else
        some false

theorem parrellaw13_alive_ok  (r : (Bool)) (h : parrellaw13_alive  = some r) : ∀ σ, Inj 0 σ → FnTri Tryd.prog 10 (renL σ []) (preOf σ 0 []) ((parrellaw13_alive_v r).ren σ) (upOf σ []) := by
  refine fn_of Tryd.func10 (by kernel_rfl) (by kernel_rfl) (by kernel_rfl) trivial (by kernel_rfl) trivial (by kernel_rfl) ?_
  intro w0 W μ0 hμ
  unfold parrellaw13_alive at h
  obtain ⟨y2, e1, h⟩ := bind_some h
  obtain ⟨y4, e3, h⟩ := bind_some h
  obtain ⟨y6, e5, h⟩ := bind_some h
  rcases itb_some h with ⟨c7, h⟩ | ⟨c7, h⟩
  · skip
    obtain rfl := Option.some.inj h
    exact run_ret mixed (L := []) (n := 26) (s := [.reg [], .reg [(0, { call := some ((item_New_v y2).ren (sel [0, 1]), preOf (sel [0, 1]) 0 [], upOf (sel [0, 1]) (item_New_up  y2)) })], .reg [], .reg [(5, { call := some (parrellaw13_one_v y4, [], []) }), (6, { call := some ((item_Table_Install_v y6).ren (sel [0, 1]), preOf (sel [0, 1]) 0 (item_Table_Install_objs y2 (A8.mk 97 0 0 0 0 0 0 0) y4), upOf (sel [0, 1]) (item_Table_Install_up y2 (A8.mk 97 0 0 0 0 0 0 0) y4 y6)) }), (9, { v := some (.bool true) })], .reg []])
      (a_ (a_ (a_ (a_ tr tr) tr) (a_ (a_ (a_ (a_ (item_New_ok  y2 e1 (sel [0, 1]) (sel_inj rfl rfl)) tr) tr) (a_ (a_ tr tr) tr)) (a_ (a_ (a_ (Eq.refl true) tr) (a_ (a_ tr tr) (a_ (a_ (a_ (Eq.refl 8) (a_ (le_ 8 8 rfl) (Eq.refl 0))) tr) tr))) (a_ (a_ (a_ tr tr) (a_ (a_ tr tr) (a_ (a_ tr tr) (a_ (a_ tr tr) (a_ (a_ (a_ tr (le_ 8 8 rfl)) tr) (a_ (a_ (a_ (parrellaw13_one_tri 2 ([120] : List UInt8) y4 e3) tr) tr) (a_ (a_ (a_ (item_Table_Install_ok y2 (A8.mk 97 0 0 0 0 0 0 0) y4 y6 e5 (sel [0, 1]) (sel_inj rfl rfl)) (a_ (LO.Le.refl (.var [.map 1])) (a_ (LO.Le.refl (.map true [.int .u8, .int .u8, .int .u8, .int .u8, .int .u8, .int .u8, .int .u8, .int .u8] (encM (fun z_ : A8 (Int) => LV.agg [.int .u8 z_.a0, .int .u8 z_.a1, .int .u8 z_.a2, .int .u8 z_.a3, .int .u8 z_.a4, .int .u8 z_.a5, .int .u8 z_.a6, .int .u8 z_.a7]) v_T_api_Item y2))) tr))) tr) (a_ (a_ tr tr) (a_ (a_ tr tr) (a_ (a_ tr (a_ (leB c7) tr)) (a_ tr (a_ tr (a_ tr (a_ tr (a_ tr (a_ (a_ tr tr) tr)))))))))))))))) (a_ (a_ (a_ tr tr) tr) tr))))) tr) (by kernel_rfl) rfl
  · skip
    obtain ⟨y9, e8, h⟩ := bind_some h
    obtain ⟨y11, e10, h⟩ := bind_some h
    rcases itb_some h with ⟨c12, h⟩ | ⟨c12, h⟩
    · skip
      obtain rfl := Option.some.inj h
      exact run_ret mixed (L := []) (n := 26) (s := [.reg [], .reg [(0, { call := some ((item_New_v y2).ren (sel [0, 1]), preOf (sel [0, 1]) 0 [], upOf (sel [0, 1]) (item_New_up  y2)) })], .reg [], .reg [(5, { call := some (parrellaw13_one_v y4, [], []) }), (6, { call := some ((item_Table_Install_v y6).ren (sel [0, 1]), preOf (sel [0, 1]) 0 (item_Table_Install_objs y2 (A8.mk 97 0 0 0 0 0 0 0) y4), upOf (sel [0, 1]) (item_Table_Install_up y2 (A8.mk 97 0 0 0 0 0 0 0) y4 y6)) }), (9, { v := some (.bool false) }), (12, { call := some (parrellaw13_one_v y9, [], []) }), (13, { call := some ((item_Table_Install_v y11).ren (sel [0, 1]), preOf (sel [0, 1]) 0 (item_Table_Install_objs y6.2 (A8.mk 97 0 0 0 0 0 0 0) y9), upOf (sel [0, 1]) (item_Table_Install_up y6.2 (A8.mk 97 0 0 0 0 0 0 0) y9 y11)) }), (15, { v := some (.bool true) })], .reg []])
        (a_ (a_ (a_ (a_ tr tr) tr) (a_ (a_ (a_ (a_ (item_New_ok  y2 e1 (sel [0, 1]) (sel_inj rfl rfl)) tr) tr) (a_ (a_ tr tr) tr)) (a_ (a_ (a_ (Eq.refl true) tr) (a_ (a_ tr tr) (a_ (a_ (a_ (Eq.refl 8) (a_ (le_ 8 8 rfl) (Eq.refl 0))) tr) tr))) (a_ (a_ (a_ tr tr) (a_ (a_ tr tr) (a_ (a_ tr tr) (a_ (a_ tr tr) (a_ (a_ (a_ tr (le_ 8 8 rfl)) tr) (a_ (a_ (a_ (parrellaw13_one_tri 2 ([120] : List UInt8) y4 e3) tr) tr) (a_ (a_ (a_ (item_Table_Install_ok y2 (A8.mk 97 0 0 0 0 0 0 0) y4 y6 e5 (sel [0, 1]) (sel_inj rfl rfl)) (a_ (LO.Le.refl (.var [.map 1])) (a_ (LO.Le.refl (.map true [.int .u8, .int .u8, .int .u8, .int .u8, .int .u8, .int .u8, .int .u8, .int .u8] (encM (fun z_ : A8 (Int) => LV.agg [.int .u8 z_.a0, .int .u8 z_.a1, .int .u8 z_.a2, .int .u8 z_.a3, .int .u8 z_.a4, .int .u8 z_.a5, .int .u8 z_.a6, .int .u8 z_.a7]) v_T_api_Item y2))) tr))) tr) (a_ (a_ tr tr) (a_ (a_ tr tr) (a_ (a_ tr (a_ (leB c7) tr)) (a_ (a_ tr tr) (a_ (a_ (a_ tr (le_ 8 8 rfl)) tr) (a_ (a_ (a_ (parrellaw13_one_tri 1 ([121] : List UInt8) y9 e8) tr) tr) (a_ (a_ (a_ (item_Table_Install_ok y6.2 (A8.mk 97 0 0 0 0 0 0 0) y9 y11 e10 (sel [0, 1]) (sel_inj rfl rfl)) (a_ (LO.Le.refl (.var [.map 1])) (a_ (LO.Le.refl (.map true [.int .u8, .int .u8, .int .u8, .int .u8, .int .u8, .int .u8, .int .u8, .int .u8] (encM (fun z_ : A8 (Int) => LV.agg [.int .u8 z_.a0, .int .u8 z_.a1, .int .u8 z_.a2, .int .u8 z_.a3, .int .u8 z_.a4, .int .u8 z_.a5, .int .u8 z_.a6, .int .u8 z_.a7]) v_T_api_Item y6.2))) tr))) tr) (a_ (a_ tr tr) (a_ (a_ tr (a_ (leB c12) tr)) tr)))))))))))))))) (a_ (a_ (a_ tr tr) tr) tr))))) tr) (by kernel_rfl) rfl
    · skip
      obtain ⟨y14, e13, h⟩ := bind_some h
      rcases itb_some h with ⟨c15, h⟩ | ⟨c15, h⟩
      · skip
        obtain ⟨y17, e16, h⟩ := bind_some h
        rcases itb_some h with ⟨c18, h⟩ | ⟨c18, h⟩
        · skip
          obtain ⟨y20, e19, h⟩ := bind_some h
          obtain rfl := Option.some.inj h
          exact run_ret mixed (L := []) (n := 30) (s := [.reg [], .reg [(0, { call := some ((item_New_v y2).ren (sel [0, 1]), preOf (sel [0, 1]) 0 [], upOf (sel [0, 1]) (item_New_up  y2)) })], .reg [], .reg [(5, { call := some (parrellaw13_one_v y4, [], []) }), (6, { call := some ((item_Table_Install_v y6).ren (sel [0, 1]), preOf (sel [0, 1]) 0 (item_Table_Install_objs y2 (A8.mk 97 0 0 0 0 0 0 0) y4), upOf (sel [0, 1]) (item_Table_Install_up y2 (A8.mk 97 0 0 0 0 0 0 0) y4 y6)) }), (9, { v := some (.bool false) }), (12, { call := some (parrellaw13_one_v y9, [], []) }), (13, { call := some ((item_Table_Install_v y11).ren (sel [0, 1]), preOf (sel [0, 1]) 0 (item_Table_Install_objs y6.2 (A8.mk 97 0 0 0 0 0 0 0) y9), upOf (sel [0, 1]) (item_Table_Install_up y6.2 (A8.mk 97 0 0 0 0 0 0 0) y9 y11)) }), (15, { v := some (.bool false) })], .reg [(2, { call := some ((item_Table_Get_v y14).ren (sel [0, 1]), preOf (sel [0, 1]) 0 (item_Table_Get_objs y11.2 (A8.mk 97 0 0 0 0 0 0 0)), upOf (sel [0, 1]) (item_Table_Get_up y11.2 (A8.mk 97 0 0 0 0 0 0 0) y14)) })], .reg [(1, { v := some (.bool true) }), (3, { call := some (parrellaw13_one_v y17, [], []) }), (4, { v := some (.bool (decide (y14.1 = y17))) }), (6, { v := some (.bool true) }), (8, { call := some ((item_Table_Len_v y20).ren (sel [0, 1]), preOf (sel [0, 1]) 0 (item_Table_Len_objs y11.2), upOf (sel [0, 1]) (item_Table_Len_up y11.2 y20)) })]])
            (a_ (a_ (a_ (a_ tr tr) tr) (a_ (a_ (a_ (a_ (item_New_ok  y2 e1 (sel [0, 1]) (sel_inj rfl rfl)) tr) tr) (a_ (a_ tr tr) tr)) (a_ (a_ (a_ (Eq.refl true) tr) (a_ (a_ tr tr) (a_ (a_ (a_ (Eq.refl 8) (a_ (le_ 8 8 rfl) (Eq.refl 0))) tr) tr))) (a_ (a_ (a_ tr tr) (a_ (a_ tr tr) (a_ (a_ tr tr) (a_ (a_ tr tr) (a_ (a_ (a_ tr (le_ 8 8 rfl)) tr) (a_ (a_ (a_ (parrellaw13_one_tri 2 ([120] : List UInt8) y4 e3) tr) tr) (a_ (a_ (a_ (item_Table_Install_ok y2 (A8.mk 97 0 0 0 0 0 0 0) y4 y6 e5 (sel [0, 1]) (sel_inj rfl rfl)) (a_ (LO.Le.refl (.var [.map 1])) (a_ (LO.Le.refl (.map true [.int .u8, .int .u8, .int .u8, .int .u8, .int .u8, .int .u8, .int .u8, .int .u8] (encM (fun z_ : A8 (Int) => LV.agg [.int .u8 z_.a0, .int .u8 z_.a1, .int .u8 z_.a2, .int .u8 z_.a3, .int .u8 z_.a4, .int .u8 z_.a5, .int .u8 z_.a6, .int .u8 z_.a7]) v_T_api_Item y2))) tr))) tr) (a_ (a_ tr tr) (a_ (a_ tr tr) (a_ (a_ tr (a_ (leB c7) tr)) (a_ (a_ tr tr) (a_ (a_ (a_ tr (le_ 8 8 rfl)) tr) (a_ (a_ (a_ (parrellaw13_one_tri 1 ([121] : List UInt8) y9 e8) tr) tr) (a_ (a_ (a_ (item_Table_Install_ok y6.2 (A8.mk 97 0 0 0 0 0 0 0) y9 y11 e10 (sel [0, 1]) (sel_inj rfl rfl)) (a_ (LO.Le.refl (.var [.map 1])) (a_ (LO.Le.refl (.map true [.int .u8, .int .u8, .int .u8, .int .u8, .int .u8, .int .u8, .int .u8, .int .u8] (encM (fun z_ : A8 (Int) => LV.agg [.int .u8 z_.a0, .int .u8 z_.a1, .int .u8 z_.a2, .int .u8 z_.a3, .int .u8 z_.a4, .int .u8 z_.a5, .int .u8 z_.a6, .int .u8 z_.a7]) v_T_api_Item y6.2))) tr))) tr) (a_ (a_ tr tr) (a_ (a_ tr (a_ (leB c12) tr)) tr)))))))))))))))) (a_ (a_ (a_ tr tr) (a_ (a_ (a_ tr (le_ 8 8 rfl)) tr) (a_ (a_ (a_ (item_Table_Get_ok y11.2 (A8.mk 97 0 0 0 0 0 0 0) y14 e13 (sel [0, 1]) (sel_inj rfl rfl)) (a_ (LO.Le.refl (.var [.map 1])) (a_ (LO.Le.refl (.map true [.int .u8, .int .u8, .int .u8, .int .u8, .int .u8, .int .u8, .int .u8, .int .u8] (encM (fun z_ : A8 (Int) => LV.agg [.int .u8 z_.a0, .int .u8 z_.a1, .int .u8 z_.a2, .int .u8 z_.a3, .int .u8 z_.a4, .int .u8 z_.a5, .int .u8 z_.a6, .int .u8 z_.a7]) v_T_api_Item y11.2))) tr))) tr) (a_ (a_ tr tr) (a_ (a_ tr tr) (a_ (a_ tr tr) (a_ (a_ tr tr) (a_ (a_ (a_ (Eq.refl 13) (a_ (le_ 13 13 rfl) (Eq.refl 0))) tr) (a_ (a_ tr tr) tr))))))))) (a_ (a_ (a_ tr tr) (a_ (a_ tr (a_ (leB c15) tr)) (a_ (a_ (a_ tr (le_ 13 13 rfl)) tr) (a_ (a_ (a_ (parrellaw13_one_tri 2 ([120] : List UInt8) y17 e16) tr) tr) (a_ (a_ tr (a_ (leB (k_T_api_Item y14.1 y17)) tr)) (a_ (a_ tr tr) (a_ (a_ tr (a_ (leB c18) tr)) (a_ (a_ tr tr) (a_ (a_ (a_ (item_Table_Len_ok y11.2 y20 e19 (sel [0, 1]) (sel_inj rfl rfl)) (a_ (LO.Le.refl (.var [.map 1])) (a_ (LO.Le.refl (.map true [.int .u8, .int .u8, .int .u8, .int .u8, .int .u8, .int .u8, .int .u8, .int .u8] (encM (fun z_ : A8 (Int) => LV.agg [.int .u8 z_.a0, .int .u8 z_.a1, .int .u8 z_.a2, .int .u8 z_.a3, .int .u8 z_.a4, .int .u8 z_.a5, .int .u8 z_.a6, .int .u8 z_.a7]) v_T_api_Item y11.2))) tr))) tr) (a_ (a_ tr tr) (a_ (a_ tr tr) (a_ (a_ tr tr) tr)))))))))))) tr)))))) tr) (by kernel_rfl) rfl
        · skip
          obtain rfl := Option.some.inj h
          exact run_ret mixed (L := []) (n := 30) (s := [.reg [], .reg [(0, { call := some ((item_New_v y2).ren (sel [0, 1]), preOf (sel [0, 1]) 0 [], upOf (sel [0, 1]) (item_New_up  y2)) })], .reg [], .reg [(5, { call := some (parrellaw13_one_v y4, [], []) }), (6, { call := some ((item_Table_Install_v y6).ren (sel [0, 1]), preOf (sel [0, 1]) 0 (item_Table_Install_objs y2 (A8.mk 97 0 0 0 0 0 0 0) y4), upOf (sel [0, 1]) (item_Table_Install_up y2 (A8.mk 97 0 0 0 0 0 0 0) y4 y6)) }), (9, { v := some (.bool false) }), (12, { call := some (parrellaw13_one_v y9, [], []) }), (13, { call := some ((item_Table_Install_v y11).ren (sel [0, 1]), preOf (sel [0, 1]) 0 (item_Table_Install_objs y6.2 (A8.mk 97 0 0 0 0 0 0 0) y9), upOf (sel [0, 1]) (item_Table_Install_up y6.2 (A8.mk 97 0 0 0 0 0 0 0) y9 y11)) }), (15, { v := some (.bool false) })], .reg [(2, { call := some ((item_Table_Get_v y14).ren (sel [0, 1]), preOf (sel [0, 1]) 0 (item_Table_Get_objs y11.2 (A8.mk 97 0 0 0 0 0 0 0)), upOf (sel [0, 1]) (item_Table_Get_up y11.2 (A8.mk 97 0 0 0 0 0 0 0) y14)) })], .reg [(1, { v := some (.bool true) }), (3, { call := some (parrellaw13_one_v y17, [], []) }), (4, { v := some (.bool (decide (y14.1 = y17))) }), (6, { v := some (.bool false) })]])
            (a_ (a_ (a_ (a_ tr tr) tr) (a_ (a_ (a_ (a_ (item_New_ok  y2 e1 (sel [0, 1]) (sel_inj rfl rfl)) tr) tr) (a_ (a_ tr tr) tr)) (a_ (a_ (a_ (Eq.refl true) tr) (a_ (a_ tr tr) (a_ (a_ (a_ (Eq.refl 8) (a_ (le_ 8 8 rfl) (Eq.refl 0))) tr) tr))) (a_ (a_ (a_ tr tr) (a_ (a_ tr tr) (a_ (a_ tr tr) (a_ (a_ tr tr) (a_ (a_ (a_ tr (le_ 8 8 rfl)) tr) (a_ (a_ (a_ (parrellaw13_one_tri 2 ([120] : List UInt8) y4 e3) tr) tr) (a_ (a_ (a_ (item_Table_Install_ok y2 (A8.mk 97 0 0 0 0 0 0 0) y4 y6 e5 (sel [0, 1]) (sel_inj rfl rfl)) (a_ (LO.Le.refl (.var [.map 1])) (a_ (LO.Le.refl (.map true [.int .u8, .int .u8, .int .u8, .int .u8, .int .u8, .int .u8, .int .u8, .int .u8] (encM (fun z_ : A8 (Int) => LV.agg [.int .u8 z_.a0, .int .u8 z_.a1, .int .u8 z_.a2, .int .u8 z_.a3, .int .u8 z_.a4, .int .u8 z_.a5, .int .u8 z_.a6, .int .u8 z_.a7]) v_T_api_Item y2))) tr))) tr) (a_ (a_ tr tr) (a_ (a_ tr tr) (a_ (a_ tr (a_ (leB c7) tr)) (a_ (a_ tr tr) (a_ (a_ (a_ tr (le_ 8 8 rfl)) tr) (a_ (a_ (a_ (parrellaw13_one_tri 1 ([121] : List UInt8) y9 e8) tr) tr) (a_ (a_ (a_ (item_Table_Install_ok y6.2 (A8.mk 97 0 0 0 0 0 0 0) y9 y11 e10 (sel [0, 1]) (sel_inj rfl rfl)) (a_ (LO.Le.refl (.var [.map 1])) (a_ (LO.Le.refl (.map true [.int .u8, .int .u8, .int .u8, .int .u8, .int .u8, .int .u8, .int .u8, .int .u8] (encM (fun z_ : A8 (Int) => LV.agg [.int .u8 z_.a0, .int .u8 z_.a1, .int .u8 z_.a2, .int .u8 z_.a3, .int .u8 z_.a4, .int .u8 z_.a5, .int .u8 z_.a6, .int .u8 z_.a7]) v_T_api_Item y6.2))) tr))) tr) (a_ (a_ tr tr) (a_ (a_ tr (a_ (leB c12) tr)) tr)))))))))))))))) (a_ (a_ (a_ tr tr) (a_ (a_ (a_ tr (le_ 8 8 rfl)) tr) (a_ (a_ (a_ (item_Table_Get_ok y11.2 (A8.mk 97 0 0 0 0 0 0 0) y14 e13 (sel [0, 1]) (sel_inj rfl rfl)) (a_ (LO.Le.refl (.var [.map 1])) (a_ (LO.Le.refl (.map true [.int .u8, .int .u8, .int .u8, .int .u8, .int .u8, .int .u8, .int .u8, .int .u8] (encM (fun z_ : A8 (Int) => LV.agg [.int .u8 z_.a0, .int .u8 z_.a1, .int .u8 z_.a2, .int .u8 z_.a3, .int .u8 z_.a4, .int .u8 z_.a5, .int .u8 z_.a6, .int .u8 z_.a7]) v_T_api_Item y11.2))) tr))) tr) (a_ (a_ tr tr) (a_ (a_ tr tr) (a_ (a_ tr tr) (a_ (a_ tr tr) (a_ (a_ (a_ (Eq.refl 13) (a_ (le_ 13 13 rfl) (Eq.refl 0))) tr) (a_ (a_ tr tr) tr))))))))) (a_ (a_ (a_ tr tr) (a_ (a_ tr (a_ (leB c15) tr)) (a_ (a_ (a_ tr (le_ 13 13 rfl)) tr) (a_ (a_ (a_ (parrellaw13_one_tri 2 ([120] : List UInt8) y17 e16) tr) tr) (a_ (a_ tr (a_ (leB (k_T_api_Item y14.1 y17)) tr)) (a_ (a_ tr tr) (a_ (a_ tr (a_ (leB c18) tr)) (a_ tr (a_ tr (a_ tr (a_ (a_ tr tr) (a_ (a_ tr tr) tr)))))))))))) tr)))))) tr) (by kernel_rfl) rfl
      · skip
        obtain rfl := Option.some.inj h
        exact run_ret mixed (L := []) (n := 30) (s := [.reg [], .reg [(0, { call := some ((item_New_v y2).ren (sel [0, 1]), preOf (sel [0, 1]) 0 [], upOf (sel [0, 1]) (item_New_up  y2)) })], .reg [], .reg [(5, { call := some (parrellaw13_one_v y4, [], []) }), (6, { call := some ((item_Table_Install_v y6).ren (sel [0, 1]), preOf (sel [0, 1]) 0 (item_Table_Install_objs y2 (A8.mk 97 0 0 0 0 0 0 0) y4), upOf (sel [0, 1]) (item_Table_Install_up y2 (A8.mk 97 0 0 0 0 0 0 0) y4 y6)) }), (9, { v := some (.bool false) }), (12, { call := some (parrellaw13_one_v y9, [], []) }), (13, { call := some ((item_Table_Install_v y11).ren (sel [0, 1]), preOf (sel [0, 1]) 0 (item_Table_Install_objs y6.2 (A8.mk 97 0 0 0 0 0 0 0) y9), upOf (sel [0, 1]) (item_Table_Install_up y6.2 (A8.mk 97 0 0 0 0 0 0 0) y9 y11)) }), (15, { v := some (.bool false) })], .reg [(2, { call := some ((item_Table_Get_v y14).ren (sel [0, 1]), preOf (sel [0, 1]) 0 (item_Table_Get_objs y11.2 (A8.mk 97 0 0 0 0 0 0 0)), upOf (sel [0, 1]) (item_Table_Get_up y11.2 (A8.mk 97 0 0 0 0 0 0 0) y14)) })], .reg [(1, { v := some (.bool false) })]])
          (a_ (a_ (a_ (a_ tr tr) tr) (a_ (a_ (a_ (a_ (item_New_ok  y2 e1 (sel [0, 1]) (sel_inj rfl rfl)) tr) tr) (a_ (a_ tr tr) tr)) (a_ (a_ (a_ (Eq.refl true) tr) (a_ (a_ tr tr) (a_ (a_ (a_ (Eq.refl 8) (a_ (le_ 8 8 rfl) (Eq.refl 0))) tr) tr))) (a_ (a_ (a_ tr tr) (a_ (a_ tr tr) (a_ (a_ tr tr) (a_ (a_ tr tr) (a_ (a_ (a_ tr (le_ 8 8 rfl)) tr) (a_ (a_ (a_ (parrellaw13_one_tri 2 ([120] : List UInt8) y4 e3) tr) tr) (a_ (a_ (a_ (item_Table_Install_ok y2 (A8.mk 97 0 0 0 0 0 0 0) y4 y6 e5 (sel [0, 1]) (sel_inj rfl rfl)) (a_ (LO.Le.refl (.var [.map 1])) (a_ (LO.Le.refl (.map true [.int .u8, .int .u8, .int .u8, .int .u8, .int .u8, .int .u8, .int .u8, .int .u8] (encM (fun z_ : A8 (Int) => LV.agg [.int .u8 z_.a0, .int .u8 z_.a1, .int .u8 z_.a2, .int .u8 z_.a3, .int .u8 z_.a4, .int .u8 z_.a5, .int .u8 z_.a6, .int .u8 z_.a7]) v_T_api_Item y2))) tr))) tr) (a_ (a_ tr tr) (a_ (a_ tr tr) (a_ (a_ tr (a_ (leB c7) tr)) (a_ (a_ tr tr) (a_ (a_ (a_ tr (le_ 8 8 rfl)) tr) (a_ (a_ (a_ (parrellaw13_one_tri 1 ([121] : List UInt8) y9 e8) tr) tr) (a_ (a_ (a_ (item_Table_Install_ok y6.2 (A8.mk 97 0 0 0 0 0 0 0) y9 y11 e10 (sel [0, 1]) (sel_inj rfl rfl)) (a_ (LO.Le.refl (.var [.map 1])) (a_ (LO.Le.refl (.map true [.int .u8, .int .u8, .int .u8, .int .u8, .int .u8, .int .u8, .int .u8, .int .u8] (encM (fun z_ : A8 (Int) => LV.agg [.int .u8 z_.a0, .int .u8 z_.a1, .int .u8 z_.a2, .int .u8 z_.a3, .int .u8 z_.a4, .int .u8 z_.a5, .int .u8 z_.a6, .int .u8 z_.a7]) v_T_api_Item y6.2))) tr))) tr) (a_ (a_ tr tr) (a_ (a_ tr (a_ (leB c12) tr)) tr)))))))))))))))) (a_ (a_ (a_ tr tr) (a_ (a_ (a_ tr (le_ 8 8 rfl)) tr) (a_ (a_ (a_ (item_Table_Get_ok y11.2 (A8.mk 97 0 0 0 0 0 0 0) y14 e13 (sel [0, 1]) (sel_inj rfl rfl)) (a_ (LO.Le.refl (.var [.map 1])) (a_ (LO.Le.refl (.map true [.int .u8, .int .u8, .int .u8, .int .u8, .int .u8, .int .u8, .int .u8, .int .u8] (encM (fun z_ : A8 (Int) => LV.agg [.int .u8 z_.a0, .int .u8 z_.a1, .int .u8 z_.a2, .int .u8 z_.a3, .int .u8 z_.a4, .int .u8 z_.a5, .int .u8 z_.a6, .int .u8 z_.a7]) v_T_api_Item y11.2))) tr))) tr) (a_ (a_ tr tr) (a_ (a_ tr tr) (a_ (a_ tr tr) (a_ (a_ tr tr) (a_ (a_ (a_ (Eq.refl 13) (a_ (le_ 13 13 rfl) (Eq.refl 0))) tr) (a_ (a_ tr tr) tr))))))))) (a_ (a_ (a_ tr tr) (a_ (a_ tr (a_ (leB c15) tr)) (a_ tr (a_ tr (a_ tr (a_ (a_ tr tr) (a_ (a_ tr tr) (a_ tr (a_ tr (a_ tr (a_ (a_ tr tr) (a_ (a_ tr tr) tr)))))))))))) tr)))))) tr) (by kernel_rfl) rfl

theorem parrellaw13_alive_tri  (r : (Bool)) (h : parrellaw13_alive  = some r) : FnTri Tryd.prog 10 [] [] (parrellaw13_alive_v r) [] := FnTri.none (parrellaw13_alive_ok  r h) rfl rfl

/-- parrel/parrelref05.Name -/

def parrelref05_Name_v (r : (List UInt8) × (Bool)) : LV := .tup [.str r.1, .bool r.2]

def parrelref05_Name_T1 (x_k : A8 (Int)) (x_n : Int) (i : Int) : List LV := [.any, .ptr 0 0 0, .any, .any, .int .i64 x_n, .int .i64 i, .any, .any, .any, .any, .any, .any, .any, .any, .any, .any, .any, .any, .any, .any, .any, .any, .any, .any, .any, .any, .any, .any, .any, .any]

def parrelref05_Name_H1 (x_k : A8 (Int)) (x_n : Int) (i : Int) : Heap := [some (.var [.int .u8 x_k.a0, .int .u8 x_k.a1, .int .u8 x_k.a2, .int .u8 x_k.a3, .int .u8 x_k.a4, .int .u8 x_k.a5, .int .u8 x_k.a6, .int .u8 x_k.a7])]

def parrelref05_Name_T0 (x_k : A8 (Int)) (x_n : Int) : List LV := [.any, .ptr 0 0 0, .any, .any, .int .i64 x_n, .any, .any, .any, .any, .any, .any, .any, .any, .any, .any, .any, .any, .any, .any, .any, .any, .any, .any, .any, .any, .any, .any, .any, .any, .any]

def parrelref05_Name_H0 (x_k : A8 (Int)) (x_n : Int) : Heap := [some (.var [.int .u8 x_k.a0, .int .u8 x_k.a1, .int .u8 x_k.a2, .int .u8 x_k.a3, .int .u8 x_k.a4, .int .u8 x_k.a5, .int .u8 x_k.a6, .int .u8 x_k.a7])]

def parrelref05_Name_l1 (x_k : A8 (Int)) (x_n : Int)  : Nat → (Int) → Option ((List UInt8) × (Bool))
  | 0, _ => none
  | fuel + 1, i =>
    if ((decide (i < 8)) : Bool) then
      if 0 ≤ i ∧ i < 8 then
      if (((A8.get x_k i.toNat) != 0) : Bool) then
        some ([], false)
      else
        parrelref05_Name_l1 x_k x_n  fuel (IntKind.wrap .i64 (i + 1))
      else none
    else
      if ((x_n == 0) : Bool) then
        some ([], false)
      else
        if 0 ≤ (0 : Int) ∧ 0 ≤ x_n ∧ x_n ≤ 8 then
        some ((strI (([x_k.a0, x_k.a1, x_k.a2, x_k.a3, x_k.a4, x_k.a5, x_k.a6, x_k.a7] : List Int).take (x_n.toNat))), true)
        else none

def parrelref05_Name_l0 (x_k : A8 (Int))  : Nat → (Int) → Option ((List UInt8) × (Bool))
  | 0, _ => none
  | fuel + 1, x_n =>
    if ((decide (x_n < 8)) : Bool) then
      if 0 ≤ x_n ∧ x_n < 8 then
      if (((A8.get x_k x_n.toNat) != 0) : Bool) then
        parrelref05_Name_l0 x_k  fuel (IntKind.wrap .i64 (x_n + 1))
      else
        parrelref05_Name_l1 x_k x_n  big x_n
      else none
    else
      parrelref05_Name_l1 x_k x_n  big x_n

def parrelref05_Name (x_k : A8 (Int)) : Option ((List UInt8) × (Bool)) :=
  parrelref05_Name_l0 x_k  big 0

theorem parrelref05_Name_l1_ok {w0 : World} {W : Nat → Prop} {μ0 : Emb} (hμ : ∀ c p, μ0 c = some p → c < 0) (x_k : A8 (Int)) (x_n : Int)  : ∀ (fuel : Nat) (i : Int) (r : (List UInt8) × (Bool)), parrelref05_Name_l1 x_k x_n  fuel i = some r → kont Tryd.prog w0 W μ0 (FnPost Tryd.prog Tryd.f34 0 0 (parrelref05_Name_v r) []) (kAt (bodyOf Tryd.f34) 1) none (parrelref05_Name_T1 x_k x_n i) (parrelref05_Name_H1 x_k x_n i) := by
  intro fuel
  induction fuel with
  | zero => intro i r h; rw [parrelref05_Name_l1] at h; cases h
  | succ fuel ih =>
    intro i r h
    rw [parrelref05_Name_l1] at h
    rcases itb_some h with ⟨cL1_1, h⟩ | ⟨cL1_1, h⟩
    · skip
      obtain ⟨gL1_2, h⟩ := guard_some h
      rcases itb_some h with ⟨cL1_3, h⟩ | ⟨cL1_3, h⟩
      · skip
        obtain rfl := Option.some.inj h
        exact run_ret mixed (L := []) (n := 25) (s := [.go, .reg [(1, { v := some (.bool true) })], .reg [(2, { v := some (.int .u8 (A8.get x_k i.toNat)) }), (3, { v := some (.bool true) })], .reg []])
          (a_ (a_ (a_ (a_ tr tr) (a_ (a_ tr (a_ (leB cL1_1) tr)) tr)) (a_ (a_ (a_ tr tr) (a_ (a_ gL1_2 tr) (a_ (a_ (a_ tr (arrLt (len := 8) gL1_2 0 1 8 rfl rfl)) (a_ (ld8s (cInt .u8) 1 (fun _ => rfl) x_k [] [] 0 rfl i.toNat (lt8N gL1_2) (le_ (0 + 1) 1 rfl)) tr)) (a_ (a_ tr (a_ (leB cL1_3) tr)) tr)))) (a_ (a_ (a_ tr tr) (a_ (a_ tr tr) tr)) tr))) tr) (by kernel_rfl) rfl
      · skip
        exact run_to mixed hμ (L := [0]) (n := 26) (s := [.go, .reg [(1, { v := some (.bool true) })], .reg [(2, { v := some (.int .u8 (A8.get x_k i.toNat)) }), (3, { v := some (.bool false) })], .reg []])
          (a_ (a_ (a_ tr tr) (a_ (a_ tr (a_ (leB cL1_1) tr)) tr)) (a_ (a_ (a_ tr tr) (a_ (a_ gL1_2 tr) (a_ (a_ (a_ tr (arrLt (len := 8) gL1_2 0 1 8 rfl rfl)) (a_ (ld8s (cInt .u8) 1 (fun _ => rfl) x_k [] [] 0 rfl i.toNat (lt8N gL1_2) (le_ (0 + 1) 1 rfl)) tr)) (a_ (a_ tr (a_ (leB cL1_3) tr)) tr)))) (a_ (a_ (a_ tr tr) (a_ (a_ tr tr) (a_ (a_ tr tr) tr))) tr))) (ih _ r h) (by kernel_rfl) ⟨rfl, trivial⟩
    · skip
      rcases itb_some h with ⟨cL1_2, h⟩ | ⟨cL1_2, h⟩
      · skip
        obtain rfl := Option.some.inj h
        exact run_ret mixed (L := []) (n := 24) (s := [.go, .reg [(1, { v := some (.bool false) })], .reg [(1, { v := some (.bool true) })], .reg []])
          (a_ (a_ (a_ (a_ tr tr) (a_ (a_ tr (a_ (leB cL1_1) tr)) tr)) (a_ (a_ (a_ tr tr) (a_ (a_ tr (a_ (leB cL1_2) tr)) tr)) (a_ (a_ (a_ tr tr) (a_ (a_ tr tr) tr)) tr))) tr) (by kernel_rfl) rfl
      · skip
        obtain ⟨gL1_3, h⟩ := guard_some h
        obtain rfl := Option.some.inj h
        exact run_ret mixed (L := []) (n := 25) (s := [.go, .reg [(1, { v := some (.bool false) })], .reg [(1, { v := some (.bool false) })], .reg [(2, { v := some (.str (strI (([x_k.a0, x_k.a1, x_k.a2, x_k.a3, x_k.a4, x_k.a5, x_k.a6, x_k.a7] : List Int).take (x_n.toNat)))) })]])
          (a_ (a_ (a_ (a_ tr tr) (a_ (a_ tr (a_ (leB cL1_1) tr)) tr)) (a_ (a_ (a_ tr tr) (a_ (a_ tr (a_ (leB cL1_2) tr)) tr)) (a_ (a_ (a_ tr tr) (a_ (a_ gL1_3 tr) (a_ (a_ (arr_ob [x_k.a0, x_k.a1, x_k.a2, x_k.a3, x_k.a4, x_k.a5, x_k.a6, x_k.a7] (x_n.toNat) 8 (toN_le (n := 8) gL1_3.2.2) rfl) (a_ (le_arr [x_k.a0, x_k.a1, x_k.a2, x_k.a3, x_k.a4, x_k.a5, x_k.a6, x_k.a7] (x_n.toNat) 8 (toN_le (n := 8) gL1_3.2.2) rfl) tr)) (a_ (a_ tr tr) (a_ (a_ tr tr) tr))))) tr))) tr) (by kernel_rfl) rfl

theorem parrelref05_Name_l0_ok {w0 : World} {W : Nat → Prop} {μ0 : Emb} (hμ : ∀ c p, μ0 c = some p → c < 0) (x_k : A8 (Int))  : ∀ (fuel : Nat) (x_n : Int) (r : (List UInt8) × (Bool)), parrelref05_Name_l0 x_k  fuel x_n = some r → kont Tryd.prog w0 W μ0 (FnPost Tryd.prog Tryd.f34 0 0 (parrelref05_Name_v r) []) (kAt (bodyOf Tryd.f34) 0) none (parrelref05_Name_T0 x_k x_n) (parrelref05_Name_H0 x_k x_n) := by
  intro fuel
  induction fuel with
  | zero => intro x_n r h; rw [parrelref05_Name_l0] at h; cases h
  | succ fuel ih =>
    intro x_n r h
    rw [parrelref05_Name_l0] at h
    rcases itb_some h with ⟨cL0_1, h⟩ | ⟨cL0_1, h⟩
    · skip
      obtain ⟨gL0_2, h⟩ := guard_some h
      rcases itb_some h with ⟨cL0_3, h⟩ | ⟨cL0_3, h⟩
      · skip
        exact run_to mixed hμ (L := [0]) (n := 20) (s := [.go, .reg [(2, { v := some (.bool true) }), (5, { v := some (.int .u8 (A8.get x_k x_n.toNat)) }), (7, { v := some (.bool true) })], .reg []])
          (a_ (a_ (a_ tr tr) (a_ (a_ tr tr) (a_ (a_ tr (a_ (leB cL0_1) tr)) (a_ (a_ tr tr) (a_ (a_ gL0_2 tr) (a_ (a_ (a_ tr (arrLt (len := 8) gL0_2 0 1 8 rfl rfl)) (a_ (ld8s (cInt .u8) 1 (fun _ => rfl) x_k [] [] 0 rfl x_n.toNat (lt8N gL0_2) (le_ (0 + 1) 1 rfl)) tr)) (a_ (a_ tr tr) (a_ (a_ tr (a_ (leB cL0_3) tr)) tr)))))))) (a_ (a_ (a_ tr tr) (a_ (a_ tr tr) (a_ (a_ tr tr) tr))) tr)) (ih _ r h) (by kernel_rfl) ⟨rfl, trivial⟩
      · skip
        exact run_to mixed hμ (L := [0]) (n := 22) (s := [.go, .reg [(2, { v := some (.bool true) }), (5, { v := some (.int .u8 (A8.get x_k x_n.toNat)) }), (7, { v := some (.bool false) })], .reg []])
          (a_ (a_ (a_ tr tr) (a_ (a_ tr tr) (a_ (a_ tr (a_ (leB cL0_1) tr)) (a_ (a_ tr tr) (a_ (a_ gL0_2 tr) (a_ (a_ (a_ tr (arrLt (len := 8) gL0_2 0 1 8 rfl rfl)) (a_ (ld8s (cInt .u8) 1 (fun _ => rfl) x_k [] [] 0 rfl x_n.toNat (lt8N gL0_2) (le_ (0 + 1) 1 rfl)) tr)) (a_ (a_ tr tr) (a_ (a_ tr (a_ (leB cL0_3) tr)) tr)))))))) (a_ (a_ (a_ tr tr) (a_ (a_ tr tr) tr)) tr)) (parrelref05_Name_l1_ok hμ x_k x_n  big _ r h) (by kernel_rfl) ⟨rfl, trivial⟩
    · skip
      exact run_to mixed hμ (L := [0]) (n := 22) (s := [.go, .reg [(2, { v := some (.bool false) })], .reg []])
        (a_ (a_ (a_ tr tr) (a_ (a_ tr tr) (a_ (a_ tr (a_ (leB cL0_1) tr)) (a_ tr (a_ tr (a_ tr (a_ tr (a_ (a_ tr tr) tr)))))))) (a_ (a_ (a_ tr tr) (a_ (a_ tr tr) tr)) tr)) (parrelref05_Name_l1_ok hμ x_k x_n  big _ r h) (by kernel_rfl) ⟨rfl, trivial⟩

theorem parrelref05_Name_ok (x_k : A8 (Int)) (r : (List UInt8) × (Bool)) (h : parrelref05_Name x_k = some r) : ∀ σ, Inj 0 σ → FnTri Tryd.prog 34 (renL σ [.agg [.int .u8 x_k.a0, .int .u8 x_k.a1, .int .u8 x_k.a2, .int .u8 x_k.a3, .int .u8 x_k.a4, .int .u8 x_k.a5, .int .u8 x_k.a6, .int .u8 x_k.a7]]) (preOf σ 0 []) ((parrelref05_Name_v r).ren σ) (upOf σ []) := by
  refine fn_of Tryd.func34 (by kernel_rfl) (by kernel_rfl) (by kernel_rfl) trivial (by kernel_rfl) trivial (by kernel_rfl) ?_
  intro w0 W μ0 hμ
  unfold parrelref05_Name at h
  exact run_to mixed hμ (L := [0]) (n := 18) (s := [.reg [], .reg []])
    (a_ (a_ (a_ tr tr) (a_ (a_ tr tr) (a_ (a_ tr tr) tr))) (a_ (a_ (a_ tr tr) tr) tr)) (parrelref05_Name_l0_ok hμ x_k  big _ r h) (by kernel_rfl) ⟨rfl, trivial⟩

theorem parrelref05_Name_tri (x_k : A8 (Int)) (r : (List UInt8) × (Bool)) (h : parrelref05_Name x_k = some r) : FnTri Tryd.prog 34 [.agg [.int .u8 x_k.a0, .int .u8 x_k.a1, .int .u8 x_k.a2, .int .u8 x_k.a3, .int .u8 x_k.a4, .int .u8 x_k.a5, .int .u8 x_k.a6, .int .u8 x_k.a7]] [] (parrelref05_Name_v r) [] := FnTri.none (parrelref05_Name_ok x_k r h) rfl rfl

/-- parrel/parrelref10.KeyMay -/

def parrelref10_KeyMay_v (r : (Bool)) : LV := .bool r

def parrelref10_KeyMay (x_k : A8 (Int)) : Option ((Bool)) :=
  (parrelref05_Name x_k).bind fun y2 =>
  some y2.2

theorem parrelref10_KeyMay_ok (x_k : A8 (Int)) (r : (Bool)) (h : parrelref10_KeyMay x_k = some r) : ∀ σ, Inj 0 σ → FnTri Tryd.prog 26 (renL σ [.agg [.int .u8 x_k.a0, .int .u8 x_k.a1, .int .u8 x_k.a2, .int .u8 x_k.a3, .int .u8 x_k.a4, .int .u8 x_k.a5, .int .u8 x_k.a6, .int .u8 x_k.a7]]) (preOf σ 0 []) ((parrelref10_KeyMay_v r).ren σ) (upOf σ []) := by
  refine fn_of Tryd.func26 (by kernel_rfl) (by kernel_rfl) (by kernel_rfl) trivial (by kernel_rfl) trivial (by kernel_rfl) ?_
  intro w0 W μ0 hμ
  unfold parrelref10_KeyMay at h
  obtain ⟨y2, e1, h⟩ := bind_some h
  obtain rfl := Option.some.inj h
  exact run_ret mixed (L := []) (n := 18) (s := [.reg [], .reg [(1, { call := some (parrelref05_Name_v y2, [], []) })], .reg []])
    (a_ (a_ (a_ (a_ tr tr) (a_ (a_ tr tr) tr)) (a_ (a_ (a_ (a_ tr (le_ 8 8 rfl)) tr) (a_ (a_ (a_ (parrelref05_Name_tri x_k y2 e1) tr) tr) (a_ (a_ tr tr) (a_ (a_ tr tr) (a_ (a_ tr tr) (a_ (a_ tr tr) (a_ (a_ tr tr) tr))))))) (a_ (a_ (a_ tr tr) (a_ (a_ tr tr) tr)) tr))) tr) (by kernel_rfl) rfl

theorem parrelref10_KeyMay_tri (x_k : A8 (Int)) (r : (Bool)) (h : parrelref10_KeyMay x_k = some r) : FnTri Tryd.prog 26 [.agg [.int .u8 x_k.a0, .int .u8 x_k.a1, .int .u8 x_k.a2, .int .u8 x_k.a3, .int .u8 x_k.a4, .int .u8 x_k.a5, .int .u8 x_k.a6, .int .u8 x_k.a7]] [] (parrelref10_KeyMay_v r) [] := FnTri.none (parrelref10_KeyMay_ok x_k r h) rfl rfl

/-- parrel/parrelref06.Total -/

def parrelref06_Total_v (r : (Int)) : LV := .int .i64 r

def parrelref06_Total_T0 (c : T_api_Config) (x_n : Int) (i : Int) : List LV := [.any, .ptr 0 0 0, .any, .int .i64 x_n, .int .i64 i, .any, .any, .any, .any, .any, .any, .any, .any, .any, .any, .any, .any]

def parrelref06_Total_H0 (c : T_api_Config) (x_n : Int) (i : Int) : Heap := [some (.var (c_T_api_Config c))]

def parrelref06_Total_l0 (c : T_api_Config)  : Nat → (Int) → (Int) → Option ((Int))
  | 0, _, _ => none
  | fuel + 1, x_n, i =>
    if ((decide (i < 8)) : Bool) then
      if 0 ≤ i ∧ i < 8 then
      parrelref06_Total_l0 c  fuel (IntKind.wrap .i64 (x_n + (IntKind.wrap .i64 (A8.get c.f_Votes i.toNat)))) (IntKind.wrap .i64 (i + 1))
      else none
    else
      some x_n

def parrelref06_Total (c : T_api_Config) : Option ((Int)) :=
  parrelref06_Total_l0 c  big 0 0

theorem parrelref06_Total_l0_ok {w0 : World} {W : Nat → Prop} {μ0 : Emb} (hμ : ∀ c p, μ0 c = some p → c < 0) (c : T_api_Config)  : ∀ (fuel : Nat) (x_n : Int) (i : Int) (r : (Int)), parrelref06_Total_l0 c  fuel x_n i = some r → kont Tryd.prog w0 W μ0 (FnPost Tryd.prog Tryd.f44 0 0 (parrelref06_Total_v r) []) (kAt (bodyOf Tryd.f44) 0) none (parrelref06_Total_T0 c x_n i) (parrelref06_Total_H0 c x_n i) := by
  intro fuel
  induction fuel with
  | zero => intro x_n i r h; rw [parrelref06_Total_l0] at h; cases h
  | succ fuel ih =>
    intro x_n i r h
    rw [parrelref06_Total_l0] at h
    rcases itb_some h with ⟨cL0_1, h⟩ | ⟨cL0_1, h⟩
    · skip
      obtain ⟨gL0_2, h⟩ := guard_some h
      exact run_to mixed hμ (L := [0]) (n := 23) (s := [.go, .reg [(1, { v := some (.bool true) })], .reg [(4, { v := some (.int .u8 (A8.get c.f_Votes i.toNat)) })], .reg []])
        (a_ (a_ (a_ tr tr) (a_ (a_ tr (a_ (leB cL0_1) tr)) tr)) (a_ (a_ (a_ tr tr) (a_ (a_ tr tr) (a_ (a_ tr tr) (a_ (a_ gL0_2 tr) (a_ (a_ (a_ tr (arrLt (len := 8) gL0_2 3 1 11 rfl rfl)) (a_ (ld8s (cInt .u8) 1 (fun _ => rfl) c.f_Votes [.int .u32 c.f_Epoch, .int .u8 c.f_R, .int .u8 c.f_W] [] 3 rfl i.toNat (lt8N gL0_2) (le_ (0 + 1) 1 rfl)) tr)) (a_ (a_ tr tr) (a_ (a_ tr tr) (a_ (a_ tr tr) tr)))))))) (a_ (a_ (a_ tr tr) (a_ (a_ tr tr) (a_ (a_ tr tr) tr))) tr))) (ih _ _ r h) (by kernel_rfl) ⟨rfl, trivial⟩
    · skip
      obtain rfl := Option.some.inj h
      exact run_ret mixed (L := []) (n := 19) (s := [.go, .reg [(1, { v := some (.bool false) })], .reg []])
        (a_ (a_ (a_ (a_ tr tr) (a_ (a_ tr (a_ (leB cL0_1) tr)) tr)) (a_ (a_ (a_ tr tr) (a_ (a_ tr tr) tr)) tr)) tr) (by kernel_rfl) rfl

theorem parrelref06_Total_ok (c : T_api_Config) (r : (Int)) (h : parrelref06_Total c = some r) : ∀ σ, Inj 0 σ → FnTri Tryd.prog 44 (renL σ [v_T_api_Config c]) (preOf σ 0 []) ((parrelref06_Total_v r).ren σ) (upOf σ []) := by
  refine fn_of Tryd.func44 (by kernel_rfl) (by kernel_rfl) (by kernel_rfl) trivial (by kernel_rfl) trivial (by kernel_rfl) ?_
  intro w0 W μ0 hμ
  unfold parrelref06_Total at h
  exact run_to mixed hμ (L := [0]) (n := 21) (s := [.reg [], .reg [], .reg []])
    (a_ (a_ (a_ tr tr) (a_ (a_ tr tr) tr)) (a_ (a_ (a_ tr tr) tr) (a_ (a_ (a_ tr tr) tr) tr))) (parrelref06_Total_l0_ok hμ c  big _ _ r h) (by kernel_rfl) ⟨rfl, trivial⟩

theorem parrelref06_Total_tri (c : T_api_Config) (r : (Int)) (h : parrelref06_Total c = some r) : FnTri Tryd.prog 44 [v_T_api_Config c] [] (parrelref06_Total_v r) [] := FnTri.none (parrelref06_Total_ok c r h) rfl rfl

/-- parrel/parrelref06.May -/

def parrelref06_May_v (r : (Bool)) : LV := .bool r

def parrelref06_May_T0 (c : T_api_Config) (y2 : (Int)) (i : Int) : List LV := [.any, .ptr 0 0 0, .any, .int .i64 y2, .int .i64 (IntKind.wrap .i64 c.f_R), .int .i64 (IntKind.wrap .i64 c.f_W), .int .i64 i, .any, .any, .any, .any, .any, .any, .any, .any, .any, .any, .any, .any, .any, .any, .any, .any, .any, .any, .any, .any, .any, .any, .any, .any, .any, .any, .any, .any, .any, .any, .any, .any, .any, .any, .any, .any, .any, .any, .any, .any, .any, .any, .any, .any, .any, .any, .any, .any, .any, .any, .any, .any, .any, .any, .any, .any]

def parrelref06_May_H0 (c : T_api_Config) (y2 : (Int)) (i : Int) : Heap := [some (.var (c_T_api_Config c))]

def parrelref06_May_l0 (c : T_api_Config) (y2 : (Int))  : Nat → (Int) → Option ((Bool))
  | 0, _ => none
  | fuel + 1, i =>
    if ((decide (i < 8)) : Bool) then
      if 0 ≤ i ∧ i < 8 then
      if ((decide (15 < (A8.get c.f_Votes i.toNat))) : Bool) then
        some false
      else
        parrelref06_May_l0 c y2  fuel (IntKind.wrap .i64 (i + 1))
      else none
    else
      if ((decide (1 ≤ c.f_Epoch)) : Bool) then
        if ((decide (c.f_Epoch ≤ 2147483647)) : Bool) then
          if ((decide (1 ≤ (IntKind.wrap .i64 c.f_R))) : Bool) then
            if ((decide (1 ≤ (IntKind.wrap .i64 c.f_W))) : Bool) then
              if ((decide ((IntKind.wrap .i64 c.f_R) ≤ y2)) : Bool) then
                if ((decide ((IntKind.wrap .i64 c.f_W) ≤ y2)) : Bool) then
                  if ((decide (y2 < (IntKind.wrap .i64 ((IntKind.wrap .i64 c.f_R) + (IntKind.wrap .i64 c.f_W))))) : Bool) then
                    some (decide (y2 < (IntKind.wrap .i64 (2 * (IntKind.wrap .i64 c.f_W)))))
                  else
                    some false
                else
                  some false
              else
                some false
            else
              some false
          else
            some false
        else
          some false
      else
        some false

def parrelref06_May (c : T_api_Config) : Option ((Bool)) :=
  (parrelref06_Total c).bind fun y2 =>
  parrelref06_May_l0 c y2  big 0

theorem parrelref06_May_l0_ok {w0 : World} {W : Nat → Prop} {μ0 : Emb} (hμ : ∀ c p, μ0 c = some p → c < 0) (c : T_api_Config) (y2 : (Int))  : ∀ (fuel : Nat) (i : Int) (r : (Bool)), parrelref06_May_l0 c y2  fuel i = some r → kont Tryd.prog w0 W μ0 (FnPost Tryd.prog Tryd.f35 0 0 (parrelref06_May_v r) []) (kAt (bodyOf Tryd.f35) 0) none (parrelref06_May_T0 c y2 i) (parrelref06_May_H0 c y2 i) := by
  intro fuel
  induction fuel with
  | zero => intro i r h; rw [parrelref06_May_l0] at h; cases h
  | succ fuel ih =>
    intro i r h
    rw [parrelref06_May_l0] at h
    rcases itb_some h with ⟨cL0_1, h⟩ | ⟨cL0_1, h⟩
    · skip
      obtain ⟨gL0_2, h⟩ := guard_some h
      rcases itb_some h with ⟨cL0_3, h⟩ | ⟨cL0_3, h⟩
      · skip
        obtain rfl := Option.some.inj h
        exact run_ret mixed (L := []) (n := 25) (s := [.go, .reg [(1, { v := some (.bool true) })], .reg [(3, { v := some (.int .u8 (A8.get c.f_Votes i.toNat)) }), (4, { v := some (.bool true) })], .reg []])
          (a_ (a_ (a_ (a_ tr tr) (a_ (a_ tr (a_ (leB cL0_1) tr)) tr)) (a_ (a_ (a_ tr tr) (a_ (a_ tr tr) (a_ (a_ gL0_2 tr) (a_ (a_ (a_ tr (arrLt (len := 8) gL0_2 3 1 11 rfl rfl)) (a_ (ld8s (cInt .u8) 1 (fun _ => rfl) c.f_Votes [.int .u32 c.f_Epoch, .int .u8 c.f_R, .int .u8 c.f_W] [] 3 rfl i.toNat (lt8N gL0_2) (le_ (0 + 1) 1 rfl)) tr)) (a_ (a_ tr (a_ (leB cL0_3) tr)) tr))))) (a_ (a_ (a_ tr tr) tr) tr))) tr) (by kernel_rfl) rfl
      · skip
        exact run_to mixed hμ (L := [0]) (n := 26) (s := [.go, .reg [(1, { v := some (.bool true) })], .reg [(3, { v := some (.int .u8 (A8.get c.f_Votes i.toNat)) }), (4, { v := some (.bool false) })], .reg []])
          (a_ (a_ (a_ tr tr) (a_ (a_ tr (a_ (leB cL0_1) tr)) tr)) (a_ (a_ (a_ tr tr) (a_ (a_ tr tr) (a_ (a_ gL0_2 tr) (a_ (a_ (a_ tr (arrLt (len := 8) gL0_2 3 1 11 rfl rfl)) (a_ (ld8s (cInt .u8) 1 (fun _ => rfl) c.f_Votes [.int .u32 c.f_Epoch, .int .u8 c.f_R, .int .u8 c.f_W] [] 3 rfl i.toNat (lt8N gL0_2) (le_ (0 + 1) 1 rfl)) tr)) (a_ (a_ tr (a_ (leB cL0_3) tr)) tr))))) (a_ (a_ (a_ tr tr) (a_ (a_ tr tr) (a_ (a_ tr tr) tr))) tr))) (ih _ r h) (by kernel_rfl) ⟨rfl, trivial⟩
    · skip
      rcases itb_some h with ⟨cL0_2, h⟩ | ⟨cL0_2, h⟩
      · skip
        rcases itb_some h with ⟨cL0_3, h⟩ | ⟨cL0_3, h⟩
        · skip
          rcases itb_some h with ⟨cL0_4, h⟩ | ⟨cL0_4, h⟩
          · skip
            rcases itb_some h with ⟨cL0_5, h⟩ | ⟨cL0_5, h⟩
            · skip
              rcases itb_some h with ⟨cL0_6, h⟩ | ⟨cL0_6, h⟩
              · skip
                rcases itb_some h with ⟨cL0_7, h⟩ | ⟨cL0_7, h⟩
                · skip
                  rcases itb_some h with ⟨cL0_8, h⟩ | ⟨cL0_8, h⟩
                  · skip
                    obtain rfl := Option.some.inj h
                    exact run_ret mixed (L := []) (n := 19) (s := [.go, .reg [(1, { v := some (.bool false) })], .reg [(3, { v := some (.bool true) }), (8, { v := some (.bool true) }), (12, { v := some (.bool true) }), (16, { v := some (.bool true) }), (21, { v := some (.bool true) }), (26, { v := some (.bool true) }), (33, { v := some (.bool true) })]])
                      (a_ (a_ (a_ (a_ tr tr) (a_ (a_ tr (a_ (leB cL0_1) tr)) tr)) (a_ (a_ (a_ tr tr) (a_ (a_ (a_ tr (lt_ 0 11 rfl)) tr) (a_ (a_ tr tr) (a_ (a_ tr (a_ (leB cL0_2) tr)) (a_ (a_ tr tr) (a_ (a_ (a_ tr (lt_ 0 11 rfl)) tr) (a_ (a_ tr tr) (a_ (a_ tr tr) (a_ (a_ tr (a_ (leB cL0_3) tr)) (a_ (a_ tr tr) (a_ (a_ tr tr) (a_ (a_ tr tr) (a_ (a_ tr (a_ (leB cL0_4) tr)) (a_ (a_ tr tr) (a_ (a_ tr tr) (a_ (a_ tr tr) (a_ (a_ tr (a_ (leB cL0_5) tr)) (a_ (a_ tr tr) (a_ (a_ tr tr) (a_ (a_ tr tr) (a_ (a_ tr tr) (a_ (a_ tr (a_ (leB cL0_6) tr)) (a_ (a_ tr tr) (a_ (a_ tr tr) (a_ (a_ tr tr) (a_ (a_ tr tr) (a_ (a_ tr (a_ (leB cL0_7) tr)) (a_ (a_ tr tr) (a_ (a_ tr tr) (a_ (a_ tr tr) (a_ (a_ tr tr) (a_ (a_ tr tr) (a_ (a_ tr tr) (a_ (a_ tr (a_ (leB cL0_8) tr)) (a_ (a_ tr tr) (a_ (a_ tr tr) (a_ (a_ tr tr) (a_ (a_ tr tr) (a_ (a_ tr tr) (a_ (a_ tr tr) tr)))))))))))))))))))))))))))))))))))))))) tr)) tr) (by kernel_rfl) rfl
                  · skip
                    obtain rfl := Option.some.inj h
                    exact run_ret mixed (L := []) (n := 19) (s := [.go, .reg [(1, { v := some (.bool false) })], .reg [(3, { v := some (.bool true) }), (8, { v := some (.bool true) }), (12, { v := some (.bool true) }), (16, { v := some (.bool true) }), (21, { v := some (.bool true) }), (26, { v := some (.bool true) }), (33, { v := some (.bool false) })]])
                      (a_ (a_ (a_ (a_ tr tr) (a_ (a_ tr (a_ (leB cL0_1) tr)) tr)) (a_ (a_ (a_ tr tr) (a_ (a_ (a_ tr (lt_ 0 11 rfl)) tr) (a_ (a_ tr tr) (a_ (a_ tr (a_ (leB cL0_2) tr)) (a_ (a_ tr tr) (a_ (a_ (a_ tr (lt_ 0 11 rfl)) tr) (a_ (a_ tr tr) (a_ (a_ tr tr) (a_ (a_ tr (a_ (leB cL0_3) tr)) (a_ (a_ tr tr) (a_ (a_ tr tr) (a_ (a_ tr tr) (a_ (a_ tr (a_ (leB cL0_4) tr)) (a_ (a_ tr tr) (a_ (a_ tr tr) (a_ (a_ tr tr) (a_ (a_ tr (a_ (leB cL0_5) tr)) (a_ (a_ tr tr) (a_ (a_ tr tr) (a_ (a_ tr tr) (a_ (a_ tr tr) (a_ (a_ tr (a_ (leB cL0_6) tr)) (a_ (a_ tr tr) (a_ (a_ tr tr) (a_ (a_ tr tr) (a_ (a_ tr tr) (a_ (a_ tr (a_ (leB cL0_7) tr)) (a_ (a_ tr tr) (a_ (a_ tr tr) (a_ (a_ tr tr) (a_ (a_ tr tr) (a_ (a_ tr tr) (a_ (a_ tr tr) (a_ (a_ tr (a_ (leB cL0_8) tr)) (a_ tr (a_ tr (a_ tr (a_ tr (a_ (a_ tr tr) (a_ (a_ tr tr) tr)))))))))))))))))))))))))))))))))))))))) tr)) tr) (by kernel_rfl) rfl
                · skip
                  obtain rfl := Option.some.inj h
                  exact run_ret mixed (L := []) (n := 19) (s := [.go, .reg [(1, { v := some (.bool false) })], .reg [(3, { v := some (.bool true) }), (8, { v := some (.bool true) }), (12, { v := some (.bool true) }), (16, { v := some (.bool true) }), (21, { v := some (.bool true) }), (26, { v := some (.bool false) })]])
                    (a_ (a_ (a_ (a_ tr tr) (a_ (a_ tr (a_ (leB cL0_1) tr)) tr)) (a_ (a_ (a_ tr tr) (a_ (a_ (a_ tr (lt_ 0 11 rfl)) tr) (a_ (a_ tr tr) (a_ (a_ tr (a_ (leB cL0_2) tr)) (a_ (a_ tr tr) (a_ (a_ (a_ tr (lt_ 0 11 rfl)) tr) (a_ (a_ tr tr) (a_ (a_ tr tr) (a_ (a_ tr (a_ (leB cL0_3) tr)) (a_ (a_ tr tr) (a_ (a_ tr tr) (a_ (a_ tr tr) (a_ (a_ tr (a_ (leB cL0_4) tr)) (a_ (a_ tr tr) (a_ (a_ tr tr) (a_ (a_ tr tr) (a_ (a_ tr (a_ (leB cL0_5) tr)) (a_ (a_ tr tr) (a_ (a_ tr tr) (a_ (a_ tr tr) (a_ (a_ tr tr) (a_ (a_ tr (a_ (leB cL0_6) tr)) (a_ (a_ tr tr) (a_ (a_ tr tr) (a_ (a_ tr tr) (a_ (a_ tr tr) (a_ (a_ tr (a_ (leB cL0_7) tr)) (a_ tr (a_ tr (a_ tr (a_ tr (a_ tr (a_ (a_ tr tr) (a_ (a_ tr tr) (a_ tr (a_ tr (a_ tr (a_ tr (a_ (a_ tr tr) (a_ (a_ tr tr) tr)))))))))))))))))))))))))))))))))))))))) tr)) tr) (by kernel_rfl) rfl
              · skip
                obtain rfl := Option.some.inj h
                exact run_ret mixed (L := []) (n := 19) (s := [.go, .reg [(1, { v := some (.bool false) })], .reg [(3, { v := some (.bool true) }), (8, { v := some (.bool true) }), (12, { v := some (.bool true) }), (16, { v := some (.bool true) }), (21, { v := some (.bool false) })]])
                  (a_ (a_ (a_ (a_ tr tr) (a_ (a_ tr (a_ (leB cL0_1) tr)) tr)) (a_ (a_ (a_ tr tr) (a_ (a_ (a_ tr (lt_ 0 11 rfl)) tr) (a_ (a_ tr tr) (a_ (a_ tr (a_ (leB cL0_2) tr)) (a_ (a_ tr tr) (a_ (a_ (a_ tr (lt_ 0 11 rfl)) tr) (a_ (a_ tr tr) (a_ (a_ tr tr) (a_ (a_ tr (a_ (leB cL0_3) tr)) (a_ (a_ tr tr) (a_ (a_ tr tr) (a_ (a_ tr tr) (a_ (a_ tr (a_ (leB cL0_4) tr)) (a_ (a_ tr tr) (a_ (a_ tr tr) (a_ (a_ tr tr) (a_ (a_ tr (a_ (leB cL0_5) tr)) (a_ (a_ tr tr) (a_ (a_ tr tr) (a_ (a_ tr tr) (a_ (a_ tr tr) (a_ (a_ tr (a_ (leB cL0_6) tr)) (a_ tr (a_ tr (a_ tr (a_ (a_ tr tr) (a_ (a_ tr tr) (a_ tr (a_ tr (a_ tr (a_ tr (a_ tr (a_ (a_ tr tr) (a_ (a_ tr tr) (a_ tr (a_ tr (a_ tr (a_ tr (a_ (a_ tr tr) (a_ (a_ tr tr) tr)))))))))))))))))))))))))))))))))))))))) tr)) tr) (by kernel_rfl) rfl
            · skip
              obtain rfl := Option.some.inj h
              exact run_ret mixed (L := []) (n := 19) (s := [.go, .reg [(1, { v := some (.bool false) })], .reg [(3, { v := some (.bool true) }), (8, { v := some (.bool true) }), (12, { v := some (.bool true) }), (16, { v := some (.bool false) })]])
                (a_ (a_ (a_ (a_ tr tr) (a_ (a_ tr (a_ (leB cL0_1) tr)) tr)) (a_ (a_ (a_ tr tr) (a_ (a_ (a_ tr (lt_ 0 11 rfl)) tr) (a_ (a_ tr tr) (a_ (a_ tr (a_ (leB cL0_2) tr)) (a_ (a_ tr tr) (a_ (a_ (a_ tr (lt_ 0 11 rfl)) tr) (a_ (a_ tr tr) (a_ (a_ tr tr) (a_ (a_ tr (a_ (leB cL0_3) tr)) (a_ (a_ tr tr) (a_ (a_ tr tr) (a_ (a_ tr tr) (a_ (a_ tr (a_ (leB cL0_4) tr)) (a_ (a_ tr tr) (a_ (a_ tr tr) (a_ (a_ tr tr) (a_ (a_ tr (a_ (leB cL0_5) tr)) (a_ tr (a_ tr (a_ tr (a_ (a_ tr tr) (a_ (a_ tr tr) (a_ tr (a_ tr (a_ tr (a_ (a_ tr tr) (a_ (a_ tr tr) (a_ tr (a_ tr (a_ tr (a_ tr (a_ tr (a_ (a_ tr tr) (a_ (a_ tr tr) (a_ tr (a_ tr (a_ tr (a_ tr (a_ (a_ tr tr) (a_ (a_ tr tr) tr)))))))))))))))))))))))))))))))))))))))) tr)) tr) (by kernel_rfl) rfl
          · skip
            obtain rfl := Option.some.inj h
            exact run_ret mixed (L := []) (n := 19) (s := [.go, .reg [(1, { v := some (.bool false) })], .reg [(3, { v := some (.bool true) }), (8, { v := some (.bool true) }), (12, { v := some (.bool false) })]])
              (a_ (a_ (a_ (a_ tr tr) (a_ (a_ tr (a_ (leB cL0_1) tr)) tr)) (a_ (a_ (a_ tr tr) (a_ (a_ (a_ tr (lt_ 0 11 rfl)) tr) (a_ (a_ tr tr) (a_ (a_ tr (a_ (leB cL0_2) tr)) (a_ (a_ tr tr) (a_ (a_ (a_ tr (lt_ 0 11 rfl)) tr) (a_ (a_ tr tr) (a_ (a_ tr tr) (a_ (a_ tr (a_ (leB cL0_3) tr)) (a_ (a_ tr tr) (a_ (a_ tr tr) (a_ (a_ tr tr) (a_ (a_ tr (a_ (leB cL0_4) tr)) (a_ tr (a_ tr (a_ (a_ tr tr) (a_ (a_ tr tr) (a_ tr (a_ tr (a_ tr (a_ (a_ tr tr) (a_ (a_ tr tr) (a_ tr (a_ tr (a_ tr (a_ (a_ tr tr) (a_ (a_ tr tr) (a_ tr (a_ tr (a_ tr (a_ tr (a_ tr (a_ (a_ tr tr) (a_ (a_ tr tr) (a_ tr (a_ tr (a_ tr (a_ tr (a_ (a_ tr tr) (a_ (a_ tr tr) tr)))))))))))))))))))))))))))))))))))))))) tr)) tr) (by kernel_rfl) rfl
        · skip
          obtain rfl := Option.some.inj h
          exact run_ret mixed (L := []) (n := 19) (s := [.go, .reg [(1, { v := some (.bool false) })], .reg [(3, { v := some (.bool true) }), (8, { v := some (.bool false) })]])
            (a_ (a_ (a_ (a_ tr tr) (a_ (a_ tr (a_ (leB cL0_1) tr)) tr)) (a_ (a_ (a_ tr tr) (a_ (a_ (a_ tr (lt_ 0 11 rfl)) tr) (a_ (a_ tr tr) (a_ (a_ tr (a_ (leB cL0_2) tr)) (a_ (a_ tr tr) (a_ (a_ (a_ tr (lt_ 0 11 rfl)) tr) (a_ (a_ tr tr) (a_ (a_ tr tr) (a_ (a_ tr (a_ (leB cL0_3) tr)) (a_ tr (a_ tr (a_ (a_ tr tr) (a_ (a_ tr tr) (a_ tr (a_ tr (a_ (a_ tr tr) (a_ (a_ tr tr) (a_ tr (a_ tr (a_ tr (a_ (a_ tr tr) (a_ (a_ tr tr) (a_ tr (a_ tr (a_ tr (a_ (a_ tr tr) (a_ (a_ tr tr) (a_ tr (a_ tr (a_ tr (a_ tr (a_ tr (a_ (a_ tr tr) (a_ (a_ tr tr) (a_ tr (a_ tr (a_ tr (a_ tr (a_ (a_ tr tr) (a_ (a_ tr tr) tr)))))))))))))))))))))))))))))))))))))))) tr)) tr) (by kernel_rfl) rfl
      · skip
        obtain rfl := Option.some.inj h
        exact run_ret mixed (L := []) (n := 19) (s := [.go, .reg [(1, { v := some (.bool false) })], .reg [(3, { v := some (.bool false) })]])
          (a_ (a_ (a_ (a_ tr tr) (a_ (a_ tr (a_ (leB cL0_1) tr)) tr)) (a_ (a_ (a_ tr tr) (a_ (a_ (a_ tr (lt_ 0 11 rfl)) tr) (a_ (a_ tr tr) (a_ (a_ tr (a_ (leB cL0_2) tr)) (a_ tr (a_ tr (a_ tr (a_ (a_ tr tr) (a_ (a_ tr tr) (a_ tr (a_ tr (a_ (a_ tr tr) (a_ (a_ tr tr) (a_ tr (a_ tr (a_ (a_ tr tr) (a_ (a_ tr tr) (a_ tr (a_ tr (a_ tr (a_ (a_ tr tr) (a_ (a_ tr tr) (a_ tr (a_ tr (a_ tr (a_ (a_ tr tr) (a_ (a_ tr tr) (a_ tr (a_ tr (a_ tr (a_ tr (a_ tr (a_ (a_ tr tr) (a_ (a_ tr tr) (a_ tr (a_ tr (a_ tr (a_ tr (a_ (a_ tr tr) (a_ (a_ tr tr) tr)))))))))))))))))))))))))))))))))))))))) tr)) tr) (by kernel_rfl) rfl

theorem parrelref06_May_ok (c : T_api_Config) (r : (Bool)) (h : parrelref06_May c = some r) : ∀ σ, Inj 0 σ → FnTri Tryd.prog 35 (renL σ [v_T_api_Config c]) (preOf σ 0 []) ((parrelref06_May_v r).ren σ) (upOf σ []) := by
  refine fn_of Tryd.func35 (by kernel_rfl) (by kernel_rfl) (by kernel_rfl) trivial (by kernel_rfl) trivial (by kernel_rfl) ?_
  intro w0 W μ0 hμ
  unfold parrelref06_May at h
  obtain ⟨y2, e1, h⟩ := bind_some h
  exact run_to mixed hμ (L := [0]) (n := 21) (s := [.reg [], .reg [(1, { call := some (parrelref06_Total_v y2, [], []) })], .reg []])
    (a_ (a_ (a_ tr tr) (a_ (a_ tr tr) tr)) (a_ (a_ (a_ (a_ tr (le_ 11 11 rfl)) tr) (a_ (a_ (a_ (parrelref06_Total_tri c y2 e1) tr) tr) (a_ (a_ tr tr) (a_ (a_ (a_ tr (lt_ 1 11 rfl)) tr) (a_ (a_ tr tr) (a_ (a_ tr tr) (a_ (a_ (a_ tr (lt_ 2 11 rfl)) tr) (a_ (a_ tr tr) (a_ (a_ tr tr) (a_ (a_ tr tr) (a_ (a_ tr tr) tr))))))))))) (a_ (a_ (a_ tr tr) tr) tr))) (parrelref06_May_l0_ok hμ c y2  big _ r h) (by kernel_rfl) ⟨rfl, trivial⟩

theorem parrelref06_May_tri (c : T_api_Config) (r : (Bool)) (h : parrelref06_May c = some r) : FnTri Tryd.prog 35 [v_T_api_Config c] [] (parrelref06_May_v r) [] := FnTri.none (parrelref06_May_ok c r h) rfl rfl

/-- parrel/parrelref10.ItemMay -/

def parrelref10_ItemMay_v (r : (Bool)) : LV := .bool r

def parrelref10_ItemMay (i : T_api_Item) : Option ((Bool)) :=
  if ((decide (i.f_Version ≤ 2147483647)) : Bool) then
    if ((decide (((i.f_Value).length : Int) ≤ 64)) : Bool) then
      (parrelref06_May i.f_Conf).bind fun y4 =>
      some y4
    else
      some false
  else
    some false

theorem parrelref10_ItemMay_ok (i : T_api_Item) (r : (Bool)) (h : parrelref10_ItemMay i = some r) : ∀ σ, Inj 0 σ → FnTri Tryd.prog 27 (renL σ [v_T_api_Item i]) (preOf σ 0 []) ((parrelref10_ItemMay_v r).ren σ) (upOf σ []) := by
  refine fn_of Tryd.func27 (by kernel_rfl) (by kernel_rfl) (by kernel_rfl) trivial (by kernel_rfl) trivial (by kernel_rfl) ?_
  intro w0 W μ0 hμ
  unfold parrelref10_ItemMay at h
  rcases itb_some h with ⟨c1, h⟩ | ⟨c1, h⟩
  · skip
    rcases itb_some h with ⟨c2, h⟩ | ⟨c2, h⟩
    · skip
      obtain ⟨y4, e3, h⟩ := bind_some h
      obtain rfl := Option.some.inj h
      exact run_ret mixed (L := []) (n := 15) (s := [.reg [], .reg [(3, { v := some (.bool true) }), (9, { v := some (.bool true) }), (12, { call := some (parrelref06_May_v y4, [], []) })]])
        (a_ (a_ (a_ (a_ tr tr) (a_ (a_ tr tr) tr)) (a_ (a_ (a_ tr tr) (a_ (a_ (a_ tr (lt_ 0 13 rfl)) tr) (a_ (a_ tr tr) (a_ (a_ tr (a_ (leB c1) tr)) (a_ (a_ tr tr) (a_ (a_ (a_ tr (lt_ 1 13 rfl)) tr) (a_ (a_ tr tr) (a_ (a_ tr tr) (a_ (a_ tr tr) (a_ (a_ tr (a_ (leB c2) tr)) (a_ (a_ tr tr) (a_ (a_ (a_ tr (le_ 13 13 rfl)) tr) (a_ (a_ (a_ (parrelref06_May_tri i.f_Conf y4 e3) tr) tr) (a_ (a_ tr tr) (a_ (a_ tr tr) tr))))))))))))))) tr)) tr) (by kernel_rfl) rfl
    · skip
      obtain rfl := Option.some.inj h
      exact run_ret mixed (L := []) (n := 15) (s := [.reg [], .reg [(3, { v := some (.bool true) }), (9, { v := some (.bool false) })]])
        (a_ (a_ (a_ (a_ tr tr) (a_ (a_ tr tr) tr)) (a_ (a_ (a_ tr tr) (a_ (a_ (a_ tr (lt_ 0 13 rfl)) tr) (a_ (a_ tr tr) (a_ (a_ tr (a_ (leB c1) tr)) (a_ (a_ tr tr) (a_ (a_ (a_ tr (lt_ 1 13 rfl)) tr) (a_ (a_ tr tr) (a_ (a_ tr tr) (a_ (a_ tr tr) (a_ (a_ tr (a_ (leB c2) tr)) (a_ tr (a_ tr (a_ tr (a_ (a_ tr tr) (a_ (a_ tr tr) tr))))))))))))))) tr)) tr) (by kernel_rfl) rfl
  · skip
    obtain rfl := Option.some.inj h
    exact run_ret mixed (L := []) (n := 15) (s := [.reg [], .reg [(3, { v := some (.bool false) })]])
      (a_ (a_ (a_ (a_ tr tr) (a_ (a_ tr tr) tr)) (a_ (a_ (a_ tr tr) (a_ (a_ (a_ tr (lt_ 0 13 rfl)) tr) (a_ (a_ tr tr) (a_ (a_ tr (a_ (leB c1) tr)) (a_ tr (a_ tr (a_ tr (a_ tr (a_ (a_ tr tr) (a_ (a_ tr tr) (a_ tr (a_ tr (a_ tr (a_ (a_ tr tr) (a_ (a_ tr tr) tr))))))))))))))) tr)) tr) (by kernel_rfl) rfl

theorem parrelref10_ItemMay_tri (i : T_api_Item) (r : (Bool)) (h : parrelref10_ItemMay i = some r) : FnTri Tryd.prog 27 [v_T_api_Item i] [] (parrelref10_ItemMay_v r) [] := FnTri.none (parrelref10_ItemMay_ok i r h) rfl rfl

/-- parrel/parrelref05.first -/

def parrelref05_first_v (r : (Int)) : LV := .int .i64 r

def parrelref05_first_T0 (a : List (Int)) (b : List (Int)) (i : Int) : List LV := [.ds 1 (a).length (rowF (cInt .u32) default a), .ds 1 (b).length (rowF (cInt .u32) default b), .any, .any, .any, .int .i64 i, .any, .any, .any, .any, .any, .any, .any, .any, .any, .any, .any, .any, .any, .any, .any, .any, .any, .any, .any, .any, .any, .any, .any, .any]

def parrelref05_first_H0 (a : List (Int)) (b : List (Int)) (i : Int) : Heap := []

def parrelref05_first_l0 (a : List (Int)) (b : List (Int))  : Nat → (Int) → Option ((Int))
  | 0, _ => none
  | fuel + 1, i =>
    if ((decide (i < ((a).length : Int))) : Bool) then
      if 0 ≤ i ∧ i < (((a).length : Nat) : Int) then
      if 0 ≤ i ∧ i < (((b).length : Nat) : Int) then
      if ((decide ((a.getD i.toNat default) < (b.getD i.toNat default))) : Bool) then
        some (-1)
      else
        if ((decide ((b.getD i.toNat default) < (a.getD i.toNat default))) : Bool) then
          some 1
        else
          parrelref05_first_l0 a b  fuel (IntKind.wrap .i64 (i + 1))
      else none
      else none
    else
      some 0

def parrelref05_first (a : List (Int)) (b : List (Int)) : Option ((Int)) :=
  parrelref05_first_l0 a b  big 0

theorem parrelref05_first_l0_ok {w0 : World} {W : Nat → Prop} {μ0 : Emb} (hμ : ∀ c p, μ0 c = some p → c < 0) (a : List (Int)) (b : List (Int))  : ∀ (fuel : Nat) (i : Int) (r : (Int)), parrelref05_first_l0 a b  fuel i = some r → kont Tryd.prog w0 W μ0 (FnPost Tryd.prog Tryd.f45 0 0 (parrelref05_first_v r) []) (kAt (bodyOf Tryd.f45) 0) none (parrelref05_first_T0 a b i) (parrelref05_first_H0 a b i) := by
  intro fuel
  induction fuel with
  | zero => intro i r h; rw [parrelref05_first_l0] at h; cases h
  | succ fuel ih =>
    intro i r h
    rw [parrelref05_first_l0] at h
    rcases itb_some h with ⟨cL0_1, h⟩ | ⟨cL0_1, h⟩
    · skip
      obtain ⟨gL0_2, h⟩ := guard_some h
      obtain ⟨gL0_3, h⟩ := guard_some h
      rcases itb_some h with ⟨cL0_4, h⟩ | ⟨cL0_4, h⟩
      · skip
        obtain rfl := Option.some.inj h
        exact run_ret mixed (L := []) (n := 26) (s := [.go, .reg [(3, { v := some (.bool true) })], .reg [(8, { v := some (.bool true) })], .reg []])
          (a_ (a_ (a_ (a_ tr tr) (a_ (a_ tr tr) (a_ (a_ tr tr) (a_ (a_ tr (a_ (leB cL0_1) tr)) tr)))) (a_ (a_ (a_ tr tr) (a_ (a_ tr tr) (a_ (a_ (a_ (Eq.refl 1) gL0_2) tr) (a_ (a_ (lt_ 0 1 rfl) tr) (a_ (a_ tr tr) (a_ (a_ tr tr) (a_ (a_ (a_ (Eq.refl 1) gL0_3) tr) (a_ (a_ (lt_ 0 1 rfl) tr) (a_ (a_ tr (a_ (leB cL0_4) tr)) tr))))))))) (a_ (a_ (a_ tr tr) tr) tr))) tr) (by kernel_rfl) rfl
      · skip
        rcases itb_some h with ⟨cL0_5, h⟩ | ⟨cL0_5, h⟩
        · skip
          obtain rfl := Option.some.inj h
          exact run_ret mixed (L := []) (n := 31) (s := [.go, .reg [(3, { v := some (.bool true) })], .reg [(8, { v := some (.bool false) })], .reg [(8, { v := some (.bool true) })], .reg []])
            (a_ (a_ (a_ (a_ tr tr) (a_ (a_ tr tr) (a_ (a_ tr tr) (a_ (a_ tr (a_ (leB cL0_1) tr)) tr)))) (a_ (a_ (a_ tr tr) (a_ (a_ tr tr) (a_ (a_ (a_ (Eq.refl 1) gL0_2) tr) (a_ (a_ (lt_ 0 1 rfl) tr) (a_ (a_ tr tr) (a_ (a_ tr tr) (a_ (a_ (a_ (Eq.refl 1) gL0_3) tr) (a_ (a_ (lt_ 0 1 rfl) tr) (a_ (a_ tr (a_ (leB cL0_4) tr)) tr))))))))) (a_ (a_ (a_ tr tr) (a_ (a_ tr tr) (a_ (a_ (a_ (Eq.refl 1) gL0_2) tr) (a_ (a_ (lt_ 0 1 rfl) tr) (a_ (a_ tr tr) (a_ (a_ tr tr) (a_ (a_ (a_ (Eq.refl 1) gL0_3) tr) (a_ (a_ (lt_ 0 1 rfl) tr) (a_ (a_ tr (a_ (leB cL0_5) tr)) tr))))))))) (a_ (a_ (a_ tr tr) tr) tr)))) tr) (by kernel_rfl) rfl
        · skip
          exact run_to mixed hμ (L := []) (n := 32) (s := [.go, .reg [(3, { v := some (.bool true) })], .reg [(8, { v := some (.bool false) })], .reg [(8, { v := some (.bool false) })], .reg []])
            (a_ (a_ (a_ tr tr) (a_ (a_ tr tr) (a_ (a_ tr tr) (a_ (a_ tr (a_ (leB cL0_1) tr)) tr)))) (a_ (a_ (a_ tr tr) (a_ (a_ tr tr) (a_ (a_ (a_ (Eq.refl 1) gL0_2) tr) (a_ (a_ (lt_ 0 1 rfl) tr) (a_ (a_ tr tr) (a_ (a_ tr tr) (a_ (a_ (a_ (Eq.refl 1) gL0_3) tr) (a_ (a_ (lt_ 0 1 rfl) tr) (a_ (a_ tr (a_ (leB cL0_4) tr)) tr))))))))) (a_ (a_ (a_ tr tr) (a_ (a_ tr tr) (a_ (a_ (a_ (Eq.refl 1) gL0_2) tr) (a_ (a_ (lt_ 0 1 rfl) tr) (a_ (a_ tr tr) (a_ (a_ tr tr) (a_ (a_ (a_ (Eq.refl 1) gL0_3) tr) (a_ (a_ (lt_ 0 1 rfl) tr) (a_ (a_ tr (a_ (leB cL0_5) tr)) tr))))))))) (a_ (a_ (a_ tr tr) (a_ (a_ tr tr) (a_ (a_ tr tr) tr))) tr)))) (ih _ r h) (by kernel_rfl) trivial
    · skip
      obtain rfl := Option.some.inj h
      exact run_ret mixed (L := []) (n := 19) (s := [.go, .reg [(3, { v := some (.bool false) })], .reg []])
        (a_ (a_ (a_ (a_ tr tr) (a_ (a_ tr tr) (a_ (a_ tr tr) (a_ (a_ tr (a_ (leB cL0_1) tr)) tr)))) (a_ (a_ (a_ tr tr) tr) tr)) tr) (by kernel_rfl) rfl

theorem parrelref05_first_ok (a : List (Int)) (b : List (Int)) (r : (Int)) (h : parrelref05_first a b = some r) : ∀ σ, Inj 0 σ → FnTri Tryd.prog 45 (renL σ [.ds 1 (a).length (rowF (cInt .u32) default a), .ds 1 (b).length (rowF (cInt .u32) default b)]) (preOf σ 0 []) ((parrelref05_first_v r).ren σ) (upOf σ []) := by
  refine fn_of Tryd.func45 (by kernel_rfl) (by kernel_rfl) (by kernel_rfl) trivial (by kernel_rfl) trivial (by kernel_rfl) ?_
  intro w0 W μ0 hμ
  unfold parrelref05_first at h
  exact run_to mixed hμ (L := []) (n := 18) (s := [.reg [], .reg []])
    (a_ (a_ (a_ tr tr) tr) (a_ (a_ (a_ tr tr) tr) tr)) (parrelref05_first_l0_ok hμ a b  big _ r h) (by kernel_rfl) trivial

theorem parrelref05_first_tri (a : List (Int)) (b : List (Int)) (r : (Int)) (h : parrelref05_first a b = some r) : FnTri Tryd.prog 45 [.ds 1 (a).length (rowF (cInt .u32) default a), .ds 1 (b).length (rowF (cInt .u32) default b)] [] (parrelref05_first_v r) [] := FnTri.none (parrelref05_first_ok a b r h) rfl rfl

/-- parrel/parrelref05.Keys -/

def parrelref05_Keys_v (r : (Int)) : LV := .int .i64 r

def parrelref05_Keys_T0 (a : A8 (Int)) (b : A8 (Int)) (i : Int) (l : List (Int)) (l2 : List (Int)) : List LV := [.any, .any, .ptr 0 0 0, .ptr 1 0 0, .any, .gs 2 (l).length, .gs 3 (l2).length, .int .i64 i, .any, .any, .any, .any, .any, .any, .any, .any, .any, .any, .any, .any, .any, .any, .any, .any, .any, .any, .any, .any, .any]

def parrelref05_Keys_H0 (a : A8 (Int)) (b : A8 (Int)) (i : Int) (l : List (Int)) (l2 : List (Int)) : Heap := [some (.var [.int .u8 a.a0, .int .u8 a.a1, .int .u8 a.a2, .int .u8 a.a3, .int .u8 a.a4, .int .u8 a.a5, .int .u8 a.a6, .int .u8 a.a7]), some (.var [.int .u8 b.a0, .int .u8 b.a1, .int .u8 b.a2, .int .u8 b.a3, .int .u8 b.a4, .int .u8 b.a5, .int .u8 b.a6, .int .u8 b.a7]), some (.gr 1 (l).length (rowF (cInt .u32) default l)), some (.gr 1 (l2).length (rowF (cInt .u32) default l2))]

def parrelref05_Keys_l0 (a : A8 (Int)) (b : A8 (Int))  : Nat → (Int) → (List (Int)) → (List (Int)) → Option ((Int))
  | 0, _, _, _ => none
  | fuel + 1, i, l, l2 =>
    if ((decide (i < 8)) : Bool) then
      if 0 ≤ i ∧ i < 8 then
      if ((l).length + ([(IntKind.wrap .u32 (A8.get a i.toNat))]).length) * 4 ≤ 140737488351232 then
      if ((l2).length + ([(IntKind.wrap .u32 (A8.get b i.toNat))]).length) * 4 ≤ 140737488351232 then
      parrelref05_Keys_l0 a b  fuel (IntKind.wrap .i64 (i + 1)) (l ++ [(IntKind.wrap .u32 (A8.get a i.toNat))]) (l2 ++ [(IntKind.wrap .u32 (A8.get b i.toNat))])
      else none
      else none
      else none
    else
      (parrelref05_first l l2).bind fun yL0_3 =>
      some yL0_3

def parrelref05_Keys (a : A8 (Int)) (b : A8 (Int)) : Option ((Int)) :=
  parrelref05_Keys_l0 a b  big 0 ([] : List (Int)) ([] : List (Int))

theorem parrelref05_Keys_l0_ok {w0 : World} {W : Nat → Prop} {μ0 : Emb} (hμ : ∀ c p, μ0 c = some p → c < 0) (a : A8 (Int)) (b : A8 (Int))  : ∀ (fuel : Nat) (i : Int) (l : List (Int)) (l2 : List (Int)) (r : (Int)), parrelref05_Keys_l0 a b  fuel i l l2 = some r → kont Tryd.prog w0 W μ0 (FnPost Tryd.prog Tryd.f36 0 0 (parrelref05_Keys_v r) []) (kAt (bodyOf Tryd.f36) 0) none (parrelref05_Keys_T0 a b i l l2) (parrelref05_Keys_H0 a b i l l2) := by
  intro fuel
  induction fuel with
  | zero => intro i l l2 r h; rw [parrelref05_Keys_l0] at h; cases h
  | succ fuel ih =>
    intro i l l2 r h
    rw [parrelref05_Keys_l0] at h
    rcases itb_some h with ⟨cL0_1, h⟩ | ⟨cL0_1, h⟩
    · skip
      obtain ⟨gL0_2, h⟩ := guard_some h
      obtain ⟨gL0_3, h⟩ := guard_some h
      obtain ⟨gL0_4, h⟩ := guard_some h
      exact run_to mixed hμ (L := [0, 1, 5, 7]) (n := 26) (s := [.go, .reg [(1, { v := some (.bool true) })], .reg [(3, { v := some (.int .u8 (A8.get a i.toNat)) }), (5, { os := [(4, .gr 1 ([(IntKind.wrap .u32 (A8.get a i.toNat))]).length (rowF (cInt .u32) default [(IntKind.wrap .u32 (A8.get a i.toNat))]))], v := some (.gs 4 ([(IntKind.wrap .u32 (A8.get a i.toNat))]).length) }), (6, { app := 3, os := [(5, .gr 1 ((l ++ [(IntKind.wrap .u32 (A8.get a i.toNat))])).length (rowF (cInt .u32) default (l ++ [(IntKind.wrap .u32 (A8.get a i.toNat))])))], v := some (.gs 5 ((l ++ [(IntKind.wrap .u32 (A8.get a i.toNat))])).length) })], .reg [(3, { v := some (.int .u8 (A8.get b i.toNat)) }), (5, { os := [(6, .gr 1 ([(IntKind.wrap .u32 (A8.get b i.toNat))]).length (rowF (cInt .u32) default [(IntKind.wrap .u32 (A8.get b i.toNat))]))], v := some (.gs 6 ([(IntKind.wrap .u32 (A8.get b i.toNat))]).length) }), (6, { app := 3, os := [(7, .gr 1 ((l2 ++ [(IntKind.wrap .u32 (A8.get b i.toNat))])).length (rowF (cInt .u32) default (l2 ++ [(IntKind.wrap .u32 (A8.get b i.toNat))])))], v := some (.gs 7 ((l2 ++ [(IntKind.wrap .u32 (A8.get b i.toNat))])).length) })], .reg []])
        (a_ (a_ (a_ tr tr) (a_ (a_ tr (a_ (leB cL0_1) tr)) tr)) (a_ (a_ (a_ tr tr) (a_ (a_ tr tr) (a_ (a_ gL0_2 tr) (a_ (a_ (a_ tr (arrLt (len := 8) gL0_2 0 1 8 rfl rfl)) (a_ (ld8s (cInt .u8) 1 (fun _ => rfl) a [] [] 0 rfl i.toNat (lt8N gL0_2) (le_ (0 + 1) 1 rfl)) tr)) (a_ (a_ tr tr) (a_ (a_ (a_ (Eq.refl true) (a_ (Eq.refl 1) (a_ (lt_ 0 1 rfl) (le_ 1 16777216 rfl)))) (a_ (le_sl_gs 4 1 (some 1) rfl) (a_ (sub_lit (cInt .u32) default 1 (fun _ => rfl) [(IntKind.wrap .u32 (A8.get a i.toNat))]) tr))) (a_ (a_ (a_ (a_ (Eq.refl 1) (Nat.le_refl ([(IntKind.wrap .u32 (A8.get a i.toNat))]).length)) (a_ (a_ (lt_ 0 1 rfl) (a_ (lt_ 0 4 rfl) (a_ gL0_3 (a_ (Eq.refl 1) (Eq.refl true))))) (a_ (Eq.refl 1) (Nat.le_refl (l).length)))) (a_ (le_gs_app 5 l [(IntKind.wrap .u32 (A8.get a i.toNat))]) (a_ (sub_app (cInt .u32) default 1 l [(IntKind.wrap .u32 (A8.get a i.toNat))]) tr))) (a_ (a_ tr tr) tr)))))))) (a_ (a_ (a_ tr tr) (a_ (a_ tr tr) (a_ (a_ gL0_2 tr) (a_ (a_ (a_ tr (arrLt (len := 8) gL0_2 0 1 8 rfl rfl)) (a_ (ld8s (cInt .u8) 1 (fun _ => rfl) b [] [] 0 rfl i.toNat (lt8N gL0_2) (le_ (0 + 1) 1 rfl)) tr)) (a_ (a_ tr tr) (a_ (a_ (a_ (Eq.refl true) (a_ (Eq.refl 1) (a_ (lt_ 0 1 rfl) (le_ 1 16777216 rfl)))) (a_ (le_sl_gs 6 1 (some 1) rfl) (a_ (sub_lit (cInt .u32) default 1 (fun _ => rfl) [(IntKind.wrap .u32 (A8.get b i.toNat))]) tr))) (a_ (a_ (a_ (a_ (Eq.refl 1) (Nat.le_refl ([(IntKind.wrap .u32 (A8.get b i.toNat))]).length)) (a_ (a_ (lt_ 0 1 rfl) (a_ (lt_ 0 4 rfl) (a_ gL0_4 (a_ (Eq.refl 1) (Eq.refl true))))) (a_ (Eq.refl 1) (Nat.le_refl (l2).length)))) (a_ (le_gs_app 7 l2 [(IntKind.wrap .u32 (A8.get b i.toNat))]) (a_ (sub_app (cInt .u32) default 1 l2 [(IntKind.wrap .u32 (A8.get b i.toNat))]) tr))) (a_ (a_ tr tr) tr)))))))) (a_ (a_ (a_ tr tr) (a_ (a_ tr tr) (a_ (a_ tr tr) tr))) tr)))) (ih _ _ _ r h) (by kernel_rfl) ⟨rfl, rfl, fun _ _ => rfl, fun _ _ => rfl, trivial⟩
    · skip
      obtain ⟨yL0_3, eL0_2, h⟩ := bind_some h
      obtain rfl := Option.some.inj h
      exact run_ret mixed (L := []) (n := 21) (s := [.go, .reg [(1, { v := some (.bool false) })], .frz 2, .frz 3, .reg [(2, { call := some (parrelref05_first_v yL0_3, [], []) })]])
        (a_ (a_ (a_ (a_ tr tr) (a_ (a_ tr (a_ (leB cL0_1) tr)) tr)) (a_ (a_ (fz_row (enc := (cInt .u32)) (d := default) (fun _ => rfl) l) (a_ (Nat.le_refl (l).length) tr)) (a_ (a_ (fz_row (enc := (cInt .u32)) (d := default) (fun _ => rfl) l2) (a_ (Nat.le_refl (l2).length) tr)) (a_ (a_ (a_ tr tr) (a_ (a_ tr tr) (a_ (a_ (a_ (parrelref05_first_tri l l2 yL0_3 eL0_2) tr) tr) (a_ (a_ tr tr) tr)))) tr)))) tr) (by kernel_rfl) rfl

theorem parrelref05_Keys_ok (a : A8 (Int)) (b : A8 (Int)) (r : (Int)) (h : parrelref05_Keys a b = some r) : ∀ σ, Inj 0 σ → FnTri Tryd.prog 36 (renL σ [.agg [.int .u8 a.a0, .int .u8 a.a1, .int .u8 a.a2, .int .u8 a.a3, .int .u8 a.a4, .int .u8 a.a5, .int .u8 a.a6, .int .u8 a.a7], .agg [.int .u8 b.a0, .int .u8 b.a1, .int .u8 b.a2, .int .u8 b.a3, .int .u8 b.a4, .int .u8 b.a5, .int .u8 b.a6, .int .u8 b.a7]]) (preOf σ 0 []) ((parrelref05_Keys_v r).ren σ) (upOf σ []) := by
  refine fn_of Tryd.func36 (by kernel_rfl) (by kernel_rfl) (by kernel_rfl) trivial (by kernel_rfl) trivial (by kernel_rfl) ?_
  intro w0 W μ0 hμ
  unfold parrelref05_Keys at h
  exact run_to mixed hμ (L := [0, 1, 2, 3]) (n := 23) (s := [.reg [], .void (.gr 1 (([] : List (Int))).length (rowF (cInt .u32) default ([] : List (Int)))), .void (.gr 1 (([] : List (Int))).length (rowF (cInt .u32) default ([] : List (Int)))), .reg [(0, { v := some (.gs 2 (([] : List (Int))).length) }), (1, { v := some (.gs 3 (([] : List (Int))).length) })], .reg []])
    (a_ (a_ (a_ tr tr) (a_ (a_ tr tr) (a_ (a_ tr tr) tr))) (a_ (Eq.refl 0) (a_ (Eq.refl 0) (a_ (a_ (a_ tr (a_ (le_nil_gs 2) tr)) (a_ (a_ tr (a_ (le_nil_gs 3) tr)) tr)) (a_ (a_ (a_ tr tr) tr) tr))))) (parrelref05_Keys_l0_ok hμ a b  big _ _ _ r h) (by kernel_rfl) ⟨rfl, rfl, fun _ _ => rfl, fun _ _ => rfl, trivial⟩

theorem parrelref05_Keys_tri (a : A8 (Int)) (b : A8 (Int)) (r : (Int)) (h : parrelref05_Keys a b = some r) : FnTri Tryd.prog 36 [.agg [.int .u8 a.a0, .int .u8 a.a1, .int .u8 a.a2, .int .u8 a.a3, .int .u8 a.a4, .int .u8 a.a5, .int .u8 a.a6, .int .u8 a.a7], .agg [.int .u8 b.a0, .int .u8 b.a1, .int .u8 b.a2, .int .u8 b.a3, .int .u8 b.a4, .int .u8 b.a5, .int .u8 b.a6, .int .u8 b.a7]] [] (parrelref05_Keys_v r) [] := FnTri.none (parrelref05_Keys_ok a b r h) rfl rfl

end
end Go.Proofs.YtdmdjklgdaiimaaDoor.Wk
