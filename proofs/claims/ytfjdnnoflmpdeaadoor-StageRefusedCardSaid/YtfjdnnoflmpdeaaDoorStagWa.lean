/- Printed by tr.py: Go functions as Lean functions, with the proofs that they walk so. -/
import Derived.Test.YtfjdnnoflmpdeaaDoorProg
import Derived.Test.YtfjdnnoflmpdeaaDoorCnW
import Derived.Test.YtfjdnnoflmpdeaaDoorCnZ
import Derived.WalkKit
import Derived.TacticsInMore
import Derived.RegionIn
import Derived.LoopNIn
import Derived.LoopIn
import Derived.ControlIn
namespace Go.Proofs.YtfjdnnoflmpdeaaDoor.Wk
open Go Go.Cn Go.RowKit
set_option maxRecDepth 100000
set_option maxHeartbeats 4000000
set_option linter.unusedVariables false
set_option linter.unusedSimpArgs false
noncomputable section
theorem mixed : Tryd.prog.follows .mixedOrders = true := by kernel_rfl
structure T_api_Tx where
  f_Node : Int
  f_Boot : Int
  f_Num : Int
  deriving DecidableEq, Inhabited

def c_T_api_Tx (x : T_api_Tx) : List LV := [.int .u8 x.f_Node, .int .u32 x.f_Boot, .int .u32 x.f_Num]

def v_T_api_Tx (x : T_api_Tx) : LV := .agg (c_T_api_Tx x)

theorem x_T_api_Tx (a b : T_api_Tx) : a = b ↔ a.f_Node = b.f_Node ∧ a.f_Boot = b.f_Boot ∧ a.f_Num = b.f_Num := by
  cases a; cases b; simp

theorem k_T_api_Tx (a b : T_api_Tx) : eqK (v_T_api_Tx a) (v_T_api_Tx b) = decide (a = b) := by
  rw [Bool.eq_iff_iff, decide_eq_true_eq]
  simp only [x_T_api_Tx, v_T_api_Tx, c_T_api_Tx, eqK, eqCs, eqC, Bool.and_eq_true, beq_iff_eq, and_assoc, and_true]

structure T_api_Reg where
  f_Boot : Int
  f_N : Int
  deriving DecidableEq, Inhabited

def c_T_api_Reg (x : T_api_Reg) : List LV := [.int .u32 x.f_Boot, .int .u32 x.f_N]

def v_T_api_Reg (x : T_api_Reg) : LV := .agg (c_T_api_Reg x)

theorem x_T_api_Reg (a b : T_api_Reg) : a = b ↔ a.f_Boot = b.f_Boot ∧ a.f_N = b.f_N := by
  cases a; cases b; simp

theorem k_T_api_Reg (a b : T_api_Reg) : eqK (v_T_api_Reg a) (v_T_api_Reg b) = decide (a = b) := by
  rw [Bool.eq_iff_iff, decide_eq_true_eq]
  simp only [x_T_api_Reg, v_T_api_Reg, c_T_api_Reg, eqK, eqCs, eqC, Bool.and_eq_true, beq_iff_eq, and_assoc, and_true]

structure T_api_Config where
  f_Epoch : Int
  f_R : Int
  f_W : Int
  f_Votes : A8 (Int)
  deriving DecidableEq, Inhabited

def c_T_api_Config (x : T_api_Config) : List LV := [.int .u32 x.f_Epoch, .int .u8 x.f_R, .int .u8 x.f_W, .int .u8 x.f_Votes.a0, .int .u8 x.f_Votes.a1, .int .u8 x.f_Votes.a2, .int .u8 x.f_Votes.a3, .int .u8 x.f_Votes.a4, .int .u8 x.f_Votes.a5, .int .u8 x.f_Votes.a6, .int .u8 x.f_Votes.a7]

def v_T_api_Config (x : T_api_Config) : LV := .agg (c_T_api_Config x)

theorem x_T_api_Config (a b : T_api_Config) : a = b ↔ a.f_Epoch = b.f_Epoch ∧ a.f_R = b.f_R ∧ a.f_W = b.f_W ∧ a.f_Votes = b.f_Votes := by
  cases a; cases b; simp

theorem k_T_api_Config (a b : T_api_Config) : eqK (v_T_api_Config a) (v_T_api_Config b) = decide (a = b) := by
  rw [Bool.eq_iff_iff, decide_eq_true_eq]
  simp only [x_T_api_Config, A8.x, v_T_api_Config, c_T_api_Config, eqK, eqCs, eqC, Bool.and_eq_true, beq_iff_eq, and_assoc, and_true]

structure T_api_Item where
  f_Version : Int
  f_Value : List UInt8
  f_Conf : T_api_Config
  deriving DecidableEq, Inhabited

def c_T_api_Item (x : T_api_Item) : List LV := [.int .u32 x.f_Version, .str x.f_Value, .int .u32 x.f_Conf.f_Epoch, .int .u8 x.f_Conf.f_R, .int .u8 x.f_Conf.f_W, .int .u8 x.f_Conf.f_Votes.a0, .int .u8 x.f_Conf.f_Votes.a1, .int .u8 x.f_Conf.f_Votes.a2, .int .u8 x.f_Conf.f_Votes.a3, .int .u8 x.f_Conf.f_Votes.a4, .int .u8 x.f_Conf.f_Votes.a5, .int .u8 x.f_Conf.f_Votes.a6, .int .u8 x.f_Conf.f_Votes.a7]

def v_T_api_Item (x : T_api_Item) : LV := .agg (c_T_api_Item x)

theorem x_T_api_Item (a b : T_api_Item) : a = b ↔ a.f_Version = b.f_Version ∧ a.f_Value = b.f_Value ∧ a.f_Conf = b.f_Conf := by
  cases a; cases b; simp

theorem k_T_api_Item (a b : T_api_Item) : eqK (v_T_api_Item a) (v_T_api_Item b) = decide (a = b) := by
  rw [Bool.eq_iff_iff, decide_eq_true_eq]
  simp only [x_T_api_Item, x_T_api_Config, A8.x, v_T_api_Item, c_T_api_Item, eqK, eqCs, eqC, Bool.and_eq_true, beq_iff_eq, and_assoc, and_true]

structure T_api_Write where
  f_Key : A8 (Int)
  f_Item : T_api_Item
  deriving DecidableEq, Inhabited

def c_T_api_Write (x : T_api_Write) : List LV := [.int .u8 x.f_Key.a0, .int .u8 x.f_Key.a1, .int .u8 x.f_Key.a2, .int .u8 x.f_Key.a3, .int .u8 x.f_Key.a4, .int .u8 x.f_Key.a5, .int .u8 x.f_Key.a6, .int .u8 x.f_Key.a7, .int .u32 x.f_Item.f_Version, .str x.f_Item.f_Value, .int .u32 x.f_Item.f_Conf.f_Epoch, .int .u8 x.f_Item.f_Conf.f_R, .int .u8 x.f_Item.f_Conf.f_W, .int .u8 x.f_Item.f_Conf.f_Votes.a0, .int .u8 x.f_Item.f_Conf.f_Votes.a1, .int .u8 x.f_Item.f_Conf.f_Votes.a2, .int .u8 x.f_Item.f_Conf.f_Votes.a3, .int .u8 x.f_Item.f_Conf.f_Votes.a4, .int .u8 x.f_Item.f_Conf.f_Votes.a5, .int .u8 x.f_Item.f_Conf.f_Votes.a6, .int .u8 x.f_Item.f_Conf.f_Votes.a7]

def v_T_api_Write (x : T_api_Write) : LV := .agg (c_T_api_Write x)

theorem x_T_api_Write (a b : T_api_Write) : a = b ↔ a.f_Key = b.f_Key ∧ a.f_Item = b.f_Item := by
  cases a; cases b; simp

theorem k_T_api_Write (a b : T_api_Write) : eqK (v_T_api_Write a) (v_T_api_Write b) = decide (a = b) := by
  rw [Bool.eq_iff_iff, decide_eq_true_eq]
  simp only [x_T_api_Write, A8.x, x_T_api_Item, x_T_api_Config, v_T_api_Write, c_T_api_Write, eqK, eqCs, eqC, Bool.and_eq_true, beq_iff_eq, and_assoc, and_true]

structure T_parrellaw14_Act where
  f_Take : Bool
  f_Tx : T_api_Tx
  f_Reg : T_api_Reg
  f_Writes : List (T_api_Write)
  deriving DecidableEq, Inhabited

def c_T_parrellaw14_Act (x : T_parrellaw14_Act) : List LV := [.bool x.f_Take, .int .u8 x.f_Tx.f_Node, .int .u32 x.f_Tx.f_Boot, .int .u32 x.f_Tx.f_Num, .int .u32 x.f_Reg.f_Boot, .int .u32 x.f_Reg.f_N, .ds 21 (x.f_Writes).length (rowF c_T_api_Write default x.f_Writes)]

def v_T_parrellaw14_Act (x : T_parrellaw14_Act) : LV := .agg (c_T_parrellaw14_Act x)

structure T_stage_prepared where
  f_reg : T_api_Reg
  f_writes : List (T_api_Write)
  deriving DecidableEq, Inhabited

def c_T_stage_prepared (x : T_stage_prepared) : List LV := [.int .u32 x.f_reg.f_Boot, .int .u32 x.f_reg.f_N, .ds 21 (x.f_writes).length (rowF c_T_api_Write default x.f_writes)]

def v_T_stage_prepared (x : T_stage_prepared) : LV := .agg (c_T_stage_prepared x)

theorem ext100 (l : List UInt8) (c : Int) : ExtTri Tryd.prog 100 [.str l, .int .u8 c] (.int .i64 (Lib.indexByte l c.toNat.toUInt8)) := ext_indexByte Tryd.func100 (by kernel_rfl) (by kernel_rfl) (by kernel_rfl) (by kernel_rfl) l c

/-- parrel/stage.New -/

def stage_New_v (r : (List (T_api_Tx × T_stage_prepared)) × (List (A8 (Int) × T_api_Tx))) : LV := .ptr 0 0 0

def stage_New_up  (r : (List (T_api_Tx × T_stage_prepared)) × (List (A8 (Int) × T_api_Tx))) : Upd := [(0, some (.var [.map 1, .map 2])), (1, some (.map true [.int .u8, .int .u32, .int .u32] (encM v_T_api_Tx v_T_stage_prepared r.1))), (2, some (.map true [.int .u8, .int .u8, .int .u8, .int .u8, .int .u8, .int .u8, .int .u8, .int .u8] (encM (fun z_ : A8 (Int) => LV.agg [.int .u8 z_.a0, .int .u8 z_.a1, .int .u8 z_.a2, .int .u8 z_.a3, .int .u8 z_.a4, .int .u8 z_.a5, .int .u8 z_.a6, .int .u8 z_.a7]) v_T_api_Tx r.2)))]

def stage_New  : Option ((List (T_api_Tx × T_stage_prepared)) × (List (A8 (Int) × T_api_Tx))) :=
  some (([] : List (T_api_Tx × T_stage_prepared)), ([] : List (A8 (Int) × T_api_Tx)))

theorem stage_New_ok  (r : (List (T_api_Tx × T_stage_prepared)) × (List (A8 (Int) × T_api_Tx))) (h : stage_New  = some r) : ∀ σ, Inj 3 σ → FnTri Tryd.prog 7 (renL σ []) (preOf σ 0 []) ((stage_New_v r).ren σ) (upOf σ (stage_New_up  r)) := by
  refine fn_of Tryd.func7 (by kernel_rfl) (by kernel_rfl) (by kernel_rfl) trivial (by kernel_rfl) ⟨rfl, trivial, trivial, trivial⟩ (by kernel_rfl) ?_
  intro w0 W μ0 hμ
  unfold stage_New at h
  obtain rfl := Option.some.inj h
  exact run_ret mixed (L := [2, 0, 1]) (n := 15) (s := [.reg [], .reg []])
    (a_ (a_ (r1_ tr) (a_ (r2_ (a_ (a_ (Eq.refl true) tr) (r2_ tr))) tr)) tr) (by as_aux_lemma => kernel_rfl) rfl

/-- parrel/parrellaw14.short -/

def parrellaw14_short_v (r : (List (T_parrellaw14_Act))) : LV := .ds 7 (r).length (rowF c_T_parrellaw14_Act default r)

def parrellaw14_short (l : List (T_parrellaw14_Act)) : Option ((List (T_parrellaw14_Act))) :=
  if 0 ≤ (0 : Int) ∧ 0 ≤ (if 100 < ((l).length : Int) then 100 else ((l).length : Int)) ∧ (if 100 < ((l).length : Int) then 100 else ((l).length : Int)) ≤ (((l).length : Nat) : Int) then
  some (l.take ((if 100 < ((l).length : Int) then 100 else ((l).length : Int))).toNat)
  else none

theorem parrellaw14_short_ok (l : List (T_parrellaw14_Act)) (r : (List (T_parrellaw14_Act))) (h : parrellaw14_short l = some r) : ∀ σ, Inj 0 σ → FnTri Tryd.prog 12 (renL σ [.ds 7 (l).length (rowF c_T_parrellaw14_Act default l)]) (preOf σ 0 []) ((parrellaw14_short_v r).ren σ) (upOf σ []) := by
  refine fn_of Tryd.func12 (by kernel_rfl) (by kernel_rfl) (by kernel_rfl) trivial (by kernel_rfl) trivial (by kernel_rfl) ?_
  intro w0 W μ0 hμ
  unfold parrellaw14_short at h
  obtain ⟨g1, h⟩ := guard_some h
  obtain rfl := Option.some.inj h
  exact run_ret mixed (L := []) (n := 15) (s := [.reg [(0, { v := some (.ds 7 (([] : List (T_parrellaw14_Act))).length (rowF c_T_parrellaw14_Act default ([] : List (T_parrellaw14_Act)))) })], .reg [(4, { v := some (.ds 7 ((l.take ((if 100 < ((l).length : Int) then 100 else ((l).length : Int))).toNat)).length (rowF c_T_parrellaw14_Act default (l.take ((if 100 < ((l).length : Int) then 100 else ((l).length : Int))).toNat))) })]])
    (a_ (a_ (a_ (a_ tr (a_ (le_nil_ds 7 (rowF c_T_parrellaw14_Act default [])) tr)) tr) (a_ (r4_ (a_ (a_ (a_ (Eq.refl 7) g1) (a_ (le_take c_T_parrellaw14_Act default 7 l ((if 100 < ((l).length : Int) then 100 else ((l).length : Int))).toNat (toN_le g1.2.2)) tr)) (r1_ tr))) tr)) tr) (by as_aux_lemma => kernel_rfl) rfl

theorem parrellaw14_short_tri (l : List (T_parrellaw14_Act)) (r : (List (T_parrellaw14_Act))) (h : parrellaw14_short l = some r) : FnTri Tryd.prog 12 [.ds 7 (l).length (rowF c_T_parrellaw14_Act default l)] [] (parrellaw14_short_v r) [] := FnTri.none (parrellaw14_short_ok l r h) rfl rfl

/-- parrel/parrellaw14.far -/

def parrellaw14_far_v (r : (Bool)) : LV := .bool r

def parrellaw14_far_T1 (t11 : Int) (y2 : (List (T_parrellaw14_Act))) (x_n2 : Int) (t22 : Int) : List LV := [.any, .any, .any, .int .i64 x_n2, .any, .any, .any, .any, .any, .ds 7 (y2).length (rowF c_T_parrellaw14_Act default y2), .int .i64 ((y2).length : Int), .int .i64 t11, .any, .any, .any, .any, .any, .any, .any, .any, .ds 21 ((y2.getD t11.toNat default).f_Writes).length (rowF c_T_api_Write default (y2.getD t11.toNat default).f_Writes), .int .i64 (((y2.getD t11.toNat default).f_Writes).length : Int), .int .i64 t22, .any, .any, .any, .any, .any, .any, .any, .any, .any, .any, .any, .any, .any, .any]

def parrellaw14_far_H1 (t11 : Int) (y2 : (List (T_parrellaw14_Act))) (x_n2 : Int) (t22 : Int) : Heap := []

def parrellaw14_far_T0 (y2 : (List (T_parrellaw14_Act))) (x_n : Int) (t11 : Int) : List LV := [.any, .any, .any, .int .i64 x_n, .any, .any, .any, .any, .any, .ds 7 (y2).length (rowF c_T_parrellaw14_Act default y2), .int .i64 ((y2).length : Int), .int .i64 t11, .any, .any, .any, .any, .any, .any, .any, .any, .any, .any, .any, .any, .any, .any, .any, .any, .any, .any, .any, .any, .any, .any, .any, .any, .any]

def parrellaw14_far_H0 (y2 : (List (T_parrellaw14_Act))) (x_n : Int) (t11 : Int) : Heap := []

def parrellaw14_far_l1 (t11 : Int) (y2 : (List (T_parrellaw14_Act))) (k0 : (Int) → (Int) → Option ((Bool))) : Nat → (Int) → (Int) → Option ((Bool))
  | 0, _, _ => none
  | fuel + 1, x_n2, t22 =>
    if ((decide (t22 < (((y2.getD t11.toNat default).f_Writes).length : Int))) : Bool) then
      if 0 ≤ t22 ∧ t22 < ((((y2.getD t11.toNat default).f_Writes).length : Nat) : Int) then
      parrellaw14_far_l1 t11 y2 k0 fuel (IntKind.wrap .i64 (x_n2 + (if 10000 < ((((y2.getD t11.toNat default).f_Writes.getD t22.toNat default).f_Item.f_Value).length : Int) then 10000 else ((((y2.getD t11.toNat default).f_Writes.getD t22.toNat default).f_Item.f_Value).length : Int)))) (IntKind.wrap .i64 (t22 + 1))
      else none
    else
      k0 x_n2 (IntKind.wrap .i64 (t11 + 1))

def parrellaw14_far_l0 (y2 : (List (T_parrellaw14_Act)))  : Nat → (Int) → (Int) → Option ((Bool))
  | 0, _, _ => none
  | fuel + 1, x_n, t11 =>
    if ((decide (t11 < ((y2).length : Int))) : Bool) then
      if 0 ≤ t11 ∧ t11 < (((y2).length : Nat) : Int) then
      if ((decide (40 < (((y2.getD t11.toNat default).f_Writes).length : Int))) : Bool) then
        some true
      else
        parrellaw14_far_l1 t11 y2 (parrellaw14_far_l0 y2  fuel) big x_n 0
      else none
    else
      some (decide (20000 < x_n))

def parrellaw14_far (l : List (T_parrellaw14_Act)) : Option ((Bool)) :=
  (parrellaw14_short l).bind fun y2 =>
  parrellaw14_far_l0 y2  big 0 0

theorem parrellaw14_far_l1_ok {w0 : World} {W : Nat → Prop} {μ0 : Emb} (hμ : ∀ c p, μ0 c = some p → c < 0) (t11 : Int) (y2 : (List (T_parrellaw14_Act))) (k0 : (Int) → (Int) → Option ((Bool))) (hk0 : ∀ (x_n : Int) (t11 : Int) (r : (Bool)), k0 x_n t11 = some r → kont Tryd.prog w0 W μ0 (FnPost Tryd.prog Tryd.f8 0 0 (parrellaw14_far_v r) []) (kAt (bodyOf Tryd.f8) 0) none (parrellaw14_far_T0 y2 x_n t11) (parrellaw14_far_H0 y2 x_n t11)) : ∀ (fuel : Nat) (x_n2 : Int) (t22 : Int) (r : (Bool)), parrellaw14_far_l1 t11 y2 k0 fuel x_n2 t22 = some r → kont Tryd.prog w0 W μ0 (FnPost Tryd.prog Tryd.f8 0 0 (parrellaw14_far_v r) []) (kAt (bodyOf Tryd.f8) 1) none (parrellaw14_far_T1 t11 y2 x_n2 t22) (parrellaw14_far_H1 t11 y2 x_n2 t22) := by
  intro fuel
  induction fuel with
  | zero => intro x_n2 t22 r h; rw [parrellaw14_far_l1] at h; cases h
  | succ fuel ih =>
    intro x_n2 t22 r h
    rw [parrellaw14_far_l1] at h
    rcases itb_some h with ⟨cL1_1, h⟩ | ⟨cL1_1, h⟩
    · skip
      obtain ⟨gL1_2, h⟩ := guard_some h
      exact run_to mixed hμ (L := []) (n := 26) (s := [.go, .reg [(0, { v := some (.bool true) })], .reg [], .reg [], .reg []])
        (a_ (a_ (a_ tr (a_ (leB cL1_1) tr)) tr) (a_ (a_ (a_ (a_ (Eq.refl 21) gL1_2) tr) (a_ (a_ (le_ 21 21 rfl) tr) (r1_ (a_ (a_ (a_ (Eq.refl 21) (a_ (le_ 21 21 rfl) (Eq.refl 0))) tr) tr)))) (a_ (r1_ (r2_ (a_ (a_ (a_ tr (lt_ 9 21 rfl)) tr) (r4_ tr)))) (a_ (r2_ tr) tr)))) (ih _ _ r h) (by as_aux_lemma => kernel_rfl) trivial
    · skip
      exact run_to mixed hμ (L := []) (n := 19) (s := [.go, .reg [(0, { v := some (.bool false) })], .reg []])
        (a_ (a_ (a_ tr (a_ (leB cL1_1) tr)) tr) (a_ (r2_ tr) tr)) (hk0 _ _ r h) (by as_aux_lemma => kernel_rfl) trivial

theorem parrellaw14_far_l0_ok {w0 : World} {W : Nat → Prop} {μ0 : Emb} (hμ : ∀ c p, μ0 c = some p → c < 0) (y2 : (List (T_parrellaw14_Act)))  : ∀ (fuel : Nat) (x_n : Int) (t11 : Int) (r : (Bool)), parrellaw14_far_l0 y2  fuel x_n t11 = some r → kont Tryd.prog w0 W μ0 (FnPost Tryd.prog Tryd.f8 0 0 (parrellaw14_far_v r) []) (kAt (bodyOf Tryd.f8) 0) none (parrellaw14_far_T0 y2 x_n t11) (parrellaw14_far_H0 y2 x_n t11) := by
  intro fuel
  induction fuel with
  | zero => intro x_n t11 r h; rw [parrellaw14_far_l0] at h; cases h
  | succ fuel ih =>
    intro x_n t11 r h
    rw [parrellaw14_far_l0] at h
    rcases itb_some h with ⟨cL0_1, h⟩ | ⟨cL0_1, h⟩
    · skip
      obtain ⟨gL0_2, h⟩ := guard_some h
      rcases itb_some h with ⟨cL0_3, h⟩ | ⟨cL0_3, h⟩
      · skip
        obtain rfl := Option.some.inj h
        exact run_ret mixed (L := []) (n := 29) (s := [.go, .reg [(0, { v := some (.bool true) })], .reg [], .reg [(3, { v := some (.bool true) })], .reg []])
          (a_ (a_ (a_ (a_ tr (a_ (leB cL0_1) tr)) tr) (a_ (a_ (a_ (a_ (Eq.refl 7) gL0_2) tr) (a_ (a_ (le_ 7 7 rfl) tr) (r1_ (a_ (a_ (a_ (Eq.refl 7) (a_ (le_ 7 7 rfl) (Eq.refl 0))) tr) tr)))) (a_ (r1_ (a_ (a_ (a_ tr (lt_ 6 7 rfl)) tr) (r1_ (a_ (a_ tr (a_ (leB cL0_3) tr)) tr)))) (a_ (r1_ tr) tr)))) tr) (by as_aux_lemma => kernel_rfl) rfl
      · skip
        exact run_to mixed hμ (L := []) (n := 32) (s := [.go, .reg [(0, { v := some (.bool true) })], .reg [], .reg [(3, { v := some (.bool false) })], .reg []])
          (a_ (a_ (a_ tr (a_ (leB cL0_1) tr)) tr) (a_ (a_ (a_ (a_ (Eq.refl 7) gL0_2) tr) (a_ (a_ (le_ 7 7 rfl) tr) (r1_ (a_ (a_ (a_ (Eq.refl 7) (a_ (le_ 7 7 rfl) (Eq.refl 0))) tr) tr)))) (a_ (r1_ (a_ (a_ (a_ tr (lt_ 6 7 rfl)) tr) (r1_ (a_ (a_ tr (a_ (leB cL0_3) tr)) tr)))) (a_ (r1_ (a_ (a_ (a_ tr (lt_ 6 7 rfl)) tr) (r2_ tr))) tr)))) (parrellaw14_far_l1_ok hμ t11 y2 (parrellaw14_far_l0 y2  fuel) (fun x_n t11 r h => ih x_n t11 r h) big _ _ r h) (by as_aux_lemma => kernel_rfl) trivial
    · skip
      obtain rfl := Option.some.inj h
      exact run_ret mixed (L := []) (n := 19) (s := [.go, .reg [(0, { v := some (.bool false) })], .reg []])
        (a_ (a_ (a_ (a_ tr (a_ (leB cL0_1) tr)) tr) (a_ (r1_ (r2_ tr)) tr)) tr) (by as_aux_lemma => kernel_rfl) rfl

theorem parrellaw14_far_ok (l : List (T_parrellaw14_Act)) (r : (Bool)) (h : parrellaw14_far l = some r) : ∀ σ, Inj 0 σ → FnTri Tryd.prog 8 (renL σ [.ds 7 (l).length (rowF c_T_parrellaw14_Act default l)]) (preOf σ 0 []) ((parrellaw14_far_v r).ren σ) (upOf σ []) := by
  refine fn_of Tryd.func8 (by kernel_rfl) (by kernel_rfl) (by kernel_rfl) trivial (by kernel_rfl) trivial (by kernel_rfl) ?_
  intro w0 W μ0 hμ
  unfold parrellaw14_far at h
  obtain ⟨y2, e1, h⟩ := bind_some h
  exact run_to mixed hμ (L := []) (n := 21) (s := [.reg [], .reg [], .reg [(1, { call := some (parrellaw14_short_v y2, [], []) })]])
    (a_ (r1_ tr) (a_ (r1_ tr) (a_ (r1_ (a_ (a_ (a_ (parrellaw14_short_tri l y2 e1) tr) tr) (r2_ tr))) tr))) (parrellaw14_far_l0_ok hμ y2  big _ _ r h) (by as_aux_lemma => kernel_rfl) trivial

theorem parrellaw14_far_tri (l : List (T_parrellaw14_Act)) (r : (Bool)) (h : parrellaw14_far l = some r) : FnTri Tryd.prog 8 [.ds 7 (l).length (rowF c_T_parrellaw14_Act default l)] [] (parrellaw14_far_v r) [] := FnTri.none (parrellaw14_far_ok l r h) rfl rfl

/-- parrel/parrellaw14.some -/

def parrellaw14_some_v (r : (List (T_api_Write))) : LV := .ds 21 (r).length (rowF c_T_api_Write default r)

def parrellaw14_some  : Option ((List (T_api_Write))) :=
  some ([(T_api_Write.mk (A8.mk 97 0 0 0 0 0 0 0) (T_api_Item.mk 1 [] (T_api_Config.mk 1 1 1 (A8.mk 1 0 0 0 0 0 0 0))))] : List (T_api_Write))

theorem parrellaw14_some_ok  (r : (List (T_api_Write))) (h : parrellaw14_some  = some r) : ∀ σ, Inj 0 σ → FnTri Tryd.prog 23 (renL σ []) (preOf σ 0 []) ((parrellaw14_some_v r).ren σ) (upOf σ []) := by
  refine fn_of Tryd.func23 (by kernel_rfl) (by kernel_rfl) (by kernel_rfl) trivial (by kernel_rfl) trivial (by kernel_rfl) ?_
  intro w0 W μ0 hμ
  unfold parrellaw14_some at h
  obtain rfl := Option.some.inj h
  exact run_ret mixed (L := []) (n := 16) (s := [.reg [(0, { v := some (.ds 21 (([] : List (T_api_Write))).length (rowF c_T_api_Write default ([] : List (T_api_Write)))) })], .reg [(5, { os := [(0, .gr 21 (([(T_api_Write.mk (A8.mk 97 0 0 0 0 0 0 0) (T_api_Item.mk 1 [] (T_api_Config.mk 1 1 1 (A8.mk 1 0 0 0 0 0 0 0))))] : List (T_api_Write))).length (rowF c_T_api_Write default ([(T_api_Write.mk (A8.mk 97 0 0 0 0 0 0 0) (T_api_Item.mk 1 [] (T_api_Config.mk 1 1 1 (A8.mk 1 0 0 0 0 0 0 0))))] : List (T_api_Write))))], v := some (.gs 0 (([(T_api_Write.mk (A8.mk 97 0 0 0 0 0 0 0) (T_api_Item.mk 1 [] (T_api_Config.mk 1 1 1 (A8.mk 1 0 0 0 0 0 0 0))))] : List (T_api_Write))).length) })], .frz 0])
    (a_ (a_ (a_ (a_ tr (a_ (le_nil_ds 21 (rowF c_T_api_Write default [])) tr)) tr) (a_ (a_ (a_ (Eq.refl true) tr) (a_ (a_ (Eq.refl true) tr) (a_ (a_ (Eq.refl true) tr) (a_ (a_ (Eq.refl true) tr) (a_ (a_ (Eq.refl true) tr) (a_ (a_ (a_ (Eq.refl true) (a_ (Eq.refl 21) (a_ (lt_ 0 21 rfl) (le_ 21 16777216 rfl)))) (a_ (le_sl_gs 0 1 (some 1) rfl) (a_ (sub_lit c_T_api_Write default 21 (fun _ => rfl) ([(T_api_Write.mk (A8.mk 97 0 0 0 0 0 0 0) (T_api_Item.mk 1 [] (T_api_Config.mk 1 1 1 (A8.mk 1 0 0 0 0 0 0 0))))] : List (T_api_Write))) tr))) (r1_ tr))))))) (a_ (a_ (fz_row (enc := c_T_api_Write) (d := default) (fun _ => rfl) ([(T_api_Write.mk (A8.mk 97 0 0 0 0 0 0 0) (T_api_Item.mk 1 [] (T_api_Config.mk 1 1 1 (A8.mk 1 0 0 0 0 0 0 0))))] : List (T_api_Write))) (a_ (Nat.le_refl (([(T_api_Write.mk (A8.mk 97 0 0 0 0 0 0 0) (T_api_Item.mk 1 [] (T_api_Config.mk 1 1 1 (A8.mk 1 0 0 0 0 0 0 0))))] : List (T_api_Write))).length) (a_ (Nat.le_refl (([(T_api_Write.mk (A8.mk 97 0 0 0 0 0 0 0) (T_api_Item.mk 1 [] (T_api_Config.mk 1 1 1 (A8.mk 1 0 0 0 0 0 0 0))))] : List (T_api_Write))).length) tr))) tr))) tr) (by as_aux_lemma => kernel_rfl) rfl

theorem parrellaw14_some_tri  (r : (List (T_api_Write))) (h : parrellaw14_some  = some r) : FnTri Tryd.prog 23 [] [] (parrellaw14_some_v r) [] := FnTri.none (parrellaw14_some_ok  r h) rfl rfl

/-- (*parrel/stage.Stage).ok -/

def stage_Stage_ok_v (r : Unit) : LV := .bool true

def stage_Stage_ok_up (all : List (T_api_Tx × T_stage_prepared)) (owners : List (A8 (Int) × T_api_Tx)) (r : Unit) : Upd := [(0, some (.var [.map 1, .map 2])), (1, some (.map true [.int .u8, .int .u32, .int .u32] (encM v_T_api_Tx v_T_stage_prepared all))), (2, some (.map true [.int .u8, .int .u8, .int .u8, .int .u8, .int .u8, .int .u8, .int .u8, .int .u8] (encM (fun z_ : A8 (Int) => LV.agg [.int .u8 z_.a0, .int .u8 z_.a1, .int .u8 z_.a2, .int .u8 z_.a3, .int .u8 z_.a4, .int .u8 z_.a5, .int .u8 z_.a6, .int .u8 z_.a7]) v_T_api_Tx owners)))]

def stage_Stage_ok_objs (all : List (T_api_Tx × T_stage_prepared)) (owners : List (A8 (Int) × T_api_Tx)) : List LO := [.var [.map 1, .map 2], .map true [.int .u8, .int .u32, .int .u32] (encM v_T_api_Tx v_T_stage_prepared all), .map true [.int .u8, .int .u8, .int .u8, .int .u8, .int .u8, .int .u8, .int .u8, .int .u8] (encM (fun z_ : A8 (Int) => LV.agg [.int .u8 z_.a0, .int .u8 z_.a1, .int .u8 z_.a2, .int .u8 z_.a3, .int .u8 z_.a4, .int .u8 z_.a5, .int .u8 z_.a6, .int .u8 z_.a7]) v_T_api_Tx owners)]

def stage_Stage_ok (all : List (T_api_Tx × T_stage_prepared)) (owners : List (A8 (Int) × T_api_Tx)) : Option (Unit) :=
  some ()

theorem stage_Stage_ok_ok (all : List (T_api_Tx × T_stage_prepared)) (owners : List (A8 (Int) × T_api_Tx)) (r : Unit) (h : stage_Stage_ok all owners = some r) : ∀ σ, Inj 3 σ → FnTri Tryd.prog 24 (renL σ [.ptr 0 0 0]) (preOf σ 0 (stage_Stage_ok_objs all owners)) ((stage_Stage_ok_v r).ren σ) (upOf σ (stage_Stage_ok_up all owners r)) := by
  refine fn_of Tryd.func24 (by kernel_rfl) (by kernel_rfl) (by kernel_rfl) ⟨rfl, trivial, trivial, trivial⟩ (by kernel_rfl) ⟨rfl, trivial, trivial, trivial⟩ (by kernel_rfl) ?_
  intro w0 W μ0 hμ
  unfold stage_Stage_ok at h
  obtain rfl := Option.some.inj h
  exact run_ret mixed (L := []) (n := 15) (s := [.reg [], .reg []])
    (a_ (a_ (r1_ tr) (a_ (r2_ (r4_ (a_ (a_ (a_ tr (lt_ 0 2 rfl)) tr) (r1_ (r2_ tr))))) tr)) tr) (by as_aux_lemma => kernel_rfl) rfl

/-- parrel/ids.isCount -/

def ids_isCount_v (r : (Bool)) : LV := .bool r

def ids_isCount (x_n : Int) : Option ((Bool)) :=
  some (decide ((IntKind.wrap .u32 (x_n - 1)) < 2147483647))

theorem ids_isCount_ok (x_n : Int) (r : (Bool)) (h : ids_isCount x_n = some r) : ∀ σ, Inj 0 σ → FnTri Tryd.prog 51 (renL σ [.int .u32 x_n]) (preOf σ 0 []) ((ids_isCount_v r).ren σ) (upOf σ []) := by
  refine fn_of Tryd.func51 (by kernel_rfl) (by kernel_rfl) (by kernel_rfl) trivial (by kernel_rfl) trivial (by kernel_rfl) ?_
  intro w0 W μ0 hμ
  unfold ids_isCount at h
  obtain rfl := Option.some.inj h
  exact run_ret mixed (L := []) (n := 15) (s := [.reg [], .reg []])
    (a_ (a_ (r1_ tr) (a_ (r4_ tr) tr)) tr) (by as_aux_lemma => kernel_rfl) rfl

theorem ids_isCount_tri (x_n : Int) (r : (Bool)) (h : ids_isCount x_n = some r) : FnTri Tryd.prog 51 [.int .u32 x_n] [] (ids_isCount_v r) [] := FnTri.none (ids_isCount_ok x_n r h) rfl rfl

/-- parrel/ids.TxMay -/

def ids_TxMay_v (r : (Bool)) : LV := .bool r

def ids_TxMay (t : T_api_Tx) : Option ((Bool)) :=
  if ((decide (t.f_Node < 8)) : Bool) then
    (ids_isCount t.f_Boot).bind fun y3 =>
    if (y3 : Bool) then
      (ids_isCount t.f_Num).bind fun y6 =>
      some y6
    else
      some false
  else
    some false

theorem ids_TxMay_ok (t : T_api_Tx) (r : (Bool)) (h : ids_TxMay t = some r) : ∀ σ, Inj 0 σ → FnTri Tryd.prog 36 (renL σ [v_T_api_Tx t]) (preOf σ 0 []) ((ids_TxMay_v r).ren σ) (upOf σ []) := by
  refine fn_of Tryd.func36 (by kernel_rfl) (by kernel_rfl) (by kernel_rfl) trivial (by kernel_rfl) trivial (by kernel_rfl) ?_
  intro w0 W μ0 hμ
  unfold ids_TxMay at h
  rcases itb_some h with ⟨c1, h⟩ | ⟨c1, h⟩
  · skip
    obtain ⟨y3, e2, h⟩ := bind_some h
    rcases itb_some h with ⟨c4, h⟩ | ⟨c4, h⟩
    · skip
      obtain ⟨y6, e5, h⟩ := bind_some h
      obtain rfl := Option.some.inj h
      exact run_ret mixed (L := []) (n := 15) (s := [.reg [], .reg [(3, { v := some (.bool true) }), (6, { call := some (ids_isCount_v y3, [], []) }), (8, { v := some (.bool true) }), (11, { call := some (ids_isCount_v y6, [], []) })]])
        (a_ (a_ (r2_ tr) (a_ (r1_ (a_ (a_ (a_ tr (lt_ 0 3 rfl)) tr) (r1_ (a_ (a_ tr (a_ (leB c1) tr)) (r1_ (a_ (a_ (a_ tr (lt_ 1 3 rfl)) tr) (a_ (a_ (a_ (ids_isCount_tri t.f_Boot y3 e2) tr) tr) (r1_ (a_ (a_ tr (a_ (leB c4) tr)) (r1_ (a_ (a_ (a_ tr (lt_ 2 3 rfl)) tr) (a_ (a_ (a_ (ids_isCount_tri t.f_Num y6 e5) tr) tr) (r2_ tr))))))))))))) tr)) tr) (by as_aux_lemma => kernel_rfl) rfl
    · skip
      obtain rfl := Option.some.inj h
      exact run_ret mixed (L := []) (n := 15) (s := [.reg [], .reg [(3, { v := some (.bool true) }), (6, { call := some (ids_isCount_v y3, [], []) }), (8, { v := some (.bool false) })]])
        (a_ (a_ (r2_ tr) (a_ (r1_ (a_ (a_ (a_ tr (lt_ 0 3 rfl)) tr) (r1_ (a_ (a_ tr (a_ (leB c1) tr)) (r1_ (a_ (a_ (a_ tr (lt_ 1 3 rfl)) tr) (a_ (a_ (a_ (ids_isCount_tri t.f_Boot y3 e2) tr) tr) (r1_ (a_ (a_ tr (a_ (leB c4) tr)) (a_ tr (t2_ (r2_ tr)))))))))))) tr)) tr) (by as_aux_lemma => kernel_rfl) rfl
  · skip
    obtain rfl := Option.some.inj h
    exact run_ret mixed (L := []) (n := 15) (s := [.reg [], .reg [(3, { v := some (.bool false) })]])
      (a_ (a_ (r2_ tr) (a_ (r1_ (a_ (a_ (a_ tr (lt_ 0 3 rfl)) tr) (r1_ (a_ (a_ tr (a_ (leB c1) tr)) (a_ tr (t2_ (r2_ (a_ tr (t2_ (r2_ tr)))))))))) tr)) tr) (by as_aux_lemma => kernel_rfl) rfl

theorem ids_TxMay_tri (t : T_api_Tx) (r : (Bool)) (h : ids_TxMay t = some r) : FnTri Tryd.prog 36 [v_T_api_Tx t] [] (ids_TxMay_v r) [] := FnTri.none (ids_TxMay_ok t r h) rfl rfl

/-- parrel/ids.RegMay -/

def ids_RegMay_v (r : (Bool)) : LV := .bool r

def ids_RegMay (g : T_api_Reg) : Option ((Bool)) :=
  (ids_isCount g.f_Boot).bind fun y2 =>
  if (y2 : Bool) then
    (ids_isCount g.f_N).bind fun y5 =>
    some y5
  else
    some false

theorem ids_RegMay_ok (g : T_api_Reg) (r : (Bool)) (h : ids_RegMay g = some r) : ∀ σ, Inj 0 σ → FnTri Tryd.prog 37 (renL σ [v_T_api_Reg g]) (preOf σ 0 []) ((ids_RegMay_v r).ren σ) (upOf σ []) := by
  refine fn_of Tryd.func37 (by kernel_rfl) (by kernel_rfl) (by kernel_rfl) trivial (by kernel_rfl) trivial (by kernel_rfl) ?_
  intro w0 W μ0 hμ
  unfold ids_RegMay at h
  obtain ⟨y2, e1, h⟩ := bind_some h
  rcases itb_some h with ⟨c3, h⟩ | ⟨c3, h⟩
  · skip
    obtain ⟨y5, e4, h⟩ := bind_some h
    obtain rfl := Option.some.inj h
    exact run_ret mixed (L := []) (n := 15) (s := [.reg [], .reg [(2, { call := some (ids_isCount_v y2, [], []) }), (3, { v := some (.bool true) }), (6, { call := some (ids_isCount_v y5, [], []) })]])
      (a_ (a_ (r2_ tr) (a_ (r1_ (a_ (a_ (a_ tr (lt_ 0 2 rfl)) tr) (a_ (a_ (a_ (ids_isCount_tri g.f_Boot y2 e1) tr) tr) (a_ (a_ tr (a_ (leB c3) tr)) (r1_ (a_ (a_ (a_ tr (lt_ 1 2 rfl)) tr) (a_ (a_ (a_ (ids_isCount_tri g.f_N y5 e4) tr) tr) (r2_ tr)))))))) tr)) tr) (by as_aux_lemma => kernel_rfl) rfl
  · skip
    obtain rfl := Option.some.inj h
    exact run_ret mixed (L := []) (n := 15) (s := [.reg [], .reg [(2, { call := some (ids_isCount_v y2, [], []) }), (3, { v := some (.bool false) })]])
      (a_ (a_ (r2_ tr) (a_ (r1_ (a_ (a_ (a_ tr (lt_ 0 2 rfl)) tr) (a_ (a_ (a_ (ids_isCount_tri g.f_Boot y2 e1) tr) tr) (a_ (a_ tr (a_ (leB c3) tr)) (a_ tr (t2_ (r2_ tr))))))) tr)) tr) (by as_aux_lemma => kernel_rfl) rfl

theorem ids_RegMay_tri (g : T_api_Reg) (r : (Bool)) (h : ids_RegMay g = some r) : FnTri Tryd.prog 37 [v_T_api_Reg g] [] (ids_RegMay_v r) [] := FnTri.none (ids_RegMay_ok g r h) rfl rfl

/-- strings.trimRightByte -/

def strings_trimRightByte_v (r : (List UInt8)) : LV := .str r

def strings_trimRightByte_T0 (c : Int) (s2 : List UInt8) : List LV := [.str s2, .int .u8 c, .any, .any, .any, .any, .any, .any, .any, .any, .any, .any, .any, .any, .any, .any, .any, .any, .any, .any, .any, .any, .any]

def strings_trimRightByte_H0 (c : Int) (s2 : List UInt8) : Heap := []

def strings_trimRightByte_l0 (c : Int)  : Nat → (List UInt8) → Option ((List UInt8))
  | 0, _ => none
  | fuel + 1, s2 =>
    if ((decide (0 < ((s2).length : Int))) : Bool) then
      if 0 ≤ (IntKind.wrap .i64 (((s2).length : Int) - 1)) ∧ (IntKind.wrap .i64 (((s2).length : Int) - 1)) < (((s2).length : Nat) : Int) then
      if ((((s2.getD ((IntKind.wrap .i64 (((s2).length : Int) - 1))).toNat 0).toNat : Int) == c) : Bool) then
        if 0 ≤ (0 : Int) ∧ (0 : Int) ≤ (IntKind.wrap .i64 (((s2).length : Int) - 1)) ∧ (IntKind.wrap .i64 (((s2).length : Int) - 1)) ≤ (((s2).length : Nat) : Int) then
        strings_trimRightByte_l0 c  fuel ((s2.drop 0).take (((IntKind.wrap .i64 (((s2).length : Int) - 1))).toNat - 0))
        else none
      else
        some s2
      else none
    else
      some s2

def strings_trimRightByte (s : List UInt8) (c : Int) : Option ((List UInt8)) :=
  strings_trimRightByte_l0 c  big s

theorem strings_trimRightByte_l0_ok {w0 : World} {W : Nat → Prop} {μ0 : Emb} (hμ : ∀ c p, μ0 c = some p → c < 0) (c : Int)  : ∀ (fuel : Nat) (s2 : List UInt8) (r : (List UInt8)), strings_trimRightByte_l0 c  fuel s2 = some r → kont Tryd.prog w0 W μ0 (FnPost Tryd.prog Tryd.f86 0 0 (strings_trimRightByte_v r) []) (kAt (bodyOf Tryd.f86) 0) none (strings_trimRightByte_T0 c s2) (strings_trimRightByte_H0 c s2) := by
  intro fuel
  induction fuel with
  | zero => intro s2 r h; rw [strings_trimRightByte_l0] at h; cases h
  | succ fuel ih =>
    intro s2 r h
    rw [strings_trimRightByte_l0] at h
    rcases itb_some h with ⟨cL0_1, h⟩ | ⟨cL0_1, h⟩
    · skip
      obtain ⟨gL0_2, h⟩ := guard_some h
      rcases itb_some h with ⟨cL0_3, h⟩ | ⟨cL0_3, h⟩
      · skip
        obtain ⟨gL0_4, h⟩ := guard_some h
        exact run_to mixed hμ (L := []) (n := 20) (s := [.go, .reg [(3, { v := some (.bool true) }), (11, { v := some (.bool true) })], .reg []])
          (a_ (r1_ (r2_ (a_ (a_ tr (a_ (leB cL0_1) tr)) (r4_ (a_ (a_ gL0_2 tr) (r2_ (a_ (a_ tr (a_ (leB cL0_3) tr)) tr))))))) (a_ (r4_ (a_ (a_ gL0_4 tr) (r1_ tr))) tr)) (ih _ r h) (by as_aux_lemma => kernel_rfl) trivial
      · skip
        obtain rfl := Option.some.inj h
        exact run_ret mixed (L := []) (n := 19) (s := [.go, .reg [(3, { v := some (.bool true) }), (11, { v := some (.bool false) })], .reg []])
          (a_ (a_ (r1_ (r2_ (a_ (a_ tr (a_ (leB cL0_1) tr)) (r4_ (a_ (a_ gL0_2 tr) (r2_ (a_ (a_ tr (a_ (leB cL0_3) tr)) tr))))))) (a_ (r2_ tr) tr)) tr) (by as_aux_lemma => kernel_rfl) rfl
    · skip
      obtain rfl := Option.some.inj h
      exact run_ret mixed (L := []) (n := 19) (s := [.go, .reg [(3, { v := some (.bool false) })], .reg []])
        (a_ (a_ (r1_ (r2_ (a_ (a_ tr (a_ (leB cL0_1) tr)) (a_ tr (t2_ (t4_ (r1_ tr))))))) (a_ (r2_ tr) tr)) tr) (by as_aux_lemma => kernel_rfl) rfl

theorem strings_trimRightByte_ok (s : List UInt8) (c : Int) (r : (List UInt8)) (h : strings_trimRightByte s c = some r) : ∀ σ, Inj 0 σ → FnTri Tryd.prog 86 (renL σ [.str s, .int .u8 c]) (preOf σ 0 []) ((strings_trimRightByte_v r).ren σ) (upOf σ []) := by
  refine fn_of Tryd.func86 (by kernel_rfl) (by kernel_rfl) (by kernel_rfl) trivial (by kernel_rfl) trivial (by kernel_rfl) ?_
  intro w0 W μ0 hμ
  unfold strings_trimRightByte at h
  exact run_to mixed hμ (L := []) (n := 15) (s := [.reg []])
    (a_ (r1_ tr) tr) (strings_trimRightByte_l0_ok hμ c  big _ r h) (by as_aux_lemma => kernel_rfl) trivial

theorem strings_trimRightByte_tri (s : List UInt8) (c : Int) (r : (List UInt8)) (h : strings_trimRightByte s c = some r) : FnTri Tryd.prog 86 [.str s, .int .u8 c] [] (strings_trimRightByte_v r) [] := FnTri.none (strings_trimRightByte_ok s c r h) rfl rfl

/-- strings.TrimRight -/

def strings_TrimRight_v (r : (List UInt8)) : LV := .str r

def strings_TrimRight (s : List UInt8) : Option ((List UInt8)) :=
  if ((s == []) : Bool) then
    some s
  else
    (strings_trimRightByte s 0).bind fun y3 =>
    some y3

theorem strings_TrimRight_ok (s : List UInt8) (r : (List UInt8)) (h : strings_TrimRight s = some r) : ∀ σ, Inj 0 σ → FnTri Tryd.prog 76 (renL σ [.str s, .str ([0] : List UInt8)]) (preOf σ 0 []) ((strings_TrimRight_v r).ren σ) (upOf σ []) := by
  refine fn_of Tryd.func76 (by kernel_rfl) (by kernel_rfl) (by kernel_rfl) trivial (by kernel_rfl) trivial (by kernel_rfl) ?_
  intro w0 W μ0 hμ
  unfold strings_TrimRight at h
  rcases itb_some h with ⟨c1, h⟩ | ⟨c1, h⟩
  · skip
    obtain rfl := Option.some.inj h
    exact run_ret mixed (L := []) (n := 20) (s := [.reg [], .reg [(2, { v := some (.bool true) })], .reg []])
      (a_ (a_ (r1_ tr) (a_ (r2_ (a_ (a_ tr (a_ (leB c1) tr)) (t2_ (r1_ tr)))) (a_ (r2_ tr) tr))) tr) (by as_aux_lemma => kernel_rfl) rfl
  · skip
    obtain ⟨y3, e2, h⟩ := bind_some h
    obtain rfl := Option.some.inj h
    exact run_ret mixed (L := []) (n := 26) (s := [.reg [], .reg [(2, { v := some (.bool false) })], .reg [], .reg [(3, { call := some (strings_trimRightByte_v y3, [], []) })]])
      (a_ (a_ (r1_ tr) (a_ (r2_ (a_ (a_ tr (a_ (leB c1) tr)) (r1_ (r2_ tr)))) (a_ (r1_ (r4_ (a_ (a_ (a_ (lei_ 0 0 rfl) (lti_ 0 1 rfl)) tr) (r2_ tr)))) (a_ (r2_ (a_ (a_ (a_ (lei_ 0 0 rfl) (lti_ 0 1 rfl)) tr) (a_ (a_ (a_ (strings_trimRightByte_tri s 0 y3 e2) tr) tr) (r1_ tr)))) tr)))) tr) (by as_aux_lemma => kernel_rfl) rfl

theorem strings_TrimRight_tri (s : List UInt8) (r : (List UInt8)) (h : strings_TrimRight s = some r) : FnTri Tryd.prog 76 [.str s, .str ([0] : List UInt8)] [] (strings_TrimRight_v r) [] := FnTri.none (strings_TrimRight_ok s r h) rfl rfl

/-- internal/stringslite.IndexByte -/

def internal_stringslite_IndexByte_v (r : (Int)) : LV := .int .i64 r

def internal_stringslite_IndexByte (s : List UInt8) (c : Int) : Option ((Int)) :=
  some (Lib.indexByte s (c).toNat.toUInt8)

theorem internal_stringslite_IndexByte_ok (s : List UInt8) (c : Int) (r : (Int)) (h : internal_stringslite_IndexByte s c = some r) : ∀ σ, Inj 0 σ → FnTri Tryd.prog 96 (renL σ [.str s, .int .u8 c]) (preOf σ 0 []) ((internal_stringslite_IndexByte_v r).ren σ) (upOf σ []) := by
  refine fn_of Tryd.func96 (by kernel_rfl) (by kernel_rfl) (by kernel_rfl) trivial (by kernel_rfl) trivial (by kernel_rfl) ?_
  intro w0 W μ0 hμ
  unfold internal_stringslite_IndexByte at h
  obtain rfl := Option.some.inj h
  exact run_ret mixed (L := []) (n := 15) (s := [.reg [], .reg [(2, { ext := some (.int .i64 (Lib.indexByte s (c).toNat.toUInt8)) })]])
    (a_ (a_ (r1_ tr) (a_ (r2_ (a_ (a_ (ext100 s c) tr) (r1_ tr))) tr)) tr) (by as_aux_lemma => kernel_rfl) rfl

theorem internal_stringslite_IndexByte_tri (s : List UInt8) (c : Int) (r : (Int)) (h : internal_stringslite_IndexByte s c = some r) : FnTri Tryd.prog 96 [.str s, .int .u8 c] [] (internal_stringslite_IndexByte_v r) [] := FnTri.none (internal_stringslite_IndexByte_ok s c r h) rfl rfl

/-- strings.IndexByte -/

def strings_IndexByte_v (r : (Int)) : LV := .int .i64 r

def strings_IndexByte (s : List UInt8) (c : Int) : Option ((Int)) :=
  (internal_stringslite_IndexByte s c).bind fun y2 =>
  some y2

theorem strings_IndexByte_ok (s : List UInt8) (c : Int) (r : (Int)) (h : strings_IndexByte s c = some r) : ∀ σ, Inj 0 σ → FnTri Tryd.prog 90 (renL σ [.str s, .int .u8 c]) (preOf σ 0 []) ((strings_IndexByte_v r).ren σ) (upOf σ []) := by
  refine fn_of Tryd.func90 (by kernel_rfl) (by kernel_rfl) (by kernel_rfl) trivial (by kernel_rfl) trivial (by kernel_rfl) ?_
  intro w0 W μ0 hμ
  unfold strings_IndexByte at h
  obtain ⟨y2, e1, h⟩ := bind_some h
  obtain rfl := Option.some.inj h
  exact run_ret mixed (L := []) (n := 15) (s := [.reg [], .reg [(2, { call := some (internal_stringslite_IndexByte_v y2, [], []) })]])
    (a_ (a_ (r1_ tr) (a_ (r2_ (a_ (a_ (a_ (internal_stringslite_IndexByte_tri s c y2 e1) tr) tr) (r1_ tr))) tr)) tr) (by as_aux_lemma => kernel_rfl) rfl

theorem strings_IndexByte_tri (s : List UInt8) (c : Int) (r : (Int)) (h : strings_IndexByte s c = some r) : FnTri Tryd.prog 90 [.str s, .int .u8 c] [] (strings_IndexByte_v r) [] := FnTri.none (strings_IndexByte_ok s c r h) rfl rfl

/-- parrel/ids.KeyOf -/

def ids_KeyOf_v (r : (A8 (Int)) × (Int)) : LV := .tup [.agg [.int .u8 r.1.a0, .int .u8 r.1.a1, .int .u8 r.1.a2, .int .u8 r.1.a3, .int .u8 r.1.a4, .int .u8 r.1.a5, .int .u8 r.1.a6, .int .u8 r.1.a7], .int .i64 r.2]

def ids_KeyOf (s : List UInt8) : Option ((A8 (Int)) × (Int)) :=
  if ((s == []) : Bool) then
    some ((A8.mk 0 0 0 0 0 0 0 0), 1)
  else
    if ((decide (8 < ((s).length : Int))) : Bool) then
      some ((A8.mk 0 0 0 0 0 0 0 0), 1)
    else
      (strings_IndexByte s 0).bind fun y4 =>
      if ((decide (0 ≤ y4)) : Bool) then
        some ((A8.mk 0 0 0 0 0 0 0 0), 1)
      else
        some ((A8.mk (if 0 < (s).length then ((s.getD 0 0).toNat : Int) else 0) (if 1 < (s).length then ((s.getD 1 0).toNat : Int) else 0) (if 2 < (s).length then ((s.getD 2 0).toNat : Int) else 0) (if 3 < (s).length then ((s.getD 3 0).toNat : Int) else 0) (if 4 < (s).length then ((s.getD 4 0).toNat : Int) else 0) (if 5 < (s).length then ((s.getD 5 0).toNat : Int) else 0) (if 6 < (s).length then ((s.getD 6 0).toNat : Int) else 0) (if 7 < (s).length then ((s.getD 7 0).toNat : Int) else 0)), 0)

theorem ids_KeyOf_ok (s : List UInt8) (r : (A8 (Int)) × (Int)) (h : ids_KeyOf s = some r) : ∀ σ, Inj 0 σ → FnTri Tryd.prog 77 (renL σ [.str s]) (preOf σ 0 []) ((ids_KeyOf_v r).ren σ) (upOf σ []) := by
  refine fn_of Tryd.func77 (by kernel_rfl) (by kernel_rfl) (by kernel_rfl) trivial (by kernel_rfl) trivial (by kernel_rfl) ?_
  intro w0 W μ0 hμ
  unfold ids_KeyOf at h
  rcases itb_some h with ⟨c1, h⟩ | ⟨c1, h⟩
  · skip
    obtain rfl := Option.some.inj h
    exact run_ret mixed (L := []) (n := 23) (s := [.reg [], .reg [], .reg [(2, { v := some (.bool true) })], .reg []])
      (a_ (a_ (r2_ tr) (a_ (r1_ tr) (a_ (r2_ (a_ (a_ tr (a_ (leB c1) tr)) (a_ tr (t2_ (r2_ (a_ tr (t2_ (r1_ tr)))))))) (a_ (a_ (a_ (a_ tr (le_ 8 8 rfl)) tr) (a_ (a_ (a_ (Eq.refl 8) (a_ (le_ 8 8 rfl) (Eq.refl 0))) tr) (r1_ tr))) tr)))) (a_ (a_ tr (le_ 8 8 rfl)) tr)) (by as_aux_lemma => kernel_rfl) rfl
  · skip
    rcases itb_some h with ⟨c2, h⟩ | ⟨c2, h⟩
    · skip
      obtain rfl := Option.some.inj h
      exact run_ret mixed (L := []) (n := 23) (s := [.reg [], .reg [], .reg [(2, { v := some (.bool false) }), (7, { v := some (.bool true) })], .reg []])
        (a_ (a_ (r2_ tr) (a_ (r1_ tr) (a_ (r2_ (a_ (a_ tr (a_ (leB c1) tr)) (r4_ (a_ (a_ tr (a_ (leB c2) tr)) (a_ tr (t2_ (r1_ tr))))))) (a_ (a_ (a_ (a_ tr (le_ 8 8 rfl)) tr) (a_ (a_ (a_ (Eq.refl 8) (a_ (le_ 8 8 rfl) (Eq.refl 0))) tr) (r1_ tr))) tr)))) (a_ (a_ tr (le_ 8 8 rfl)) tr)) (by as_aux_lemma => kernel_rfl) rfl
    · skip
      obtain ⟨y4, e3, h⟩ := bind_some h
      rcases itb_some h with ⟨c5, h⟩ | ⟨c5, h⟩
      · skip
        obtain rfl := Option.some.inj h
        exact run_ret mixed (L := []) (n := 23) (s := [.reg [], .reg [], .reg [(2, { v := some (.bool false) }), (7, { v := some (.bool false) }), (9, { call := some (strings_IndexByte_v y4, [], []) }), (11, { v := some (.bool true) })], .reg []])
          (a_ (a_ (r2_ tr) (a_ (r1_ tr) (a_ (r2_ (a_ (a_ tr (a_ (leB c1) tr)) (r4_ (a_ (a_ tr (a_ (leB c2) tr)) (r1_ (a_ (a_ (a_ (strings_IndexByte_tri s 0 y4 e3) tr) tr) (r1_ (a_ (a_ tr (a_ (leB c5) tr)) tr)))))))) (a_ (a_ (a_ (a_ tr (le_ 8 8 rfl)) tr) (a_ (a_ (a_ (Eq.refl 8) (a_ (le_ 8 8 rfl) (Eq.refl 0))) tr) (r1_ tr))) tr)))) (a_ (a_ tr (le_ 8 8 rfl)) tr)) (by as_aux_lemma => kernel_rfl) rfl
      · skip
        obtain rfl := Option.some.inj h
        exact run_ret mixed (L := []) (n := 27) (s := [.reg [], .reg [], .reg [(2, { v := some (.bool false) }), (7, { v := some (.bool false) }), (9, { call := some (strings_IndexByte_v y4, [], []) }), (11, { v := some (.bool false) })], .reg [], .reg []])
          (a_ (a_ (r2_ tr) (a_ (r1_ tr) (a_ (r2_ (a_ (a_ tr (a_ (leB c1) tr)) (r4_ (a_ (a_ tr (a_ (leB c2) tr)) (r1_ (a_ (a_ (a_ (strings_IndexByte_tri s 0 y4 e3) tr) tr) (r1_ (a_ (a_ tr (a_ (leB c5) tr)) tr)))))))) (a_ (a_ (a_ (a_ (lei_ 0 0 rfl) (a_ (lei_ 0 8 rfl) (lei_ 8 8 rfl))) tr) (r1_ (a_ (a_ (a_ (Eq.refl 1) (a_ (Eq.refl 0) (a_ (le_ 8 8 rfl) (Eq.refl true)))) tr) tr))) (a_ (a_ (a_ (a_ tr (le_ 8 8 rfl)) tr) (a_ (a_ (a_ (Eq.refl 8) (a_ (le_ 8 8 rfl) (Eq.refl 0))) tr) (r1_ tr))) tr))))) (a_ (a_ tr (le_ 8 8 rfl)) tr)) (by as_aux_lemma => kernel_rfl) rfl

theorem ids_KeyOf_tri (s : List UInt8) (r : (A8 (Int)) × (Int)) (h : ids_KeyOf s = some r) : FnTri Tryd.prog 77 [.str s] [] (ids_KeyOf_v r) [] := FnTri.none (ids_KeyOf_ok s r h) rfl rfl

/-- parrel/ids.Name -/

def ids_Name_v (r : (List UInt8) × (Bool)) : LV := .tup [.str r.1, .bool r.2]

def ids_Name (x_k : A8 (Int)) : Option ((List UInt8) × (Bool)) :=
  (strings_TrimRight (strI (([x_k.a0, x_k.a1, x_k.a2, x_k.a3, x_k.a4, x_k.a5, x_k.a6, x_k.a7] : List Int).take 8))).bind fun y2 =>
  (ids_KeyOf y2).bind fun y4 =>
  if ((y4.2 != 0) : Bool) then
    some ([], false)
  else
    if ((!decide (y4.1 = x_k)) : Bool) then
      some ([], false)
    else
      some (y2, true)

theorem ids_Name_ok (x_k : A8 (Int)) (r : (List UInt8) × (Bool)) (h : ids_Name x_k = some r) : ∀ σ, Inj 0 σ → FnTri Tryd.prog 62 (renL σ [.agg [.int .u8 x_k.a0, .int .u8 x_k.a1, .int .u8 x_k.a2, .int .u8 x_k.a3, .int .u8 x_k.a4, .int .u8 x_k.a5, .int .u8 x_k.a6, .int .u8 x_k.a7]]) (preOf σ 0 []) ((ids_Name_v r).ren σ) (upOf σ []) := by
  refine fn_of Tryd.func62 (by kernel_rfl) (by kernel_rfl) (by kernel_rfl) trivial (by kernel_rfl) trivial (by kernel_rfl) ?_
  intro w0 W μ0 hμ
  unfold ids_Name at h
  obtain ⟨y2, e1, h⟩ := bind_some h
  obtain ⟨y4, e3, h⟩ := bind_some h
  rcases itb_some h with ⟨c5, h⟩ | ⟨c5, h⟩
  · skip
    obtain rfl := Option.some.inj h
    exact run_ret mixed (L := []) (n := 26) (s := [.reg [], .reg [(1, { v := some (.str (strI (([x_k.a0, x_k.a1, x_k.a2, x_k.a3, x_k.a4, x_k.a5, x_k.a6, x_k.a7] : List Int).take 8))) }), (2, { call := some (strings_TrimRight_v y2, [], []) })], .reg [(1, { call := some (ids_KeyOf_v y4, [], []) })], .reg [(2, { v := some (.bool true) })], .reg []])
      (a_ (a_ (r1_ (r2_ tr)) (a_ (a_ (a_ (a_ (lei_ 0 0 rfl) (a_ (lei_ 0 8 rfl) (lei_ 8 8 rfl))) tr) (a_ (a_ (arr_ob [x_k.a0, x_k.a1, x_k.a2, x_k.a3, x_k.a4, x_k.a5, x_k.a6, x_k.a7] 8 8 (le_ 8 8 rfl) rfl) (a_ (le_arr [x_k.a0, x_k.a1, x_k.a2, x_k.a3, x_k.a4, x_k.a5, x_k.a6, x_k.a7] 8 8 (le_ 8 8 rfl) rfl) tr)) (a_ (a_ (a_ (strings_TrimRight_tri (strI (([x_k.a0, x_k.a1, x_k.a2, x_k.a3, x_k.a4, x_k.a5, x_k.a6, x_k.a7] : List Int).take 8)) y2 e1) tr) tr) (r1_ tr)))) (a_ (r1_ (a_ (a_ (a_ (ids_KeyOf_tri y2 y4 e3) tr) tr) (r4_ (a_ (a_ (a_ (Eq.refl 8) (a_ (le_ 8 8 rfl) (Eq.refl 0))) tr) (r1_ tr))))) (a_ (r2_ (a_ (a_ tr (a_ (leB c5) tr)) (a_ tr (t2_ (r1_ tr))))) (a_ (r2_ tr) tr))))) tr) (by as_aux_lemma => kernel_rfl) rfl
  · skip
    rcases itb_some h with ⟨c6, h⟩ | ⟨c6, h⟩
    · skip
      obtain rfl := Option.some.inj h
      exact run_ret mixed (L := []) (n := 26) (s := [.reg [], .reg [(1, { v := some (.str (strI (([x_k.a0, x_k.a1, x_k.a2, x_k.a3, x_k.a4, x_k.a5, x_k.a6, x_k.a7] : List Int).take 8))) }), (2, { call := some (strings_TrimRight_v y2, [], []) })], .reg [(1, { call := some (ids_KeyOf_v y4, [], []) })], .reg [(2, { v := some (.bool false) }), (5, { v := some (.bool (!decide (y4.1 = x_k))) }), (6, { v := some (.bool true) })], .reg []])
        (a_ (a_ (r1_ (r2_ tr)) (a_ (a_ (a_ (a_ (lei_ 0 0 rfl) (a_ (lei_ 0 8 rfl) (lei_ 8 8 rfl))) tr) (a_ (a_ (arr_ob [x_k.a0, x_k.a1, x_k.a2, x_k.a3, x_k.a4, x_k.a5, x_k.a6, x_k.a7] 8 8 (le_ 8 8 rfl) rfl) (a_ (le_arr [x_k.a0, x_k.a1, x_k.a2, x_k.a3, x_k.a4, x_k.a5, x_k.a6, x_k.a7] 8 8 (le_ 8 8 rfl) rfl) tr)) (a_ (a_ (a_ (strings_TrimRight_tri (strI (([x_k.a0, x_k.a1, x_k.a2, x_k.a3, x_k.a4, x_k.a5, x_k.a6, x_k.a7] : List Int).take 8)) y2 e1) tr) tr) (r1_ tr)))) (a_ (r1_ (a_ (a_ (a_ (ids_KeyOf_tri y2 y4 e3) tr) tr) (r4_ (a_ (a_ (a_ (Eq.refl 8) (a_ (le_ 8 8 rfl) (Eq.refl 0))) tr) (r1_ tr))))) (a_ (r2_ (a_ (a_ tr (a_ (leB c5) tr)) (a_ (a_ (a_ tr (le_ 8 8 rfl)) tr) (a_ (a_ (a_ tr (le_ 8 8 rfl)) tr) (a_ (a_ tr (a_ (leB (congrArg not ((k_arr8 .u8) y4.1 x_k))) tr)) (a_ (a_ tr (a_ (leB c6) tr)) tr)))))) (a_ (r2_ tr) tr))))) tr) (by as_aux_lemma => kernel_rfl) rfl
    · skip
      obtain rfl := Option.some.inj h
      exact run_ret mixed (L := []) (n := 27) (s := [.reg [], .reg [(1, { v := some (.str (strI (([x_k.a0, x_k.a1, x_k.a2, x_k.a3, x_k.a4, x_k.a5, x_k.a6, x_k.a7] : List Int).take 8))) }), (2, { call := some (strings_TrimRight_v y2, [], []) })], .reg [(1, { call := some (ids_KeyOf_v y4, [], []) })], .reg [(2, { v := some (.bool false) }), (5, { v := some (.bool (!decide (y4.1 = x_k))) }), (6, { v := some (.bool false) })], .reg []])
        (a_ (a_ (r1_ (r2_ tr)) (a_ (a_ (a_ (a_ (lei_ 0 0 rfl) (a_ (lei_ 0 8 rfl) (lei_ 8 8 rfl))) tr) (a_ (a_ (arr_ob [x_k.a0, x_k.a1, x_k.a2, x_k.a3, x_k.a4, x_k.a5, x_k.a6, x_k.a7] 8 8 (le_ 8 8 rfl) rfl) (a_ (le_arr [x_k.a0, x_k.a1, x_k.a2, x_k.a3, x_k.a4, x_k.a5, x_k.a6, x_k.a7] 8 8 (le_ 8 8 rfl) rfl) tr)) (a_ (a_ (a_ (strings_TrimRight_tri (strI (([x_k.a0, x_k.a1, x_k.a2, x_k.a3, x_k.a4, x_k.a5, x_k.a6, x_k.a7] : List Int).take 8)) y2 e1) tr) tr) (r1_ tr)))) (a_ (r1_ (a_ (a_ (a_ (ids_KeyOf_tri y2 y4 e3) tr) tr) (r4_ (a_ (a_ (a_ (Eq.refl 8) (a_ (le_ 8 8 rfl) (Eq.refl 0))) tr) (r1_ tr))))) (a_ (r2_ (a_ (a_ tr (a_ (leB c5) tr)) (a_ (a_ (a_ tr (le_ 8 8 rfl)) tr) (a_ (a_ (a_ tr (le_ 8 8 rfl)) tr) (a_ (a_ tr (a_ (leB (congrArg not ((k_arr8 .u8) y4.1 x_k))) tr)) (a_ (a_ tr (a_ (leB c6) tr)) tr)))))) (a_ (r1_ (r2_ tr)) tr))))) tr) (by as_aux_lemma => kernel_rfl) rfl

theorem ids_Name_tri (x_k : A8 (Int)) (r : (List UInt8) × (Bool)) (h : ids_Name x_k = some r) : FnTri Tryd.prog 62 [.agg [.int .u8 x_k.a0, .int .u8 x_k.a1, .int .u8 x_k.a2, .int .u8 x_k.a3, .int .u8 x_k.a4, .int .u8 x_k.a5, .int .u8 x_k.a6, .int .u8 x_k.a7]] [] (ids_Name_v r) [] := FnTri.none (ids_Name_ok x_k r h) rfl rfl

/-- parrel/msg.keyMay -/

def msg_keyMay_v (r : (Bool)) : LV := .bool r

def msg_keyMay (x_k : A8 (Int)) : Option ((Bool)) :=
  (ids_Name x_k).bind fun y2 =>
  some y2.2

theorem msg_keyMay_ok (x_k : A8 (Int)) (r : (Bool)) (h : msg_keyMay x_k = some r) : ∀ σ, Inj 0 σ → FnTri Tryd.prog 52 (renL σ [.agg [.int .u8 x_k.a0, .int .u8 x_k.a1, .int .u8 x_k.a2, .int .u8 x_k.a3, .int .u8 x_k.a4, .int .u8 x_k.a5, .int .u8 x_k.a6, .int .u8 x_k.a7]]) (preOf σ 0 []) ((msg_keyMay_v r).ren σ) (upOf σ []) := by
  refine fn_of Tryd.func52 (by kernel_rfl) (by kernel_rfl) (by kernel_rfl) trivial (by kernel_rfl) trivial (by kernel_rfl) ?_
  intro w0 W μ0 hμ
  unfold msg_keyMay at h
  obtain ⟨y2, e1, h⟩ := bind_some h
  obtain rfl := Option.some.inj h
  exact run_ret mixed (L := []) (n := 18) (s := [.reg [], .reg [(1, { call := some (ids_Name_v y2, [], []) })], .reg []])
    (a_ (a_ (r2_ tr) (a_ (a_ (a_ (a_ tr (le_ 8 8 rfl)) tr) (a_ (a_ (a_ (ids_Name_tri x_k y2 e1) tr) tr) (r1_ (r4_ tr)))) (a_ (r2_ tr) tr))) tr) (by as_aux_lemma => kernel_rfl) rfl

theorem msg_keyMay_tri (x_k : A8 (Int)) (r : (Bool)) (h : msg_keyMay x_k = some r) : FnTri Tryd.prog 52 [.agg [.int .u8 x_k.a0, .int .u8 x_k.a1, .int .u8 x_k.a2, .int .u8 x_k.a3, .int .u8 x_k.a4, .int .u8 x_k.a5, .int .u8 x_k.a6, .int .u8 x_k.a7]] [] (msg_keyMay_v r) [] := FnTri.none (msg_keyMay_ok x_k r h) rfl rfl

/-- parrel/votes.Of -/

def votes_Of_v (r : (Int)) : LV := .int .i64 r

def votes_Of_T0 (c : T_api_Config) (set : Int) (x_n : Int) (t10 : Int) : List LV := [.any, .int .u64 set, .any, .any, .any, .int .i64 x_n, .any, .any, .any, .agg [.int .u8 c.f_Votes.a0, .int .u8 c.f_Votes.a1, .int .u8 c.f_Votes.a2, .int .u8 c.f_Votes.a3, .int .u8 c.f_Votes.a4, .int .u8 c.f_Votes.a5, .int .u8 c.f_Votes.a6, .int .u8 c.f_Votes.a7], .int .i64 t10, .any, .any, .any, .any, .any, .any, .any, .any, .any, .any, .any, .any, .any, .any, .any]

def votes_Of_H0 (c : T_api_Config) (set : Int) (x_n : Int) (t10 : Int) : Heap := []

def votes_Of_l0 (c : T_api_Config) (set : Int)  : Nat → (Int) → (Int) → Option ((Int))
  | 0, _, _ => none
  | fuel + 1, x_n, t10 =>
    if ((decide (t10 < 8)) : Bool) then
      if 0 ≤ t10 ∧ t10 < 8 then
      if 0 ≤ t10 then
      votes_Of_l0 c set  fuel (IntKind.wrap .i64 (x_n + (IntKind.wrap .i64 ((IntKind.wrap .i64 (A8.get c.f_Votes t10.toNat)) * (IntKind.wrap .i64 (IntKind.wrap .u64 ((BitVec.ofInt (IntKind.bits .u64) (Int.fdiv set (2 ^ (min (Int.toNat t10) (IntKind.bits .u64)))) &&& BitVec.ofInt (IntKind.bits .u64) 1).toNat : Int))))))) (IntKind.wrap .i64 (t10 + 1))
      else none
      else none
    else
      some x_n

def votes_Of (c : T_api_Config) (set : Int) : Option ((Int)) :=
  votes_Of_l0 c set  big 0 0

theorem votes_Of_l0_ok {w0 : World} {W : Nat → Prop} {μ0 : Emb} (hμ : ∀ c p, μ0 c = some p → c < 0) (c : T_api_Config) (set : Int)  : ∀ (fuel : Nat) (x_n : Int) (t10 : Int) (r : (Int)), votes_Of_l0 c set  fuel x_n t10 = some r → kont Tryd.prog w0 W μ0 (FnPost Tryd.prog Tryd.f91 0 0 (votes_Of_v r) []) (kAt (bodyOf Tryd.f91) 0) none (votes_Of_T0 c set x_n t10) (votes_Of_H0 c set x_n t10) := by
  intro fuel
  induction fuel with
  | zero => intro x_n t10 r h; rw [votes_Of_l0] at h; cases h
  | succ fuel ih =>
    intro x_n t10 r h
    rw [votes_Of_l0] at h
    rcases itb_some h with ⟨cL0_1, h⟩ | ⟨cL0_1, h⟩
    · skip
      obtain ⟨gL0_2, h⟩ := guard_some h
      obtain ⟨gL0_3, h⟩ := guard_some h
      exact run_to mixed hμ (L := []) (n := 26) (s := [.go, .reg [(0, { v := some (.bool true) })], .reg [(1, { v := some (.int .u8 (A8.get c.f_Votes t10.toNat)) })], .reg [], .reg []])
        (a_ (a_ (a_ tr (a_ (leB cL0_1) tr)) tr) (a_ (r1_ (a_ (a_ (a_ gL0_2 (ix8lt gL0_2 1 8 rfl rfl)) (a_ (ix8s (cInt .u8) 1 (fun _ => rfl) c.f_Votes t10.toNat (lt8N gL0_2) (le_ 1 1 rfl)) tr)) (r2_ tr))) (a_ (r1_ (r4_ (a_ (a_ gL0_3 tr) (r1_ (r4_ tr))))) (a_ (r2_ tr) tr)))) (ih _ _ r h) (by as_aux_lemma => kernel_rfl) trivial
    · skip
      obtain rfl := Option.some.inj h
      exact run_ret mixed (L := []) (n := 19) (s := [.go, .reg [(0, { v := some (.bool false) })], .reg []])
        (a_ (a_ (a_ (a_ tr (a_ (leB cL0_1) tr)) tr) (a_ (r2_ tr) tr)) tr) (by as_aux_lemma => kernel_rfl) rfl

theorem votes_Of_ok (c : T_api_Config) (set : Int) (r : (Int)) (h : votes_Of c set = some r) : ∀ σ, Inj 0 σ → FnTri Tryd.prog 91 (renL σ [v_T_api_Config c, .int .u64 set]) (preOf σ 0 []) ((votes_Of_v r).ren σ) (upOf σ []) := by
  refine fn_of Tryd.func91 (by kernel_rfl) (by kernel_rfl) (by kernel_rfl) trivial (by kernel_rfl) trivial (by kernel_rfl) ?_
  intro w0 W μ0 hμ
  unfold votes_Of at h
  exact run_to mixed hμ (L := []) (n := 21) (s := [.reg [], .reg [], .reg []])
    (a_ (r2_ tr) (a_ (r1_ tr) (a_ (r1_ (a_ (a_ (a_ tr (le_ 11 11 rfl)) tr) (r1_ tr))) tr))) (votes_Of_l0_ok hμ c set  big _ _ r h) (by as_aux_lemma => kernel_rfl) trivial

theorem votes_Of_tri (c : T_api_Config) (set : Int) (r : (Int)) (h : votes_Of c set = some r) : FnTri Tryd.prog 91 [v_T_api_Config c, .int .u64 set] [] (votes_Of_v r) [] := FnTri.none (votes_Of_ok c set r h) rfl rfl

/-- parrel/votes.Total -/

def votes_Total_v (r : (Int)) : LV := .int .i64 r

def votes_Total (c : T_api_Config) : Option ((Int)) :=
  (votes_Of c 255).bind fun y2 =>
  some y2

theorem votes_Total_ok (c : T_api_Config) (r : (Int)) (h : votes_Total c = some r) : ∀ σ, Inj 0 σ → FnTri Tryd.prog 78 (renL σ [v_T_api_Config c]) (preOf σ 0 []) ((votes_Total_v r).ren σ) (upOf σ []) := by
  refine fn_of Tryd.func78 (by kernel_rfl) (by kernel_rfl) (by kernel_rfl) trivial (by kernel_rfl) trivial (by kernel_rfl) ?_
  intro w0 W μ0 hμ
  unfold votes_Total at h
  obtain ⟨y2, e1, h⟩ := bind_some h
  obtain rfl := Option.some.inj h
  exact run_ret mixed (L := []) (n := 15) (s := [.reg [], .reg [(1, { call := some (votes_Of_v y2, [], []) })]])
    (a_ (a_ (r2_ tr) (a_ (a_ (a_ (a_ tr (le_ 11 11 rfl)) tr) (a_ (a_ (a_ (votes_Of_tri c 255 y2 e1) tr) tr) (r1_ tr))) tr)) tr) (by as_aux_lemma => kernel_rfl) rfl

theorem votes_Total_tri (c : T_api_Config) (r : (Int)) (h : votes_Total c = some r) : FnTri Tryd.prog 78 [v_T_api_Config c] [] (votes_Total_v r) [] := FnTri.none (votes_Total_ok c r h) rfl rfl

/-- slices.Max[[]uint8,uint8] -/

def slices_Max_uint8_uint8_v (r : (Int)) : LV := .int .u8 r

def slices_Max_uint8_uint8_up (x : T_api_Config) (r : (Int)) : Upd := [(0, some (.var (c_T_api_Config x)))]

def slices_Max_uint8_uint8_objs (x : T_api_Config) : List LO := [.var (c_T_api_Config x)]

def slices_Max_uint8_uint8_T0 (x : T_api_Config) (m : Int) (i : Int) : List LV := [.sl 0 0 3 true 8 (some 8), .any, .any, .int .u8 m, .int .i64 i, .any, .any, .any, .any, .any, .any, .any, .any, .any, .any, .any, .any, .any, .any, .any, .any, .any, .any, .any, .any]

def slices_Max_uint8_uint8_H0 (x : T_api_Config) (m : Int) (i : Int) : Heap := [some (.var (c_T_api_Config x))]

def slices_Max_uint8_uint8_l0 (x : T_api_Config)  : Nat → (Int) → (Int) → Option ((Int))
  | 0, _, _ => none
  | fuel + 1, m, i =>
    if ((decide (i < 8)) : Bool) then
      if 0 ≤ i ∧ i < 8 then
      slices_Max_uint8_uint8_l0 x  fuel (if (A8.get x.f_Votes i.toNat) > m then (A8.get x.f_Votes i.toNat) else m) (IntKind.wrap .i64 (i + 1))
      else none
    else
      some m

def slices_Max_uint8_uint8 (x : T_api_Config) : Option ((Int)) :=
  slices_Max_uint8_uint8_l0 x  big x.f_Votes.a0 1

theorem slices_Max_uint8_uint8_l0_ok {w0 : World} {W : Nat → Prop} {μ0 : Emb} (hμ : ∀ c p, μ0 c = some p → c < 1) (x : T_api_Config)  : ∀ (fuel : Nat) (m : Int) (i : Int) (r : (Int)), slices_Max_uint8_uint8_l0 x  fuel m i = some r → kont Tryd.prog w0 W μ0 (FnPost Tryd.prog Tryd.f80 1 1 (slices_Max_uint8_uint8_v r) (slices_Max_uint8_uint8_up x r)) (kAt (bodyOf Tryd.f80) 0) none (slices_Max_uint8_uint8_T0 x m i) (slices_Max_uint8_uint8_H0 x m i) := by
  intro fuel
  induction fuel with
  | zero => intro m i r h; rw [slices_Max_uint8_uint8_l0] at h; cases h
  | succ fuel ih =>
    intro m i r h
    rw [slices_Max_uint8_uint8_l0] at h
    rcases itb_some h with ⟨cL0_1, h⟩ | ⟨cL0_1, h⟩
    · skip
      obtain ⟨gL0_2, h⟩ := guard_some h
      exact run_to mixed hμ (L := []) (n := 23) (s := [.go, .reg [(3, { v := some (.bool true) })], .reg [(4, { v := some (.int .u8 (A8.get x.f_Votes i.toNat)) })], .reg []])
        (a_ (r1_ (r2_ (a_ (a_ tr (a_ (leB cL0_1) tr)) tr))) (a_ (r1_ (r2_ (a_ (a_ gL0_2 tr) (a_ (a_ (a_ tr (arrLt (len := 8) gL0_2 3 1 11 rfl rfl)) (a_ (ld8s (cInt .u8) 1 (fun _ => rfl) x.f_Votes [.int .u32 x.f_Epoch, .int .u8 x.f_R, .int .u8 x.f_W] [] 3 rfl i.toNat (lt8N gL0_2) (le_ (0 + 1) 1 rfl)) tr)) (r2_ tr))))) (a_ (r1_ (r2_ tr)) tr))) (ih _ _ r h) (by as_aux_lemma => kernel_rfl) ⟨rfl, trivial⟩
    · skip
      obtain rfl := Option.some.inj h
      exact run_ret mixed (L := []) (n := 19) (s := [.go, .reg [(3, { v := some (.bool false) })], .reg []])
        (a_ (a_ (r1_ (r2_ (a_ (a_ tr (a_ (leB cL0_1) tr)) tr))) (a_ (r2_ tr) tr)) tr) (by as_aux_lemma => kernel_rfl) rfl

theorem slices_Max_uint8_uint8_ok (x : T_api_Config) (r : (Int)) (h : slices_Max_uint8_uint8 x = some r) : ∀ σ, Inj 1 σ → FnTri Tryd.prog 80 (renL σ [.sl 0 0 3 true 8 (some 8)]) (preOf σ 0 (slices_Max_uint8_uint8_objs x)) ((slices_Max_uint8_uint8_v r).ren σ) (upOf σ (slices_Max_uint8_uint8_up x r)) := by
  refine fn_of Tryd.func80 (by kernel_rfl) (by kernel_rfl) (by kernel_rfl) ⟨rfl, trivial⟩ (by kernel_rfl) ⟨rfl, trivial⟩ (by kernel_rfl) ?_
  intro w0 W μ0 hμ
  unfold slices_Max_uint8_uint8 at h
  exact run_to mixed hμ (L := []) (n := 27) (s := [.reg [], .reg [], .reg [], .reg []])
    (a_ (r1_ tr) (a_ (r1_ (r2_ tr)) (a_ (r1_ (a_ (a_ (a_ (lei_ 0 0 rfl) (lti_ 0 8 rfl)) tr) (a_ (a_ (a_ tr (lt_ 3 11 rfl)) tr) (r1_ tr)))) (a_ (r1_ tr) tr)))) (slices_Max_uint8_uint8_l0_ok hμ x  big _ _ r h) (by as_aux_lemma => kernel_rfl) ⟨rfl, trivial⟩

/-- parrel/votes.May$1 -/

def votes_May_L1_v (r : (Bool)) : LV := .bool r

def votes_May_L1_up (x_n : Int) (x1 : Int) (r : (Bool)) : Upd := [(0, some (.var [.int .i64 x1]))]

def votes_May_L1_objs (x_n : Int) (x1 : Int) : List LO := [.var [.int .i64 x1]]

def votes_May_L1 (x_n : Int) (x1 : Int) : Option ((Bool)) :=
  if ((decide (1 ≤ x_n)) : Bool) then
    some (decide ((IntKind.wrap .i64 x_n) ≤ x1))
  else
    some false

theorem votes_May_L1_ok (x_n : Int) (x1 : Int) (r : (Bool)) (h : votes_May_L1 x_n x1 = some r) : ∀ σ, Inj 1 σ → FnTri Tryd.prog 79 (renL σ [.int .u8 x_n, .ptr 0 0 0]) (preOf σ 0 (votes_May_L1_objs x_n x1)) ((votes_May_L1_v r).ren σ) (upOf σ (votes_May_L1_up x_n x1 r)) := by
  refine fn_of Tryd.func79 (by kernel_rfl) (by kernel_rfl) (by kernel_rfl) ⟨rfl, trivial⟩ (by kernel_rfl) ⟨rfl, trivial⟩ (by kernel_rfl) ?_
  intro w0 W μ0 hμ
  unfold votes_May_L1 at h
  rcases itb_some h with ⟨c1, h⟩ | ⟨c1, h⟩
  · skip
    obtain rfl := Option.some.inj h
    exact run_ret mixed (L := []) (n := 15) (s := [.reg [], .reg [(2, { v := some (.bool true) })]])
      (a_ (a_ (r1_ tr) (a_ (r2_ (a_ (a_ tr (a_ (leB c1) tr)) (r2_ (a_ (a_ (a_ tr (lt_ 0 1 rfl)) tr) (r1_ (r2_ tr)))))) tr)) tr) (by as_aux_lemma => kernel_rfl) rfl
  · skip
    obtain rfl := Option.some.inj h
    exact run_ret mixed (L := []) (n := 15) (s := [.reg [], .reg [(2, { v := some (.bool false) })]])
      (a_ (a_ (r1_ tr) (a_ (r2_ (a_ (a_ tr (a_ (leB c1) tr)) (t4_ (r2_ tr)))) tr)) tr) (by as_aux_lemma => kernel_rfl) rfl

/-- parrel/votes.May -/

def votes_May_v (r : (Bool)) : LV := .bool r

def votes_May (c : T_api_Config) : Option ((Bool)) :=
  (votes_Total c).bind fun y2 =>
  if ((decide ((IntKind.wrap .u32 (c.f_Epoch - 1)) < 2147483647)) : Bool) then
    (slices_Max_uint8_uint8 c).bind fun y5 =>
    if ((decide (y5 ≤ 15)) : Bool) then
      (votes_May_L1 c.f_R y2).bind fun y8 =>
      if (y8 : Bool) then
        (votes_May_L1 c.f_W y2).bind fun y11 =>
        if (y11 : Bool) then
          if ((decide (y2 < (IntKind.wrap .i64 ((IntKind.wrap .i64 c.f_R) + (IntKind.wrap .i64 c.f_W))))) : Bool) then
            some (decide (y2 < (IntKind.wrap .i64 (2 * (IntKind.wrap .i64 c.f_W)))))
          else
            some false
        else
          some false
      else
        some false
    else
      some false
  else
    some false

theorem votes_May_ok (c : T_api_Config) (r : (Bool)) (h : votes_May c = some r) : ∀ σ, Inj 0 σ → FnTri Tryd.prog 63 (renL σ [v_T_api_Config c]) (preOf σ 0 []) ((votes_May_v r).ren σ) (upOf σ []) := by
  refine fn_of Tryd.func63 (by kernel_rfl) (by kernel_rfl) (by kernel_rfl) trivial (by kernel_rfl) trivial (by kernel_rfl) ?_
  intro w0 W μ0 hμ
  unfold votes_May at h
  obtain ⟨y2, e1, h⟩ := bind_some h
  rcases itb_some h with ⟨c3, h⟩ | ⟨c3, h⟩
  · skip
    obtain ⟨y5, e4, h⟩ := bind_some h
    rcases itb_some h with ⟨c6, h⟩ | ⟨c6, h⟩
    · skip
      obtain ⟨y8, e7, h⟩ := bind_some h
      rcases itb_some h with ⟨c9, h⟩ | ⟨c9, h⟩
      · skip
        obtain ⟨y11, e10, h⟩ := bind_some h
        rcases itb_some h with ⟨c12, h⟩ | ⟨c12, h⟩
        · skip
          rcases itb_some h with ⟨c13, h⟩ | ⟨c13, h⟩
          · skip
            obtain rfl := Option.some.inj h
            exact run_ret mixed (L := []) (n := 21) (s := [.reg [], .reg [(1, { call := some (votes_Total_v y2, [], []) })], .reg [], .reg [(4, { v := some (.bool true) }), (7, { call := some ((slices_Max_uint8_uint8_v y5).ren (sel [0]), preOf (sel [0]) 0 (slices_Max_uint8_uint8_objs c), upOf (sel [0]) (slices_Max_uint8_uint8_up c y5)) }), (10, { v := some (.bool true) }), (14, { call := some ((votes_May_L1_v y8).ren (sel [1]), preOf (sel [1]) 0 (votes_May_L1_objs c.f_R y2), upOf (sel [1]) (votes_May_L1_up c.f_R y2 y8)) }), (16, { v := some (.bool true) }), (20, { call := some ((votes_May_L1_v y11).ren (sel [1]), preOf (sel [1]) 0 (votes_May_L1_objs c.f_W y2), upOf (sel [1]) (votes_May_L1_up c.f_W y2 y11)) }), (22, { v := some (.bool true) }), (33, { v := some (.bool true) })]])
              (a_ (a_ (r2_ tr) (a_ (a_ (a_ (a_ tr (le_ 11 11 rfl)) tr) (a_ (a_ (a_ (votes_Total_tri c y2 e1) tr) tr) (r1_ (a_ (a_ (a_ (Eq.refl 1) (a_ (le_ 1 1 rfl) (Eq.refl 0))) tr) tr)))) (a_ (r2_ tr) (a_ (r1_ (a_ (a_ (a_ tr (lt_ 0 11 rfl)) tr) (r2_ (a_ (a_ tr (a_ (leB c3) tr)) (r1_ (a_ (a_ (a_ (lei_ 0 0 rfl) (a_ (lei_ 0 8 rfl) (lei_ 8 8 rfl))) tr) (a_ (a_ (a_ (slices_Max_uint8_uint8_ok c y5 e4 (sel [0]) (sel_inj rfl rfl)) (a_ (LO.Le.refl (.var (c_T_api_Config c))) tr)) tr) (r2_ (a_ (a_ tr (a_ (leB c6) tr)) (r2_ (a_ (a_ (a_ tr (lt_ 1 11 rfl)) tr) (a_ (a_ (a_ (votes_May_L1_ok c.f_R y2 y8 e7 (sel [1]) (sel_inj rfl rfl)) (a_ (LO.Le.refl (.var [.int .i64 y2])) tr)) tr) (r1_ (a_ (a_ tr (a_ (leB c9) tr)) (r2_ (a_ (a_ (a_ tr (lt_ 2 11 rfl)) tr) (a_ (a_ (a_ (votes_May_L1_ok c.f_W y2 y11 e10 (sel [1]) (sel_inj rfl rfl)) (a_ (LO.Le.refl (.var [.int .i64 y2])) tr)) tr) (r1_ (a_ (a_ tr (a_ (leB c12) tr)) (r1_ (a_ (a_ (a_ tr (lt_ 1 11 rfl)) tr) (r2_ (a_ (a_ (a_ tr (lt_ 2 11 rfl)) tr) (r2_ (a_ (a_ (a_ tr (lt_ 0 1 rfl)) tr) (r2_ (a_ (a_ tr (a_ (leB c13) tr)) (r1_ (a_ (a_ (a_ tr (lt_ 2 11 rfl)) tr) (r2_ (a_ (a_ (a_ tr (lt_ 0 1 rfl)) tr) (r1_ (r2_ tr))))))))))))))))))))))))))))))))) tr)))) tr) (by as_aux_lemma => kernel_rfl) rfl
          · skip
            obtain rfl := Option.some.inj h
            exact run_ret mixed (L := []) (n := 21) (s := [.reg [], .reg [(1, { call := some (votes_Total_v y2, [], []) })], .reg [], .reg [(4, { v := some (.bool true) }), (7, { call := some ((slices_Max_uint8_uint8_v y5).ren (sel [0]), preOf (sel [0]) 0 (slices_Max_uint8_uint8_objs c), upOf (sel [0]) (slices_Max_uint8_uint8_up c y5)) }), (10, { v := some (.bool true) }), (14, { call := some ((votes_May_L1_v y8).ren (sel [1]), preOf (sel [1]) 0 (votes_May_L1_objs c.f_R y2), upOf (sel [1]) (votes_May_L1_up c.f_R y2 y8)) }), (16, { v := some (.bool true) }), (20, { call := some ((votes_May_L1_v y11).ren (sel [1]), preOf (sel [1]) 0 (votes_May_L1_objs c.f_W y2), upOf (sel [1]) (votes_May_L1_up c.f_W y2 y11)) }), (22, { v := some (.bool true) }), (33, { v := some (.bool false) })]])
              (a_ (a_ (r2_ tr) (a_ (a_ (a_ (a_ tr (le_ 11 11 rfl)) tr) (a_ (a_ (a_ (votes_Total_tri c y2 e1) tr) tr) (r1_ (a_ (a_ (a_ (Eq.refl 1) (a_ (le_ 1 1 rfl) (Eq.refl 0))) tr) tr)))) (a_ (r2_ tr) (a_ (r1_ (a_ (a_ (a_ tr (lt_ 0 11 rfl)) tr) (r2_ (a_ (a_ tr (a_ (leB c3) tr)) (r1_ (a_ (a_ (a_ (lei_ 0 0 rfl) (a_ (lei_ 0 8 rfl) (lei_ 8 8 rfl))) tr) (a_ (a_ (a_ (slices_Max_uint8_uint8_ok c y5 e4 (sel [0]) (sel_inj rfl rfl)) (a_ (LO.Le.refl (.var (c_T_api_Config c))) tr)) tr) (r2_ (a_ (a_ tr (a_ (leB c6) tr)) (r2_ (a_ (a_ (a_ tr (lt_ 1 11 rfl)) tr) (a_ (a_ (a_ (votes_May_L1_ok c.f_R y2 y8 e7 (sel [1]) (sel_inj rfl rfl)) (a_ (LO.Le.refl (.var [.int .i64 y2])) tr)) tr) (r1_ (a_ (a_ tr (a_ (leB c9) tr)) (r2_ (a_ (a_ (a_ tr (lt_ 2 11 rfl)) tr) (a_ (a_ (a_ (votes_May_L1_ok c.f_W y2 y11 e10 (sel [1]) (sel_inj rfl rfl)) (a_ (LO.Le.refl (.var [.int .i64 y2])) tr)) tr) (r1_ (a_ (a_ tr (a_ (leB c12) tr)) (r1_ (a_ (a_ (a_ tr (lt_ 1 11 rfl)) tr) (r2_ (a_ (a_ (a_ tr (lt_ 2 11 rfl)) tr) (r2_ (a_ (a_ (a_ tr (lt_ 0 1 rfl)) tr) (r2_ (a_ (a_ tr (a_ (leB c13) tr)) (t2_ (t4_ (r2_ tr)))))))))))))))))))))))))))))) tr)))) tr) (by as_aux_lemma => kernel_rfl) rfl
        · skip
          obtain rfl := Option.some.inj h
          exact run_ret mixed (L := []) (n := 21) (s := [.reg [], .reg [(1, { call := some (votes_Total_v y2, [], []) })], .reg [], .reg [(4, { v := some (.bool true) }), (7, { call := some ((slices_Max_uint8_uint8_v y5).ren (sel [0]), preOf (sel [0]) 0 (slices_Max_uint8_uint8_objs c), upOf (sel [0]) (slices_Max_uint8_uint8_up c y5)) }), (10, { v := some (.bool true) }), (14, { call := some ((votes_May_L1_v y8).ren (sel [1]), preOf (sel [1]) 0 (votes_May_L1_objs c.f_R y2), upOf (sel [1]) (votes_May_L1_up c.f_R y2 y8)) }), (16, { v := some (.bool true) }), (20, { call := some ((votes_May_L1_v y11).ren (sel [1]), preOf (sel [1]) 0 (votes_May_L1_objs c.f_W y2), upOf (sel [1]) (votes_May_L1_up c.f_W y2 y11)) }), (22, { v := some (.bool false) })]])
            (a_ (a_ (r2_ tr) (a_ (a_ (a_ (a_ tr (le_ 11 11 rfl)) tr) (a_ (a_ (a_ (votes_Total_tri c y2 e1) tr) tr) (r1_ (a_ (a_ (a_ (Eq.refl 1) (a_ (le_ 1 1 rfl) (Eq.refl 0))) tr) tr)))) (a_ (r2_ tr) (a_ (r1_ (a_ (a_ (a_ tr (lt_ 0 11 rfl)) tr) (r2_ (a_ (a_ tr (a_ (leB c3) tr)) (r1_ (a_ (a_ (a_ (lei_ 0 0 rfl) (a_ (lei_ 0 8 rfl) (lei_ 8 8 rfl))) tr) (a_ (a_ (a_ (slices_Max_uint8_uint8_ok c y5 e4 (sel [0]) (sel_inj rfl rfl)) (a_ (LO.Le.refl (.var (c_T_api_Config c))) tr)) tr) (r2_ (a_ (a_ tr (a_ (leB c6) tr)) (r2_ (a_ (a_ (a_ tr (lt_ 1 11 rfl)) tr) (a_ (a_ (a_ (votes_May_L1_ok c.f_R y2 y8 e7 (sel [1]) (sel_inj rfl rfl)) (a_ (LO.Le.refl (.var [.int .i64 y2])) tr)) tr) (r1_ (a_ (a_ tr (a_ (leB c9) tr)) (r2_ (a_ (a_ (a_ tr (lt_ 2 11 rfl)) tr) (a_ (a_ (a_ (votes_May_L1_ok c.f_W y2 y11 e10 (sel [1]) (sel_inj rfl rfl)) (a_ (LO.Le.refl (.var [.int .i64 y2])) tr)) tr) (r1_ (a_ (a_ tr (a_ (leB c12) tr)) (a_ tr (t8_ (r2_ (t2_ (t4_ (r2_ tr))))))))))))))))))))))))) tr)))) tr) (by as_aux_lemma => kernel_rfl) rfl
      · skip
        obtain rfl := Option.some.inj h
        exact run_ret mixed (L := []) (n := 21) (s := [.reg [], .reg [(1, { call := some (votes_Total_v y2, [], []) })], .reg [], .reg [(4, { v := some (.bool true) }), (7, { call := some ((slices_Max_uint8_uint8_v y5).ren (sel [0]), preOf (sel [0]) 0 (slices_Max_uint8_uint8_objs c), upOf (sel [0]) (slices_Max_uint8_uint8_up c y5)) }), (10, { v := some (.bool true) }), (14, { call := some ((votes_May_L1_v y8).ren (sel [1]), preOf (sel [1]) 0 (votes_May_L1_objs c.f_R y2), upOf (sel [1]) (votes_May_L1_up c.f_R y2 y8)) }), (16, { v := some (.bool false) })]])
          (a_ (a_ (r2_ tr) (a_ (a_ (a_ (a_ tr (le_ 11 11 rfl)) tr) (a_ (a_ (a_ (votes_Total_tri c y2 e1) tr) tr) (r1_ (a_ (a_ (a_ (Eq.refl 1) (a_ (le_ 1 1 rfl) (Eq.refl 0))) tr) tr)))) (a_ (r2_ tr) (a_ (r1_ (a_ (a_ (a_ tr (lt_ 0 11 rfl)) tr) (r2_ (a_ (a_ tr (a_ (leB c3) tr)) (r1_ (a_ (a_ (a_ (lei_ 0 0 rfl) (a_ (lei_ 0 8 rfl) (lei_ 8 8 rfl))) tr) (a_ (a_ (a_ (slices_Max_uint8_uint8_ok c y5 e4 (sel [0]) (sel_inj rfl rfl)) (a_ (LO.Le.refl (.var (c_T_api_Config c))) tr)) tr) (r2_ (a_ (a_ tr (a_ (leB c6) tr)) (r2_ (a_ (a_ (a_ tr (lt_ 1 11 rfl)) tr) (a_ (a_ (a_ (votes_May_L1_ok c.f_R y2 y8 e7 (sel [1]) (sel_inj rfl rfl)) (a_ (LO.Le.refl (.var [.int .i64 y2])) tr)) tr) (r1_ (a_ (a_ tr (a_ (leB c9) tr)) (t4_ (r2_ (a_ tr (t8_ (r2_ (t2_ (t4_ (r2_ tr)))))))))))))))))))))) tr)))) tr) (by as_aux_lemma => kernel_rfl) rfl
    · skip
      obtain rfl := Option.some.inj h
      exact run_ret mixed (L := []) (n := 21) (s := [.reg [], .reg [(1, { call := some (votes_Total_v y2, [], []) })], .reg [], .reg [(4, { v := some (.bool true) }), (7, { call := some ((slices_Max_uint8_uint8_v y5).ren (sel [0]), preOf (sel [0]) 0 (slices_Max_uint8_uint8_objs c), upOf (sel [0]) (slices_Max_uint8_uint8_up c y5)) }), (10, { v := some (.bool false) })]])
        (a_ (a_ (r2_ tr) (a_ (a_ (a_ (a_ tr (le_ 11 11 rfl)) tr) (a_ (a_ (a_ (votes_Total_tri c y2 e1) tr) tr) (r1_ (a_ (a_ (a_ (Eq.refl 1) (a_ (le_ 1 1 rfl) (Eq.refl 0))) tr) tr)))) (a_ (r2_ tr) (a_ (r1_ (a_ (a_ (a_ tr (lt_ 0 11 rfl)) tr) (r2_ (a_ (a_ tr (a_ (leB c3) tr)) (r1_ (a_ (a_ (a_ (lei_ 0 0 rfl) (a_ (lei_ 0 8 rfl) (lei_ 8 8 rfl))) tr) (a_ (a_ (a_ (slices_Max_uint8_uint8_ok c y5 e4 (sel [0]) (sel_inj rfl rfl)) (a_ (LO.Le.refl (.var (c_T_api_Config c))) tr)) tr) (r2_ (a_ (a_ tr (a_ (leB c6) tr)) (t4_ (r2_ (t4_ (r2_ (a_ tr (t8_ (r2_ (t2_ (t4_ (r2_ tr))))))))))))))))))) tr)))) tr) (by as_aux_lemma => kernel_rfl) rfl
  · skip
    obtain rfl := Option.some.inj h
    exact run_ret mixed (L := []) (n := 21) (s := [.reg [], .reg [(1, { call := some (votes_Total_v y2, [], []) })], .reg [], .reg [(4, { v := some (.bool false) })]])
      (a_ (a_ (r2_ tr) (a_ (a_ (a_ (a_ tr (le_ 11 11 rfl)) tr) (a_ (a_ (a_ (votes_Total_tri c y2 e1) tr) tr) (r1_ (a_ (a_ (a_ (Eq.refl 1) (a_ (le_ 1 1 rfl) (Eq.refl 0))) tr) tr)))) (a_ (r2_ tr) (a_ (r1_ (a_ (a_ (a_ tr (lt_ 0 11 rfl)) tr) (r2_ (a_ (a_ tr (a_ (leB c3) tr)) (t4_ (r2_ (t4_ (r2_ (t4_ (r2_ (a_ tr (t8_ (r2_ (t2_ (t4_ (r2_ tr)))))))))))))))) tr)))) tr) (by as_aux_lemma => kernel_rfl) rfl

theorem votes_May_tri (c : T_api_Config) (r : (Bool)) (h : votes_May c = some r) : FnTri Tryd.prog 63 [v_T_api_Config c] [] (votes_May_v r) [] := FnTri.none (votes_May_ok c r h) rfl rfl

/-- parrel/msg.ItemMay -/

def msg_ItemMay_v (r : (Bool)) : LV := .bool r

def msg_ItemMay (i : T_api_Item) : Option ((Bool)) :=
  if ((decide (i.f_Version ≤ 2147483647)) : Bool) then
    if ((decide (((i.f_Value).length : Int) ≤ 64)) : Bool) then
      (votes_May i.f_Conf).bind fun y4 =>
      some y4
    else
      some false
  else
    some false

theorem msg_ItemMay_ok (i : T_api_Item) (r : (Bool)) (h : msg_ItemMay i = some r) : ∀ σ, Inj 0 σ → FnTri Tryd.prog 53 (renL σ [v_T_api_Item i]) (preOf σ 0 []) ((msg_ItemMay_v r).ren σ) (upOf σ []) := by
  refine fn_of Tryd.func53 (by kernel_rfl) (by kernel_rfl) (by kernel_rfl) trivial (by kernel_rfl) trivial (by kernel_rfl) ?_
  intro w0 W μ0 hμ
  unfold msg_ItemMay at h
  rcases itb_some h with ⟨c1, h⟩ | ⟨c1, h⟩
  · skip
    rcases itb_some h with ⟨c2, h⟩ | ⟨c2, h⟩
    · skip
      obtain ⟨y4, e3, h⟩ := bind_some h
      obtain rfl := Option.some.inj h
      exact run_ret mixed (L := []) (n := 15) (s := [.reg [], .reg [(3, { v := some (.bool true) }), (9, { v := some (.bool true) }), (12, { call := some (votes_May_v y4, [], []) })]])
        (a_ (a_ (r2_ tr) (a_ (r1_ (a_ (a_ (a_ tr (lt_ 0 13 rfl)) tr) (r1_ (a_ (a_ tr (a_ (leB c1) tr)) (r1_ (a_ (a_ (a_ tr (lt_ 1 13 rfl)) tr) (r1_ (r2_ (a_ (a_ tr (a_ (leB c2) tr)) (r1_ (a_ (a_ (a_ tr (le_ 13 13 rfl)) tr) (a_ (a_ (a_ (votes_May_tri i.f_Conf y4 e3) tr) tr) (r2_ tr))))))))))))) tr)) tr) (by as_aux_lemma => kernel_rfl) rfl
    · skip
      obtain rfl := Option.some.inj h
      exact run_ret mixed (L := []) (n := 15) (s := [.reg [], .reg [(3, { v := some (.bool true) }), (9, { v := some (.bool false) })]])
        (a_ (a_ (r2_ tr) (a_ (r1_ (a_ (a_ (a_ tr (lt_ 0 13 rfl)) tr) (r1_ (a_ (a_ tr (a_ (leB c1) tr)) (r1_ (a_ (a_ (a_ tr (lt_ 1 13 rfl)) tr) (r1_ (r2_ (a_ (a_ tr (a_ (leB c2) tr)) (a_ tr (t2_ (r2_ tr)))))))))))) tr)) tr) (by as_aux_lemma => kernel_rfl) rfl
  · skip
    obtain rfl := Option.some.inj h
    exact run_ret mixed (L := []) (n := 15) (s := [.reg [], .reg [(3, { v := some (.bool false) })]])
      (a_ (a_ (r2_ tr) (a_ (r1_ (a_ (a_ (a_ tr (lt_ 0 13 rfl)) tr) (r1_ (a_ (a_ tr (a_ (leB c1) tr)) (t4_ (r2_ (a_ tr (t2_ (r2_ tr))))))))) tr)) tr) (by as_aux_lemma => kernel_rfl) rfl

theorem msg_ItemMay_tri (i : T_api_Item) (r : (Bool)) (h : msg_ItemMay i = some r) : FnTri Tryd.prog 53 [v_T_api_Item i] [] (msg_ItemMay_v r) [] := FnTri.none (msg_ItemMay_ok i r h) rfl rfl

/-- cmp.isNaN[uint8] -/

def cmp_isNaN_uint8_v (r : (Bool)) : LV := .bool r

def cmp_isNaN_uint8 (x : Int) : Option ((Bool)) :=
  some (x != x)

theorem cmp_isNaN_uint8_ok (x : Int) (r : (Bool)) (h : cmp_isNaN_uint8 x = some r) : ∀ σ, Inj 0 σ → FnTri Tryd.prog 58 (renL σ [.int .u8 x]) (preOf σ 0 []) ((cmp_isNaN_uint8_v r).ren σ) (upOf σ []) := by
  refine fn_of Tryd.func58 (by kernel_rfl) (by kernel_rfl) (by kernel_rfl) trivial (by kernel_rfl) trivial (by kernel_rfl) ?_
  intro w0 W μ0 hμ
  unfold cmp_isNaN_uint8 at h
  obtain rfl := Option.some.inj h
  exact run_ret mixed (L := []) (n := 15) (s := [.reg [], .reg []])
    (a_ (a_ (r1_ tr) (a_ (r4_ tr) tr)) tr) (by as_aux_lemma => kernel_rfl) rfl

theorem cmp_isNaN_uint8_tri (x : Int) (r : (Bool)) (h : cmp_isNaN_uint8 x = some r) : FnTri Tryd.prog 58 [.int .u8 x] [] (cmp_isNaN_uint8_v r) [] := FnTri.none (cmp_isNaN_uint8_ok x r h) rfl rfl

/-- cmp.Compare[uint8] -/

def cmp_Compare_uint8_v (r : (Int)) : LV := .int .i64 r

def cmp_Compare_uint8 (x : Int) (y : Int) : Option ((Int)) :=
  (cmp_isNaN_uint8 x).bind fun y2 =>
  (cmp_isNaN_uint8 y).bind fun y4 =>
  if (y2 : Bool) then
    if (y4 : Bool) then
      some 0
    else
      some (-1)
  else
    if (y4 : Bool) then
      some 1
    else
      if ((decide (x < y)) : Bool) then
        some (-1)
      else
        if ((decide (y < x)) : Bool) then
          some 1
        else
          some 0

theorem cmp_Compare_uint8_ok (x : Int) (y : Int) (r : (Int)) (h : cmp_Compare_uint8 x y = some r) : ∀ σ, Inj 0 σ → FnTri Tryd.prog 43 (renL σ [.int .u8 x, .int .u8 y]) (preOf σ 0 []) ((cmp_Compare_uint8_v r).ren σ) (upOf σ []) := by
  refine fn_of Tryd.func43 (by kernel_rfl) (by kernel_rfl) (by kernel_rfl) trivial (by kernel_rfl) trivial (by kernel_rfl) ?_
  intro w0 W μ0 hμ
  unfold cmp_Compare_uint8 at h
  obtain ⟨y2, e1, h⟩ := bind_some h
  obtain ⟨y4, e3, h⟩ := bind_some h
  rcases itb_some h with ⟨c5, h⟩ | ⟨c5, h⟩
  · skip
    rcases itb_some h with ⟨c6, h⟩ | ⟨c6, h⟩
    · skip
      obtain rfl := Option.some.inj h
      exact run_ret mixed (L := []) (n := 31) (s := [.reg [], .reg [(1, { call := some (cmp_isNaN_uint8_v y2, [], []) })], .reg [(1, { call := some (cmp_isNaN_uint8_v y4, [], []) })], .reg [(0, { v := some (.bool true) })], .reg [(0, { v := some (.bool true) })], .reg []])
        (a_ (a_ (r1_ tr) (a_ (r1_ (a_ (a_ (a_ (cmp_isNaN_uint8_tri x y2 e1) tr) tr) (r1_ tr))) (a_ (r1_ (a_ (a_ (a_ (cmp_isNaN_uint8_tri y y4 e3) tr) tr) (r1_ tr))) (a_ (a_ (a_ tr (a_ (leB c5) tr)) tr) (a_ (a_ (a_ tr (a_ (leB c6) tr)) tr) (a_ (r1_ tr) tr)))))) tr) (by as_aux_lemma => kernel_rfl) rfl
    · skip
      obtain rfl := Option.some.inj h
      exact run_ret mixed (L := []) (n := 32) (s := [.reg [], .reg [(1, { call := some (cmp_isNaN_uint8_v y2, [], []) })], .reg [(1, { call := some (cmp_isNaN_uint8_v y4, [], []) })], .reg [(0, { v := some (.bool true) })], .reg [(0, { v := some (.bool false) })], .reg []])
        (a_ (a_ (r1_ tr) (a_ (r1_ (a_ (a_ (a_ (cmp_isNaN_uint8_tri x y2 e1) tr) tr) (r1_ tr))) (a_ (r1_ (a_ (a_ (a_ (cmp_isNaN_uint8_tri y y4 e3) tr) tr) (r1_ tr))) (a_ (a_ (a_ tr (a_ (leB c5) tr)) tr) (a_ (a_ (a_ tr (a_ (leB c6) tr)) tr) (a_ (r1_ tr) tr)))))) tr) (by as_aux_lemma => kernel_rfl) rfl
  · skip
    rcases itb_some h with ⟨c6, h⟩ | ⟨c6, h⟩
    · skip
      obtain rfl := Option.some.inj h
      exact run_ret mixed (L := []) (n := 32) (s := [.reg [], .reg [(1, { call := some (cmp_isNaN_uint8_v y2, [], []) })], .reg [(1, { call := some (cmp_isNaN_uint8_v y4, [], []) })], .reg [(0, { v := some (.bool false) })], .reg [(0, { v := some (.bool true) })], .reg []])
        (a_ (a_ (r1_ tr) (a_ (r1_ (a_ (a_ (a_ (cmp_isNaN_uint8_tri x y2 e1) tr) tr) (r1_ tr))) (a_ (r1_ (a_ (a_ (a_ (cmp_isNaN_uint8_tri y y4 e3) tr) tr) (r1_ tr))) (a_ (a_ (a_ tr (a_ (leB c5) tr)) tr) (a_ (a_ (a_ tr (a_ (leB c6) tr)) tr) (a_ (r1_ tr) tr)))))) tr) (by as_aux_lemma => kernel_rfl) rfl
    · skip
      rcases itb_some h with ⟨c7, h⟩ | ⟨c7, h⟩
      · skip
        obtain rfl := Option.some.inj h
        exact run_ret mixed (L := []) (n := 38) (s := [.reg [], .reg [(1, { call := some (cmp_isNaN_uint8_v y2, [], []) })], .reg [(1, { call := some (cmp_isNaN_uint8_v y4, [], []) })], .reg [(0, { v := some (.bool false) })], .reg [(0, { v := some (.bool false) })], .reg [(2, { v := some (.bool true) })], .reg []])
          (a_ (a_ (r1_ tr) (a_ (r1_ (a_ (a_ (a_ (cmp_isNaN_uint8_tri x y2 e1) tr) tr) (r1_ tr))) (a_ (r1_ (a_ (a_ (a_ (cmp_isNaN_uint8_tri y y4 e3) tr) tr) (r1_ tr))) (a_ (a_ (a_ tr (a_ (leB c5) tr)) tr) (a_ (a_ (a_ tr (a_ (leB c6) tr)) tr) (a_ (r2_ (a_ (a_ tr (a_ (leB c7) tr)) tr)) (a_ (r1_ tr) tr))))))) tr) (by as_aux_lemma => kernel_rfl) rfl
      · skip
        rcases itb_some h with ⟨c8, h⟩ | ⟨c8, h⟩
        · skip
          obtain rfl := Option.some.inj h
          exact run_ret mixed (L := []) (n := 44) (s := [.reg [], .reg [(1, { call := some (cmp_isNaN_uint8_v y2, [], []) })], .reg [(1, { call := some (cmp_isNaN_uint8_v y4, [], []) })], .reg [(0, { v := some (.bool false) })], .reg [(0, { v := some (.bool false) })], .reg [(2, { v := some (.bool false) })], .reg [(2, { v := some (.bool true) })], .reg []])
            (a_ (a_ (r1_ tr) (a_ (r1_ (a_ (a_ (a_ (cmp_isNaN_uint8_tri x y2 e1) tr) tr) (r1_ tr))) (a_ (r1_ (a_ (a_ (a_ (cmp_isNaN_uint8_tri y y4 e3) tr) tr) (r1_ tr))) (a_ (a_ (a_ tr (a_ (leB c5) tr)) tr) (a_ (a_ (a_ tr (a_ (leB c6) tr)) tr) (a_ (r2_ (a_ (a_ tr (a_ (leB c7) tr)) tr)) (a_ (r2_ (a_ (a_ tr (a_ (leB c8) tr)) tr)) (a_ (r1_ tr) tr)))))))) tr) (by as_aux_lemma => kernel_rfl) rfl
        · skip
          obtain rfl := Option.some.inj h
          exact run_ret mixed (L := []) (n := 45) (s := [.reg [], .reg [(1, { call := some (cmp_isNaN_uint8_v y2, [], []) })], .reg [(1, { call := some (cmp_isNaN_uint8_v y4, [], []) })], .reg [(0, { v := some (.bool false) })], .reg [(0, { v := some (.bool false) })], .reg [(2, { v := some (.bool false) })], .reg [(2, { v := some (.bool false) })], .reg []])
            (a_ (a_ (r1_ tr) (a_ (r1_ (a_ (a_ (a_ (cmp_isNaN_uint8_tri x y2 e1) tr) tr) (r1_ tr))) (a_ (r1_ (a_ (a_ (a_ (cmp_isNaN_uint8_tri y y4 e3) tr) tr) (r1_ tr))) (a_ (a_ (a_ tr (a_ (leB c5) tr)) tr) (a_ (a_ (a_ tr (a_ (leB c6) tr)) tr) (a_ (r2_ (a_ (a_ tr (a_ (leB c7) tr)) tr)) (a_ (r2_ (a_ (a_ tr (a_ (leB c8) tr)) tr)) (a_ (r1_ tr) tr)))))))) tr) (by as_aux_lemma => kernel_rfl) rfl

theorem cmp_Compare_uint8_tri (x : Int) (y : Int) (r : (Int)) (h : cmp_Compare_uint8 x y = some r) : FnTri Tryd.prog 43 [.int .u8 x, .int .u8 y] [] (cmp_Compare_uint8_v r) [] := FnTri.none (cmp_Compare_uint8_ok x y r h) rfl rfl

/-- slices.Compare[[]byte,byte] -/

def slices_Compare_byte_byte_v (r : (Int)) : LV := .int .i64 r

def slices_Compare_byte_byte_up (s1 : A8 (Int)) (s2 : A8 (Int)) (r : (Int)) : Upd := [(0, some (.var [.int .u8 s1.a0, .int .u8 s1.a1, .int .u8 s1.a2, .int .u8 s1.a3, .int .u8 s1.a4, .int .u8 s1.a5, .int .u8 s1.a6, .int .u8 s1.a7])), (1, some (.var [.int .u8 s2.a0, .int .u8 s2.a1, .int .u8 s2.a2, .int .u8 s2.a3, .int .u8 s2.a4, .int .u8 s2.a5, .int .u8 s2.a6, .int .u8 s2.a7]))]

def slices_Compare_byte_byte_objs (s1 : A8 (Int)) (s2 : A8 (Int)) : List LO := [.var [.int .u8 s1.a0, .int .u8 s1.a1, .int .u8 s1.a2, .int .u8 s1.a3, .int .u8 s1.a4, .int .u8 s1.a5, .int .u8 s1.a6, .int .u8 s1.a7], .var [.int .u8 s2.a0, .int .u8 s2.a1, .int .u8 s2.a2, .int .u8 s2.a3, .int .u8 s2.a4, .int .u8 s2.a5, .int .u8 s2.a6, .int .u8 s2.a7]]

def slices_Compare_byte_byte_T0 (s1 : A8 (Int)) (s2 : A8 (Int)) (t11 : Int) : List LV := [.sl 0 0 0 true 8 (some 8), .sl 1 0 0 true 8 (some 8), .any, .any, .any, .any, .any, .any, .any, .sl 0 0 0 true 8 (some 8), .int .i64 8, .int .i64 t11, .any, .any, .any, .any, .any, .any, .any, .any, .any, .any, .any, .any, .any, .any, .any, .any, .any, .any, .any, .any, .any, .any, .any, .any]

def slices_Compare_byte_byte_H0 (s1 : A8 (Int)) (s2 : A8 (Int)) (t11 : Int) : Heap := [some (.var [.int .u8 s1.a0, .int .u8 s1.a1, .int .u8 s1.a2, .int .u8 s1.a3, .int .u8 s1.a4, .int .u8 s1.a5, .int .u8 s1.a6, .int .u8 s1.a7]), some (.var [.int .u8 s2.a0, .int .u8 s2.a1, .int .u8 s2.a2, .int .u8 s2.a3, .int .u8 s2.a4, .int .u8 s2.a5, .int .u8 s2.a6, .int .u8 s2.a7])]

def slices_Compare_byte_byte_l0 (s1 : A8 (Int)) (s2 : A8 (Int))  : Nat → (Int) → Option ((Int))
  | 0, _ => none
  | fuel + 1, t11 =>
    if ((decide (t11 < 8)) : Bool) then
      if 0 ≤ t11 ∧ t11 < 8 then
      if ((decide (8 ≤ t11)) : Bool) then
        some 1
      else
        (cmp_Compare_uint8 (A8.get s1 t11.toNat) (A8.get s2 t11.toNat)).bind fun yL0_5 =>
        if ((yL0_5 != 0) : Bool) then
          some yL0_5
        else
          slices_Compare_byte_byte_l0 s1 s2  fuel (IntKind.wrap .i64 (t11 + 1))
      else none
    else
      some 0

def slices_Compare_byte_byte (s1 : A8 (Int)) (s2 : A8 (Int)) : Option ((Int)) :=
  slices_Compare_byte_byte_l0 s1 s2  big 0

theorem slices_Compare_byte_byte_l0_ok {w0 : World} {W : Nat → Prop} {μ0 : Emb} (hμ : ∀ c p, μ0 c = some p → c < 2) (s1 : A8 (Int)) (s2 : A8 (Int))  : ∀ (fuel : Nat) (t11 : Int) (r : (Int)), slices_Compare_byte_byte_l0 s1 s2  fuel t11 = some r → kont Tryd.prog w0 W μ0 (FnPost Tryd.prog Tryd.f64 2 2 (slices_Compare_byte_byte_v r) (slices_Compare_byte_byte_up s1 s2 r)) (kAt (bodyOf Tryd.f64) 0) none (slices_Compare_byte_byte_T0 s1 s2 t11) (slices_Compare_byte_byte_H0 s1 s2 t11) := by
  intro fuel
  induction fuel with
  | zero => intro t11 r h; rw [slices_Compare_byte_byte_l0] at h; cases h
  | succ fuel ih =>
    intro t11 r h
    rw [slices_Compare_byte_byte_l0] at h
    rcases itb_some h with ⟨cL0_1, h⟩ | ⟨cL0_1, h⟩
    · skip
      obtain ⟨gL0_2, h⟩ := guard_some h
      rcases itb_some h with ⟨cL0_3, h⟩ | ⟨cL0_3, h⟩
      · skip
        obtain rfl := Option.some.inj h
        exact run_ret mixed (L := []) (n := 29) (s := [.go, .reg [(0, { v := some (.bool true) })], .reg [(2, { v := some (.int .u8 (A8.get s1 t11.toNat)) })], .reg [(3, { v := some (.bool true) })], .reg []])
          (a_ (a_ (a_ (a_ tr (a_ (leB cL0_1) tr)) tr) (a_ (r1_ (a_ (a_ gL0_2 tr) (a_ (a_ (a_ tr (arrLt (len := 8) gL0_2 0 1 8 rfl rfl)) (a_ (ld8s (cInt .u8) 1 (fun _ => rfl) s1 [] [] 0 rfl t11.toNat (lt8N gL0_2) (le_ (0 + 1) 1 rfl)) tr)) (r2_ tr)))) (a_ (r1_ (r2_ (a_ (a_ tr (a_ (leB cL0_3) tr)) tr))) (a_ (r1_ tr) tr)))) tr) (by as_aux_lemma => kernel_rfl) rfl
      · skip
        obtain ⟨yL0_5, eL0_4, h⟩ := bind_some h
        rcases itb_some h with ⟨cL0_6, h⟩ | ⟨cL0_6, h⟩
        · skip
          obtain rfl := Option.some.inj h
          exact run_ret mixed (L := []) (n := 40) (s := [.go, .reg [(0, { v := some (.bool true) })], .reg [(2, { v := some (.int .u8 (A8.get s1 t11.toNat)) })], .reg [(3, { v := some (.bool false) })], .reg [(3, { v := some (.int .u8 (A8.get s2 t11.toNat)) })], .reg [(2, { call := some (cmp_Compare_uint8_v yL0_5, [], []) })], .reg [(1, { v := some (.bool true) })], .reg []])
            (a_ (a_ (a_ (a_ tr (a_ (leB cL0_1) tr)) tr) (a_ (r1_ (a_ (a_ gL0_2 tr) (a_ (a_ (a_ tr (arrLt (len := 8) gL0_2 0 1 8 rfl rfl)) (a_ (ld8s (cInt .u8) 1 (fun _ => rfl) s1 [] [] 0 rfl t11.toNat (lt8N gL0_2) (le_ (0 + 1) 1 rfl)) tr)) (r2_ tr)))) (a_ (r1_ (r2_ (a_ (a_ tr (a_ (leB cL0_3) tr)) tr))) (a_ (r2_ (a_ (a_ gL0_2 tr) (a_ (a_ (a_ tr (arrLt (len := 8) gL0_2 0 1 8 rfl rfl)) (a_ (ld8s (cInt .u8) 1 (fun _ => rfl) s2 [] [] 0 rfl t11.toNat (lt8N gL0_2) (le_ (0 + 1) 1 rfl)) tr)) (r1_ tr)))) (a_ (r2_ (a_ (a_ (a_ (cmp_Compare_uint8_tri (A8.get s1 t11.toNat) (A8.get s2 t11.toNat) yL0_5 eL0_4) tr) tr) (r1_ tr))) (a_ (r1_ (a_ (a_ tr (a_ (leB cL0_6) tr)) tr)) (a_ (r2_ tr) tr))))))) tr) (by as_aux_lemma => kernel_rfl) rfl
        · skip
          exact run_to mixed hμ (L := []) (n := 41) (s := [.go, .reg [(0, { v := some (.bool true) })], .reg [(2, { v := some (.int .u8 (A8.get s1 t11.toNat)) })], .reg [(3, { v := some (.bool false) })], .reg [(3, { v := some (.int .u8 (A8.get s2 t11.toNat)) })], .reg [(2, { call := some (cmp_Compare_uint8_v yL0_5, [], []) })], .reg [(1, { v := some (.bool false) })], .reg []])
            (a_ (a_ (a_ tr (a_ (leB cL0_1) tr)) tr) (a_ (r1_ (a_ (a_ gL0_2 tr) (a_ (a_ (a_ tr (arrLt (len := 8) gL0_2 0 1 8 rfl rfl)) (a_ (ld8s (cInt .u8) 1 (fun _ => rfl) s1 [] [] 0 rfl t11.toNat (lt8N gL0_2) (le_ (0 + 1) 1 rfl)) tr)) (r2_ tr)))) (a_ (r1_ (r2_ (a_ (a_ tr (a_ (leB cL0_3) tr)) tr))) (a_ (r2_ (a_ (a_ gL0_2 tr) (a_ (a_ (a_ tr (arrLt (len := 8) gL0_2 0 1 8 rfl rfl)) (a_ (ld8s (cInt .u8) 1 (fun _ => rfl) s2 [] [] 0 rfl t11.toNat (lt8N gL0_2) (le_ (0 + 1) 1 rfl)) tr)) (r1_ tr)))) (a_ (r2_ (a_ (a_ (a_ (cmp_Compare_uint8_tri (A8.get s1 t11.toNat) (A8.get s2 t11.toNat) yL0_5 eL0_4) tr) tr) (r1_ tr))) (a_ (r1_ (a_ (a_ tr (a_ (leB cL0_6) tr)) tr)) (a_ (r2_ tr) tr))))))) (ih _ r h) (by as_aux_lemma => kernel_rfl) ⟨rfl, rfl, trivial⟩
    · skip
      obtain rfl := Option.some.inj h
      exact run_ret mixed (L := []) (n := 25) (s := [.go, .reg [(0, { v := some (.bool false) })], .reg [], .reg []])
        (a_ (a_ (a_ (a_ tr (a_ (leB cL0_1) tr)) tr) (a_ (r1_ (r4_ tr)) (a_ (r1_ tr) tr))) tr) (by as_aux_lemma => kernel_rfl) rfl

theorem slices_Compare_byte_byte_ok (s1 : A8 (Int)) (s2 : A8 (Int)) (r : (Int)) (h : slices_Compare_byte_byte s1 s2 = some r) : ∀ σ, Inj 2 σ → FnTri Tryd.prog 64 (renL σ [.sl 0 0 0 true 8 (some 8), .sl 1 0 0 true 8 (some 8)]) (preOf σ 0 (slices_Compare_byte_byte_objs s1 s2)) ((slices_Compare_byte_byte_v r).ren σ) (upOf σ (slices_Compare_byte_byte_up s1 s2 r)) := by
  refine fn_of Tryd.func64 (by kernel_rfl) (by kernel_rfl) (by kernel_rfl) ⟨rfl, rfl, trivial⟩ (by kernel_rfl) ⟨rfl, rfl, trivial⟩ (by kernel_rfl) ?_
  intro w0 W μ0 hμ
  unfold slices_Compare_byte_byte at h
  exact run_to mixed hμ (L := []) (n := 18) (s := [.reg [], .reg []])
    (a_ (r1_ tr) (a_ (r1_ (r2_ tr)) tr)) (slices_Compare_byte_byte_l0_ok hμ s1 s2  big _ r h) (by as_aux_lemma => kernel_rfl) ⟨rfl, rfl, trivial⟩

/-- parrel/ids.Keys -/

def ids_Keys_v (r : (Int)) : LV := .int .i64 r

def ids_Keys (a : A8 (Int)) (b : A8 (Int)) : Option ((Int)) :=
  (slices_Compare_byte_byte a b).bind fun y2 =>
  some y2

theorem ids_Keys_ok (a : A8 (Int)) (b : A8 (Int)) (r : (Int)) (h : ids_Keys a b = some r) : ∀ σ, Inj 0 σ → FnTri Tryd.prog 54 (renL σ [.agg [.int .u8 a.a0, .int .u8 a.a1, .int .u8 a.a2, .int .u8 a.a3, .int .u8 a.a4, .int .u8 a.a5, .int .u8 a.a6, .int .u8 a.a7], .agg [.int .u8 b.a0, .int .u8 b.a1, .int .u8 b.a2, .int .u8 b.a3, .int .u8 b.a4, .int .u8 b.a5, .int .u8 b.a6, .int .u8 b.a7]]) (preOf σ 0 []) ((ids_Keys_v r).ren σ) (upOf σ []) := by
  refine fn_of Tryd.func54 (by kernel_rfl) (by kernel_rfl) (by kernel_rfl) trivial (by kernel_rfl) trivial (by kernel_rfl) ?_
  intro w0 W μ0 hμ
  unfold ids_Keys at h
  obtain ⟨y2, e1, h⟩ := bind_some h
  obtain rfl := Option.some.inj h
  exact run_ret mixed (L := []) (n := 15) (s := [.reg [], .reg [(2, { call := some ((slices_Compare_byte_byte_v y2).ren (sel [0, 1]), preOf (sel [0, 1]) 0 (slices_Compare_byte_byte_objs a b), upOf (sel [0, 1]) (slices_Compare_byte_byte_up a b y2)) })]])
    (a_ (a_ (r1_ (r2_ tr)) (a_ (a_ (a_ (a_ (lei_ 0 0 rfl) (a_ (lei_ 0 8 rfl) (lei_ 8 8 rfl))) tr) (a_ (a_ (a_ (lei_ 0 0 rfl) (a_ (lei_ 0 8 rfl) (lei_ 8 8 rfl))) tr) (a_ (a_ (a_ (slices_Compare_byte_byte_ok a b y2 e1 (sel [0, 1]) (sel_inj rfl rfl)) (a_ (LO.Le.refl (.var [.int .u8 a.a0, .int .u8 a.a1, .int .u8 a.a2, .int .u8 a.a3, .int .u8 a.a4, .int .u8 a.a5, .int .u8 a.a6, .int .u8 a.a7])) (a_ (LO.Le.refl (.var [.int .u8 b.a0, .int .u8 b.a1, .int .u8 b.a2, .int .u8 b.a3, .int .u8 b.a4, .int .u8 b.a5, .int .u8 b.a6, .int .u8 b.a7])) tr))) tr) (r1_ tr)))) tr)) tr) (by as_aux_lemma => kernel_rfl) rfl

theorem ids_Keys_tri (a : A8 (Int)) (b : A8 (Int)) (r : (Int)) (h : ids_Keys a b = some r) : FnTri Tryd.prog 54 [.agg [.int .u8 a.a0, .int .u8 a.a1, .int .u8 a.a2, .int .u8 a.a3, .int .u8 a.a4, .int .u8 a.a5, .int .u8 a.a6, .int .u8 a.a7], .agg [.int .u8 b.a0, .int .u8 b.a1, .int .u8 b.a2, .int .u8 b.a3, .int .u8 b.a4, .int .u8 b.a5, .int .u8 b.a6, .int .u8 b.a7]] [] (ids_Keys_v r) [] := FnTri.none (ids_Keys_ok a b r h) rfl rfl

/-- parrel/msg.WritesMay -/

def msg_WritesMay_v (r : (Bool)) : LV := .bool r

def msg_WritesMay_T0 (l : List (T_api_Write)) (t7 : Int) : List LV := [.ds 21 (l).length (rowF c_T_api_Write default l), .any, .any, .any, .any, .ds 21 (l).length (rowF c_T_api_Write default l), .int .i64 ((l).length : Int), .int .i64 t7, .any, .any, .any, .any, .any, .any, .any, .any, .any, .any, .any, .any, .any, .any, .any, .any, .any, .any, .any, .any, .any, .any, .any, .any, .any, .any, .any, .any, .any, .any, .any, .any, .any, .any]

def msg_WritesMay_H0 (l : List (T_api_Write)) (t7 : Int) : Heap := []

def msg_WritesMay_l0 (l : List (T_api_Write))  : Nat → (Int) → Option ((Bool))
  | 0, _ => none
  | fuel + 1, t7 =>
    if ((decide (t7 < ((l).length : Int))) : Bool) then
      if 0 ≤ t7 ∧ t7 < (((l).length : Nat) : Int) then
      (msg_keyMay (l.getD t7.toNat default).f_Key).bind fun yL0_4 =>
      if ((!yL0_4) : Bool) then
        some false
      else
        (msg_ItemMay (l.getD t7.toNat default).f_Item).bind fun yL0_7 =>
        if ((!yL0_7) : Bool) then
          some false
        else
          if ((decide (0 < t7)) : Bool) then
            if 0 ≤ (IntKind.wrap .i64 (t7 - 1)) ∧ (IntKind.wrap .i64 (t7 - 1)) < (((l).length : Nat) : Int) then
            (ids_Keys (l.getD ((IntKind.wrap .i64 (t7 - 1))).toNat default).f_Key (l.getD t7.toNat default).f_Key).bind fun yL0_12 =>
            if ((decide (0 ≤ yL0_12)) : Bool) then
              some false
            else
              msg_WritesMay_l0 l  fuel (IntKind.wrap .i64 (t7 + 1))
            else none
          else
            msg_WritesMay_l0 l  fuel (IntKind.wrap .i64 (t7 + 1))
      else none
    else
      some (decide (((l).length : Int) ≤ 16))

def msg_WritesMay (l : List (T_api_Write)) : Option ((Bool)) :=
  msg_WritesMay_l0 l  big 0

theorem msg_WritesMay_l0_ok {w0 : World} {W : Nat → Prop} {μ0 : Emb} (hμ : ∀ c p, μ0 c = some p → c < 0) (l : List (T_api_Write))  : ∀ (fuel : Nat) (t7 : Int) (r : (Bool)), msg_WritesMay_l0 l  fuel t7 = some r → kont Tryd.prog w0 W μ0 (FnPost Tryd.prog Tryd.f38 0 0 (msg_WritesMay_v r) []) (kAt (bodyOf Tryd.f38) 0) none (msg_WritesMay_T0 l t7) (msg_WritesMay_H0 l t7) := by
  intro fuel
  induction fuel with
  | zero => intro t7 r h; rw [msg_WritesMay_l0] at h; cases h
  | succ fuel ih =>
    intro t7 r h
    rw [msg_WritesMay_l0] at h
    rcases itb_some h with ⟨cL0_1, h⟩ | ⟨cL0_1, h⟩
    · skip
      obtain ⟨gL0_2, h⟩ := guard_some h
      obtain ⟨yL0_4, eL0_3, h⟩ := bind_some h
      rcases itb_some h with ⟨cL0_5, h⟩ | ⟨cL0_5, h⟩
      · skip
        obtain rfl := Option.some.inj h
        exact run_ret mixed (L := []) (n := 28) (s := [.go, .reg [(0, { v := some (.bool true) })], .reg [], .reg [(2, { call := some (msg_keyMay_v yL0_4, [], []) }), (4, { v := some (.bool true) })], .reg []])
          (a_ (a_ (a_ (a_ tr (a_ (leB cL0_1) tr)) tr) (a_ (r1_ (a_ (a_ (a_ (Eq.refl 21) gL0_2) tr) (a_ (a_ (le_ 21 21 rfl) tr) (r2_ (a_ (a_ (a_ (Eq.refl 21) (a_ (le_ 21 21 rfl) (Eq.refl 0))) tr) tr))))) (a_ (r1_ (a_ (a_ (a_ tr (le_ 8 21 rfl)) tr) (a_ (a_ (a_ (msg_keyMay_tri (l.getD t7.toNat default).f_Key yL0_4 eL0_3) tr) tr) (r1_ (a_ (a_ tr (a_ (leB cL0_5) tr)) (t4_ (r2_ (t2_ (t4_ (t8_ (r1_ tr))))))))))) (a_ (r1_ tr) tr)))) tr) (by as_aux_lemma => kernel_rfl) rfl
      · skip
        obtain ⟨yL0_7, eL0_6, h⟩ := bind_some h
        rcases itb_some h with ⟨cL0_8, h⟩ | ⟨cL0_8, h⟩
        · skip
          obtain rfl := Option.some.inj h
          exact run_ret mixed (L := []) (n := 28) (s := [.go, .reg [(0, { v := some (.bool true) })], .reg [], .reg [(2, { call := some (msg_keyMay_v yL0_4, [], []) }), (4, { v := some (.bool false) }), (7, { call := some (msg_ItemMay_v yL0_7, [], []) }), (10, { v := some (.bool true) })], .reg []])
            (a_ (a_ (a_ (a_ tr (a_ (leB cL0_1) tr)) tr) (a_ (r1_ (a_ (a_ (a_ (Eq.refl 21) gL0_2) tr) (a_ (a_ (le_ 21 21 rfl) tr) (r2_ (a_ (a_ (a_ (Eq.refl 21) (a_ (le_ 21 21 rfl) (Eq.refl 0))) tr) tr))))) (a_ (r1_ (a_ (a_ (a_ tr (le_ 8 21 rfl)) tr) (a_ (a_ (a_ (msg_keyMay_tri (l.getD t7.toNat default).f_Key yL0_4 eL0_3) tr) tr) (r1_ (a_ (a_ tr (a_ (leB cL0_5) tr)) (r1_ (a_ (a_ (a_ tr (le_ 21 21 rfl)) tr) (a_ (a_ (a_ (msg_ItemMay_tri (l.getD t7.toNat default).f_Item yL0_7 eL0_6) tr) tr) (r2_ (a_ (a_ tr (a_ (leB cL0_8) tr)) (t2_ (t4_ (t8_ (r1_ tr)))))))))))))) (a_ (r1_ tr) tr)))) tr) (by as_aux_lemma => kernel_rfl) rfl
        · skip
          rcases itb_some h with ⟨cL0_9, h⟩ | ⟨cL0_9, h⟩
          · skip
            obtain ⟨gL0_10, h⟩ := guard_some h
            obtain ⟨yL0_12, eL0_11, h⟩ := bind_some h
            rcases itb_some h with ⟨cL0_13, h⟩ | ⟨cL0_13, h⟩
            · skip
              obtain rfl := Option.some.inj h
              exact run_ret mixed (L := []) (n := 28) (s := [.go, .reg [(0, { v := some (.bool true) })], .reg [], .reg [(2, { call := some (msg_keyMay_v yL0_4, [], []) }), (4, { v := some (.bool false) }), (7, { call := some (msg_ItemMay_v yL0_7, [], []) }), (10, { v := some (.bool false) }), (13, { v := some (.bool true) }), (22, { call := some (ids_Keys_v yL0_12, [], []) }), (25, { v := some (.bool true) })], .reg []])
                (a_ (a_ (a_ (a_ tr (a_ (leB cL0_1) tr)) tr) (a_ (r1_ (a_ (a_ (a_ (Eq.refl 21) gL0_2) tr) (a_ (a_ (le_ 21 21 rfl) tr) (r2_ (a_ (a_ (a_ (Eq.refl 21) (a_ (le_ 21 21 rfl) (Eq.refl 0))) tr) tr))))) (a_ (r1_ (a_ (a_ (a_ tr (le_ 8 21 rfl)) tr) (a_ (a_ (a_ (msg_keyMay_tri (l.getD t7.toNat default).f_Key yL0_4 eL0_3) tr) tr) (r1_ (a_ (a_ tr (a_ (leB cL0_5) tr)) (r1_ (a_ (a_ (a_ tr (le_ 21 21 rfl)) tr) (a_ (a_ (a_ (msg_ItemMay_tri (l.getD t7.toNat default).f_Item yL0_7 eL0_6) tr) tr) (r2_ (a_ (a_ tr (a_ (leB cL0_8) tr)) (r2_ (a_ (a_ tr (a_ (leB cL0_9) tr)) (r1_ (r2_ (a_ (a_ (a_ (Eq.refl 21) gL0_10) tr) (r1_ (a_ (a_ (le_ 8 21 rfl) tr) (r1_ (a_ (a_ (a_ tr (le_ 8 21 rfl)) tr) (a_ (a_ (a_ (ids_Keys_tri (l.getD ((IntKind.wrap .i64 (t7 - 1))).toNat default).f_Key (l.getD t7.toNat default).f_Key yL0_12 eL0_11) tr) tr) (r2_ (a_ (a_ tr (a_ (leB cL0_13) tr)) tr)))))))))))))))))))))) (a_ (r1_ tr) tr)))) tr) (by as_aux_lemma => kernel_rfl) rfl
            · skip
              exact run_to mixed hμ (L := []) (n := 29) (s := [.go, .reg [(0, { v := some (.bool true) })], .reg [], .reg [(2, { call := some (msg_keyMay_v yL0_4, [], []) }), (4, { v := some (.bool false) }), (7, { call := some (msg_ItemMay_v yL0_7, [], []) }), (10, { v := some (.bool false) }), (13, { v := some (.bool true) }), (22, { call := some (ids_Keys_v yL0_12, [], []) }), (25, { v := some (.bool false) })], .reg []])
                (a_ (a_ (a_ tr (a_ (leB cL0_1) tr)) tr) (a_ (r1_ (a_ (a_ (a_ (Eq.refl 21) gL0_2) tr) (a_ (a_ (le_ 21 21 rfl) tr) (r2_ (a_ (a_ (a_ (Eq.refl 21) (a_ (le_ 21 21 rfl) (Eq.refl 0))) tr) tr))))) (a_ (r1_ (a_ (a_ (a_ tr (le_ 8 21 rfl)) tr) (a_ (a_ (a_ (msg_keyMay_tri (l.getD t7.toNat default).f_Key yL0_4 eL0_3) tr) tr) (r1_ (a_ (a_ tr (a_ (leB cL0_5) tr)) (r1_ (a_ (a_ (a_ tr (le_ 21 21 rfl)) tr) (a_ (a_ (a_ (msg_ItemMay_tri (l.getD t7.toNat default).f_Item yL0_7 eL0_6) tr) tr) (r2_ (a_ (a_ tr (a_ (leB cL0_8) tr)) (r2_ (a_ (a_ tr (a_ (leB cL0_9) tr)) (r1_ (r2_ (a_ (a_ (a_ (Eq.refl 21) gL0_10) tr) (r1_ (a_ (a_ (le_ 8 21 rfl) tr) (r1_ (a_ (a_ (a_ tr (le_ 8 21 rfl)) tr) (a_ (a_ (a_ (ids_Keys_tri (l.getD ((IntKind.wrap .i64 (t7 - 1))).toNat default).f_Key (l.getD t7.toNat default).f_Key yL0_12 eL0_11) tr) tr) (r2_ (a_ (a_ tr (a_ (leB cL0_13) tr)) tr)))))))))))))))))))))) (a_ (r2_ tr) tr)))) (ih _ r h) (by as_aux_lemma => kernel_rfl) trivial
          · skip
            exact run_to mixed hμ (L := []) (n := 29) (s := [.go, .reg [(0, { v := some (.bool true) })], .reg [], .reg [(2, { call := some (msg_keyMay_v yL0_4, [], []) }), (4, { v := some (.bool false) }), (7, { call := some (msg_ItemMay_v yL0_7, [], []) }), (10, { v := some (.bool false) }), (13, { v := some (.bool false) })], .reg []])
              (a_ (a_ (a_ tr (a_ (leB cL0_1) tr)) tr) (a_ (r1_ (a_ (a_ (a_ (Eq.refl 21) gL0_2) tr) (a_ (a_ (le_ 21 21 rfl) tr) (r2_ (a_ (a_ (a_ (Eq.refl 21) (a_ (le_ 21 21 rfl) (Eq.refl 0))) tr) tr))))) (a_ (r1_ (a_ (a_ (a_ tr (le_ 8 21 rfl)) tr) (a_ (a_ (a_ (msg_keyMay_tri (l.getD t7.toNat default).f_Key yL0_4 eL0_3) tr) tr) (r1_ (a_ (a_ tr (a_ (leB cL0_5) tr)) (r1_ (a_ (a_ (a_ tr (le_ 21 21 rfl)) tr) (a_ (a_ (a_ (msg_ItemMay_tri (l.getD t7.toNat default).f_Item yL0_7 eL0_6) tr) tr) (r2_ (a_ (a_ tr (a_ (leB cL0_8) tr)) (r2_ (a_ (a_ tr (a_ (leB cL0_9) tr)) (t2_ (t8_ (r2_ tr))))))))))))))) (a_ (r2_ tr) tr)))) (ih _ r h) (by as_aux_lemma => kernel_rfl) trivial
    · skip
      obtain rfl := Option.some.inj h
      exact run_ret mixed (L := []) (n := 19) (s := [.go, .reg [(0, { v := some (.bool false) })], .reg []])
        (a_ (a_ (a_ (a_ tr (a_ (leB cL0_1) tr)) tr) (a_ (r4_ tr) tr)) tr) (by as_aux_lemma => kernel_rfl) rfl

theorem msg_WritesMay_ok (l : List (T_api_Write)) (r : (Bool)) (h : msg_WritesMay l = some r) : ∀ σ, Inj 0 σ → FnTri Tryd.prog 38 (renL σ [.ds 21 (l).length (rowF c_T_api_Write default l)]) (preOf σ 0 []) ((msg_WritesMay_v r).ren σ) (upOf σ []) := by
  refine fn_of Tryd.func38 (by kernel_rfl) (by kernel_rfl) (by kernel_rfl) trivial (by kernel_rfl) trivial (by kernel_rfl) ?_
  intro w0 W μ0 hμ
  unfold msg_WritesMay at h
  exact run_to mixed hμ (L := []) (n := 18) (s := [.reg [], .reg []])
    (a_ (r1_ tr) (a_ (r1_ (r2_ tr)) tr)) (msg_WritesMay_l0_ok hμ l  big _ r h) (by as_aux_lemma => kernel_rfl) trivial

theorem msg_WritesMay_tri (l : List (T_api_Write)) (r : (Bool)) (h : msg_WritesMay l = some r) : FnTri Tryd.prog 38 [.ds 21 (l).length (rowF c_T_api_Write default l)] [] (msg_WritesMay_v r) [] := FnTri.none (msg_WritesMay_ok l r h) rfl rfl

/-- parrel/stage.may -/

def stage_may_v (r : (Bool)) : LV := .bool r

def stage_may (t : T_api_Tx) (g : T_api_Reg) (l : List (T_api_Write)) : Option ((Bool)) :=
  (ids_TxMay t).bind fun y2 =>
  if (y2 : Bool) then
    (ids_RegMay g).bind fun y5 =>
    if (y5 : Bool) then
      if ((decide (0 < ((l).length : Int))) : Bool) then
        (msg_WritesMay l).bind fun y9 =>
        some y9
      else
        some false
    else
      some false
  else
    some false

theorem stage_may_ok (t : T_api_Tx) (g : T_api_Reg) (l : List (T_api_Write)) (r : (Bool)) (h : stage_may t g l = some r) : ∀ σ, Inj 0 σ → FnTri Tryd.prog 25 (renL σ [v_T_api_Tx t, v_T_api_Reg g, .ds 21 (l).length (rowF c_T_api_Write default l)]) (preOf σ 0 []) ((stage_may_v r).ren σ) (upOf σ []) := by
  refine fn_of Tryd.func25 (by kernel_rfl) (by kernel_rfl) (by kernel_rfl) trivial (by kernel_rfl) trivial (by kernel_rfl) ?_
  intro w0 W μ0 hμ
  unfold stage_may at h
  obtain ⟨y2, e1, h⟩ := bind_some h
  rcases itb_some h with ⟨c3, h⟩ | ⟨c3, h⟩
  · skip
    obtain ⟨y5, e4, h⟩ := bind_some h
    rcases itb_some h with ⟨c6, h⟩ | ⟨c6, h⟩
    · skip
      rcases itb_some h with ⟨c7, h⟩ | ⟨c7, h⟩
      · skip
        obtain ⟨y9, e8, h⟩ := bind_some h
        obtain rfl := Option.some.inj h
        exact run_ret mixed (L := []) (n := 15) (s := [.reg [], .reg [(1, { call := some (ids_TxMay_v y2, [], []) }), (2, { v := some (.bool true) }), (4, { call := some (ids_RegMay_v y5, [], []) }), (6, { v := some (.bool true) }), (11, { v := some (.bool true) }), (13, { call := some (msg_WritesMay_v y9, [], []) })]])
          (a_ (a_ (r1_ (r2_ tr)) (a_ (a_ (a_ (a_ tr (le_ 3 3 rfl)) tr) (a_ (a_ (a_ (ids_TxMay_tri t y2 e1) tr) tr) (a_ (a_ tr (a_ (leB c3) tr)) (a_ (a_ (a_ tr (le_ 2 2 rfl)) tr) (a_ (a_ (a_ (ids_RegMay_tri g y5 e4) tr) tr) (r1_ (a_ (a_ tr (a_ (leB c6) tr)) (r4_ (a_ (a_ tr (a_ (leB c7) tr)) (r1_ (a_ (a_ (a_ (msg_WritesMay_tri l y9 e8) tr) tr) (r2_ tr)))))))))))) tr)) tr) (by as_aux_lemma => kernel_rfl) rfl
      · skip
        obtain rfl := Option.some.inj h
        exact run_ret mixed (L := []) (n := 15) (s := [.reg [], .reg [(1, { call := some (ids_TxMay_v y2, [], []) }), (2, { v := some (.bool true) }), (4, { call := some (ids_RegMay_v y5, [], []) }), (6, { v := some (.bool true) }), (11, { v := some (.bool false) })]])
          (a_ (a_ (r1_ (r2_ tr)) (a_ (a_ (a_ (a_ tr (le_ 3 3 rfl)) tr) (a_ (a_ (a_ (ids_TxMay_tri t y2 e1) tr) tr) (a_ (a_ tr (a_ (leB c3) tr)) (a_ (a_ (a_ tr (le_ 2 2 rfl)) tr) (a_ (a_ (a_ (ids_RegMay_tri g y5 e4) tr) tr) (r1_ (a_ (a_ tr (a_ (leB c6) tr)) (r4_ (a_ (a_ tr (a_ (leB c7) tr)) (t2_ (r2_ tr))))))))))) tr)) tr) (by as_aux_lemma => kernel_rfl) rfl
    · skip
      obtain rfl := Option.some.inj h
      exact run_ret mixed (L := []) (n := 15) (s := [.reg [], .reg [(1, { call := some (ids_TxMay_v y2, [], []) }), (2, { v := some (.bool true) }), (4, { call := some (ids_RegMay_v y5, [], []) }), (6, { v := some (.bool false) })]])
        (a_ (a_ (r1_ (r2_ tr)) (a_ (a_ (a_ (a_ tr (le_ 3 3 rfl)) tr) (a_ (a_ (a_ (ids_TxMay_tri t y2 e1) tr) tr) (a_ (a_ tr (a_ (leB c3) tr)) (a_ (a_ (a_ tr (le_ 2 2 rfl)) tr) (a_ (a_ (a_ (ids_RegMay_tri g y5 e4) tr) tr) (r1_ (a_ (a_ tr (a_ (leB c6) tr)) (a_ tr (t2_ (r2_ (t2_ (r2_ tr)))))))))))) tr)) tr) (by as_aux_lemma => kernel_rfl) rfl
  · skip
    obtain rfl := Option.some.inj h
    exact run_ret mixed (L := []) (n := 15) (s := [.reg [], .reg [(1, { call := some (ids_TxMay_v y2, [], []) }), (2, { v := some (.bool false) })]])
      (a_ (a_ (r1_ (r2_ tr)) (a_ (a_ (a_ (a_ tr (le_ 3 3 rfl)) tr) (a_ (a_ (a_ (ids_TxMay_tri t y2 e1) tr) tr) (a_ (a_ tr (a_ (leB c3) tr)) (t2_ (r2_ (a_ tr (t2_ (r2_ (t2_ (r2_ tr)))))))))) tr)) tr) (by as_aux_lemma => kernel_rfl) rfl

theorem stage_may_tri (t : T_api_Tx) (g : T_api_Reg) (l : List (T_api_Write)) (r : (Bool)) (h : stage_may t g l = some r) : FnTri Tryd.prog 25 [v_T_api_Tx t, v_T_api_Reg g, .ds 21 (l).length (rowF c_T_api_Write default l)] [] (stage_may_v r) [] := FnTri.none (stage_may_ok t g l r h) rfl rfl

/-- slices.Equal[[]parrel/api.Write,parrel/api.Write] -/

def slices_Equal_api_Write_api_Write_v (r : (Bool)) : LV := .bool r

def slices_Equal_api_Write_api_Write_T0 (s1 : List (T_api_Write)) (s2 : List (T_api_Write)) (t13 : Int) : List LV := [.ds 21 (s1).length (rowF c_T_api_Write default s1), .ds 21 (s2).length (rowF c_T_api_Write default s2), .any, .any, .any, .any, .any, .any, .any, .any, .any, .any, .int .i64 ((s1).length : Int), .int .i64 t13, .any, .any, .any, .any, .any, .any, .any, .any, .any, .any, .any, .any]

def slices_Equal_api_Write_api_Write_H0 (s1 : List (T_api_Write)) (s2 : List (T_api_Write)) (t13 : Int) : Heap := []

def slices_Equal_api_Write_api_Write_l0 (s1 : List (T_api_Write)) (s2 : List (T_api_Write))  : Nat → (Int) → Option ((Bool))
  | 0, _ => none
  | fuel + 1, t13 =>
    if ((decide (t13 < ((s1).length : Int))) : Bool) then
      if 0 ≤ t13 ∧ t13 < (((s1).length : Nat) : Int) then
      if 0 ≤ t13 ∧ t13 < (((s2).length : Nat) : Int) then
      if ((!decide ((s1.getD t13.toNat default) = (s2.getD t13.toNat default))) : Bool) then
        some false
      else
        slices_Equal_api_Write_api_Write_l0 s1 s2  fuel (IntKind.wrap .i64 (t13 + 1))
      else none
      else none
    else
      some true

def slices_Equal_api_Write_api_Write (s1 : List (T_api_Write)) (s2 : List (T_api_Write)) : Option ((Bool)) :=
  if ((((s1).length : Int) != ((s2).length : Int)) : Bool) then
    some false
  else
    slices_Equal_api_Write_api_Write_l0 s1 s2  big 0

theorem slices_Equal_api_Write_api_Write_l0_ok {w0 : World} {W : Nat → Prop} {μ0 : Emb} (hμ : ∀ c p, μ0 c = some p → c < 0) (s1 : List (T_api_Write)) (s2 : List (T_api_Write))  : ∀ (fuel : Nat) (t13 : Int) (r : (Bool)), slices_Equal_api_Write_api_Write_l0 s1 s2  fuel t13 = some r → kont Tryd.prog w0 W μ0 (FnPost Tryd.prog Tryd.f26 0 0 (slices_Equal_api_Write_api_Write_v r) []) (kAt (bodyOf Tryd.f26) 0) none (slices_Equal_api_Write_api_Write_T0 s1 s2 t13) (slices_Equal_api_Write_api_Write_H0 s1 s2 t13) := by
  intro fuel
  induction fuel with
  | zero => intro t13 r h; rw [slices_Equal_api_Write_api_Write_l0] at h; cases h
  | succ fuel ih =>
    intro t13 r h
    rw [slices_Equal_api_Write_api_Write_l0] at h
    rcases itb_some h with ⟨cL0_1, h⟩ | ⟨cL0_1, h⟩
    · skip
      obtain ⟨gL0_2, h⟩ := guard_some h
      obtain ⟨gL0_3, h⟩ := guard_some h
      rcases itb_some h with ⟨cL0_4, h⟩ | ⟨cL0_4, h⟩
      · skip
        obtain rfl := Option.some.inj h
        exact run_ret mixed (L := []) (n := 28) (s := [.go, .reg [(0, { v := some (.bool true) })], .reg [], .reg [(8, { v := some (.bool true) })], .reg []])
          (a_ (a_ (a_ (a_ tr (a_ (leB cL0_1) tr)) tr) (a_ (r2_ tr) (a_ (r2_ (a_ (a_ (a_ (Eq.refl 21) gL0_2) tr) (a_ (a_ (le_ 21 21 rfl) tr) (r2_ (a_ (a_ (a_ (Eq.refl 21) gL0_3) tr) (a_ (a_ (le_ 21 21 rfl) tr) (a_ (a_ tr (a_ (LV.Le.trans (leB (congrArg not (k_T_api_Write (s1.getD t13.toNat default) (s2.getD t13.toNat default)))) (leB cL0_4)) tr)) tr))))))) (a_ (r1_ tr) tr)))) tr) (by as_aux_lemma => kernel_rfl) rfl
      · skip
        exact run_to mixed hμ (L := []) (n := 29) (s := [.go, .reg [(0, { v := some (.bool true) })], .reg [], .reg [(8, { v := some (.bool false) })], .reg []])
          (a_ (a_ (a_ tr (a_ (leB cL0_1) tr)) tr) (a_ (r2_ tr) (a_ (r2_ (a_ (a_ (a_ (Eq.refl 21) gL0_2) tr) (a_ (a_ (le_ 21 21 rfl) tr) (r2_ (a_ (a_ (a_ (Eq.refl 21) gL0_3) tr) (a_ (a_ (le_ 21 21 rfl) tr) (a_ (a_ tr (a_ (LV.Le.trans (leB (congrArg not (k_T_api_Write (s1.getD t13.toNat default) (s2.getD t13.toNat default)))) (leB cL0_4)) tr)) tr))))))) (a_ (r2_ tr) tr)))) (ih _ r h) (by as_aux_lemma => kernel_rfl) trivial
    · skip
      obtain rfl := Option.some.inj h
      exact run_ret mixed (L := []) (n := 19) (s := [.go, .reg [(0, { v := some (.bool false) })], .reg []])
        (a_ (a_ (a_ (a_ tr (a_ (leB cL0_1) tr)) tr) (a_ (r1_ tr) tr)) tr) (by as_aux_lemma => kernel_rfl) rfl

theorem slices_Equal_api_Write_api_Write_ok (s1 : List (T_api_Write)) (s2 : List (T_api_Write)) (r : (Bool)) (h : slices_Equal_api_Write_api_Write s1 s2 = some r) : ∀ σ, Inj 0 σ → FnTri Tryd.prog 26 (renL σ [.ds 21 (s1).length (rowF c_T_api_Write default s1), .ds 21 (s2).length (rowF c_T_api_Write default s2)]) (preOf σ 0 []) ((slices_Equal_api_Write_api_Write_v r).ren σ) (upOf σ []) := by
  refine fn_of Tryd.func26 (by kernel_rfl) (by kernel_rfl) (by kernel_rfl) trivial (by kernel_rfl) trivial (by kernel_rfl) ?_
  intro w0 W μ0 hμ
  unfold slices_Equal_api_Write_api_Write at h
  rcases itb_some h with ⟨c1, h⟩ | ⟨c1, h⟩
  · skip
    obtain rfl := Option.some.inj h
    exact run_ret mixed (L := []) (n := 20) (s := [.reg [], .reg [(4, { v := some (.bool true) })], .reg []])
      (a_ (a_ (r1_ tr) (a_ (r4_ (a_ (a_ tr (a_ (leB c1) tr)) tr)) (a_ (r1_ tr) tr))) tr) (by as_aux_lemma => kernel_rfl) rfl
  · skip
    exact run_to mixed hμ (L := []) (n := 24) (s := [.reg [], .reg [(4, { v := some (.bool false) })], .reg []])
      (a_ (r1_ tr) (a_ (r4_ (a_ (a_ tr (a_ (leB c1) tr)) tr)) (a_ (r1_ (r2_ tr)) tr))) (slices_Equal_api_Write_api_Write_l0_ok hμ s1 s2  big _ r h) (by as_aux_lemma => kernel_rfl) trivial

theorem slices_Equal_api_Write_api_Write_tri (s1 : List (T_api_Write)) (s2 : List (T_api_Write)) (r : (Bool)) (h : slices_Equal_api_Write_api_Write s1 s2 = some r) : FnTri Tryd.prog 26 [.ds 21 (s1).length (rowF c_T_api_Write default s1), .ds 21 (s2).length (rowF c_T_api_Write default s2)] [] (slices_Equal_api_Write_api_Write_v r) [] := FnTri.none (slices_Equal_api_Write_api_Write_ok s1 s2 r h) rfl rfl

/-- slices.Clone[[]parrel/api.Write,parrel/api.Write] -/

def slices_Clone_api_Write_api_Write_v (r : Unit) : LV := .nilsl

def slices_Clone_api_Write_api_Write  : Option (Unit) :=
  some ()

theorem slices_Clone_api_Write_api_Write_ok  (r : Unit) (h : slices_Clone_api_Write_api_Write  = some r) : ∀ σ, Inj 0 σ → FnTri Tryd.prog 27 (renL σ [.nilsl]) (preOf σ 0 []) ((slices_Clone_api_Write_api_Write_v r).ren σ) (upOf σ []) := by
  refine fn_of Tryd.func27 (by kernel_rfl) (by kernel_rfl) (by kernel_rfl) trivial (by kernel_rfl) trivial (by kernel_rfl) ?_
  intro w0 W μ0 hμ
  unfold slices_Clone_api_Write_api_Write at h
  obtain rfl := Option.some.inj h
  exact run_ret mixed (L := []) (n := 20) (s := [.reg [], .reg [], .reg []])
    (a_ (a_ (r1_ tr) (a_ (r2_ tr) (a_ (r1_ tr) tr))) tr) (by as_aux_lemma => kernel_rfl) rfl

theorem slices_Clone_api_Write_api_Write_tri  (r : Unit) (h : slices_Clone_api_Write_api_Write  = some r) : FnTri Tryd.prog 27 [.nilsl] [] (slices_Clone_api_Write_api_Write_v r) [] := FnTri.none (slices_Clone_api_Write_api_Write_ok  r h) rfl rfl

/-- slices.Clone[[]parrel/api.Write,parrel/api.Write] -/

def slices_Clone_api_Write_api_Write_2_v (r : (List (T_api_Write))) : LV := .ds 21 (r).length (rowF c_T_api_Write default r)

def slices_Clone_api_Write_api_Write_2 (s : List (T_api_Write)) : Option ((List (T_api_Write))) :=
  if (0 + (s).length) * 48 ≤ 140737488351232 then
  some s
  else none

theorem slices_Clone_api_Write_api_Write_2_ok (s : List (T_api_Write)) (r : (List (T_api_Write))) (h : slices_Clone_api_Write_api_Write_2 s = some r) : ∀ σ, Inj 0 σ → FnTri Tryd.prog 27 (renL σ [.dn 21 (s).length (rowF c_T_api_Write default s)]) (preOf σ 0 []) ((slices_Clone_api_Write_api_Write_2_v r).ren σ) (upOf σ []) := by
  refine fn_of Tryd.func27 (by kernel_rfl) (by kernel_rfl) (by kernel_rfl) trivial (by kernel_rfl) trivial (by kernel_rfl) ?_
  intro w0 W μ0 hμ
  unfold slices_Clone_api_Write_api_Write_2 at h
  obtain ⟨g1, h⟩ := guard_some h
  obtain rfl := Option.some.inj h
  exact run_ret mixed (L := []) (n := 21) (s := [.reg [(0, { v := some (.ds 21 (([] : List (T_api_Write))).length (rowF c_T_api_Write default ([] : List (T_api_Write)))) })], .reg [], .reg [(0, { os := [(0, .row 21 ([] : List (T_api_Write)).length (rowF c_T_api_Write default []) true)] }), (2, { app := 4 })]])
    (a_ (a_ (a_ (a_ tr (a_ (le_nil_ds 21 (rowF c_T_api_Write default [])) tr)) tr) (a_ (r2_ tr) (a_ (a_ (a_ (a_ (Eq.refl true) (a_ (Eq.refl 21) (a_ (lt_ 0 21 rfl) (le_ 0 16777216 rfl)))) (a_ (sub_litr c_T_api_Write default 21 (fun _ => rfl) []) tr)) (r1_ (a_ (a_ (a_ (a_ (Eq.refl 21) (a_ (lt_ 0 21 rfl) (a_ (lt_ 0 48 rfl) (a_ g1 (a_ (Eq.refl 21) (Eq.refl true)))))) (fz_row (enc := c_T_api_Write) (d := default) (fun _ => rfl) s)) tr) (r1_ tr)))) tr))) tr) (by as_aux_lemma => kernel_rfl) rfl

theorem slices_Clone_api_Write_api_Write_2_tri (s : List (T_api_Write)) (r : (List (T_api_Write))) (h : slices_Clone_api_Write_api_Write_2 s = some r) : FnTri Tryd.prog 27 [.dn 21 (s).length (rowF c_T_api_Write default s)] [] (slices_Clone_api_Write_api_Write_2_v r) [] := FnTri.none (slices_Clone_api_Write_api_Write_2_ok s r h) rfl rfl

theorem slices_Clone_api_Write_api_Write_nilc : FnTri Tryd.prog 27 [.nilsl] [] .nilsl [] := slices_Clone_api_Write_api_Write_tri () rfl

theorem slices_Clone_api_Write_api_Write_c (l : List (T_api_Write)) (h : (0 + l.length) * 48 ≤ 140737488351232) : FnTri Tryd.prog 27 [(.ds 21 l.length (rowF c_T_api_Write default l))] [] (.ds 21 l.length (rowF c_T_api_Write default l)) [] :=
  tri_clone (fun h => by obtain rfl := List.eq_nil_of_length_eq_zero h; exact tri_nil_ds slices_Clone_api_Write_api_Write_nilc) (slices_Clone_api_Write_api_Write_2_tri l l (by unfold slices_Clone_api_Write_api_Write_2; exact if_pos h))

/-- (*parrel/stage.Stage).Put -/

def stage_Stage_Put_v (r : (Int) × (List (T_api_Tx × T_stage_prepared)) × (List (A8 (Int) × T_api_Tx))) : LV := .int .i64 r.1

def stage_Stage_Put_up (all : List (T_api_Tx × T_stage_prepared)) (owners : List (A8 (Int) × T_api_Tx)) (t : T_api_Tx) (g : T_api_Reg) (l : List (T_api_Write)) (r : (Int) × (List (T_api_Tx × T_stage_prepared)) × (List (A8 (Int) × T_api_Tx))) : Upd := [(0, some (.var [.map 1, .map 2])), (1, some (.map true [.int .u8, .int .u32, .int .u32] (encM v_T_api_Tx v_T_stage_prepared r.2.1))), (2, some (.map true [.int .u8, .int .u8, .int .u8, .int .u8, .int .u8, .int .u8, .int .u8, .int .u8] (encM (fun z_ : A8 (Int) => LV.agg [.int .u8 z_.a0, .int .u8 z_.a1, .int .u8 z_.a2, .int .u8 z_.a3, .int .u8 z_.a4, .int .u8 z_.a5, .int .u8 z_.a6, .int .u8 z_.a7]) v_T_api_Tx r.2.2)))]

def stage_Stage_Put_objs (all : List (T_api_Tx × T_stage_prepared)) (owners : List (A8 (Int) × T_api_Tx)) (t : T_api_Tx) (g : T_api_Reg) (l : List (T_api_Write)) : List LO := [.var [.map 1, .map 2], .map true [.int .u8, .int .u32, .int .u32] (encM v_T_api_Tx v_T_stage_prepared all), .map true [.int .u8, .int .u8, .int .u8, .int .u8, .int .u8, .int .u8, .int .u8, .int .u8] (encM (fun z_ : A8 (Int) => LV.agg [.int .u8 z_.a0, .int .u8 z_.a1, .int .u8 z_.a2, .int .u8 z_.a3, .int .u8 z_.a4, .int .u8 z_.a5, .int .u8 z_.a6, .int .u8 z_.a7]) v_T_api_Tx owners)]

def stage_Stage_Put_T1 (all : List (T_api_Tx × T_stage_prepared)) (t : T_api_Tx) (g : T_api_Reg) (l : List (T_api_Write)) (t82 : Int) (m : List (A8 (Int) × T_api_Tx)) : List LV := [.ptr 0 0 0, .any, .any, .any, .any, .ptr 3 0 0, .any, .any, .any, .any, .any, .any, .any, .any, .any, .any, .any, .any, .any, .any, .any, .any, .any, .any, .any, .any, .any, .any, .any, .any, .any, .any, .any, .any, .any, .any, .any, .any, .any, .any, .any, .any, .any, .any, .any, .any, .any, .any, .any, .any, .any, .any, .any, .any, .any, .any, .any, .any, .any, .any, .any, .any, .any, .any, .any, .any, .any, .any, .any, .any, .any, .any, .any, .any, .any, .any, .any, .any, .any, .any, .ds 21 (l).length (rowF c_T_api_Write default l), .int .i64 ((l).length : Int), .int .i64 t82, .any, .any, .any, .any, .any, .any, .any, .any, .any, .any, .any]

def stage_Stage_Put_H1 (all : List (T_api_Tx × T_stage_prepared)) (t : T_api_Tx) (g : T_api_Reg) (l : List (T_api_Write)) (t82 : Int) (m : List (A8 (Int) × T_api_Tx)) : Heap := [some (.var [.map 1, .map 2]), some (.map true [.int .u8, .int .u32, .int .u32] (encM v_T_api_Tx v_T_stage_prepared (mset all t (T_stage_prepared.mk g l)))), some (.map true [.int .u8, .int .u8, .int .u8, .int .u8, .int .u8, .int .u8, .int .u8, .int .u8] (encM (fun z_ : A8 (Int) => LV.agg [.int .u8 z_.a0, .int .u8 z_.a1, .int .u8 z_.a2, .int .u8 z_.a3, .int .u8 z_.a4, .int .u8 z_.a5, .int .u8 z_.a6, .int .u8 z_.a7]) v_T_api_Tx m)), some (.var (c_T_api_Tx t))]

def stage_Stage_Put_T0 (all : List (T_api_Tx × T_stage_prepared)) (owners : List (A8 (Int) × T_api_Tx)) (t : T_api_Tx) (g : T_api_Reg) (l : List (T_api_Write)) (t49 : Int) : List LV := [.ptr 0 0 0, .any, .any, .ds 21 (l).length (rowF c_T_api_Write default l), .any, .ptr 3 0 0, .ptr 4 0 0, .any, .any, .any, .any, .any, .any, .any, .any, .any, .any, .any, .any, .any, .any, .any, .any, .any, .any, .any, .any, .any, .any, .any, .any, .any, .any, .any, .any, .any, .any, .any, .any, .any, .any, .any, .any, .any, .any, .any, .any, .ds 21 (l).length (rowF c_T_api_Write default l), .int .i64 ((l).length : Int), .int .i64 t49, .any, .any, .any, .any, .any, .any, .any, .any, .any, .any, .any, .any, .any, .any, .any, .any, .any, .any, .any, .any, .any, .any, .any, .any, .any, .any, .any, .any, .any, .any, .any, .any, .any, .any, .any, .any, .any, .any, .any, .any, .any, .any, .any, .any]

def stage_Stage_Put_H0 (all : List (T_api_Tx × T_stage_prepared)) (owners : List (A8 (Int) × T_api_Tx)) (t : T_api_Tx) (g : T_api_Reg) (l : List (T_api_Write)) (t49 : Int) : Heap := [some (.var [.map 1, .map 2]), some (.map true [.int .u8, .int .u32, .int .u32] (encM v_T_api_Tx v_T_stage_prepared all)), some (.map true [.int .u8, .int .u8, .int .u8, .int .u8, .int .u8, .int .u8, .int .u8, .int .u8] (encM (fun z_ : A8 (Int) => LV.agg [.int .u8 z_.a0, .int .u8 z_.a1, .int .u8 z_.a2, .int .u8 z_.a3, .int .u8 z_.a4, .int .u8 z_.a5, .int .u8 z_.a6, .int .u8 z_.a7]) v_T_api_Tx owners)), some (.var (c_T_api_Tx t)), some (.var (c_T_api_Reg g))]

def stage_Stage_Put_l1 (all : List (T_api_Tx × T_stage_prepared)) (owners : List (A8 (Int) × T_api_Tx)) (t : T_api_Tx) (g : T_api_Reg) (l : List (T_api_Write))  : Nat → (Int) → (List (A8 (Int) × T_api_Tx)) → Option ((Int) × (List (T_api_Tx × T_stage_prepared)) × (List (A8 (Int) × T_api_Tx)))
  | 0, _, _ => none
  | fuel + 1, t82, m =>
    if ((decide (t82 < ((l).length : Int))) : Bool) then
      if 0 ≤ t82 ∧ t82 < (((l).length : Nat) : Int) then
      stage_Stage_Put_l1 all owners t g l  fuel (IntKind.wrap .i64 (t82 + 1)) (mset m (l.getD t82.toNat default).f_Key t)
      else none
    else
      some (0, (mset all t (T_stage_prepared.mk g l)), m)

def stage_Stage_Put_l0 (all : List (T_api_Tx × T_stage_prepared)) (owners : List (A8 (Int) × T_api_Tx)) (t : T_api_Tx) (g : T_api_Reg) (l : List (T_api_Write))  : Nat → (Int) → Option ((Int) × (List (T_api_Tx × T_stage_prepared)) × (List (A8 (Int) × T_api_Tx)))
  | 0, _ => none
  | fuel + 1, t49 =>
    if ((decide (t49 < ((l).length : Int))) : Bool) then
      if 0 ≤ t49 ∧ t49 < (((l).length : Nat) : Int) then
      if (((mget owners (l.getD t49.toNat default).f_Key).isSome) : Bool) then
        some (11, all, owners)
      else
        stage_Stage_Put_l0 all owners t g l  fuel (IntKind.wrap .i64 (t49 + 1))
      else none
    else
      if ((((all).length : Int) == 64) : Bool) then
        some (5, all, owners)
      else
        if (0 + (l).length) * 48 ≤ 140737488351232 then
        stage_Stage_Put_l1 all owners t g l  big 0 owners
        else none

def stage_Stage_Put (all : List (T_api_Tx × T_stage_prepared)) (owners : List (A8 (Int) × T_api_Tx)) (t : T_api_Tx) (g : T_api_Reg) (l : List (T_api_Write)) : Option ((Int) × (List (T_api_Tx × T_stage_prepared)) × (List (A8 (Int) × T_api_Tx))) :=
  (stage_Stage_ok all owners).bind fun y2 =>
  (stage_may t g l).bind fun y4 =>
  if ((!y4) : Bool) then
    some (1, all, owners)
  else
    if (((mget all t).isSome) : Bool) then
      if ((decide (((mget all t).getD default).f_reg = g)) : Bool) then
        (slices_Equal_api_Write_api_Write ((mget all t).getD default).f_writes l).bind fun y9 =>
        if (y9 : Bool) then
          some (0, all, owners)
        else
          some (7, all, owners)
      else
        some (7, all, owners)
    else
      stage_Stage_Put_l0 all owners t g l  big 0

theorem stage_Stage_Put_l1_ok {w0 : World} {W : Nat → Prop} {μ0 : Emb} (hμ : ∀ c p, μ0 c = some p → c < 3) (all : List (T_api_Tx × T_stage_prepared)) (owners : List (A8 (Int) × T_api_Tx)) (t : T_api_Tx) (g : T_api_Reg) (l : List (T_api_Write))  : ∀ (fuel : Nat) (t82 : Int) (m : List (A8 (Int) × T_api_Tx)) (r : (Int) × (List (T_api_Tx × T_stage_prepared)) × (List (A8 (Int) × T_api_Tx))), stage_Stage_Put_l1 all owners t g l  fuel t82 m = some r → kont Tryd.prog w0 W μ0 (FnPost Tryd.prog Tryd.f10 3 3 (stage_Stage_Put_v r) (stage_Stage_Put_up all owners t g l r)) (kAt (bodyOf Tryd.f10) 1) none (stage_Stage_Put_T1 all t g l t82 m) (stage_Stage_Put_H1 all t g l t82 m) := by
  intro fuel
  induction fuel with
  | zero => intro t82 m r h; rw [stage_Stage_Put_l1] at h; cases h
  | succ fuel ih =>
    intro t82 m r h
    rw [stage_Stage_Put_l1] at h
    rcases itb_some h with ⟨cL1_1, h⟩ | ⟨cL1_1, h⟩
    · skip
      obtain ⟨gL1_2, h⟩ := guard_some h
      exact run_to mixed hμ (L := [3]) (n := 26) (s := [.go, .reg [(0, { v := some (.bool true) })], .reg [], .reg [(7, { os := [(2, .map true [.int .u8, .int .u8, .int .u8, .int .u8, .int .u8, .int .u8, .int .u8, .int .u8] (encM (fun z_ : A8 (Int) => LV.agg [.int .u8 z_.a0, .int .u8 z_.a1, .int .u8 z_.a2, .int .u8 z_.a3, .int .u8 z_.a4, .int .u8 z_.a5, .int .u8 z_.a6, .int .u8 z_.a7]) v_T_api_Tx (mset m (l.getD t82.toNat default).f_Key t)))] })], .reg []])
        (a_ (a_ (a_ tr (a_ (leB cL1_1) tr)) tr) (a_ (a_ (a_ (a_ (Eq.refl 21) gL1_2) tr) (a_ (a_ (le_ 21 21 rfl) tr) (r1_ (a_ (a_ (a_ (Eq.refl 21) (a_ (le_ 21 21 rfl) (Eq.refl 0))) tr) tr)))) (a_ (r1_ (r2_ (a_ (a_ (a_ tr (lt_ 1 2 rfl)) tr) (r1_ (a_ (a_ (a_ tr (le_ 8 21 rfl)) tr) (a_ (a_ (a_ tr (le_ 3 3 rfl)) tr) (a_ (a_ (a_ (Eq.refl true) (Eq.refl true)) (a_ (sub_upd (fun z_ : A8 (Int) => LV.agg [.int .u8 z_.a0, .int .u8 z_.a1, .int .u8 z_.a2, .int .u8 z_.a3, .int .u8 z_.a4, .int .u8 z_.a5, .int .u8 z_.a6, .int .u8 z_.a7]) v_T_api_Tx (k_arr8 .u8) true [.int .u8, .int .u8, .int .u8, .int .u8, .int .u8, .int .u8, .int .u8, .int .u8] m (l.getD t82.toNat default).f_Key t) tr)) tr))))))) (a_ (r2_ tr) tr)))) (ih _ _ r h) (by as_aux_lemma => kernel_rfl) ⟨rfl, trivial, trivial, rfl, trivial⟩
    · skip
      obtain rfl := Option.some.inj h
      exact run_ret mixed (L := []) (n := 19) (s := [.go, .reg [(0, { v := some (.bool false) })], .reg []])
        (a_ (a_ (a_ (a_ tr (a_ (leB cL1_1) tr)) tr) (a_ (r1_ tr) tr)) tr) (by as_aux_lemma => kernel_rfl) rfl

theorem stage_Stage_Put_l0_ok {w0 : World} {W : Nat → Prop} {μ0 : Emb} (hμ : ∀ c p, μ0 c = some p → c < 3) (all : List (T_api_Tx × T_stage_prepared)) (owners : List (A8 (Int) × T_api_Tx)) (t : T_api_Tx) (g : T_api_Reg) (l : List (T_api_Write))  : ∀ (fuel : Nat) (t49 : Int) (r : (Int) × (List (T_api_Tx × T_stage_prepared)) × (List (A8 (Int) × T_api_Tx))), stage_Stage_Put_l0 all owners t g l  fuel t49 = some r → kont Tryd.prog w0 W μ0 (FnPost Tryd.prog Tryd.f10 3 3 (stage_Stage_Put_v r) (stage_Stage_Put_up all owners t g l r)) (kAt (bodyOf Tryd.f10) 0) none (stage_Stage_Put_T0 all owners t g l t49) (stage_Stage_Put_H0 all owners t g l t49) := by
  intro fuel
  induction fuel with
  | zero => intro t49 r h; rw [stage_Stage_Put_l0] at h; cases h
  | succ fuel ih =>
    intro t49 r h
    rw [stage_Stage_Put_l0] at h
    rcases itb_some h with ⟨cL0_1, h⟩ | ⟨cL0_1, h⟩
    · skip
      obtain ⟨gL0_2, h⟩ := guard_some h
      rcases itb_some h with ⟨cL0_3, h⟩ | ⟨cL0_3, h⟩
      · skip
        obtain rfl := Option.some.inj h
        exact run_ret mixed (L := []) (n := 31) (s := [.go, .reg [(0, { v := some (.bool true) })], .reg [], .reg [(6, { look := ((mget owners (l.getD t49.toNat default).f_Key).map v_T_api_Tx), v := some (.tup [v_T_api_Tx ((mget owners (l.getD t49.toNat default).f_Key).getD default), .bool ((mget owners (l.getD t49.toNat default).f_Key).isSome)]) })], .reg [(0, { v := some (.bool true) })], .reg []])
          (a_ (a_ (a_ (a_ tr (a_ (leB cL0_1) tr)) tr) (a_ (a_ (a_ (a_ (Eq.refl 21) gL0_2) tr) (a_ (a_ (le_ 21 21 rfl) tr) (r1_ (a_ (a_ (a_ (Eq.refl 21) (a_ (le_ 21 21 rfl) (Eq.refl 0))) tr) tr)))) (a_ (r1_ (r2_ (a_ (a_ (a_ tr (lt_ 1 2 rfl)) tr) (r1_ (a_ (a_ (a_ tr (le_ 8 21 rfl)) tr) (a_ (a_ (a_ (Eq.refl true) (findE_enc (fun z_ : A8 (Int) => LV.agg [.int .u8 z_.a0, .int .u8 z_.a1, .int .u8 z_.a2, .int .u8 z_.a3, .int .u8 z_.a4, .int .u8 z_.a5, .int .u8 z_.a6, .int .u8 z_.a7]) v_T_api_Tx (k_arr8 .u8) owners (l.getD t49.toNat default).f_Key)) (a_ (le_lookok v_T_api_Tx (mget owners (l.getD t49.toNat default).f_Key) default) tr)) (r4_ (a_ (a_ (a_ (Eq.refl 3) (a_ (le_ 3 3 rfl) (Eq.refl 0))) tr) (r1_ tr))))))))) (a_ (a_ (a_ tr (a_ (leB cL0_3) tr)) tr) (a_ (r1_ tr) tr))))) tr) (by as_aux_lemma => kernel_rfl) rfl
      · skip
        exact run_to mixed hμ (L := [3, 4]) (n := 32) (s := [.go, .reg [(0, { v := some (.bool true) })], .reg [], .reg [(6, { look := ((mget owners (l.getD t49.toNat default).f_Key).map v_T_api_Tx), v := some (.tup [v_T_api_Tx ((mget owners (l.getD t49.toNat default).f_Key).getD default), .bool ((mget owners (l.getD t49.toNat default).f_Key).isSome)]) })], .reg [(0, { v := some (.bool false) })], .reg []])
          (a_ (a_ (a_ tr (a_ (leB cL0_1) tr)) tr) (a_ (a_ (a_ (a_ (Eq.refl 21) gL0_2) tr) (a_ (a_ (le_ 21 21 rfl) tr) (r1_ (a_ (a_ (a_ (Eq.refl 21) (a_ (le_ 21 21 rfl) (Eq.refl 0))) tr) tr)))) (a_ (r1_ (r2_ (a_ (a_ (a_ tr (lt_ 1 2 rfl)) tr) (r1_ (a_ (a_ (a_ tr (le_ 8 21 rfl)) tr) (a_ (a_ (a_ (Eq.refl true) (findE_enc (fun z_ : A8 (Int) => LV.agg [.int .u8 z_.a0, .int .u8 z_.a1, .int .u8 z_.a2, .int .u8 z_.a3, .int .u8 z_.a4, .int .u8 z_.a5, .int .u8 z_.a6, .int .u8 z_.a7]) v_T_api_Tx (k_arr8 .u8) owners (l.getD t49.toNat default).f_Key)) (a_ (le_lookok v_T_api_Tx (mget owners (l.getD t49.toNat default).f_Key) default) tr)) (r4_ (a_ (a_ (a_ (Eq.refl 3) (a_ (le_ 3 3 rfl) (Eq.refl 0))) tr) (r1_ tr))))))))) (a_ (a_ (a_ tr (a_ (leB cL0_3) tr)) tr) (a_ (r2_ tr) tr))))) (ih _ r h) (by as_aux_lemma => kernel_rfl) ⟨rfl, trivial, trivial, rfl, rfl, trivial⟩
    · skip
      rcases itb_some h with ⟨cL0_2, h⟩ | ⟨cL0_2, h⟩
      · skip
        obtain rfl := Option.some.inj h
        exact run_ret mixed (L := []) (n := 24) (s := [.go, .reg [(0, { v := some (.bool false) })], .reg [(4, { v := some (.int .i64 ((all).length : Int)) }), (5, { v := some (.bool true) })], .reg []])
          (a_ (a_ (a_ (a_ tr (a_ (leB cL0_1) tr)) tr) (a_ (r1_ (r2_ (a_ (a_ (a_ tr (lt_ 0 2 rfl)) tr) (a_ (a_ tr (a_ (le_maplen v_T_api_Tx v_T_stage_prepared all) tr)) (a_ (a_ tr (a_ (leB cL0_2) tr)) tr))))) (a_ (r1_ tr) tr))) tr) (by as_aux_lemma => kernel_rfl) rfl
      · skip
        obtain ⟨gL0_3, h⟩ := guard_some h
        exact run_to mixed hμ (L := [3]) (n := 31) (s := [.go, .reg [(0, { v := some (.bool false) })], .reg [(4, { v := some (.int .i64 ((all).length : Int)) }), (5, { v := some (.bool false) })], .reg [(7, { call := some (.ds 21 (l).length (rowF c_T_api_Write default l), [], []) }), (9, { os := [(1, .map true [.int .u8, .int .u32, .int .u32] (encM v_T_api_Tx v_T_stage_prepared (mset all t (T_stage_prepared.mk g l))))] })], .reg []])
          (a_ (a_ (a_ tr (a_ (leB cL0_1) tr)) tr) (a_ (r1_ (r2_ (a_ (a_ (a_ tr (lt_ 0 2 rfl)) tr) (a_ (a_ tr (a_ (le_maplen v_T_api_Tx v_T_stage_prepared all) tr)) (a_ (a_ tr (a_ (leB cL0_2) tr)) tr))))) (a_ (r1_ (r2_ (a_ (a_ (a_ tr (lt_ 0 2 rfl)) tr) (a_ (a_ (a_ tr (le_ 3 3 rfl)) tr) (a_ (a_ (a_ tr (le_ 2 2 rfl)) tr) (r1_ (a_ (a_ (a_ (slices_Clone_api_Write_api_Write_c l gL0_3) tr) tr) (a_ (a_ (Eq.refl true) tr) (a_ (a_ (a_ (Eq.refl true) (Eq.refl true)) (a_ (sub_upd v_T_api_Tx v_T_stage_prepared k_T_api_Tx true [.int .u8, .int .u32, .int .u32] all t (T_stage_prepared.mk g l)) tr)) tr))))))))) (a_ (r1_ (r2_ tr)) tr)))) (stage_Stage_Put_l1_ok hμ all owners t g l  big _ _ r h) (by as_aux_lemma => kernel_rfl) ⟨rfl, trivial, trivial, rfl, trivial⟩

theorem stage_Stage_Put_ok (all : List (T_api_Tx × T_stage_prepared)) (owners : List (A8 (Int) × T_api_Tx)) (t : T_api_Tx) (g : T_api_Reg) (l : List (T_api_Write)) (r : (Int) × (List (T_api_Tx × T_stage_prepared)) × (List (A8 (Int) × T_api_Tx))) (h : stage_Stage_Put all owners t g l = some r) : ∀ σ, Inj 3 σ → FnTri Tryd.prog 10 (renL σ [.ptr 0 0 0, v_T_api_Tx t, v_T_api_Reg g, .ds 21 (l).length (rowF c_T_api_Write default l)]) (preOf σ 0 (stage_Stage_Put_objs all owners t g l)) ((stage_Stage_Put_v r).ren σ) (upOf σ (stage_Stage_Put_up all owners t g l r)) := by
  refine fn_of Tryd.func10 (by kernel_rfl) (by kernel_rfl) (by kernel_rfl) ⟨rfl, trivial, trivial, trivial⟩ (by kernel_rfl) ⟨rfl, trivial, trivial, trivial⟩ (by kernel_rfl) ?_
  intro w0 W μ0 hμ
  unfold stage_Stage_Put at h
  obtain ⟨y2, e1, h⟩ := bind_some h
  obtain ⟨y4, e3, h⟩ := bind_some h
  rcases itb_some h with ⟨c5, h⟩ | ⟨c5, h⟩
  · skip
    obtain rfl := Option.some.inj h
    exact run_ret mixed (L := []) (n := 25) (s := [.reg [], .reg [(1, { call := some ((stage_Stage_ok_v y2).ren (sel [0, 1, 2]), preOf (sel [0, 1, 2]) 0 (stage_Stage_ok_objs all owners), upOf (sel [0, 1, 2]) (stage_Stage_ok_up all owners y2)) })], .reg [(3, { call := some (stage_may_v y4, [], []) }), (5, { v := some (.bool true) })], .reg []])
      (a_ (a_ (r1_ (r2_ tr)) (a_ (r1_ (a_ (a_ (a_ (stage_Stage_ok_ok all owners y2 e1 (sel [0, 1, 2]) (sel_inj rfl rfl)) (a_ (LO.Le.refl (.var [.map 1, .map 2])) (a_ (LO.Le.refl (.map true [.int .u8, .int .u32, .int .u32] (encM v_T_api_Tx v_T_stage_prepared all))) (a_ (LO.Le.refl (.map true [.int .u8, .int .u8, .int .u8, .int .u8, .int .u8, .int .u8, .int .u8, .int .u8] (encM (fun z_ : A8 (Int) => LV.agg [.int .u8 z_.a0, .int .u8 z_.a1, .int .u8 z_.a2, .int .u8 z_.a3, .int .u8 z_.a4, .int .u8 z_.a5, .int .u8 z_.a6, .int .u8 z_.a7]) v_T_api_Tx owners))) tr)))) tr) (r2_ tr))) (a_ (a_ (a_ (a_ tr (le_ 3 3 rfl)) tr) (a_ (a_ (a_ tr (le_ 2 2 rfl)) tr) (r1_ (a_ (a_ (a_ (stage_may_tri t g l y4 e3) tr) tr) (r1_ (a_ (a_ tr (a_ (leB c5) tr)) tr)))))) (a_ (r1_ tr) tr)))) tr) (by as_aux_lemma => kernel_rfl) rfl
  · skip
    rcases itb_some h with ⟨c6, h⟩ | ⟨c6, h⟩
    · skip
      rcases itb_some h with ⟨c7, h⟩ | ⟨c7, h⟩
      · skip
        obtain ⟨y9, e8, h⟩ := bind_some h
        rcases itb_some h with ⟨c10, h⟩ | ⟨c10, h⟩
        · skip
          obtain rfl := Option.some.inj h
          exact run_ret mixed (L := []) (n := 40) (s := [.reg [], .reg [(1, { call := some ((stage_Stage_ok_v y2).ren (sel [0, 1, 2]), preOf (sel [0, 1, 2]) 0 (stage_Stage_ok_objs all owners), upOf (sel [0, 1, 2]) (stage_Stage_ok_up all owners y2)) })], .reg [(3, { call := some (stage_may_v y4, [], []) }), (5, { v := some (.bool false) })], .reg [(5, { look := ((mget all t).map v_T_stage_prepared), v := some (.tup [v_T_stage_prepared ((mget all t).getD default), .bool ((mget all t).isSome)]) })], .reg [(0, { v := some (.bool true) })], .reg [(3, { v := some (.bool (decide (((mget all t).getD default).f_reg = g))) }), (4, { v := some (.bool true) }), (8, { call := some (slices_Equal_api_Write_api_Write_v y9, [], []) }), (9, { v := some (.bool true) })], .reg []])
            (a_ (a_ (r1_ (r2_ tr)) (a_ (r1_ (a_ (a_ (a_ (stage_Stage_ok_ok all owners y2 e1 (sel [0, 1, 2]) (sel_inj rfl rfl)) (a_ (LO.Le.refl (.var [.map 1, .map 2])) (a_ (LO.Le.refl (.map true [.int .u8, .int .u32, .int .u32] (encM v_T_api_Tx v_T_stage_prepared all))) (a_ (LO.Le.refl (.map true [.int .u8, .int .u8, .int .u8, .int .u8, .int .u8, .int .u8, .int .u8, .int .u8] (encM (fun z_ : A8 (Int) => LV.agg [.int .u8 z_.a0, .int .u8 z_.a1, .int .u8 z_.a2, .int .u8 z_.a3, .int .u8 z_.a4, .int .u8 z_.a5, .int .u8 z_.a6, .int .u8 z_.a7]) v_T_api_Tx owners))) tr)))) tr) (r2_ tr))) (a_ (a_ (a_ (a_ tr (le_ 3 3 rfl)) tr) (a_ (a_ (a_ tr (le_ 2 2 rfl)) tr) (r1_ (a_ (a_ (a_ (stage_may_tri t g l y4 e3) tr) tr) (r1_ (a_ (a_ tr (a_ (leB c5) tr)) tr)))))) (a_ (r1_ (r2_ (a_ (a_ (a_ tr (lt_ 0 2 rfl)) tr) (a_ (a_ (a_ tr (le_ 3 3 rfl)) tr) (a_ (a_ (a_ (Eq.refl true) (findE_enc v_T_api_Tx v_T_stage_prepared k_T_api_Tx all t)) (a_ (le_lookok0 v_T_stage_prepared (mget all t) default (le_agg (l := [.int .u32 0, .int .u32 0, .nilsl]) (m := [.int .u32 (default : T_stage_prepared).f_reg.f_Boot, .int .u32 (default : T_stage_prepared).f_reg.f_N, .ds 21 ((default : T_stage_prepared).f_writes).length (rowF c_T_api_Write default (default : T_stage_prepared).f_writes)]) (a_ (LV.Le.refl (.int .u32 0)) (a_ (LV.Le.refl (.int .u32 0)) (a_ (le_nil_ds 21 (rowF c_T_api_Write default [])) tr))))) tr)) (r4_ (a_ (a_ (a_ (Eq.refl 3) (a_ (le_ 3 3 rfl) (Eq.refl 0))) tr) (r1_ tr)))))))) (a_ (a_ (a_ tr (a_ (leB c6) tr)) tr) (a_ (r1_ (a_ (a_ (a_ tr (le_ 2 3 rfl)) tr) (a_ (a_ (a_ tr (le_ 2 2 rfl)) tr) (a_ (a_ tr (a_ (leB (k_T_api_Reg ((mget all t).getD default).f_reg g)) tr)) (a_ (a_ tr (a_ (leB c7) tr)) (r1_ (a_ (a_ (a_ tr (lt_ 2 3 rfl)) tr) (r1_ (a_ (a_ (a_ (slices_Equal_api_Write_api_Write_tri ((mget all t).getD default).f_writes l y9 e8) tr) tr) (a_ (a_ tr (a_ (leB c10) tr)) tr)))))))))) (a_ (r1_ tr) tr))))))) tr) (by as_aux_lemma => kernel_rfl) rfl
        · skip
          obtain rfl := Option.some.inj h
          exact run_ret mixed (L := []) (n := 41) (s := [.reg [], .reg [(1, { call := some ((stage_Stage_ok_v y2).ren (sel [0, 1, 2]), preOf (sel [0, 1, 2]) 0 (stage_Stage_ok_objs all owners), upOf (sel [0, 1, 2]) (stage_Stage_ok_up all owners y2)) })], .reg [(3, { call := some (stage_may_v y4, [], []) }), (5, { v := some (.bool false) })], .reg [(5, { look := ((mget all t).map v_T_stage_prepared), v := some (.tup [v_T_stage_prepared ((mget all t).getD default), .bool ((mget all t).isSome)]) })], .reg [(0, { v := some (.bool true) })], .reg [(3, { v := some (.bool (decide (((mget all t).getD default).f_reg = g))) }), (4, { v := some (.bool true) }), (8, { call := some (slices_Equal_api_Write_api_Write_v y9, [], []) }), (9, { v := some (.bool false) })], .reg []])
            (a_ (a_ (r1_ (r2_ tr)) (a_ (r1_ (a_ (a_ (a_ (stage_Stage_ok_ok all owners y2 e1 (sel [0, 1, 2]) (sel_inj rfl rfl)) (a_ (LO.Le.refl (.var [.map 1, .map 2])) (a_ (LO.Le.refl (.map true [.int .u8, .int .u32, .int .u32] (encM v_T_api_Tx v_T_stage_prepared all))) (a_ (LO.Le.refl (.map true [.int .u8, .int .u8, .int .u8, .int .u8, .int .u8, .int .u8, .int .u8, .int .u8] (encM (fun z_ : A8 (Int) => LV.agg [.int .u8 z_.a0, .int .u8 z_.a1, .int .u8 z_.a2, .int .u8 z_.a3, .int .u8 z_.a4, .int .u8 z_.a5, .int .u8 z_.a6, .int .u8 z_.a7]) v_T_api_Tx owners))) tr)))) tr) (r2_ tr))) (a_ (a_ (a_ (a_ tr (le_ 3 3 rfl)) tr) (a_ (a_ (a_ tr (le_ 2 2 rfl)) tr) (r1_ (a_ (a_ (a_ (stage_may_tri t g l y4 e3) tr) tr) (r1_ (a_ (a_ tr (a_ (leB c5) tr)) tr)))))) (a_ (r1_ (r2_ (a_ (a_ (a_ tr (lt_ 0 2 rfl)) tr) (a_ (a_ (a_ tr (le_ 3 3 rfl)) tr) (a_ (a_ (a_ (Eq.refl true) (findE_enc v_T_api_Tx v_T_stage_prepared k_T_api_Tx all t)) (a_ (le_lookok0 v_T_stage_prepared (mget all t) default (le_agg (l := [.int .u32 0, .int .u32 0, .nilsl]) (m := [.int .u32 (default : T_stage_prepared).f_reg.f_Boot, .int .u32 (default : T_stage_prepared).f_reg.f_N, .ds 21 ((default : T_stage_prepared).f_writes).length (rowF c_T_api_Write default (default : T_stage_prepared).f_writes)]) (a_ (LV.Le.refl (.int .u32 0)) (a_ (LV.Le.refl (.int .u32 0)) (a_ (le_nil_ds 21 (rowF c_T_api_Write default [])) tr))))) tr)) (r4_ (a_ (a_ (a_ (Eq.refl 3) (a_ (le_ 3 3 rfl) (Eq.refl 0))) tr) (r1_ tr)))))))) (a_ (a_ (a_ tr (a_ (leB c6) tr)) tr) (a_ (r1_ (a_ (a_ (a_ tr (le_ 2 3 rfl)) tr) (a_ (a_ (a_ tr (le_ 2 2 rfl)) tr) (a_ (a_ tr (a_ (leB (k_T_api_Reg ((mget all t).getD default).f_reg g)) tr)) (a_ (a_ tr (a_ (leB c7) tr)) (r1_ (a_ (a_ (a_ tr (lt_ 2 3 rfl)) tr) (r1_ (a_ (a_ (a_ (slices_Equal_api_Write_api_Write_tri ((mget all t).getD default).f_writes l y9 e8) tr) tr) (a_ (a_ tr (a_ (leB c10) tr)) tr)))))))))) (a_ (r1_ tr) tr))))))) tr) (by as_aux_lemma => kernel_rfl) rfl
      · skip
        obtain rfl := Option.some.inj h
        exact run_ret mixed (L := []) (n := 41) (s := [.reg [], .reg [(1, { call := some ((stage_Stage_ok_v y2).ren (sel [0, 1, 2]), preOf (sel [0, 1, 2]) 0 (stage_Stage_ok_objs all owners), upOf (sel [0, 1, 2]) (stage_Stage_ok_up all owners y2)) })], .reg [(3, { call := some (stage_may_v y4, [], []) }), (5, { v := some (.bool false) })], .reg [(5, { look := ((mget all t).map v_T_stage_prepared), v := some (.tup [v_T_stage_prepared ((mget all t).getD default), .bool ((mget all t).isSome)]) })], .reg [(0, { v := some (.bool true) })], .reg [(3, { v := some (.bool (decide (((mget all t).getD default).f_reg = g))) }), (4, { v := some (.bool false) })], .reg []])
          (a_ (a_ (r1_ (r2_ tr)) (a_ (r1_ (a_ (a_ (a_ (stage_Stage_ok_ok all owners y2 e1 (sel [0, 1, 2]) (sel_inj rfl rfl)) (a_ (LO.Le.refl (.var [.map 1, .map 2])) (a_ (LO.Le.refl (.map true [.int .u8, .int .u32, .int .u32] (encM v_T_api_Tx v_T_stage_prepared all))) (a_ (LO.Le.refl (.map true [.int .u8, .int .u8, .int .u8, .int .u8, .int .u8, .int .u8, .int .u8, .int .u8] (encM (fun z_ : A8 (Int) => LV.agg [.int .u8 z_.a0, .int .u8 z_.a1, .int .u8 z_.a2, .int .u8 z_.a3, .int .u8 z_.a4, .int .u8 z_.a5, .int .u8 z_.a6, .int .u8 z_.a7]) v_T_api_Tx owners))) tr)))) tr) (r2_ tr))) (a_ (a_ (a_ (a_ tr (le_ 3 3 rfl)) tr) (a_ (a_ (a_ tr (le_ 2 2 rfl)) tr) (r1_ (a_ (a_ (a_ (stage_may_tri t g l y4 e3) tr) tr) (r1_ (a_ (a_ tr (a_ (leB c5) tr)) tr)))))) (a_ (r1_ (r2_ (a_ (a_ (a_ tr (lt_ 0 2 rfl)) tr) (a_ (a_ (a_ tr (le_ 3 3 rfl)) tr) (a_ (a_ (a_ (Eq.refl true) (findE_enc v_T_api_Tx v_T_stage_prepared k_T_api_Tx all t)) (a_ (le_lookok0 v_T_stage_prepared (mget all t) default (le_agg (l := [.int .u32 0, .int .u32 0, .nilsl]) (m := [.int .u32 (default : T_stage_prepared).f_reg.f_Boot, .int .u32 (default : T_stage_prepared).f_reg.f_N, .ds 21 ((default : T_stage_prepared).f_writes).length (rowF c_T_api_Write default (default : T_stage_prepared).f_writes)]) (a_ (LV.Le.refl (.int .u32 0)) (a_ (LV.Le.refl (.int .u32 0)) (a_ (le_nil_ds 21 (rowF c_T_api_Write default [])) tr))))) tr)) (r4_ (a_ (a_ (a_ (Eq.refl 3) (a_ (le_ 3 3 rfl) (Eq.refl 0))) tr) (r1_ tr)))))))) (a_ (a_ (a_ tr (a_ (leB c6) tr)) tr) (a_ (r1_ (a_ (a_ (a_ tr (le_ 2 3 rfl)) tr) (a_ (a_ (a_ tr (le_ 2 2 rfl)) tr) (a_ (a_ tr (a_ (leB (k_T_api_Reg ((mget all t).getD default).f_reg g)) tr)) (a_ (a_ tr (a_ (leB c7) tr)) (t4_ (r1_ tr))))))) (a_ (r1_ tr) tr))))))) tr) (by as_aux_lemma => kernel_rfl) rfl
    · skip
      exact run_to mixed hμ (L := [3, 4]) (n := 39) (s := [.reg [], .reg [(1, { call := some ((stage_Stage_ok_v y2).ren (sel [0, 1, 2]), preOf (sel [0, 1, 2]) 0 (stage_Stage_ok_objs all owners), upOf (sel [0, 1, 2]) (stage_Stage_ok_up all owners y2)) })], .reg [(3, { call := some (stage_may_v y4, [], []) }), (5, { v := some (.bool false) })], .reg [(5, { look := ((mget all t).map v_T_stage_prepared), v := some (.tup [v_T_stage_prepared ((mget all t).getD default), .bool ((mget all t).isSome)]) })], .reg [(0, { v := some (.bool false) })], .reg []])
        (a_ (r1_ (r2_ tr)) (a_ (r1_ (a_ (a_ (a_ (stage_Stage_ok_ok all owners y2 e1 (sel [0, 1, 2]) (sel_inj rfl rfl)) (a_ (LO.Le.refl (.var [.map 1, .map 2])) (a_ (LO.Le.refl (.map true [.int .u8, .int .u32, .int .u32] (encM v_T_api_Tx v_T_stage_prepared all))) (a_ (LO.Le.refl (.map true [.int .u8, .int .u8, .int .u8, .int .u8, .int .u8, .int .u8, .int .u8, .int .u8] (encM (fun z_ : A8 (Int) => LV.agg [.int .u8 z_.a0, .int .u8 z_.a1, .int .u8 z_.a2, .int .u8 z_.a3, .int .u8 z_.a4, .int .u8 z_.a5, .int .u8 z_.a6, .int .u8 z_.a7]) v_T_api_Tx owners))) tr)))) tr) (r2_ tr))) (a_ (a_ (a_ (a_ tr (le_ 3 3 rfl)) tr) (a_ (a_ (a_ tr (le_ 2 2 rfl)) tr) (r1_ (a_ (a_ (a_ (stage_may_tri t g l y4 e3) tr) tr) (r1_ (a_ (a_ tr (a_ (leB c5) tr)) tr)))))) (a_ (r1_ (r2_ (a_ (a_ (a_ tr (lt_ 0 2 rfl)) tr) (a_ (a_ (a_ tr (le_ 3 3 rfl)) tr) (a_ (a_ (a_ (Eq.refl true) (findE_enc v_T_api_Tx v_T_stage_prepared k_T_api_Tx all t)) (a_ (le_lookok0 v_T_stage_prepared (mget all t) default (le_agg (l := [.int .u32 0, .int .u32 0, .nilsl]) (m := [.int .u32 (default : T_stage_prepared).f_reg.f_Boot, .int .u32 (default : T_stage_prepared).f_reg.f_N, .ds 21 ((default : T_stage_prepared).f_writes).length (rowF c_T_api_Write default (default : T_stage_prepared).f_writes)]) (a_ (LV.Le.refl (.int .u32 0)) (a_ (LV.Le.refl (.int .u32 0)) (a_ (le_nil_ds 21 (rowF c_T_api_Write default [])) tr))))) tr)) (r4_ (a_ (a_ (a_ (Eq.refl 3) (a_ (le_ 3 3 rfl) (Eq.refl 0))) tr) (r1_ tr)))))))) (a_ (a_ (a_ tr (a_ (leB c6) tr)) tr) (a_ (r1_ (r2_ tr)) tr)))))) (stage_Stage_Put_l0_ok hμ all owners t g l  big _ r h) (by as_aux_lemma => kernel_rfl) ⟨rfl, trivial, trivial, rfl, rfl, trivial⟩

/-- (*parrel/stage.Stage).Owner -/

def stage_Stage_Owner_v (r : (T_api_Tx) × (Bool)) : LV := .tup [v_T_api_Tx r.1, .bool r.2]

def stage_Stage_Owner_up (all : List (T_api_Tx × T_stage_prepared)) (owners : List (A8 (Int) × T_api_Tx)) (x_k : A8 (Int)) (r : (T_api_Tx) × (Bool)) : Upd := [(0, some (.var [.map 1, .map 2])), (1, some (.map true [.int .u8, .int .u32, .int .u32] (encM v_T_api_Tx v_T_stage_prepared all))), (2, some (.map true [.int .u8, .int .u8, .int .u8, .int .u8, .int .u8, .int .u8, .int .u8, .int .u8] (encM (fun z_ : A8 (Int) => LV.agg [.int .u8 z_.a0, .int .u8 z_.a1, .int .u8 z_.a2, .int .u8 z_.a3, .int .u8 z_.a4, .int .u8 z_.a5, .int .u8 z_.a6, .int .u8 z_.a7]) v_T_api_Tx owners)))]

def stage_Stage_Owner_objs (all : List (T_api_Tx × T_stage_prepared)) (owners : List (A8 (Int) × T_api_Tx)) (x_k : A8 (Int)) : List LO := [.var [.map 1, .map 2], .map true [.int .u8, .int .u32, .int .u32] (encM v_T_api_Tx v_T_stage_prepared all), .map true [.int .u8, .int .u8, .int .u8, .int .u8, .int .u8, .int .u8, .int .u8, .int .u8] (encM (fun z_ : A8 (Int) => LV.agg [.int .u8 z_.a0, .int .u8 z_.a1, .int .u8 z_.a2, .int .u8 z_.a3, .int .u8 z_.a4, .int .u8 z_.a5, .int .u8 z_.a6, .int .u8 z_.a7]) v_T_api_Tx owners)]

def stage_Stage_Owner (all : List (T_api_Tx × T_stage_prepared)) (owners : List (A8 (Int) × T_api_Tx)) (x_k : A8 (Int)) : Option ((T_api_Tx) × (Bool)) :=
  (stage_Stage_ok all owners).bind fun y2 =>
  some (((mget owners x_k).getD default), ((mget owners x_k).isSome))

theorem stage_Stage_Owner_ok (all : List (T_api_Tx × T_stage_prepared)) (owners : List (A8 (Int) × T_api_Tx)) (x_k : A8 (Int)) (r : (T_api_Tx) × (Bool)) (h : stage_Stage_Owner all owners x_k = some r) : ∀ σ, Inj 3 σ → FnTri Tryd.prog 14 (renL σ [.ptr 0 0 0, .agg [.int .u8 x_k.a0, .int .u8 x_k.a1, .int .u8 x_k.a2, .int .u8 x_k.a3, .int .u8 x_k.a4, .int .u8 x_k.a5, .int .u8 x_k.a6, .int .u8 x_k.a7]]) (preOf σ 0 (stage_Stage_Owner_objs all owners x_k)) ((stage_Stage_Owner_v r).ren σ) (upOf σ (stage_Stage_Owner_up all owners x_k r)) := by
  refine fn_of Tryd.func14 (by kernel_rfl) (by kernel_rfl) (by kernel_rfl) ⟨rfl, trivial, trivial, trivial⟩ (by kernel_rfl) ⟨rfl, trivial, trivial, trivial⟩ (by kernel_rfl) ?_
  intro w0 W μ0 hμ
  unfold stage_Stage_Owner at h
  obtain ⟨y2, e1, h⟩ := bind_some h
  obtain rfl := Option.some.inj h
  exact run_ret mixed (L := []) (n := 24) (s := [.reg [], .reg [(1, { call := some ((stage_Stage_ok_v y2).ren (sel [0, 1, 2]), preOf (sel [0, 1, 2]) 0 (stage_Stage_ok_objs all owners), upOf (sel [0, 1, 2]) (stage_Stage_ok_up all owners y2)) })], .reg [(5, { look := ((mget owners x_k).map v_T_api_Tx), v := some (.tup [v_T_api_Tx ((mget owners x_k).getD default), .bool ((mget owners x_k).isSome)]) })], .reg []])
    (a_ (a_ (r1_ (r2_ tr)) (a_ (r1_ (a_ (a_ (a_ (stage_Stage_ok_ok all owners y2 e1 (sel [0, 1, 2]) (sel_inj rfl rfl)) (a_ (LO.Le.refl (.var [.map 1, .map 2])) (a_ (LO.Le.refl (.map true [.int .u8, .int .u32, .int .u32] (encM v_T_api_Tx v_T_stage_prepared all))) (a_ (LO.Le.refl (.map true [.int .u8, .int .u8, .int .u8, .int .u8, .int .u8, .int .u8, .int .u8, .int .u8] (encM (fun z_ : A8 (Int) => LV.agg [.int .u8 z_.a0, .int .u8 z_.a1, .int .u8 z_.a2, .int .u8 z_.a3, .int .u8 z_.a4, .int .u8 z_.a5, .int .u8 z_.a6, .int .u8 z_.a7]) v_T_api_Tx owners))) tr)))) tr) (r1_ tr))) (a_ (r1_ (r2_ (a_ (a_ (a_ tr (lt_ 1 2 rfl)) tr) (a_ (a_ (a_ tr (le_ 8 8 rfl)) tr) (a_ (a_ (a_ (Eq.refl true) (findE_enc (fun z_ : A8 (Int) => LV.agg [.int .u8 z_.a0, .int .u8 z_.a1, .int .u8 z_.a2, .int .u8 z_.a3, .int .u8 z_.a4, .int .u8 z_.a5, .int .u8 z_.a6, .int .u8 z_.a7]) v_T_api_Tx (k_arr8 .u8) owners x_k)) (a_ (le_lookok v_T_api_Tx (mget owners x_k) default) tr)) (r4_ (a_ (a_ (a_ (Eq.refl 3) (a_ (le_ 3 3 rfl) (Eq.refl 0))) tr) (r1_ tr)))))))) (a_ (a_ (a_ (a_ tr (le_ 3 3 rfl)) tr) (r1_ (a_ (a_ (a_ (Eq.refl 3) (a_ (le_ 3 3 rfl) (Eq.refl 0))) tr) (r1_ tr)))) tr)))) (a_ (a_ tr (le_ 3 3 rfl)) tr)) (by as_aux_lemma => kernel_rfl) rfl

/-- (*parrel/stage.Stage).Take -/

def stage_Stage_Take_v (r : (List (T_api_Write)) × (Int) × (List (T_api_Tx × T_stage_prepared)) × (List (A8 (Int) × T_api_Tx))) : LV := .tup [.ds 21 (r.1).length (rowF c_T_api_Write default r.1), .int .i64 r.2.1]

def stage_Stage_Take_up (all : List (T_api_Tx × T_stage_prepared)) (owners : List (A8 (Int) × T_api_Tx)) (t : T_api_Tx) (r : (List (T_api_Write)) × (Int) × (List (T_api_Tx × T_stage_prepared)) × (List (A8 (Int) × T_api_Tx))) : Upd := [(0, some (.var [.map 1, .map 2])), (1, some (.map true [.int .u8, .int .u32, .int .u32] (encM v_T_api_Tx v_T_stage_prepared r.2.2.1))), (2, some (.map true [.int .u8, .int .u8, .int .u8, .int .u8, .int .u8, .int .u8, .int .u8, .int .u8] (encM (fun z_ : A8 (Int) => LV.agg [.int .u8 z_.a0, .int .u8 z_.a1, .int .u8 z_.a2, .int .u8 z_.a3, .int .u8 z_.a4, .int .u8 z_.a5, .int .u8 z_.a6, .int .u8 z_.a7]) v_T_api_Tx r.2.2.2)))]

def stage_Stage_Take_objs (all : List (T_api_Tx × T_stage_prepared)) (owners : List (A8 (Int) × T_api_Tx)) (t : T_api_Tx) : List LO := [.var [.map 1, .map 2], .map true [.int .u8, .int .u32, .int .u32] (encM v_T_api_Tx v_T_stage_prepared all), .map true [.int .u8, .int .u8, .int .u8, .int .u8, .int .u8, .int .u8, .int .u8, .int .u8] (encM (fun z_ : A8 (Int) => LV.agg [.int .u8 z_.a0, .int .u8 z_.a1, .int .u8 z_.a2, .int .u8 z_.a3, .int .u8 z_.a4, .int .u8 z_.a5, .int .u8 z_.a6, .int .u8 z_.a7]) v_T_api_Tx owners)]

def stage_Stage_Take_T0 (all : List (T_api_Tx × T_stage_prepared)) (t : T_api_Tx) (t32 : Int) (m : List (A8 (Int) × T_api_Tx)) : List LV := [.ptr 0 0 0, .any, .any, .any, .any, .any, .ptr 3 0 0, .any, .any, .any, .any, .any, .any, .any, .any, .any, .any, .any, .any, .any, .any, .any, .any, .any, .any, .any, .any, .any, .any, .any, .ds 21 (((mget all t).getD default).f_writes).length (rowF c_T_api_Write default ((mget all t).getD default).f_writes), .int .i64 ((((mget all t).getD default).f_writes).length : Int), .int .i64 t32, .any, .any, .any, .any, .any, .any, .any, .any, .any, .any, .any, .any]

def stage_Stage_Take_H0 (all : List (T_api_Tx × T_stage_prepared)) (t : T_api_Tx) (t32 : Int) (m : List (A8 (Int) × T_api_Tx)) : Heap := [some (.var [.map 1, .map 2]), some (.map true [.int .u8, .int .u32, .int .u32] (encM v_T_api_Tx v_T_stage_prepared (mdel all t))), some (.map true [.int .u8, .int .u8, .int .u8, .int .u8, .int .u8, .int .u8, .int .u8, .int .u8] (encM (fun z_ : A8 (Int) => LV.agg [.int .u8 z_.a0, .int .u8 z_.a1, .int .u8 z_.a2, .int .u8 z_.a3, .int .u8 z_.a4, .int .u8 z_.a5, .int .u8 z_.a6, .int .u8 z_.a7]) v_T_api_Tx m)), some (.var (c_T_stage_prepared ((mget all t).getD default)))]

def stage_Stage_Take_l0 (all : List (T_api_Tx × T_stage_prepared)) (owners : List (A8 (Int) × T_api_Tx)) (t : T_api_Tx)  : Nat → (Int) → (List (A8 (Int) × T_api_Tx)) → Option ((List (T_api_Write)) × (Int) × (List (T_api_Tx × T_stage_prepared)) × (List (A8 (Int) × T_api_Tx)))
  | 0, _, _ => none
  | fuel + 1, t32, m =>
    if ((decide (t32 < ((((mget all t).getD default).f_writes).length : Int))) : Bool) then
      if 0 ≤ t32 ∧ t32 < (((((mget all t).getD default).f_writes).length : Nat) : Int) then
      stage_Stage_Take_l0 all owners t  fuel (IntKind.wrap .i64 (t32 + 1)) (mdel m (((mget all t).getD default).f_writes.getD t32.toNat default).f_Key)
      else none
    else
      some (((mget all t).getD default).f_writes, 0, (mdel all t), m)

def stage_Stage_Take (all : List (T_api_Tx × T_stage_prepared)) (owners : List (A8 (Int) × T_api_Tx)) (t : T_api_Tx) : Option ((List (T_api_Write)) × (Int) × (List (T_api_Tx × T_stage_prepared)) × (List (A8 (Int) × T_api_Tx))) :=
  (stage_Stage_ok all owners).bind fun y2 =>
  if ((!((mget all t).isSome)) : Bool) then
    some (([] : List (T_api_Write)), 6, all, owners)
  else
    stage_Stage_Take_l0 all owners t  big 0 owners

theorem stage_Stage_Take_l0_ok {w0 : World} {W : Nat → Prop} {μ0 : Emb} (hμ : ∀ c p, μ0 c = some p → c < 3) (all : List (T_api_Tx × T_stage_prepared)) (owners : List (A8 (Int) × T_api_Tx)) (t : T_api_Tx)  : ∀ (fuel : Nat) (t32 : Int) (m : List (A8 (Int) × T_api_Tx)) (r : (List (T_api_Write)) × (Int) × (List (T_api_Tx × T_stage_prepared)) × (List (A8 (Int) × T_api_Tx))), stage_Stage_Take_l0 all owners t  fuel t32 m = some r → kont Tryd.prog w0 W μ0 (FnPost Tryd.prog Tryd.f13 3 3 (stage_Stage_Take_v r) (stage_Stage_Take_up all owners t r)) (kAt (bodyOf Tryd.f13) 0) none (stage_Stage_Take_T0 all t t32 m) (stage_Stage_Take_H0 all t t32 m) := by
  intro fuel
  induction fuel with
  | zero => intro t32 m r h; rw [stage_Stage_Take_l0] at h; cases h
  | succ fuel ih =>
    intro t32 m r h
    rw [stage_Stage_Take_l0] at h
    rcases itb_some h with ⟨cL0_1, h⟩ | ⟨cL0_1, h⟩
    · skip
      obtain ⟨gL0_2, h⟩ := guard_some h
      exact run_to mixed hμ (L := [3]) (n := 26) (s := [.go, .reg [(0, { v := some (.bool true) })], .reg [], .reg [(6, { os := [(2, .map true [.int .u8, .int .u8, .int .u8, .int .u8, .int .u8, .int .u8, .int .u8, .int .u8] (encM (fun z_ : A8 (Int) => LV.agg [.int .u8 z_.a0, .int .u8 z_.a1, .int .u8 z_.a2, .int .u8 z_.a3, .int .u8 z_.a4, .int .u8 z_.a5, .int .u8 z_.a6, .int .u8 z_.a7]) v_T_api_Tx (mdel m (((mget all t).getD default).f_writes.getD t32.toNat default).f_Key)))] })], .reg []])
        (a_ (a_ (a_ tr (a_ (leB cL0_1) tr)) tr) (a_ (a_ (a_ (a_ (Eq.refl 21) gL0_2) tr) (a_ (a_ (le_ 21 21 rfl) tr) (r1_ (a_ (a_ (a_ (Eq.refl 21) (a_ (le_ 21 21 rfl) (Eq.refl 0))) tr) tr)))) (a_ (r1_ (r2_ (a_ (a_ (a_ tr (lt_ 1 2 rfl)) tr) (r1_ (a_ (a_ (a_ tr (le_ 8 21 rfl)) tr) (a_ (a_ (Eq.refl true) (a_ (sub_del (fun z_ : A8 (Int) => LV.agg [.int .u8 z_.a0, .int .u8 z_.a1, .int .u8 z_.a2, .int .u8 z_.a3, .int .u8 z_.a4, .int .u8 z_.a5, .int .u8 z_.a6, .int .u8 z_.a7]) v_T_api_Tx (k_arr8 .u8) true [.int .u8, .int .u8, .int .u8, .int .u8, .int .u8, .int .u8, .int .u8, .int .u8] m (((mget all t).getD default).f_writes.getD t32.toNat default).f_Key) tr)) tr)))))) (a_ (r2_ tr) tr)))) (ih _ _ r h) (by as_aux_lemma => kernel_rfl) ⟨rfl, trivial, trivial, rfl, trivial⟩
    · skip
      obtain rfl := Option.some.inj h
      exact run_ret mixed (L := []) (n := 19) (s := [.go, .reg [(0, { v := some (.bool false) })], .reg []])
        (a_ (a_ (a_ (a_ tr (a_ (leB cL0_1) tr)) tr) (a_ (r1_ (a_ (a_ (a_ tr (lt_ 2 3 rfl)) tr) (r2_ tr))) tr)) tr) (by as_aux_lemma => kernel_rfl) rfl

theorem stage_Stage_Take_ok (all : List (T_api_Tx × T_stage_prepared)) (owners : List (A8 (Int) × T_api_Tx)) (t : T_api_Tx) (r : (List (T_api_Write)) × (Int) × (List (T_api_Tx × T_stage_prepared)) × (List (A8 (Int) × T_api_Tx))) (h : stage_Stage_Take all owners t = some r) : ∀ σ, Inj 3 σ → FnTri Tryd.prog 13 (renL σ [.ptr 0 0 0, v_T_api_Tx t]) (preOf σ 0 (stage_Stage_Take_objs all owners t)) ((stage_Stage_Take_v r).ren σ) (upOf σ (stage_Stage_Take_up all owners t r)) := by
  refine fn_of Tryd.func13 (by kernel_rfl) (by kernel_rfl) (by kernel_rfl) ⟨rfl, trivial, trivial, trivial⟩ (by kernel_rfl) ⟨rfl, trivial, trivial, trivial⟩ (by kernel_rfl) ?_
  intro w0 W μ0 hμ
  unfold stage_Stage_Take at h
  obtain ⟨y2, e1, h⟩ := bind_some h
  rcases itb_some h with ⟨c3, h⟩ | ⟨c3, h⟩
  · skip
    obtain rfl := Option.some.inj h
    exact run_ret mixed (L := []) (n := 29) (s := [.reg [(1, { v := some (.ds 21 (([] : List (T_api_Write))).length (rowF c_T_api_Write default ([] : List (T_api_Write)))) })], .reg [(1, { call := some ((stage_Stage_ok_v y2).ren (sel [0, 1, 2]), preOf (sel [0, 1, 2]) 0 (stage_Stage_ok_objs all owners), upOf (sel [0, 1, 2]) (stage_Stage_ok_up all owners y2)) })], .reg [(5, { look := ((mget all t).map v_T_stage_prepared), v := some (.tup [v_T_stage_prepared ((mget all t).getD default), .bool ((mget all t).isSome)]) })], .reg [(1, { v := some (.bool true) })], .reg [(0, { v := some (.ds 21 (([] : List (T_api_Write))).length (rowF c_T_api_Write default ([] : List (T_api_Write)))) })]])
      (a_ (a_ (r1_ (a_ (a_ tr (a_ (le_nil_ds 21 (rowF c_T_api_Write default [])) tr)) (r1_ tr))) (a_ (r1_ (a_ (a_ (a_ (stage_Stage_ok_ok all owners y2 e1 (sel [0, 1, 2]) (sel_inj rfl rfl)) (a_ (LO.Le.refl (.var [.map 1, .map 2])) (a_ (LO.Le.refl (.map true [.int .u8, .int .u32, .int .u32] (encM v_T_api_Tx v_T_stage_prepared all))) (a_ (LO.Le.refl (.map true [.int .u8, .int .u8, .int .u8, .int .u8, .int .u8, .int .u8, .int .u8, .int .u8] (encM (fun z_ : A8 (Int) => LV.agg [.int .u8 z_.a0, .int .u8 z_.a1, .int .u8 z_.a2, .int .u8 z_.a3, .int .u8 z_.a4, .int .u8 z_.a5, .int .u8 z_.a6, .int .u8 z_.a7]) v_T_api_Tx owners))) tr)))) tr) (r1_ tr))) (a_ (r1_ (r2_ (a_ (a_ (a_ tr (lt_ 0 2 rfl)) tr) (a_ (a_ (a_ tr (le_ 3 3 rfl)) tr) (a_ (a_ (a_ (Eq.refl true) (findE_enc v_T_api_Tx v_T_stage_prepared k_T_api_Tx all t)) (a_ (le_lookok0 v_T_stage_prepared (mget all t) default (le_agg (l := [.int .u32 0, .int .u32 0, .nilsl]) (m := [.int .u32 (default : T_stage_prepared).f_reg.f_Boot, .int .u32 (default : T_stage_prepared).f_reg.f_N, .ds 21 ((default : T_stage_prepared).f_writes).length (rowF c_T_api_Write default (default : T_stage_prepared).f_writes)]) (a_ (LV.Le.refl (.int .u32 0)) (a_ (LV.Le.refl (.int .u32 0)) (a_ (le_nil_ds 21 (rowF c_T_api_Write default [])) tr))))) tr)) (r4_ (a_ (a_ (a_ (Eq.refl 3) (a_ (le_ 3 3 rfl) (Eq.refl 0))) tr) (r1_ tr)))))))) (a_ (r1_ (a_ (a_ tr (a_ (leB c3) tr)) tr)) (a_ (a_ (a_ tr (a_ (le_nil_ds 21 (rowF c_T_api_Write default [])) tr)) (r1_ tr)) tr))))) tr) (by as_aux_lemma => kernel_rfl) rfl
  · skip
    exact run_to mixed hμ (L := [4]) (n := 36) (s := [.reg [(1, { v := some (.ds 21 (([] : List (T_api_Write))).length (rowF c_T_api_Write default ([] : List (T_api_Write)))) })], .reg [(1, { call := some ((stage_Stage_ok_v y2).ren (sel [0, 1, 2]), preOf (sel [0, 1, 2]) 0 (stage_Stage_ok_objs all owners), upOf (sel [0, 1, 2]) (stage_Stage_ok_up all owners y2)) })], .reg [(5, { look := ((mget all t).map v_T_stage_prepared), v := some (.tup [v_T_stage_prepared ((mget all t).getD default), .bool ((mget all t).isSome)]) })], .reg [(1, { v := some (.bool false) })], .reg [(5, { os := [(1, .map true [.int .u8, .int .u32, .int .u32] (encM v_T_api_Tx v_T_stage_prepared (mdel all t)))] })], .reg []])
      (a_ (r1_ (a_ (a_ tr (a_ (le_nil_ds 21 (rowF c_T_api_Write default [])) tr)) (r1_ tr))) (a_ (r1_ (a_ (a_ (a_ (stage_Stage_ok_ok all owners y2 e1 (sel [0, 1, 2]) (sel_inj rfl rfl)) (a_ (LO.Le.refl (.var [.map 1, .map 2])) (a_ (LO.Le.refl (.map true [.int .u8, .int .u32, .int .u32] (encM v_T_api_Tx v_T_stage_prepared all))) (a_ (LO.Le.refl (.map true [.int .u8, .int .u8, .int .u8, .int .u8, .int .u8, .int .u8, .int .u8, .int .u8] (encM (fun z_ : A8 (Int) => LV.agg [.int .u8 z_.a0, .int .u8 z_.a1, .int .u8 z_.a2, .int .u8 z_.a3, .int .u8 z_.a4, .int .u8 z_.a5, .int .u8 z_.a6, .int .u8 z_.a7]) v_T_api_Tx owners))) tr)))) tr) (r1_ tr))) (a_ (r1_ (r2_ (a_ (a_ (a_ tr (lt_ 0 2 rfl)) tr) (a_ (a_ (a_ tr (le_ 3 3 rfl)) tr) (a_ (a_ (a_ (Eq.refl true) (findE_enc v_T_api_Tx v_T_stage_prepared k_T_api_Tx all t)) (a_ (le_lookok0 v_T_stage_prepared (mget all t) default (le_agg (l := [.int .u32 0, .int .u32 0, .nilsl]) (m := [.int .u32 (default : T_stage_prepared).f_reg.f_Boot, .int .u32 (default : T_stage_prepared).f_reg.f_N, .ds 21 ((default : T_stage_prepared).f_writes).length (rowF c_T_api_Write default (default : T_stage_prepared).f_writes)]) (a_ (LV.Le.refl (.int .u32 0)) (a_ (LV.Le.refl (.int .u32 0)) (a_ (le_nil_ds 21 (rowF c_T_api_Write default [])) tr))))) tr)) (r4_ (a_ (a_ (a_ (Eq.refl 3) (a_ (le_ 3 3 rfl) (Eq.refl 0))) tr) (r1_ tr)))))))) (a_ (r1_ (a_ (a_ tr (a_ (leB c3) tr)) tr)) (a_ (r1_ (r2_ (a_ (a_ (a_ tr (lt_ 0 2 rfl)) tr) (a_ (a_ (a_ tr (le_ 3 3 rfl)) tr) (a_ (a_ (Eq.refl true) (a_ (sub_del v_T_api_Tx v_T_stage_prepared k_T_api_Tx true [.int .u8, .int .u32, .int .u32] all t) tr)) tr))))) (a_ (r1_ (a_ (a_ (a_ tr (lt_ 2 3 rfl)) tr) (r2_ tr))) tr)))))) (stage_Stage_Take_l0_ok hμ all owners t  big _ _ r h) (by as_aux_lemma => kernel_rfl) ⟨rfl, trivial, trivial, rfl, trivial⟩

/-- parrel/parrelref10.SameWrites -/

def parrelref10_SameWrites_v (r : (Bool)) : LV := .bool r

def parrelref10_SameWrites_T0 (a : List (T_api_Write)) (b : List (T_api_Write)) (i : Int) : List LV := [.ds 21 (a).length (rowF c_T_api_Write default a), .ds 21 (b).length (rowF c_T_api_Write default b), .any, .any, .any, .int .i64 i, .any, .any, .any, .any, .any, .any, .any, .any, .any, .any, .any, .any, .any, .any, .any, .any, .any, .any, .any, .any]

def parrelref10_SameWrites_H0 (a : List (T_api_Write)) (b : List (T_api_Write)) (i : Int) : Heap := []

def parrelref10_SameWrites_l0 (a : List (T_api_Write)) (b : List (T_api_Write))  : Nat → (Int) → Option ((Bool))
  | 0, _ => none
  | fuel + 1, i =>
    if ((decide (i < ((a).length : Int))) : Bool) then
      if 0 ≤ i ∧ i < (((a).length : Nat) : Int) then
      if 0 ≤ i ∧ i < (((b).length : Nat) : Int) then
      if ((!decide ((a.getD i.toNat default) = (b.getD i.toNat default))) : Bool) then
        some false
      else
        parrelref10_SameWrites_l0 a b  fuel (IntKind.wrap .i64 (i + 1))
      else none
      else none
    else
      some true

def parrelref10_SameWrites (a : List (T_api_Write)) (b : List (T_api_Write)) : Option ((Bool)) :=
  if ((((a).length : Int) != ((b).length : Int)) : Bool) then
    some false
  else
    parrelref10_SameWrites_l0 a b  big 0

theorem parrelref10_SameWrites_l0_ok {w0 : World} {W : Nat → Prop} {μ0 : Emb} (hμ : ∀ c p, μ0 c = some p → c < 0) (a : List (T_api_Write)) (b : List (T_api_Write))  : ∀ (fuel : Nat) (i : Int) (r : (Bool)), parrelref10_SameWrites_l0 a b  fuel i = some r → kont Tryd.prog w0 W μ0 (FnPost Tryd.prog Tryd.f15 0 0 (parrelref10_SameWrites_v r) []) (kAt (bodyOf Tryd.f15) 0) none (parrelref10_SameWrites_T0 a b i) (parrelref10_SameWrites_H0 a b i) := by
  intro fuel
  induction fuel with
  | zero => intro i r h; rw [parrelref10_SameWrites_l0] at h; cases h
  | succ fuel ih =>
    intro i r h
    rw [parrelref10_SameWrites_l0] at h
    rcases itb_some h with ⟨cL0_1, h⟩ | ⟨cL0_1, h⟩
    · skip
      obtain ⟨gL0_2, h⟩ := guard_some h
      obtain ⟨gL0_3, h⟩ := guard_some h
      rcases itb_some h with ⟨cL0_4, h⟩ | ⟨cL0_4, h⟩
      · skip
        obtain rfl := Option.some.inj h
        exact run_ret mixed (L := []) (n := 25) (s := [.go, .reg [(3, { v := some (.bool true) })], .reg [(8, { v := some (.bool true) })], .reg []])
          (a_ (a_ (r1_ (r2_ (a_ (a_ tr (a_ (leB cL0_1) tr)) tr))) (a_ (r2_ (a_ (a_ (a_ (Eq.refl 21) gL0_2) tr) (a_ (a_ (le_ 21 21 rfl) tr) (r2_ (a_ (a_ (a_ (Eq.refl 21) gL0_3) tr) (a_ (a_ (le_ 21 21 rfl) tr) (a_ (a_ tr (a_ (LV.Le.trans (leB (congrArg not (k_T_api_Write (a.getD i.toNat default) (b.getD i.toNat default)))) (leB cL0_4)) tr)) tr))))))) (a_ (r1_ tr) tr))) tr) (by as_aux_lemma => kernel_rfl) rfl
      · skip
        exact run_to mixed hμ (L := []) (n := 26) (s := [.go, .reg [(3, { v := some (.bool true) })], .reg [(8, { v := some (.bool false) })], .reg []])
          (a_ (r1_ (r2_ (a_ (a_ tr (a_ (leB cL0_1) tr)) tr))) (a_ (r2_ (a_ (a_ (a_ (Eq.refl 21) gL0_2) tr) (a_ (a_ (le_ 21 21 rfl) tr) (r2_ (a_ (a_ (a_ (Eq.refl 21) gL0_3) tr) (a_ (a_ (le_ 21 21 rfl) tr) (a_ (a_ tr (a_ (LV.Le.trans (leB (congrArg not (k_T_api_Write (a.getD i.toNat default) (b.getD i.toNat default)))) (leB cL0_4)) tr)) tr))))))) (a_ (r1_ (r2_ tr)) tr))) (ih _ r h) (by as_aux_lemma => kernel_rfl) trivial
    · skip
      obtain rfl := Option.some.inj h
      exact run_ret mixed (L := []) (n := 19) (s := [.go, .reg [(3, { v := some (.bool false) })], .reg []])
        (a_ (a_ (r1_ (r2_ (a_ (a_ tr (a_ (leB cL0_1) tr)) tr))) (a_ (r1_ tr) tr)) tr) (by as_aux_lemma => kernel_rfl) rfl

theorem parrelref10_SameWrites_ok (a : List (T_api_Write)) (b : List (T_api_Write)) (r : (Bool)) (h : parrelref10_SameWrites a b = some r) : ∀ σ, Inj 0 σ → FnTri Tryd.prog 15 (renL σ [.ds 21 (a).length (rowF c_T_api_Write default a), .ds 21 (b).length (rowF c_T_api_Write default b)]) (preOf σ 0 []) ((parrelref10_SameWrites_v r).ren σ) (upOf σ []) := by
  refine fn_of Tryd.func15 (by kernel_rfl) (by kernel_rfl) (by kernel_rfl) trivial (by kernel_rfl) trivial (by kernel_rfl) ?_
  intro w0 W μ0 hμ
  unfold parrelref10_SameWrites at h
  rcases itb_some h with ⟨c1, h⟩ | ⟨c1, h⟩
  · skip
    obtain rfl := Option.some.inj h
    exact run_ret mixed (L := []) (n := 20) (s := [.reg [], .reg [(4, { v := some (.bool true) })], .reg []])
      (a_ (a_ (r1_ tr) (a_ (r4_ (a_ (a_ tr (a_ (leB c1) tr)) tr)) (a_ (r1_ tr) tr))) tr) (by as_aux_lemma => kernel_rfl) rfl
  · skip
    exact run_to mixed hμ (L := []) (n := 24) (s := [.reg [], .reg [(4, { v := some (.bool false) })], .reg []])
      (a_ (r1_ tr) (a_ (r4_ (a_ (a_ tr (a_ (leB c1) tr)) tr)) (a_ (r1_ tr) tr))) (parrelref10_SameWrites_l0_ok hμ a b  big _ r h) (by as_aux_lemma => kernel_rfl) trivial

theorem parrelref10_SameWrites_tri (a : List (T_api_Write)) (b : List (T_api_Write)) (r : (Bool)) (h : parrelref10_SameWrites a b = some r) : FnTri Tryd.prog 15 [.ds 21 (a).length (rowF c_T_api_Write default a), .ds 21 (b).length (rowF c_T_api_Write default b)] [] (parrelref10_SameWrites_v r) [] := FnTri.none (parrelref10_SameWrites_ok a b r h) rfl rfl

/-- maps.Keys[map[parrel/api.Tx]parrel/stage.prepared,parrel/api.Tx,parrel/stage.prepared] -/

def maps_Keys_map_api_Tx_stage_prepared_api_Tx_stage_prepared_v (r : Unit) : LV := .fn 41 [] [.ptr 1 0 0]

def maps_Keys_map_api_Tx_stage_prepared_api_Tx_stage_prepared_up (m : List (T_api_Tx × T_stage_prepared)) (r : Unit) : Upd := [(0, some (.map true [.int .u8, .int .u32, .int .u32] (encM v_T_api_Tx v_T_stage_prepared m))), (1, some (.var [.map 0]))]

def maps_Keys_map_api_Tx_stage_prepared_api_Tx_stage_prepared_objs (m : List (T_api_Tx × T_stage_prepared)) : List LO := [.map true [.int .u8, .int .u32, .int .u32] (encM v_T_api_Tx v_T_stage_prepared m)]

def maps_Keys_map_api_Tx_stage_prepared_api_Tx_stage_prepared (m : List (T_api_Tx × T_stage_prepared)) : Option (Unit) :=
  some ()

theorem maps_Keys_map_api_Tx_stage_prepared_api_Tx_stage_prepared_ok (m : List (T_api_Tx × T_stage_prepared)) (r : Unit) (h : maps_Keys_map_api_Tx_stage_prepared_api_Tx_stage_prepared m = some r) : ∀ σ, Inj 2 σ → FnTri Tryd.prog 29 (renL σ [.map 0]) (preOf σ 0 (maps_Keys_map_api_Tx_stage_prepared_api_Tx_stage_prepared_objs m)) ((maps_Keys_map_api_Tx_stage_prepared_api_Tx_stage_prepared_v r).ren σ) (upOf σ (maps_Keys_map_api_Tx_stage_prepared_api_Tx_stage_prepared_up m r)) := by
  refine fn_of Tryd.func29 (by kernel_rfl) (by kernel_rfl) (by kernel_rfl) ⟨trivial, trivial⟩ (by kernel_rfl) ⟨trivial, rfl, trivial⟩ (by kernel_rfl) ?_
  intro w0 W μ0 hμ
  unfold maps_Keys_map_api_Tx_stage_prepared_api_Tx_stage_prepared at h
  obtain rfl := Option.some.inj h
  exact run_ret mixed (L := [1]) (n := 15) (s := [.reg [], .reg []])
    (a_ (a_ (r2_ tr) (a_ (r2_ tr) tr)) tr) (by as_aux_lemma => kernel_rfl) rfl

/-! Keys of a map, sorted: PRE -/
def so28_kc (x : (T_api_Tx)) : List Value := [.int .u8 x.f_Node, .int .u32 x.f_Boot, .int .u32 x.f_Num]
def so28_kv (x : (T_api_Tx)) : Value := .agg #[.int .u8 x.f_Node, .int .u32 x.f_Boot, .int .u32 x.f_Num]
def so28_kd (v : Value) : (T_api_Tx) :=
  match v with
  | .agg cs => match cs.toList with
    | [.int _ a0, .int _ a1, .int _ a2] => (T_api_Tx.mk a0 a1 a2)
    | _ => default
  | _ => default
theorem so28_kdv (x : (T_api_Tx)) : so28_kd (so28_kv x) = x := rfl
theorem so28_len (x : (T_api_Tx)) : (so28_kc x).length = 3 := rfl
theorem so28_one (x : (T_api_Tx)) : ∀ v ∈ so28_kc x, v.oneCell' = true := by
  intro u hu
  simp only [so28_kc, List.mem_cons, List.not_mem_nil, or_false] at hu
  rcases hu with rfl | rfl | rfl <;> rfl
theorem so28_enc (φ : Fro) (x : (T_api_Tx)) : RelFL φ (c_T_api_Tx x) (so28_kc x) := ⟨_, _, rfl, rfl, ⟨_, _, rfl, rfl, ⟨_, _, rfl, rfl, rfl⟩⟩⟩
theorem so28_det (φ : Fro) (x : (T_api_Tx)) (v : Value) (h : RelF φ (.agg (c_T_api_Tx x)) v) : v = so28_kv x := by
  obtain ⟨vs, rfl, h⟩ := h
  have key : ∀ (l : List Value), RelFL φ (c_T_api_Tx x) l → l = so28_kc x := by
    intro l h
    obtain ⟨r0, e0, h0⟩ := det_int h
    obtain ⟨r1, e1, h1⟩ := det_int h0
    obtain ⟨r2, e2, h2⟩ := det_int h1
    have e : _ = [] := h2
    subst e
    subst_vars
    rfl
  have := key _ h
  rw [← Array.toArray_toList (xs := vs), this]
  rfl

theorem so28_info : ∃ i, Tryd.prog.info? 24 = some i ∧ i.zero = some (.agg #[.int .u8 0, .int .u32 0, .int .u32 0]) ∧ i.size = 3 ∧ i.bytes = 12 := by
  have h : (Tryd.prog.info? 24).map (fun i => (i.zero, i.size, i.bytes)) = some (some (.agg #[.int .u8 0, .int .u32 0, .int .u32 0]), 3, 12) := by kernel_rfl
  obtain ⟨i, h1, h2⟩ := Option.map_eq_some_iff.1 h
  exact ⟨i, h1, congrArg (·.1) h2, congrArg (·.2.1) h2, congrArg (·.2.2) h2⟩

/-- Between two rounds: the box holds what has come so far. -/
def so28_ApI (w : World) (pre : List (T_api_Tx)) (W : World) : Prop :=
  (∃ v, Boxed W w.heap.size 37 v ∧ W.ownsRow w.heap.size 24 3 v pre.length (pre.flatMap so28_kc) ∧ (v = .slice none 0 0 ↔ pre = [])) ∧ Below w.heap.size w W ∧ w.drawn ≤ W.drawn
theorem so28_ApI.own (w : World) (B : Nat) (hB : w.heap.size ≤ B) : OwnD B (so28_ApI w) :=
  OwnD.and (OwnFrom.d ((holdsRow_own w.heap.size w.heap.size 37 24 3 (fun (pre : List (T_api_Tx)) => pre.length) (fun pre => pre.flatMap so28_kc) (fun pre v => v = .slice none 0 0 ↔ pre = [])).from B)) (OwnD.and (OwnFrom.d (ownFrom_below (Nat.le_refl _) hB)) (ownD_drawn B _))

theorem so28_appendSeq (n : Nat) (hn : 2 ≤ n) (g : Nat) (lb : Array Value) (eg : ∀ args w, (callFunc g args).run Tryd.prog w = .ok (.enter g args) w) (S : List (T_api_Tx) → Prop) (N : Nat) (hN : N ≤ maxLen) (hNb : N * 12 ≤ 140737488355328)
    (w : World) (hseq : SeqD Fence.wide (n - 1) Tryd.prog g lb so28_kv S N w) :
    CallsIn Fence.wide n Tryd.prog 55 #[.slice none 0 0, .func (.func g) #[] lb] w fun e w' => ∃ (v : Value) (ss : List (T_api_Tx)), e = .returned v ∧ S ss ∧ w'.ownsRow w.heap.size 24 3 v ss.length (ss.flatMap so28_kc) ∧ (v = .slice none 0 0 ↔ ss = []) ∧ Below w.heap.size w w' ∧ w.drawn ≤ w'.drawn := by
  have h1 : 1 ≤ n := by omega
  refine callsIn_of_wp_marks Tryd.func55 rfl trivial ?_ rfl
  simp only [Tryd.ntmps55, List.size_toArray, List.length_cons, List.length_nil, Nat.reduceAdd, Nat.reduceSub, Array.replicate_succ, Array.replicate_zero, List.push_toArray, List.append_toArray, List.nil_append, List.cons_append]
  gi_wp2
  obtain ⟨W0, hW0⟩ : ∃ W0, w.alloc (.cells #[.slice none 0 0] 37) = W0 := ⟨_, rfl⟩
  have hs0 : W0.heap.size = w.heap.size + 1 := by rw [← hW0]; simp
  have hB0 : Boxed W0 w.heap.size 37 (.slice none 0 0) := by rw [← hW0]; exact Boxed.new w _ _
  have hb0 : Below w.heap.size w W0 := by rw [← hW0]; exact (Below.refl _ w).alloc (Nat.le_refl _) _
  rw [hW0]
  refine rangeFunc_box rfl h1 (gf := g) (lb := lb) rfl trivial eg hseq hb0 rfl (so28_ApI w) (so28_ApI.own w _ (by omega)) ⟨⟨_, hB0, World.ownsRow_nil _ _ _ _, by simp⟩, hb0, by rw [← hW0]; exact Nat.le_refl _⟩
    (fun pre x a1 W => so28_ApI w pre W ∧ ∃ bx, W.heap[bx]? = some (.cells #[.int .u8 x.f_Node, .int .u32 x.f_Boot, .int .u32 x.f_Num] 24 (0, 0)) ∧
      a1 = { tmps := #[.slice none 0 0, .func (.func g) #[] lb, .pointer (some ⟨w.heap.size, 0, none⟩), undef, .slice none 0 0, .pointer (some ⟨bx, 0, none⟩), .func (.func g) #[] lb, so28_kv x, undef, undef, undef, undef, undef], defers := [] })
    (fun x a1 => OwnD.and (so28_ApI.own w _ (by omega)) (fun s X Y row hs hg _ hr => by
      obtain ⟨bx, hx, e⟩ := hs
      exact ⟨bx, (grownBy_keeps_cells hg (fun r e => (hr r e).2) hx rfl).trans hx, e⟩)) ?assign ?body ?done
  case assign =>
    intro l pre x W hI hlen
    unfold so28_kv
    gi_wp2_with (rw [Oper.semAt_eq _ _ _ (fun c h => by cases h)]; go_simp; try go_bits)
    exact ⟨⟨(so28_ApI.own w w.heap.size (Nat.le_refl _)).alloc _ hI, W.heap.size, World.alloc_heap_new W _, rfl⟩, KeepsOthers.alloc _ _⟩
  case body =>
    rintro l pre x a1 W ⟨⟨⟨v, hv, hrow, hnil⟩, hB, hD0⟩, bx, hbx, rfl⟩ hlen
    obtain ⟨i0, hi, hz0, hz1, hz2⟩ := so28_info
    have hc := hv.cell
    have hf := hv.frozen
    have hx0 : W.cell? ⟨bx, 0, none⟩ = some (.int .u8 x.f_Node) := by simp [World.cell?, hbx]
    have hx1 : W.cell? ⟨bx, 1, none⟩ = some (.int .u32 x.f_Boot) := by simp [World.cell?, hbx]
    have hx2 : W.cell? ⟨bx, 2, none⟩ = some (.int .u32 x.f_Num) := by simp [World.cell?, hbx]
    have hbs := hB.size
    unfold so28_kv
    gi_wp2_with (first
      | (gi_at_builtin; refine wpListIn_append_d _ rfl _ _ 37 rfl w.heap.size 24 i0 _ 3 12 Tryd.underlying37 hi hz0 hz1 hz2 rfl (by decide) _ _ _ rfl (hrow.alloc _) ⟨W.heap.size, 0, none⟩ 1 1 (so28_kc x) rfl rfl ?_ ?_ (by omega) (by omega) (by simp; omega) ?_)
      | (rw [Oper.semAt_eq _ _ _ (fun c h => by cases h)]; go_simp; try go_bits))
    · exact fun j u hj => cell_new W (so28_kc x) 24 j u hj
    · intro u hu
      simp only [so28_kc, List.mem_cons, List.not_mem_nil, or_false] at hu
      rcases hu with rfl | rfl | rfl <;> rfl
    · intro v' w3 hown' hg3 hd3 hnil3
      obtain ⟨hv3, hv4, hrow4, hko, hbe⟩ := hv.appended (by decide) hrow hbs (Nat.le_refl _) hown' hg3
      have hc3 := hv3.cell
      have hf3 := hv3.frozen
      obtain ⟨g', cap', hv'⟩ := ownsRow_succ hown'
      subst hv'
      gi_wp2_with (rw [Oper.semAt_eq _ _ _ (fun c h => by cases h)]; go_simp; try go_bits)
      refine ⟨⟨_, hv4, ?_, by simp⟩, hB.trans hbe, Nat.le_trans hD0 hd3⟩
      rw [List.length_append, List.flatMap_append]
      simpa using hrow4
  case done =>
    rintro D ss W hD hS ⟨⟨v, hv, hrow, hnil⟩, hB, hD0⟩ hK
    have hc := hv.cell
    have hf := hv.frozen
    gi_wp2
    refine ⟨by simp, .inl ⟨_, _, rfl, run_takeDeferred hK, ?_⟩⟩
    exact ⟨_, results_tmp rfl _ _ _, v, ss, rfl, hS, ownsRow_putObj hrow _ hK rfl, hnil, hB.grown (grownBy_putObj' _ _ _) hB.size (fun k e => by cases e; omega), hD0⟩

theorem so28_collect (n : Nat) (hn : 3 ≤ n) (g : Nat) (lb : Array Value) (eg : ∀ args w, (callFunc g args).run Tryd.prog w = .ok (.enter g args) w) (S : List (T_api_Tx) → Prop) (N : Nat) (hN : N ≤ maxLen) (hNb : N * 12 ≤ 140737488355328)
    (w : World) (hseq : SeqD Fence.wide (n - 1 - 1) Tryd.prog g lb so28_kv S N w) :
    CallsIn Fence.wide n Tryd.prog 39 #[.func (.func g) #[] lb] w fun e w' => ∃ (v : Value) (ss : List (T_api_Tx)), e = .returned v ∧ S ss ∧ w'.ownsRow w.heap.size 24 3 v ss.length (ss.flatMap so28_kc) ∧ (v = .slice none 0 0 ↔ ss = []) ∧ Below w.heap.size w w' ∧ w.drawn ≤ w'.drawn := by
  have h1 : 1 ≤ n := by omega
  have F78 : Fence.wide.fn 55 := trivial
  refine callsIn_of_wp Tryd.func39 rfl trivial ?_ rfl
  simp only [Tryd.ntmps39, List.size_toArray, List.length_cons, List.length_nil, Nat.reduceAdd, Nat.reduceSub, Array.replicate_succ, Array.replicate_zero, List.push_toArray, List.append_toArray, List.nil_append, List.cons_append]
  gi_wp2_with (gi_at_call 55; refine (so28_appendSeq (n - 1) (by omega) g lb eg S N hN hNb _ hseq).mono ?_; rintro e w' ⟨v, ss, rfl, hS, hrow, hnil, hb⟩)
  go_ret
  exact ⟨v, ss, rfl, hS, hrow, hnil, hb⟩

def so28_lay_ren : Go.Shelf.Ren := ⟨fun | 6 => 40 | 15 => 57 | 14 => 56 | 28 => 73 | 29 => 74 | 20 => 65 | 21 => 66 | 22 => 67 | 23 => 68 | 24 => 69 | 25 => 70 | 26 => 71 | 27 => 72 | 46 => 81 | 47 => 82 | 48 => 83 | 49 => 84 | 50 => 85 | 57 => 92 | n => n, fun | 22 => 37 | 24 => 24 | 25 => 80 | 3 => 3 | 39 => 103 | 0 => 0 | 53 => 22 | 55 => 121 | 4 => 4 | 46 => 113 | 45 => 112 | 50 => 117 | 5 => 5 | 9 => 9 | 66 => 127 | 70 => 131 | 76 => 142 | 77 => 143 | n => n, fun | n => n⟩
theorem so28_lay : Go.Proofs.SlLaysF0.n6 Tryd.prog so28_lay_ren where
  mixed := by kernel_rfl
  f6 := ⟨Tryd.f40.name, by decide, Tryd.func40.trans (congrArg some (by kernel_rfl))⟩
  f14 := ⟨Tryd.f56.name, by decide, Tryd.func56.trans (congrArg some (by kernel_rfl))⟩
  f15 := Tryd.func57.trans (congrArg some (by kernel_rfl))
  f20 := ⟨Tryd.f65.name, by decide, Tryd.func65.trans (congrArg some (by kernel_rfl))⟩
  f21 := ⟨Tryd.f66.name, by decide, Tryd.func66.trans (congrArg some (by kernel_rfl))⟩
  f22 := ⟨Tryd.f67.name, by decide, Tryd.func67.trans (congrArg some (by kernel_rfl))⟩
  f23 := ⟨Tryd.f68.name, by decide, Tryd.func68.trans (congrArg some (by kernel_rfl))⟩
  f24 := ⟨Tryd.f69.name, by decide, Tryd.func69.trans (congrArg some (by kernel_rfl))⟩
  f25 := ⟨Tryd.f70.name, by decide, Tryd.func70.trans (congrArg some (by kernel_rfl))⟩
  f26 := ⟨Tryd.f71.name, by decide, Tryd.func71.trans (congrArg some (by kernel_rfl))⟩
  f27 := ⟨Tryd.f72.name, by decide, Tryd.func72.trans (congrArg some (by kernel_rfl))⟩
  f28 := Tryd.func73.trans (congrArg some (by kernel_rfl))
  f29 := Tryd.func74.trans (congrArg some (by kernel_rfl))
  f46 := ⟨Tryd.f81.name, by decide, Tryd.func81.trans (congrArg some (by kernel_rfl))⟩
  f47 := Tryd.func82.trans (congrArg some (by kernel_rfl))
  f48 := Tryd.func83.trans (congrArg some (by kernel_rfl))
  f49 := ⟨Tryd.f84.name, by decide, Tryd.func84.trans (congrArg some (by kernel_rfl))⟩
  f50 := ⟨Tryd.f85.name, by decide, Tryd.func85.trans (congrArg some (by kernel_rfl))⟩
  f57 := ⟨Tryd.f92.name, by decide, Tryd.func92.trans (congrArg some (by kernel_rfl))⟩
  t0 := Tryd.underlying0
  a0 := Tryd.isAgg0
  z0 := Tryd.sizeOf0
  v0 := Tryd.zeroValue0
  t3 := Tryd.underlying3
  a3 := Tryd.isAgg3
  z3 := Tryd.sizeOf3
  v3 := Tryd.zeroValue3
  t4 := Tryd.underlying4
  a4 := Tryd.isAgg4
  z4 := Tryd.sizeOf4
  v4 := Tryd.zeroValue4
  t5 := Tryd.underlying5
  a5 := Tryd.isAgg5
  z5 := Tryd.sizeOf5
  v5 := Tryd.zeroValue5
  t9 := Tryd.underlying9
  a9 := Tryd.isAgg9
  z9 := Tryd.sizeOf9
  v9 := Tryd.zeroValue9
  t22 := Tryd.underlying37
  a22 := Tryd.isAgg37
  z22 := Tryd.sizeOf37
  v22 := Tryd.zeroValue37
  t25 := Tryd.underlying80
  a25 := Tryd.isAgg80
  z25 := Tryd.sizeOf80
  v25 := Tryd.zeroValue80
  t39 := Tryd.underlying103
  a39 := Tryd.isAgg103
  z39 := Tryd.sizeOf103
  v39 := Tryd.zeroValue103
  t45 := Tryd.underlying112
  a45 := Tryd.isAgg112
  z45 := Tryd.sizeOf112
  v45 := Tryd.zeroValue112
  t46 := Tryd.underlying113
  a46 := Tryd.isAgg113
  z46 := Tryd.sizeOf113
  v46 := Tryd.zeroValue113
  t50 := Tryd.underlying117
  a50 := Tryd.isAgg117
  z50 := Tryd.sizeOf117
  v50 := Tryd.zeroValue117
  t53 := Tryd.underlying22
  a53 := Tryd.isAgg22
  z53 := Tryd.sizeOf22
  v53 := Tryd.zeroValue22
  t55 := Tryd.underlying121
  a55 := Tryd.isAgg121
  z55 := Tryd.sizeOf121
  v55 := Tryd.zeroValue121
  t66 := Tryd.underlying127
  a66 := Tryd.isAgg127
  z66 := Tryd.sizeOf127
  v66 := Tryd.zeroValue127
  t70 := Tryd.underlying131
  a70 := Tryd.isAgg131
  z70 := Tryd.sizeOf131
  v70 := Tryd.zeroValue131
  t76 := Tryd.underlying142
  a76 := Tryd.isAgg142
  z76 := Tryd.sizeOf142
  v76 := Tryd.zeroValue142
  t77 := Tryd.underlying143
  a77 := Tryd.isAgg143
  z77 := Tryd.sizeOf143
  v77 := Tryd.zeroValue143

theorem so28_sortedF (k1 g : Nat) (lb : Array Value) (e1 : ∀ args w, (callFunc k1 args).run Tryd.prog w = .ok (.enter k1 args) w) (eg : ∀ args w, (callFunc g args).run Tryd.prog w = .ok (.enter g args) w)
    (cf : (T_api_Tx) → (T_api_Tx) → Int) (hT : TotCmp cf) (hcmp : ∀ blk off size w, Go.Proofs.CmpLays Tryd.prog g #[] so28_kc 3 cf blk off size w)
    (ks : List (T_api_Tx)) (hN : ks.length ≤ maxLen) (hNb : ks.length * 12 ≤ 140737488355328) (w : World) (hseq : SeqD Fence.wide 8 Tryd.prog k1 lb so28_kv (fun xs => xs.Perm ks) ks.length w) :
    Calls Tryd.prog 28 #[.func (.func k1) #[] lb, .func (.func g) #[] #[]] w fun e w' => ∃ v, e = .returned v ∧ Below w.heap.size w w' ∧ w.drawn ≤ w'.drawn ∧ SortedAt so28_kc 3 w w' v (sortL cf ks) := by
  have hc : Calls Tryd.prog 39 #[.func (.func k1) #[] lb] w _ := callsIn_wide.1 (so28_collect 10 (by omega) k1 lb e1 _ ks.length hN hNb w hseq)
  have hsort : ∀ (w1 : World) (v : Value) (ss : List (T_api_Tx)), ss.Perm ks → w1.ownsRow w.heap.size 24 3 v ss.length (ss.flatMap so28_kc) → (v = .slice none 0 0 ↔ ss = []) → Below w.heap.size w w1 →
      Calls Tryd.prog 40 #[v, .func (.func g) #[] #[]] w1 fun e w' => e = .returned (.tuple #[]) ∧ Below w.heap.size w1 w' ∧ w1.drawn ≤ w'.drawn ∧ SortedAt so28_kc 3 w w' v (sortL cf ks) := by
    intro w1 v ss hS hrow hnil hb
    by_cases hss : ss = []
    · subst hss
      rw [hnil.2 rfl]
      have hks : ks = [] := List.length_eq_zero_iff.1 (by rw [← hS.length_eq]; rfl)
      have h := Go.Proofs.AnyF.slices_SortFunc_none so28_lay none 0 (.func (.func g) #[] #[]) w1
      change Calls Tryd.prog 40 _ _ _ at h
      refine h.mono ?_
      rintro e w' ⟨rfl, rfl⟩
      exact ⟨rfl, Below.refl _ _, Nat.le_refl _, .inl ⟨rfl, by subst hks; exact List.eq_nil_of_length_eq_zero (sortL_len cf [])⟩⟩
    · obtain ⟨m, hm⟩ : ∃ m, ss.length = m + 1 := ⟨ss.length - 1, by have := List.length_pos_iff.2 hss; omega⟩
      obtain ⟨blk, cap, hv⟩ := ownsRow_succ (by rw [hm] at hrow; exact hrow)
      rw [← hm] at hv
      subst hv
      obtain ⟨h1, h2, h3, h4, _⟩ := holds_of_owns so28_len hrow
      have hsz : ss.toArray.size < 4611686018427387904 := by
        have := hS.length_eq
        simp only [List.size_toArray]
        omega
      have h := Go.Proofs.AnyQ.slices_SortFunc_total so28_lay 3 Tryd.isAgg24 Tryd.sizeOf24 so28_kc so28_len so28_one cf hT.swo g #[] blk 0 cap ss.toArray w1 eg (hcmp blk 0 _ w1) h1 h3 hsz hT.tot
      change Calls Tryd.prog 40 _ _ _ at h
      rw [List.size_toArray] at h
      refine h.mono ?_
      rintro e w' ⟨rfl, n, os, rfl⟩
      have hbs := below_sort so28_kc 3 w1 blk 0 n (sortL cf ss).toArray os w.heap.size h2 hb.size
      refine ⟨rfl, hbs.1, hbs.2, ?_⟩
      rw [← sortL_of_perm hT hS]
      exact sortedAt_of so28_len (by decide) (Nat.le_refl _) hrow (sortL_len cf ss) hss rfl
  clear hseq hcmp
  go_enter Tryd.func28, Tryd.ntmps28
  go_wp2_with (first
    | (go_at_call 39; refine hc.mono ?_; rintro e w1 ⟨v, ss, rfl, hS, hrow, hnil, hb, hd⟩)
    | (go_at_call 40; refine (hsort w1 v ss hS hrow hnil hb).mono ?_; rintro e w2 ⟨rfl, hb2, hd2, hs2⟩))
  go_ret
  exact ⟨v, rfl, hb.trans hb2, Nat.le_trans hd hd2, hs2⟩

/-- cmp.isNaN[uint32] -/

def cmp_isNaN_uint32_v (r : (Bool)) : LV := .bool r

def cmp_isNaN_uint32 (x : Int) : Option ((Bool)) :=
  some (x != x)

theorem cmp_isNaN_uint32_ok (x : Int) (r : (Bool)) (h : cmp_isNaN_uint32 x = some r) : ∀ σ, Inj 0 σ → FnTri Tryd.prog 59 (renL σ [.int .u32 x]) (preOf σ 0 []) ((cmp_isNaN_uint32_v r).ren σ) (upOf σ []) := by
  refine fn_of Tryd.func59 (by kernel_rfl) (by kernel_rfl) (by kernel_rfl) trivial (by kernel_rfl) trivial (by kernel_rfl) ?_
  intro w0 W μ0 hμ
  unfold cmp_isNaN_uint32 at h
  obtain rfl := Option.some.inj h
  exact run_ret mixed (L := []) (n := 15) (s := [.reg [], .reg []])
    (a_ (a_ (r1_ tr) (a_ (r4_ tr) tr)) tr) (by as_aux_lemma => kernel_rfl) rfl

theorem cmp_isNaN_uint32_tri (x : Int) (r : (Bool)) (h : cmp_isNaN_uint32 x = some r) : FnTri Tryd.prog 59 [.int .u32 x] [] (cmp_isNaN_uint32_v r) [] := FnTri.none (cmp_isNaN_uint32_ok x r h) rfl rfl

/-- cmp.Compare[uint32] -/

def cmp_Compare_uint32_v (r : (Int)) : LV := .int .i64 r

def cmp_Compare_uint32 (x : Int) (y : Int) : Option ((Int)) :=
  (cmp_isNaN_uint32 x).bind fun y2 =>
  (cmp_isNaN_uint32 y).bind fun y4 =>
  if (y2 : Bool) then
    if (y4 : Bool) then
      some 0
    else
      some (-1)
  else
    if (y4 : Bool) then
      some 1
    else
      if ((decide (x < y)) : Bool) then
        some (-1)
      else
        if ((decide (y < x)) : Bool) then
          some 1
        else
          some 0

theorem cmp_Compare_uint32_ok (x : Int) (y : Int) (r : (Int)) (h : cmp_Compare_uint32 x y = some r) : ∀ σ, Inj 0 σ → FnTri Tryd.prog 44 (renL σ [.int .u32 x, .int .u32 y]) (preOf σ 0 []) ((cmp_Compare_uint32_v r).ren σ) (upOf σ []) := by
  refine fn_of Tryd.func44 (by kernel_rfl) (by kernel_rfl) (by kernel_rfl) trivial (by kernel_rfl) trivial (by kernel_rfl) ?_
  intro w0 W μ0 hμ
  unfold cmp_Compare_uint32 at h
  obtain ⟨y2, e1, h⟩ := bind_some h
  obtain ⟨y4, e3, h⟩ := bind_some h
  rcases itb_some h with ⟨c5, h⟩ | ⟨c5, h⟩
  · skip
    rcases itb_some h with ⟨c6, h⟩ | ⟨c6, h⟩
    · skip
      obtain rfl := Option.some.inj h
      exact run_ret mixed (L := []) (n := 31) (s := [.reg [], .reg [(1, { call := some (cmp_isNaN_uint32_v y2, [], []) })], .reg [(1, { call := some (cmp_isNaN_uint32_v y4, [], []) })], .reg [(0, { v := some (.bool true) })], .reg [(0, { v := some (.bool true) })], .reg []])
        (a_ (a_ (r1_ tr) (a_ (r1_ (a_ (a_ (a_ (cmp_isNaN_uint32_tri x y2 e1) tr) tr) (r1_ tr))) (a_ (r1_ (a_ (a_ (a_ (cmp_isNaN_uint32_tri y y4 e3) tr) tr) (r1_ tr))) (a_ (a_ (a_ tr (a_ (leB c5) tr)) tr) (a_ (a_ (a_ tr (a_ (leB c6) tr)) tr) (a_ (r1_ tr) tr)))))) tr) (by as_aux_lemma => kernel_rfl) rfl
    · skip
      obtain rfl := Option.some.inj h
      exact run_ret mixed (L := []) (n := 32) (s := [.reg [], .reg [(1, { call := some (cmp_isNaN_uint32_v y2, [], []) })], .reg [(1, { call := some (cmp_isNaN_uint32_v y4, [], []) })], .reg [(0, { v := some (.bool true) })], .reg [(0, { v := some (.bool false) })], .reg []])
        (a_ (a_ (r1_ tr) (a_ (r1_ (a_ (a_ (a_ (cmp_isNaN_uint32_tri x y2 e1) tr) tr) (r1_ tr))) (a_ (r1_ (a_ (a_ (a_ (cmp_isNaN_uint32_tri y y4 e3) tr) tr) (r1_ tr))) (a_ (a_ (a_ tr (a_ (leB c5) tr)) tr) (a_ (a_ (a_ tr (a_ (leB c6) tr)) tr) (a_ (r1_ tr) tr)))))) tr) (by as_aux_lemma => kernel_rfl) rfl
  · skip
    rcases itb_some h with ⟨c6, h⟩ | ⟨c6, h⟩
    · skip
      obtain rfl := Option.some.inj h
      exact run_ret mixed (L := []) (n := 32) (s := [.reg [], .reg [(1, { call := some (cmp_isNaN_uint32_v y2, [], []) })], .reg [(1, { call := some (cmp_isNaN_uint32_v y4, [], []) })], .reg [(0, { v := some (.bool false) })], .reg [(0, { v := some (.bool true) })], .reg []])
        (a_ (a_ (r1_ tr) (a_ (r1_ (a_ (a_ (a_ (cmp_isNaN_uint32_tri x y2 e1) tr) tr) (r1_ tr))) (a_ (r1_ (a_ (a_ (a_ (cmp_isNaN_uint32_tri y y4 e3) tr) tr) (r1_ tr))) (a_ (a_ (a_ tr (a_ (leB c5) tr)) tr) (a_ (a_ (a_ tr (a_ (leB c6) tr)) tr) (a_ (r1_ tr) tr)))))) tr) (by as_aux_lemma => kernel_rfl) rfl
    · skip
      rcases itb_some h with ⟨c7, h⟩ | ⟨c7, h⟩
      · skip
        obtain rfl := Option.some.inj h
        exact run_ret mixed (L := []) (n := 38) (s := [.reg [], .reg [(1, { call := some (cmp_isNaN_uint32_v y2, [], []) })], .reg [(1, { call := some (cmp_isNaN_uint32_v y4, [], []) })], .reg [(0, { v := some (.bool false) })], .reg [(0, { v := some (.bool false) })], .reg [(2, { v := some (.bool true) })], .reg []])
          (a_ (a_ (r1_ tr) (a_ (r1_ (a_ (a_ (a_ (cmp_isNaN_uint32_tri x y2 e1) tr) tr) (r1_ tr))) (a_ (r1_ (a_ (a_ (a_ (cmp_isNaN_uint32_tri y y4 e3) tr) tr) (r1_ tr))) (a_ (a_ (a_ tr (a_ (leB c5) tr)) tr) (a_ (a_ (a_ tr (a_ (leB c6) tr)) tr) (a_ (r2_ (a_ (a_ tr (a_ (leB c7) tr)) tr)) (a_ (r1_ tr) tr))))))) tr) (by as_aux_lemma => kernel_rfl) rfl
      · skip
        rcases itb_some h with ⟨c8, h⟩ | ⟨c8, h⟩
        · skip
          obtain rfl := Option.some.inj h
          exact run_ret mixed (L := []) (n := 44) (s := [.reg [], .reg [(1, { call := some (cmp_isNaN_uint32_v y2, [], []) })], .reg [(1, { call := some (cmp_isNaN_uint32_v y4, [], []) })], .reg [(0, { v := some (.bool false) })], .reg [(0, { v := some (.bool false) })], .reg [(2, { v := some (.bool false) })], .reg [(2, { v := some (.bool true) })], .reg []])
            (a_ (a_ (r1_ tr) (a_ (r1_ (a_ (a_ (a_ (cmp_isNaN_uint32_tri x y2 e1) tr) tr) (r1_ tr))) (a_ (r1_ (a_ (a_ (a_ (cmp_isNaN_uint32_tri y y4 e3) tr) tr) (r1_ tr))) (a_ (a_ (a_ tr (a_ (leB c5) tr)) tr) (a_ (a_ (a_ tr (a_ (leB c6) tr)) tr) (a_ (r2_ (a_ (a_ tr (a_ (leB c7) tr)) tr)) (a_ (r2_ (a_ (a_ tr (a_ (leB c8) tr)) tr)) (a_ (r1_ tr) tr)))))))) tr) (by as_aux_lemma => kernel_rfl) rfl
        · skip
          obtain rfl := Option.some.inj h
          exact run_ret mixed (L := []) (n := 45) (s := [.reg [], .reg [(1, { call := some (cmp_isNaN_uint32_v y2, [], []) })], .reg [(1, { call := some (cmp_isNaN_uint32_v y4, [], []) })], .reg [(0, { v := some (.bool false) })], .reg [(0, { v := some (.bool false) })], .reg [(2, { v := some (.bool false) })], .reg [(2, { v := some (.bool false) })], .reg []])
            (a_ (a_ (r1_ tr) (a_ (r1_ (a_ (a_ (a_ (cmp_isNaN_uint32_tri x y2 e1) tr) tr) (r1_ tr))) (a_ (r1_ (a_ (a_ (a_ (cmp_isNaN_uint32_tri y y4 e3) tr) tr) (r1_ tr))) (a_ (a_ (a_ tr (a_ (leB c5) tr)) tr) (a_ (a_ (a_ tr (a_ (leB c6) tr)) tr) (a_ (r2_ (a_ (a_ tr (a_ (leB c7) tr)) tr)) (a_ (r2_ (a_ (a_ tr (a_ (leB c8) tr)) tr)) (a_ (r1_ tr) tr)))))))) tr) (by as_aux_lemma => kernel_rfl) rfl

theorem cmp_Compare_uint32_tri (x : Int) (y : Int) (r : (Int)) (h : cmp_Compare_uint32 x y = some r) : FnTri Tryd.prog 44 [.int .u32 x, .int .u32 y] [] (cmp_Compare_uint32_v r) [] := FnTri.none (cmp_Compare_uint32_ok x y r h) rfl rfl

/-- cmp.Or[int] -/

def cmp_Or_int_v (r : (Int)) : LV := .int .i64 r

def cmp_Or_int_T0 (vals : List (Int)) (t8 : Int) : List LV := [.any, .any, .any, .int .i64 0, .any, .any, .ds 1 (vals).length (rowF (cInt .i64) default vals), .int .i64 ((vals).length : Int), .int .i64 t8, .any, .any, .any, .any, .any, .any, .any, .any, .any]

def cmp_Or_int_H0 (vals : List (Int)) (t8 : Int) : Heap := []

def cmp_Or_int_l0 (vals : List (Int))  : Nat → (Int) → Option ((Int))
  | 0, _ => none
  | fuel + 1, t8 =>
    if ((decide (t8 < ((vals).length : Int))) : Bool) then
      if 0 ≤ t8 ∧ t8 < (((vals).length : Nat) : Int) then
      if (((vals.getD t8.toNat default) != 0) : Bool) then
        some (vals.getD t8.toNat default)
      else
        cmp_Or_int_l0 vals  fuel (IntKind.wrap .i64 (t8 + 1))
      else none
    else
      some 0

def cmp_Or_int (vals : List (Int)) : Option ((Int)) :=
  cmp_Or_int_l0 vals  big 0

theorem cmp_Or_int_l0_ok {w0 : World} {W : Nat → Prop} {μ0 : Emb} (hμ : ∀ c p, μ0 c = some p → c < 0) (vals : List (Int))  : ∀ (fuel : Nat) (t8 : Int) (r : (Int)), cmp_Or_int_l0 vals  fuel t8 = some r → kont Tryd.prog w0 W μ0 (FnPost Tryd.prog Tryd.f42 0 0 (cmp_Or_int_v r) []) (kAt (bodyOf Tryd.f42) 0) none (cmp_Or_int_T0 vals t8) (cmp_Or_int_H0 vals t8) := by
  intro fuel
  induction fuel with
  | zero => intro t8 r h; rw [cmp_Or_int_l0] at h; cases h
  | succ fuel ih =>
    intro t8 r h
    rw [cmp_Or_int_l0] at h
    rcases itb_some h with ⟨cL0_1, h⟩ | ⟨cL0_1, h⟩
    · skip
      obtain ⟨gL0_2, h⟩ := guard_some h
      rcases itb_some h with ⟨cL0_3, h⟩ | ⟨cL0_3, h⟩
      · skip
        obtain rfl := Option.some.inj h
        exact run_ret mixed (L := []) (n := 28) (s := [.go, .reg [(0, { v := some (.bool true) })], .reg [], .reg [(2, { v := some (.bool true) })], .reg []])
          (a_ (a_ (a_ (a_ tr (a_ (leB cL0_1) tr)) tr) (a_ (a_ (a_ (a_ (Eq.refl 1) gL0_2) tr) (a_ (a_ (lt_ 0 1 rfl) tr) (r1_ tr))) (a_ (r2_ (a_ (a_ tr (a_ (leB cL0_3) tr)) tr)) (a_ (r2_ tr) tr)))) tr) (by as_aux_lemma => kernel_rfl) rfl
      · skip
        exact run_to mixed hμ (L := []) (n := 29) (s := [.go, .reg [(0, { v := some (.bool true) })], .reg [], .reg [(2, { v := some (.bool false) })], .reg []])
          (a_ (a_ (a_ tr (a_ (leB cL0_1) tr)) tr) (a_ (a_ (a_ (a_ (Eq.refl 1) gL0_2) tr) (a_ (a_ (lt_ 0 1 rfl) tr) (r1_ tr))) (a_ (r2_ (a_ (a_ tr (a_ (leB cL0_3) tr)) tr)) (a_ (r2_ tr) tr)))) (ih _ r h) (by as_aux_lemma => kernel_rfl) trivial
    · skip
      obtain rfl := Option.some.inj h
      exact run_ret mixed (L := []) (n := 19) (s := [.go, .reg [(0, { v := some (.bool false) })], .reg []])
        (a_ (a_ (a_ (a_ tr (a_ (leB cL0_1) tr)) tr) (a_ (r2_ tr) tr)) tr) (by as_aux_lemma => kernel_rfl) rfl

theorem cmp_Or_int_ok (vals : List (Int)) (r : (Int)) (h : cmp_Or_int vals = some r) : ∀ σ, Inj 0 σ → FnTri Tryd.prog 42 (renL σ [.ds 1 (vals).length (rowF (cInt .i64) default vals)]) (preOf σ 0 []) ((cmp_Or_int_v r).ren σ) (upOf σ []) := by
  refine fn_of Tryd.func42 (by kernel_rfl) (by kernel_rfl) (by kernel_rfl) trivial (by kernel_rfl) trivial (by kernel_rfl) ?_
  intro w0 W μ0 hμ
  unfold cmp_Or_int at h
  exact run_to mixed hμ (L := []) (n := 21) (s := [.reg [], .reg [], .reg []])
    (a_ (r1_ tr) (a_ (r1_ tr) (a_ (r1_ (r2_ tr)) tr))) (cmp_Or_int_l0_ok hμ vals  big _ r h) (by as_aux_lemma => kernel_rfl) trivial

theorem cmp_Or_int_tri (vals : List (Int)) (r : (Int)) (h : cmp_Or_int vals = some r) : FnTri Tryd.prog 42 [.ds 1 (vals).length (rowF (cInt .i64) default vals)] [] (cmp_Or_int_v r) [] := FnTri.none (cmp_Or_int_ok vals r h) rfl rfl

/-- parrel/ids.Txs -/

def ids_Txs_v (r : (Int)) : LV := .int .i64 r

def ids_Txs (a : T_api_Tx) (b : T_api_Tx) : Option ((Int)) :=
  (cmp_Compare_uint8 a.f_Node b.f_Node).bind fun y2 =>
  (cmp_Compare_uint32 a.f_Boot b.f_Boot).bind fun y4 =>
  (cmp_Compare_uint32 a.f_Num b.f_Num).bind fun y6 =>
  (cmp_Or_int ([y2, y4, y6] : List (Int))).bind fun y8 =>
  some y8

theorem ids_Txs_ok (a : T_api_Tx) (b : T_api_Tx) (r : (Int)) (h : ids_Txs a b = some r) : ∀ σ, Inj 0 σ → FnTri Tryd.prog 30 (renL σ [v_T_api_Tx a, v_T_api_Tx b]) (preOf σ 0 []) ((ids_Txs_v r).ren σ) (upOf σ []) := by
  refine fn_of Tryd.func30 (by kernel_rfl) (by kernel_rfl) (by kernel_rfl) trivial (by kernel_rfl) trivial (by kernel_rfl) ?_
  intro w0 W μ0 hμ
  unfold ids_Txs at h
  obtain ⟨y2, e1, h⟩ := bind_some h
  obtain ⟨y4, e3, h⟩ := bind_some h
  obtain ⟨y6, e5, h⟩ := bind_some h
  obtain ⟨y8, e7, h⟩ := bind_some h
  obtain rfl := Option.some.inj h
  exact run_ret mixed (L := []) (n := 15) (s := [.reg [], .reg [(4, { call := some (cmp_Compare_uint8_v y2, [], []) }), (9, { call := some (cmp_Compare_uint32_v y4, [], []) }), (14, { call := some (cmp_Compare_uint32_v y6, [], []) }), (15, { os := [(2, .gr 1 (([y2, y4, y6] : List (Int))).length (rowF (cInt .i64) default ([y2, y4, y6] : List (Int))))], v := some (.gs 2 (([y2, y4, y6] : List (Int))).length), fz := true }), (16, { call := some (cmp_Or_int_v y8, [], []) })]])
    (a_ (a_ (r1_ (r2_ tr)) (a_ (r1_ (a_ (a_ (a_ tr (lt_ 0 3 rfl)) tr) (r1_ (a_ (a_ (a_ tr (lt_ 0 3 rfl)) tr) (a_ (a_ (a_ (cmp_Compare_uint8_tri a.f_Node b.f_Node y2 e1) tr) tr) (r1_ (a_ (a_ (a_ tr (lt_ 1 3 rfl)) tr) (r1_ (a_ (a_ (a_ tr (lt_ 1 3 rfl)) tr) (a_ (a_ (a_ (cmp_Compare_uint32_tri a.f_Boot b.f_Boot y4 e3) tr) tr) (r1_ (a_ (a_ (a_ tr (lt_ 2 3 rfl)) tr) (r1_ (a_ (a_ (a_ tr (lt_ 2 3 rfl)) tr) (a_ (a_ (a_ (cmp_Compare_uint32_tri a.f_Num b.f_Num y6 e5) tr) tr) (a_ (a_ (a_ (a_ (Eq.refl true) (a_ (Eq.refl 1) (a_ (lt_ 0 1 rfl) (le_ 3 16777216 rfl)))) (a_ (le_sl_gs 2 3 (some 3) rfl) (a_ (sub_lit (cInt .i64) default 1 (fun _ => rfl) ([y2, y4, y6] : List (Int))) tr))) (a_ (Nat.le_refl (([y2, y4, y6] : List (Int))).length) (fz_row (enc := (cInt .i64)) (d := default) (fun _ => rfl) ([y2, y4, y6] : List (Int))))) (a_ (a_ (a_ (cmp_Or_int_tri ([y2, y4, y6] : List (Int)) y8 e7) tr) tr) (r1_ tr)))))))))))))))))) tr)) tr) (by as_aux_lemma => kernel_rfl) rfl

theorem ids_Txs_tri (a : T_api_Tx) (b : T_api_Tx) (r : (Int)) (h : ids_Txs a b = some r) : FnTri Tryd.prog 30 [v_T_api_Tx a, v_T_api_Tx b] [] (ids_Txs_v r) [] := FnTri.none (ids_Txs_ok a b r h) rfl rfl

theorem so28k41_keys (n : Nat) (Bm b : Nat) (es : Array MapEntry) (clock : Nat) (ks : List (T_api_Tx)) (w : World) (off : Nat) (hm : w.cell? ⟨Bm, off, none⟩ = some (.map (some b))) (hBm : Bm < w.heap.size) (hb : w.heap[b]? = some (.map es clock))
    (hold : ∀ x ∈ es.toList, x.born < clock) (hnd : (es.toList.map (·.born)).Nodup) (hk : es.toList.map (·.key) = ks.map so28_kv) :
    SeqD Fence.wide n Tryd.prog 41 #[.pointer (some ⟨Bm, off, none⟩)] so28_kv (fun xs => xs.Perm ks) es.size w := fun l J W hW hJ hY h0 => by
  have hbW : W.heap[b]? = some (.map es clock) := (hW.block b (Array.getElem?_eq_some_iff.1 hb).1).trans hb
  have hc : W.cell? ⟨Bm, off, none⟩ = some (.map (some b)) := (World.cell?_of_block (hW.block Bm hBm)).trans hm
  refine callsIn_of_wp Tryd.func41 rfl trivial ?_ rfl
  simp only [Tryd.ntmps41, List.size_toArray, List.length_cons, List.length_nil, Nat.reduceAdd, Nat.reduceSub, Array.replicate_succ, Array.replicate_zero, List.push_toArray, List.append_toArray, List.nil_append, List.cons_append]
  gi_wp2_with (first
    | (gi_at_range; refine wpListIn_range_raw _ rfl _ 64 rfl 24 73 Tryd.underlying64 b es clock rfl hbW ?_)
    | gi_in)
  go_frame
  have hrg0 : Rg (W.alloc (.mapIter (some b) clock #[] clock)) b W.heap.size es clock [] :=
    ⟨(Below.heap_alloc _ _ b (Array.getElem?_eq_some_iff.1 hbW).1).trans hbW, World.alloc_heap_new W _, (fun d hd => by cases hd), List.nodup_nil⟩
  have hJ0 : J [] (W.alloc (.mapIter (some b) clock #[] clock)) := hJ [] W _ none h0 (World.grownBy_alloc W _ none) (Nat.le_refl _) (fun r e => by cases e)
  gi_loopw [3] (fun _ wr => ∃ (ds : List MapEntry) (xs : List (T_api_Tx)), Rg wr b W.heap.size es clock ds ∧ ds.map (·.key) = xs.map so28_kv ∧ J xs wr)
    (fun _ wr => itLeft b W.heap.size wr)
  case atStart => exact ⟨[], [], hrg0, rfl, hJ0⟩
  case round =>
    obtain ⟨ds, xs, hrg, hdx, hJs⟩ := hrel
    gi_wp2_with (first
      | (gi_at_next; refine wpListIn_next_raw _ rfl _ rfl b W.heap.size es clock ds rfl hrg hold hnd ?_ ?_)
      | gi_in)
    · intro hall
      gi_wp2
      go_end0
      refine ⟨⟨_, rfl⟩, xs, ?_, hJs⟩
      have hp := (hrg.perm hnd (fun x hx => hall x (by simpa using hx))).map (·.key)
      rw [hdx, hk] at hp
      exact perm_of_map so28_kv so28_kd so28_kdv hp
    · intro e w2 he hrg2 hg2 hd2 hs2 hen
      obtain ⟨x, hx⟩ : ∃ x, e.key = so28_kv x := by
        have : e.key ∈ es.toList.map (·.key) := List.mem_map.2 ⟨e, by simpa using he, rfl⟩
        rw [hk] at this
        obtain ⟨x, _, hx⟩ := List.mem_map.1 this
        exact ⟨x, hx.symm⟩
      rw [hx] at hen ⊢
      have hJ2 : J xs w2 := hJ xs wr w2 _ hJs hg2 hd2 (fun r e => by cases e; exact ⟨Nat.le_refl _, _, hrg.it, rfl⟩)
      have hlt2 : xs.length < es.size := by
        have h1 := hrg2.len hnd
        have h2 := congrArg List.length hdx
        simp only [List.length_map, List.length_append, List.length_cons, List.length_nil] at h1 h2
        omega
      have hJ3 : J xs (w2.alloc (.cells #[.int .u8 x.f_Node, .int .u32 x.f_Boot, .int .u32 x.f_Num] 24)) := hJ xs w2 _ none hJ2 (World.grownBy_alloc w2 _ none) (Nat.le_refl _) (fun r e => by cases e)
      obtain ⟨fn, tmps, assign, body, hy, hR⟩ := hY xs x _ hJ3 hlt2
      unfold so28_kv at hen hy ⊢
      clear hs2 hd2
      gi_wp2
      refine ⟨fun h => absurd h (by simp [Fence.wide]), hR.mono ?_⟩
      rintro e' W4 ⟨rfl, hJ4, hk4⟩
      gi_wp2
      have hrg4 := (hrg2.walks (KeepsWalks.alloc _ _)).walks hk4
      go_roundw
      case rel => exact ⟨ds ++ [e], xs ++ [x], hrg4, by rw [List.map_append, List.map_append, hdx, List.map_cons, hx]; rfl, hJ4⟩
      case measure =>
        rw [hrg4.left, hrg.left]
        have := hrg2.len hnd
        simp only [List.length_append, List.length_cons, List.length_nil] at this ⊢
        omega


theorem so28k41_keysn (n : Nat) (Bm off : Nat) (w : World) (hm : w.cell? ⟨Bm, off, none⟩ = some (.map none)) (hBm : Bm < w.heap.size) :
    SeqD Fence.wide n Tryd.prog 41 #[.pointer (some ⟨Bm, off, none⟩)] so28_kv (fun xs => xs.Perm []) 0 w := fun l J W hW hJ hY h0 => by
  have hc : W.cell? ⟨Bm, off, none⟩ = some (.map none) := (World.cell?_of_block (hW.block Bm hBm)).trans hm
  refine callsIn_of_wp Tryd.func41 rfl trivial ?_ rfl
  simp only [Tryd.ntmps41, List.size_toArray, List.length_cons, List.length_nil, Nat.reduceAdd, Nat.reduceSub, Array.replicate_succ, Array.replicate_zero, List.push_toArray, List.append_toArray, List.nil_append, List.cons_append]
  gi_wp2_with (first
    | (gi_at_range; refine wpListIn_range_nil _ rfl _ 64 rfl 24 73 Tryd.underlying64 rfl ?_)
    | gi_in)
  go_frame
  have hJ0 : J [] (W.alloc (.mapIter none 0 #[] 0)) := hJ [] W _ none h0 (World.grownBy_alloc W _ none) (Nat.le_refl _) (fun r e => by cases e)
  gi_loopw [3] (fun _ wr => wr.heap[W.heap.size]? = some (.mapIter none 0 #[] 0) ∧ J [] wr) (fun _ _ => 0)
  case atStart => exact ⟨World.alloc_heap_new W _, hJ0⟩
  case round =>
    obtain ⟨hit, hJs⟩ := hrel
    gi_wp2_with (first
      | (gi_at_next; refine wpListIn_next_nil _ rfl _ rfl W.heap.size rfl hit ?_)
      | gi_in)
    gi_wp2
    go_end0
    exact ⟨⟨_, rfl⟩, [], List.Perm.refl _, hJs⟩

theorem so28k41_det (φ : Fro) (x : (T_api_Tx)) (v : Value) (h : RelF φ (v_T_api_Tx x) v) : v = so28_kv x := so28_det φ x v h
theorem so28k41_rel (μ : Emb) (x : (T_api_Tx)) : Rel μ (v_T_api_Tx x) (.agg (so28_kc x).toArray) := ⟨_, rfl, RelFL.rel (so28_enc μ.fro x)⟩
theorem so28k41_tri (g : FuncId) (cmp : (T_api_Tx) → (T_api_Tx) → Option Int) (r : List (T_api_Tx)) (hcmp : ∀ x y r, cmp x y = some r → FnTri Tryd.prog g [v_T_api_Tx x, v_T_api_Tx y] [] (.int .i64 r) []) (b c : Nat) (hbc : b ≠ c) (m : List ((T_api_Tx) × (T_stage_prepared)))
    (h : sortO cmp 12 (m.map (·.1)) = some r) : FnTri Tryd.prog 28 [.fn 41 [] [.ptr b 0 0], .fn g [] []] [(b, .var [.map c]), (c, .map true [.int .u8, .int .u32, .int .u32] (encM v_T_api_Tx v_T_stage_prepared m))] (.ds 3 r.length (rowF c_T_api_Tx default r)) [] := by
  obtain ⟨cf, hT, hcf, hL1, hL2, rfl⟩ := sortO_some h
  have hcl : ∀ blk off size w, Go.Proofs.CmpLays Tryd.prog g #[] so28_kc 3 cf blk off size w := cmp_of_tri (ek := v_T_api_Tx) (fun x y => hcmp x y _ (hcf x y)) so28k41_rel rfl 3
  have eg := enters_tri (hcmp default default _ (hcf default default)).1
  refine ⟨⟨_, Tryd.func28, by kernel_rfl, by kernel_rfl⟩, fun μ w vals hr hp hf => ?_⟩
  obtain ⟨v0, r0, rfl, ⟨a0, b0, rfl, ha, hb⟩, v1, r1, rfl, ⟨a1, b1, rfl, ha1, hb1⟩, rfl⟩ := hr
  obtain rfl := rel_nocap ha
  obtain rfl := rel_nocap ha1
  obtain rfl := rel_nocap hb1
  obtain ⟨p, hpb, rfl⟩ := rel_cap hb
  obtain ⟨p', hpb', hok⟩ := hp.obj b _ List.mem_cons_self
  obtain rfl := Option.some.inj (hpb.symm.trans hpb')
  obtain ⟨vm, hvm, hcell, hlt⟩ := var_cell hok
  obtain ⟨q, hq, rfl⟩ := hvm
  obtain ⟨q', hq', hok2⟩ := hp.obj c _ (List.mem_cons_of_mem _ List.mem_cons_self)
  obtain rfl := Option.some.inj (hq.symm.trans hq')
  obtain ⟨⟨es, clock, hes, hF2, hnd, hborn⟩, _⟩ := hok2
  have hlen : es.size = (m.map (·.1)).length := by
    have := ents_len _ _ hF2
    rw [List.length_map]; simpa using this
  have hseq := so28k41_keys 8 p.rb q.rb es clock (m.map (·.1)) w _ hcell hlt hes hborn hnd (ents_keys so28k41_det _ _ hF2)
  rw [hlen] at hseq
  refine (so28_sortedF 41 g _ (enters_of Tryd.func41 (by kernel_rfl) rfl) eg cf hT hcl (m.map (·.1)) hL1 hL2 w hseq).mono ?_
  rintro e w' ⟨v, rfl, hb', hd', hs'⟩
  obtain ⟨μ', h1, h2⟩ := sorted_fin so28_enc so28_len so28_one hp hb' hd' hs'
  exact ⟨v, μ', rfl, h1, h2⟩
theorem so28k41_trin (g : FuncId) (cmp : (T_api_Tx) → (T_api_Tx) → Option Int) (r : List (T_api_Tx)) (hcmp : ∀ x y r, cmp x y = some r → FnTri Tryd.prog g [v_T_api_Tx x, v_T_api_Tx y] [] (.int .i64 r) []) (b : Nat)
    (h : sortO cmp 12 ([] : List (T_api_Tx)) = some r) : FnTri Tryd.prog 28 [.fn 41 [] [.ptr b 0 0], .fn g [] []] [(b, .var [.nilmap])] (.ds 3 r.length (rowF c_T_api_Tx default r)) [] := by
  obtain ⟨cf, hT, hcf, hL1, hL2, rfl⟩ := sortO_some h
  have hcl : ∀ blk off size w, Go.Proofs.CmpLays Tryd.prog g #[] so28_kc 3 cf blk off size w := cmp_of_tri (ek := v_T_api_Tx) (fun x y => hcmp x y _ (hcf x y)) so28k41_rel rfl 3
  have eg := enters_tri (hcmp default default _ (hcf default default)).1
  refine ⟨⟨_, Tryd.func28, by kernel_rfl, by kernel_rfl⟩, fun μ w vals hr hp hf => ?_⟩
  obtain ⟨v0, r0, rfl, ⟨a0, b0, rfl, ha, hb⟩, v1, r1, rfl, ⟨a1, b1, rfl, ha1, hb1⟩, rfl⟩ := hr
  obtain rfl := rel_nocap ha
  obtain rfl := rel_nocap ha1
  obtain rfl := rel_nocap hb1
  obtain ⟨p, hpb, rfl⟩ := rel_cap hb
  obtain ⟨p', hpb', hok⟩ := hp.obj b _ List.mem_cons_self
  obtain rfl := Option.some.inj (hpb.symm.trans hpb')
  obtain ⟨vm, hvm, hcell, hlt⟩ := var_cell hok
  simp only [Rel] at hvm
  subst hvm
  have hseq := so28k41_keysn 8 p.rb _ w hcell hlt
  refine (so28_sortedF 41 g _ (enters_of Tryd.func41 (by kernel_rfl) rfl) eg cf hT hcl [] hL1 hL2 w hseq).mono ?_
  rintro e w' ⟨v, rfl, hb', hd', hs'⟩
  obtain ⟨μ', h1, h2⟩ := sorted_fin so28_enc so28_len so28_one hp hb' hd' hs'
  exact ⟨v, μ', rfl, h1, h2⟩

/-- (*parrel/stage.Stage).All -/

def stage_Stage_All_v (r : (List (T_api_Tx))) : LV := .ds 3 (r).length (rowF c_T_api_Tx default r)

def stage_Stage_All_up (all : List (T_api_Tx × T_stage_prepared)) (owners : List (A8 (Int) × T_api_Tx)) (r : (List (T_api_Tx))) : Upd := [(0, some (.var [.map 1, .map 2])), (1, some (.map true [.int .u8, .int .u32, .int .u32] (encM v_T_api_Tx v_T_stage_prepared all))), (2, some (.map true [.int .u8, .int .u8, .int .u8, .int .u8, .int .u8, .int .u8, .int .u8, .int .u8] (encM (fun z_ : A8 (Int) => LV.agg [.int .u8 z_.a0, .int .u8 z_.a1, .int .u8 z_.a2, .int .u8 z_.a3, .int .u8 z_.a4, .int .u8 z_.a5, .int .u8 z_.a6, .int .u8 z_.a7]) v_T_api_Tx owners)))]

def stage_Stage_All_objs (all : List (T_api_Tx × T_stage_prepared)) (owners : List (A8 (Int) × T_api_Tx)) : List LO := [.var [.map 1, .map 2], .map true [.int .u8, .int .u32, .int .u32] (encM v_T_api_Tx v_T_stage_prepared all), .map true [.int .u8, .int .u8, .int .u8, .int .u8, .int .u8, .int .u8, .int .u8, .int .u8] (encM (fun z_ : A8 (Int) => LV.agg [.int .u8 z_.a0, .int .u8 z_.a1, .int .u8 z_.a2, .int .u8 z_.a3, .int .u8 z_.a4, .int .u8 z_.a5, .int .u8 z_.a6, .int .u8 z_.a7]) v_T_api_Tx owners)]

def stage_Stage_All (all : List (T_api_Tx × T_stage_prepared)) (owners : List (A8 (Int) × T_api_Tx)) : Option ((List (T_api_Tx))) :=
  (stage_Stage_ok all owners).bind fun y2 =>
  (maps_Keys_map_api_Tx_stage_prepared_api_Tx_stage_prepared all).bind fun y4 =>
  (sortO ids_Txs 12 (all.map (·.1))).bind fun y5 =>
  some y5

theorem stage_Stage_All_ok (all : List (T_api_Tx × T_stage_prepared)) (owners : List (A8 (Int) × T_api_Tx)) (r : (List (T_api_Tx))) (h : stage_Stage_All all owners = some r) : ∀ σ, Inj 3 σ → FnTri Tryd.prog 11 (renL σ [.ptr 0 0 0]) (preOf σ 0 (stage_Stage_All_objs all owners)) ((stage_Stage_All_v r).ren σ) (upOf σ (stage_Stage_All_up all owners r)) := by
  refine fn_of Tryd.func11 (by kernel_rfl) (by kernel_rfl) (by kernel_rfl) ⟨rfl, trivial, trivial, trivial⟩ (by kernel_rfl) ⟨rfl, trivial, trivial, trivial⟩ (by kernel_rfl) ?_
  intro w0 W μ0 hμ
  unfold stage_Stage_All at h
  obtain ⟨y2, e1, h⟩ := bind_some h
  obtain ⟨y4, e3, h⟩ := bind_some h
  obtain ⟨y5, e6, h⟩ := bind_some h
  obtain rfl := Option.some.inj h
  exact run_ret mixed (L := []) (n := 21) (s := [.reg [(0, { v := some (.ds 3 (([] : List (T_api_Tx))).length (rowF c_T_api_Tx default ([] : List (T_api_Tx)))) })], .reg [(1, { call := some ((stage_Stage_ok_v y2).ren (sel [0, 1, 2]), preOf (sel [0, 1, 2]) 0 (stage_Stage_ok_objs all owners), upOf (sel [0, 1, 2]) (stage_Stage_ok_up all owners y2)) })], .reg [(4, { call := some ((maps_Keys_map_api_Tx_stage_prepared_api_Tx_stage_prepared_v y4).ren (sel [1, 3]), preOf (sel [1, 3]) 0 (maps_Keys_map_api_Tx_stage_prepared_api_Tx_stage_prepared_objs all), upOf (sel [1, 3]) (maps_Keys_map_api_Tx_stage_prepared_api_Tx_stage_prepared_up all y4)) }), (5, { call := some (.ds 3 (y5).length (rowF c_T_api_Tx default y5), [(3, .var [.map 1]), (1, .map true [.int .u8, .int .u32, .int .u32] (encM v_T_api_Tx v_T_stage_prepared all))], []) })]])
    (a_ (a_ (a_ (a_ tr (a_ (le_nil_ds 3 (rowF c_T_api_Tx default [])) tr)) tr) (a_ (r1_ (a_ (a_ (a_ (stage_Stage_ok_ok all owners y2 e1 (sel [0, 1, 2]) (sel_inj rfl rfl)) (a_ (LO.Le.refl (.var [.map 1, .map 2])) (a_ (LO.Le.refl (.map true [.int .u8, .int .u32, .int .u32] (encM v_T_api_Tx v_T_stage_prepared all))) (a_ (LO.Le.refl (.map true [.int .u8, .int .u8, .int .u8, .int .u8, .int .u8, .int .u8, .int .u8, .int .u8] (encM (fun z_ : A8 (Int) => LV.agg [.int .u8 z_.a0, .int .u8 z_.a1, .int .u8 z_.a2, .int .u8 z_.a3, .int .u8 z_.a4, .int .u8 z_.a5, .int .u8 z_.a6, .int .u8 z_.a7]) v_T_api_Tx owners))) tr)))) tr) (r1_ tr))) (a_ (r1_ (r2_ (a_ (a_ (a_ tr (lt_ 0 2 rfl)) tr) (a_ (a_ (a_ (maps_Keys_map_api_Tx_stage_prepared_api_Tx_stage_prepared_ok all y4 e3 (sel [1, 3]) (sel_inj rfl rfl)) (a_ (LO.Le.refl (.map true [.int .u8, .int .u32, .int .u32] (encM v_T_api_Tx v_T_stage_prepared all))) tr)) tr) (a_ (a_ (a_ (so28k41_tri 30 ids_Txs y5 (fun x y r h => ids_Txs_tri x y r h) 3 1 (by decide) all e6) (a_ (LO.Le.refl (.var [.map 1])) (a_ (LO.Le.refl (.map true [.int .u8, .int .u32, .int .u32] (encM v_T_api_Tx v_T_stage_prepared all))) tr))) tr) (r1_ tr)))))) tr))) tr) (by as_aux_lemma => kernel_rfl) rfl

/-- parrel/parrellaw14.alive -/

def parrellaw14_alive_v (r : (Bool)) : LV := .bool r

def parrellaw14_alive  : Option ((Bool)) :=
  (stage_New).bind fun y2 =>
  (parrellaw14_some).bind fun y4 =>
  (stage_Stage_Put y2.1 y2.2 (T_api_Tx.mk 0 1 1) (T_api_Reg.mk 1 1) y4).bind fun y6 =>
  if ((y6.1 != 0) : Bool) then
    some false
  else
    (stage_Stage_Owner y6.2.1 y6.2.2 (A8.mk 97 0 0 0 0 0 0 0)).bind fun y9 =>
    (stage_Stage_Take y6.2.1 y6.2.2 (T_api_Tx.mk 0 1 1)).bind fun y11 =>
    if ((decide (y9.1 = (T_api_Tx.mk 0 1 1))) : Bool) then
      if (y9.2 : Bool) then
        (parrellaw14_some).bind fun y15 =>
        (parrelref10_SameWrites y11.1 y15).bind fun y17 =>
        if (y17 : Bool) then
          if ((y11.2.1 == 0) : Bool) then
            (stage_Stage_All y11.2.2.1 y11.2.2.2).bind fun y21 =>
            some (((y21).length : Int) == 0)
          else
            some false
        else
          some false
      else
        some false
    else
      some false

theorem parrellaw14_alive_ok  (r : (Bool)) (h : parrellaw14_alive  = some r) : ∀ σ, Inj 0 σ → FnTri Tryd.prog 9 (renL σ []) (preOf σ 0 []) ((parrellaw14_alive_v r).ren σ) (upOf σ []) := by
  refine fn_of Tryd.func9 (by kernel_rfl) (by kernel_rfl) (by kernel_rfl) trivial (by kernel_rfl) trivial (by kernel_rfl) ?_
  intro w0 W μ0 hμ
  unfold parrellaw14_alive at h
  obtain ⟨y2, e1, h⟩ := bind_some h
  obtain ⟨y4, e3, h⟩ := bind_some h
  obtain ⟨y6, e5, h⟩ := bind_some h
  rcases itb_some h with ⟨c7, h⟩ | ⟨c7, h⟩
  · skip
    obtain rfl := Option.some.inj h
    exact run_ret mixed (L := []) (n := 26) (s := [.reg [], .reg [(0, { call := some ((stage_New_v y2).ren (sel [0, 1, 2]), preOf (sel [0, 1, 2]) 0 [], upOf (sel [0, 1, 2]) (stage_New_up  y2)) })], .reg [], .reg [(6, { call := some (parrellaw14_some_v y4, [], []) }), (7, { call := some ((stage_Stage_Put_v y6).ren (sel [0, 1, 2]), preOf (sel [0, 1, 2]) 0 (stage_Stage_Put_objs y2.1 y2.2 (T_api_Tx.mk 0 1 1) (T_api_Reg.mk 1 1) y4), upOf (sel [0, 1, 2]) (stage_Stage_Put_up y2.1 y2.2 (T_api_Tx.mk 0 1 1) (T_api_Reg.mk 1 1) y4 y6)) }), (9, { v := some (.bool true) })], .reg []])
      (a_ (a_ (r1_ tr) (a_ (a_ (a_ (a_ (stage_New_ok  y2 e1 (sel [0, 1, 2]) (sel_inj rfl rfl)) tr) tr) (r1_ tr)) (a_ (a_ (a_ (Eq.refl true) tr) (r1_ (a_ (a_ (a_ (Eq.refl 3) (a_ (le_ 3 3 rfl) (Eq.refl 0))) tr) tr))) (a_ (r4_ (a_ (a_ (a_ tr (le_ 3 3 rfl)) tr) (a_ (a_ (Eq.refl true) tr) (a_ (a_ (a_ (parrellaw14_some_tri  y4 e3) tr) tr) (a_ (a_ (a_ (stage_Stage_Put_ok y2.1 y2.2 (T_api_Tx.mk 0 1 1) (T_api_Reg.mk 1 1) y4 y6 e5 (sel [0, 1, 2]) (sel_inj rfl rfl)) (a_ (LO.Le.refl (.var [.map 1, .map 2])) (a_ (LO.Le.refl (.map true [.int .u8, .int .u32, .int .u32] (encM v_T_api_Tx v_T_stage_prepared y2.1))) (a_ (LO.Le.refl (.map true [.int .u8, .int .u8, .int .u8, .int .u8, .int .u8, .int .u8, .int .u8, .int .u8] (encM (fun z_ : A8 (Int) => LV.agg [.int .u8 z_.a0, .int .u8 z_.a1, .int .u8 z_.a2, .int .u8 z_.a3, .int .u8 z_.a4, .int .u8 z_.a5, .int .u8 z_.a6, .int .u8 z_.a7]) v_T_api_Tx y2.2))) tr)))) tr) (r1_ (a_ (a_ tr (a_ (leB c7) tr)) tr))))))) (a_ (r1_ tr) tr))))) tr) (by as_aux_lemma => kernel_rfl) rfl
  · skip
    obtain ⟨y9, e8, h⟩ := bind_some h
    obtain ⟨y11, e10, h⟩ := bind_some h
    rcases itb_some h with ⟨c12, h⟩ | ⟨c12, h⟩
    · skip
      rcases itb_some h with ⟨c13, h⟩ | ⟨c13, h⟩
      · skip
        obtain ⟨y15, e14, h⟩ := bind_some h
        obtain ⟨y17, e16, h⟩ := bind_some h
        rcases itb_some h with ⟨c18, h⟩ | ⟨c18, h⟩
        · skip
          rcases itb_some h with ⟨c19, h⟩ | ⟨c19, h⟩
          · skip
            obtain ⟨y21, e20, h⟩ := bind_some h
            obtain rfl := Option.some.inj h
            exact run_ret mixed (L := []) (n := 33) (s := [.reg [], .reg [(0, { call := some ((stage_New_v y2).ren (sel [0, 1, 2]), preOf (sel [0, 1, 2]) 0 [], upOf (sel [0, 1, 2]) (stage_New_up  y2)) })], .reg [], .reg [(6, { call := some (parrellaw14_some_v y4, [], []) }), (7, { call := some ((stage_Stage_Put_v y6).ren (sel [0, 1, 2]), preOf (sel [0, 1, 2]) 0 (stage_Stage_Put_objs y2.1 y2.2 (T_api_Tx.mk 0 1 1) (T_api_Reg.mk 1 1) y4), upOf (sel [0, 1, 2]) (stage_Stage_Put_up y2.1 y2.2 (T_api_Tx.mk 0 1 1) (T_api_Reg.mk 1 1) y4 y6)) }), (9, { v := some (.bool false) })], .reg [(2, { call := some ((stage_Stage_Owner_v y9).ren (sel [0, 1, 2]), preOf (sel [0, 1, 2]) 0 (stage_Stage_Owner_objs y6.2.1 y6.2.2 (A8.mk 97 0 0 0 0 0 0 0)), upOf (sel [0, 1, 2]) (stage_Stage_Owner_up y6.2.1 y6.2.2 (A8.mk 97 0 0 0 0 0 0 0) y9)) })], .reg [(2, { call := some ((stage_Stage_Take_v y11).ren (sel [0, 1, 2]), preOf (sel [0, 1, 2]) 0 (stage_Stage_Take_objs y6.2.1 y6.2.2 (T_api_Tx.mk 0 1 1)), upOf (sel [0, 1, 2]) (stage_Stage_Take_up y6.2.1 y6.2.2 (T_api_Tx.mk 0 1 1) y11)) })], .reg [(2, { v := some (.bool (decide (y9.1 = (T_api_Tx.mk 0 1 1)))) }), (3, { v := some (.bool true) }), (6, { v := some (.bool true) }), (8, { call := some (parrellaw14_some_v y15, [], []) }), (9, { call := some (parrelref10_SameWrites_v y17, [], []) }), (11, { v := some (.bool true) }), (15, { v := some (.bool true) }), (17, { call := some ((stage_Stage_All_v y21).ren (sel [0, 1, 2]), preOf (sel [0, 1, 2]) 0 (stage_Stage_All_objs y11.2.2.1 y11.2.2.2), upOf (sel [0, 1, 2]) (stage_Stage_All_up y11.2.2.1 y11.2.2.2 y21)) })]])
              (a_ (a_ (r1_ tr) (a_ (a_ (a_ (a_ (stage_New_ok  y2 e1 (sel [0, 1, 2]) (sel_inj rfl rfl)) tr) tr) (r1_ tr)) (a_ (a_ (a_ (Eq.refl true) tr) (r1_ (a_ (a_ (a_ (Eq.refl 3) (a_ (le_ 3 3 rfl) (Eq.refl 0))) tr) tr))) (a_ (r4_ (a_ (a_ (a_ tr (le_ 3 3 rfl)) tr) (a_ (a_ (Eq.refl true) tr) (a_ (a_ (a_ (parrellaw14_some_tri  y4 e3) tr) tr) (a_ (a_ (a_ (stage_Stage_Put_ok y2.1 y2.2 (T_api_Tx.mk 0 1 1) (T_api_Reg.mk 1 1) y4 y6 e5 (sel [0, 1, 2]) (sel_inj rfl rfl)) (a_ (LO.Le.refl (.var [.map 1, .map 2])) (a_ (LO.Le.refl (.map true [.int .u8, .int .u32, .int .u32] (encM v_T_api_Tx v_T_stage_prepared y2.1))) (a_ (LO.Le.refl (.map true [.int .u8, .int .u8, .int .u8, .int .u8, .int .u8, .int .u8, .int .u8, .int .u8] (encM (fun z_ : A8 (Int) => LV.agg [.int .u8 z_.a0, .int .u8 z_.a1, .int .u8 z_.a2, .int .u8 z_.a3, .int .u8 z_.a4, .int .u8 z_.a5, .int .u8 z_.a6, .int .u8 z_.a7]) v_T_api_Tx y2.2))) tr)))) tr) (r1_ (a_ (a_ tr (a_ (leB c7) tr)) tr))))))) (a_ (r1_ (a_ (a_ (Eq.refl true) tr) (a_ (a_ (a_ (stage_Stage_Owner_ok y6.2.1 y6.2.2 (A8.mk 97 0 0 0 0 0 0 0) y9 e8 (sel [0, 1, 2]) (sel_inj rfl rfl)) (a_ (LO.Le.refl (.var [.map 1, .map 2])) (a_ (LO.Le.refl (.map true [.int .u8, .int .u32, .int .u32] (encM v_T_api_Tx v_T_stage_prepared y6.2.1))) (a_ (LO.Le.refl (.map true [.int .u8, .int .u8, .int .u8, .int .u8, .int .u8, .int .u8, .int .u8, .int .u8] (encM (fun z_ : A8 (Int) => LV.agg [.int .u8 z_.a0, .int .u8 z_.a1, .int .u8 z_.a2, .int .u8 z_.a3, .int .u8 z_.a4, .int .u8 z_.a5, .int .u8 z_.a6, .int .u8 z_.a7]) v_T_api_Tx y6.2.2))) tr)))) tr) (r4_ (a_ (a_ (a_ (Eq.refl 3) (a_ (le_ 3 3 rfl) (Eq.refl 0))) tr) (r1_ tr)))))) (a_ (r1_ (a_ (a_ (a_ tr (le_ 3 3 rfl)) tr) (a_ (a_ (a_ (stage_Stage_Take_ok y6.2.1 y6.2.2 (T_api_Tx.mk 0 1 1) y11 e10 (sel [0, 1, 2]) (sel_inj rfl rfl)) (a_ (LO.Le.refl (.var [.map 1, .map 2])) (a_ (LO.Le.refl (.map true [.int .u8, .int .u32, .int .u32] (encM v_T_api_Tx v_T_stage_prepared y6.2.1))) (a_ (LO.Le.refl (.map true [.int .u8, .int .u8, .int .u8, .int .u8, .int .u8, .int .u8, .int .u8, .int .u8] (encM (fun z_ : A8 (Int) => LV.agg [.int .u8 z_.a0, .int .u8 z_.a1, .int .u8 z_.a2, .int .u8 z_.a3, .int .u8 z_.a4, .int .u8 z_.a5, .int .u8 z_.a6, .int .u8 z_.a7]) v_T_api_Tx y6.2.2))) tr)))) tr) (r1_ (r4_ tr))))) (a_ (a_ (a_ (a_ tr (le_ 3 3 rfl)) tr) (a_ (a_ (a_ tr (le_ 3 3 rfl)) tr) (a_ (a_ tr (a_ (leB (k_T_api_Tx y9.1 (T_api_Tx.mk 0 1 1))) tr)) (a_ (a_ tr (a_ (leB c12) tr)) (r2_ (a_ (a_ tr (a_ (leB c13) tr)) (r1_ (a_ (a_ (a_ (parrellaw14_some_tri  y15 e14) tr) tr) (a_ (a_ (a_ (parrelref10_SameWrites_tri y11.1 y15 y17 e16) tr) tr) (r1_ (a_ (a_ tr (a_ (leB c18) tr)) (r1_ (r2_ (a_ (a_ tr (a_ (leB c19) tr)) (r1_ (a_ (a_ (a_ (stage_Stage_All_ok y11.2.2.1 y11.2.2.2 y21 e20 (sel [0, 1, 2]) (sel_inj rfl rfl)) (a_ (LO.Le.refl (.var [.map 1, .map 2])) (a_ (LO.Le.refl (.map true [.int .u8, .int .u32, .int .u32] (encM v_T_api_Tx v_T_stage_prepared y11.2.2.1))) (a_ (LO.Le.refl (.map true [.int .u8, .int .u8, .int .u8, .int .u8, .int .u8, .int .u8, .int .u8, .int .u8] (encM (fun z_ : A8 (Int) => LV.agg [.int .u8 z_.a0, .int .u8 z_.a1, .int .u8 z_.a2, .int .u8 z_.a3, .int .u8 z_.a4, .int .u8 z_.a5, .int .u8 z_.a6, .int .u8 z_.a7]) v_T_api_Tx y11.2.2.2))) tr)))) tr) (r4_ tr))))))))))))))))) tr))))))) tr) (by as_aux_lemma => kernel_rfl) rfl
          · skip
            obtain rfl := Option.some.inj h
            exact run_ret mixed (L := []) (n := 33) (s := [.reg [], .reg [(0, { call := some ((stage_New_v y2).ren (sel [0, 1, 2]), preOf (sel [0, 1, 2]) 0 [], upOf (sel [0, 1, 2]) (stage_New_up  y2)) })], .reg [], .reg [(6, { call := some (parrellaw14_some_v y4, [], []) }), (7, { call := some ((stage_Stage_Put_v y6).ren (sel [0, 1, 2]), preOf (sel [0, 1, 2]) 0 (stage_Stage_Put_objs y2.1 y2.2 (T_api_Tx.mk 0 1 1) (T_api_Reg.mk 1 1) y4), upOf (sel [0, 1, 2]) (stage_Stage_Put_up y2.1 y2.2 (T_api_Tx.mk 0 1 1) (T_api_Reg.mk 1 1) y4 y6)) }), (9, { v := some (.bool false) })], .reg [(2, { call := some ((stage_Stage_Owner_v y9).ren (sel [0, 1, 2]), preOf (sel [0, 1, 2]) 0 (stage_Stage_Owner_objs y6.2.1 y6.2.2 (A8.mk 97 0 0 0 0 0 0 0)), upOf (sel [0, 1, 2]) (stage_Stage_Owner_up y6.2.1 y6.2.2 (A8.mk 97 0 0 0 0 0 0 0) y9)) })], .reg [(2, { call := some ((stage_Stage_Take_v y11).ren (sel [0, 1, 2]), preOf (sel [0, 1, 2]) 0 (stage_Stage_Take_objs y6.2.1 y6.2.2 (T_api_Tx.mk 0 1 1)), upOf (sel [0, 1, 2]) (stage_Stage_Take_up y6.2.1 y6.2.2 (T_api_Tx.mk 0 1 1) y11)) })], .reg [(2, { v := some (.bool (decide (y9.1 = (T_api_Tx.mk 0 1 1)))) }), (3, { v := some (.bool true) }), (6, { v := some (.bool true) }), (8, { call := some (parrellaw14_some_v y15, [], []) }), (9, { call := some (parrelref10_SameWrites_v y17, [], []) }), (11, { v := some (.bool true) }), (15, { v := some (.bool false) })]])
              (a_ (a_ (r1_ tr) (a_ (a_ (a_ (a_ (stage_New_ok  y2 e1 (sel [0, 1, 2]) (sel_inj rfl rfl)) tr) tr) (r1_ tr)) (a_ (a_ (a_ (Eq.refl true) tr) (r1_ (a_ (a_ (a_ (Eq.refl 3) (a_ (le_ 3 3 rfl) (Eq.refl 0))) tr) tr))) (a_ (r4_ (a_ (a_ (a_ tr (le_ 3 3 rfl)) tr) (a_ (a_ (Eq.refl true) tr) (a_ (a_ (a_ (parrellaw14_some_tri  y4 e3) tr) tr) (a_ (a_ (a_ (stage_Stage_Put_ok y2.1 y2.2 (T_api_Tx.mk 0 1 1) (T_api_Reg.mk 1 1) y4 y6 e5 (sel [0, 1, 2]) (sel_inj rfl rfl)) (a_ (LO.Le.refl (.var [.map 1, .map 2])) (a_ (LO.Le.refl (.map true [.int .u8, .int .u32, .int .u32] (encM v_T_api_Tx v_T_stage_prepared y2.1))) (a_ (LO.Le.refl (.map true [.int .u8, .int .u8, .int .u8, .int .u8, .int .u8, .int .u8, .int .u8, .int .u8] (encM (fun z_ : A8 (Int) => LV.agg [.int .u8 z_.a0, .int .u8 z_.a1, .int .u8 z_.a2, .int .u8 z_.a3, .int .u8 z_.a4, .int .u8 z_.a5, .int .u8 z_.a6, .int .u8 z_.a7]) v_T_api_Tx y2.2))) tr)))) tr) (r1_ (a_ (a_ tr (a_ (leB c7) tr)) tr))))))) (a_ (r1_ (a_ (a_ (Eq.refl true) tr) (a_ (a_ (a_ (stage_Stage_Owner_ok y6.2.1 y6.2.2 (A8.mk 97 0 0 0 0 0 0 0) y9 e8 (sel [0, 1, 2]) (sel_inj rfl rfl)) (a_ (LO.Le.refl (.var [.map 1, .map 2])) (a_ (LO.Le.refl (.map true [.int .u8, .int .u32, .int .u32] (encM v_T_api_Tx v_T_stage_prepared y6.2.1))) (a_ (LO.Le.refl (.map true [.int .u8, .int .u8, .int .u8, .int .u8, .int .u8, .int .u8, .int .u8, .int .u8] (encM (fun z_ : A8 (Int) => LV.agg [.int .u8 z_.a0, .int .u8 z_.a1, .int .u8 z_.a2, .int .u8 z_.a3, .int .u8 z_.a4, .int .u8 z_.a5, .int .u8 z_.a6, .int .u8 z_.a7]) v_T_api_Tx y6.2.2))) tr)))) tr) (r4_ (a_ (a_ (a_ (Eq.refl 3) (a_ (le_ 3 3 rfl) (Eq.refl 0))) tr) (r1_ tr)))))) (a_ (r1_ (a_ (a_ (a_ tr (le_ 3 3 rfl)) tr) (a_ (a_ (a_ (stage_Stage_Take_ok y6.2.1 y6.2.2 (T_api_Tx.mk 0 1 1) y11 e10 (sel [0, 1, 2]) (sel_inj rfl rfl)) (a_ (LO.Le.refl (.var [.map 1, .map 2])) (a_ (LO.Le.refl (.map true [.int .u8, .int .u32, .int .u32] (encM v_T_api_Tx v_T_stage_prepared y6.2.1))) (a_ (LO.Le.refl (.map true [.int .u8, .int .u8, .int .u8, .int .u8, .int .u8, .int .u8, .int .u8, .int .u8] (encM (fun z_ : A8 (Int) => LV.agg [.int .u8 z_.a0, .int .u8 z_.a1, .int .u8 z_.a2, .int .u8 z_.a3, .int .u8 z_.a4, .int .u8 z_.a5, .int .u8 z_.a6, .int .u8 z_.a7]) v_T_api_Tx y6.2.2))) tr)))) tr) (r1_ (r4_ tr))))) (a_ (a_ (a_ (a_ tr (le_ 3 3 rfl)) tr) (a_ (a_ (a_ tr (le_ 3 3 rfl)) tr) (a_ (a_ tr (a_ (leB (k_T_api_Tx y9.1 (T_api_Tx.mk 0 1 1))) tr)) (a_ (a_ tr (a_ (leB c12) tr)) (r2_ (a_ (a_ tr (a_ (leB c13) tr)) (r1_ (a_ (a_ (a_ (parrellaw14_some_tri  y15 e14) tr) tr) (a_ (a_ (a_ (parrelref10_SameWrites_tri y11.1 y15 y17 e16) tr) tr) (r1_ (a_ (a_ tr (a_ (leB c18) tr)) (r1_ (r2_ (a_ (a_ tr (a_ (leB c19) tr)) (t4_ (r2_ tr)))))))))))))))) tr))))))) tr) (by as_aux_lemma => kernel_rfl) rfl
        · skip
          obtain rfl := Option.some.inj h
          exact run_ret mixed (L := []) (n := 33) (s := [.reg [], .reg [(0, { call := some ((stage_New_v y2).ren (sel [0, 1, 2]), preOf (sel [0, 1, 2]) 0 [], upOf (sel [0, 1, 2]) (stage_New_up  y2)) })], .reg [], .reg [(6, { call := some (parrellaw14_some_v y4, [], []) }), (7, { call := some ((stage_Stage_Put_v y6).ren (sel [0, 1, 2]), preOf (sel [0, 1, 2]) 0 (stage_Stage_Put_objs y2.1 y2.2 (T_api_Tx.mk 0 1 1) (T_api_Reg.mk 1 1) y4), upOf (sel [0, 1, 2]) (stage_Stage_Put_up y2.1 y2.2 (T_api_Tx.mk 0 1 1) (T_api_Reg.mk 1 1) y4 y6)) }), (9, { v := some (.bool false) })], .reg [(2, { call := some ((stage_Stage_Owner_v y9).ren (sel [0, 1, 2]), preOf (sel [0, 1, 2]) 0 (stage_Stage_Owner_objs y6.2.1 y6.2.2 (A8.mk 97 0 0 0 0 0 0 0)), upOf (sel [0, 1, 2]) (stage_Stage_Owner_up y6.2.1 y6.2.2 (A8.mk 97 0 0 0 0 0 0 0) y9)) })], .reg [(2, { call := some ((stage_Stage_Take_v y11).ren (sel [0, 1, 2]), preOf (sel [0, 1, 2]) 0 (stage_Stage_Take_objs y6.2.1 y6.2.2 (T_api_Tx.mk 0 1 1)), upOf (sel [0, 1, 2]) (stage_Stage_Take_up y6.2.1 y6.2.2 (T_api_Tx.mk 0 1 1) y11)) })], .reg [(2, { v := some (.bool (decide (y9.1 = (T_api_Tx.mk 0 1 1)))) }), (3, { v := some (.bool true) }), (6, { v := some (.bool true) }), (8, { call := some (parrellaw14_some_v y15, [], []) }), (9, { call := some (parrelref10_SameWrites_v y17, [], []) }), (11, { v := some (.bool false) })]])
            (a_ (a_ (r1_ tr) (a_ (a_ (a_ (a_ (stage_New_ok  y2 e1 (sel [0, 1, 2]) (sel_inj rfl rfl)) tr) tr) (r1_ tr)) (a_ (a_ (a_ (Eq.refl true) tr) (r1_ (a_ (a_ (a_ (Eq.refl 3) (a_ (le_ 3 3 rfl) (Eq.refl 0))) tr) tr))) (a_ (r4_ (a_ (a_ (a_ tr (le_ 3 3 rfl)) tr) (a_ (a_ (Eq.refl true) tr) (a_ (a_ (a_ (parrellaw14_some_tri  y4 e3) tr) tr) (a_ (a_ (a_ (stage_Stage_Put_ok y2.1 y2.2 (T_api_Tx.mk 0 1 1) (T_api_Reg.mk 1 1) y4 y6 e5 (sel [0, 1, 2]) (sel_inj rfl rfl)) (a_ (LO.Le.refl (.var [.map 1, .map 2])) (a_ (LO.Le.refl (.map true [.int .u8, .int .u32, .int .u32] (encM v_T_api_Tx v_T_stage_prepared y2.1))) (a_ (LO.Le.refl (.map true [.int .u8, .int .u8, .int .u8, .int .u8, .int .u8, .int .u8, .int .u8, .int .u8] (encM (fun z_ : A8 (Int) => LV.agg [.int .u8 z_.a0, .int .u8 z_.a1, .int .u8 z_.a2, .int .u8 z_.a3, .int .u8 z_.a4, .int .u8 z_.a5, .int .u8 z_.a6, .int .u8 z_.a7]) v_T_api_Tx y2.2))) tr)))) tr) (r1_ (a_ (a_ tr (a_ (leB c7) tr)) tr))))))) (a_ (r1_ (a_ (a_ (Eq.refl true) tr) (a_ (a_ (a_ (stage_Stage_Owner_ok y6.2.1 y6.2.2 (A8.mk 97 0 0 0 0 0 0 0) y9 e8 (sel [0, 1, 2]) (sel_inj rfl rfl)) (a_ (LO.Le.refl (.var [.map 1, .map 2])) (a_ (LO.Le.refl (.map true [.int .u8, .int .u32, .int .u32] (encM v_T_api_Tx v_T_stage_prepared y6.2.1))) (a_ (LO.Le.refl (.map true [.int .u8, .int .u8, .int .u8, .int .u8, .int .u8, .int .u8, .int .u8, .int .u8] (encM (fun z_ : A8 (Int) => LV.agg [.int .u8 z_.a0, .int .u8 z_.a1, .int .u8 z_.a2, .int .u8 z_.a3, .int .u8 z_.a4, .int .u8 z_.a5, .int .u8 z_.a6, .int .u8 z_.a7]) v_T_api_Tx y6.2.2))) tr)))) tr) (r4_ (a_ (a_ (a_ (Eq.refl 3) (a_ (le_ 3 3 rfl) (Eq.refl 0))) tr) (r1_ tr)))))) (a_ (r1_ (a_ (a_ (a_ tr (le_ 3 3 rfl)) tr) (a_ (a_ (a_ (stage_Stage_Take_ok y6.2.1 y6.2.2 (T_api_Tx.mk 0 1 1) y11 e10 (sel [0, 1, 2]) (sel_inj rfl rfl)) (a_ (LO.Le.refl (.var [.map 1, .map 2])) (a_ (LO.Le.refl (.map true [.int .u8, .int .u32, .int .u32] (encM v_T_api_Tx v_T_stage_prepared y6.2.1))) (a_ (LO.Le.refl (.map true [.int .u8, .int .u8, .int .u8, .int .u8, .int .u8, .int .u8, .int .u8, .int .u8] (encM (fun z_ : A8 (Int) => LV.agg [.int .u8 z_.a0, .int .u8 z_.a1, .int .u8 z_.a2, .int .u8 z_.a3, .int .u8 z_.a4, .int .u8 z_.a5, .int .u8 z_.a6, .int .u8 z_.a7]) v_T_api_Tx y6.2.2))) tr)))) tr) (r1_ (r4_ tr))))) (a_ (a_ (a_ (a_ tr (le_ 3 3 rfl)) tr) (a_ (a_ (a_ tr (le_ 3 3 rfl)) tr) (a_ (a_ tr (a_ (leB (k_T_api_Tx y9.1 (T_api_Tx.mk 0 1 1))) tr)) (a_ (a_ tr (a_ (leB c12) tr)) (r2_ (a_ (a_ tr (a_ (leB c13) tr)) (r1_ (a_ (a_ (a_ (parrellaw14_some_tri  y15 e14) tr) tr) (a_ (a_ (a_ (parrelref10_SameWrites_tri y11.1 y15 y17 e16) tr) tr) (r1_ (a_ (a_ tr (a_ (leB c18) tr)) (t2_ (r2_ (t4_ (r2_ tr))))))))))))))) tr))))))) tr) (by as_aux_lemma => kernel_rfl) rfl
      · skip
        obtain rfl := Option.some.inj h
        exact run_ret mixed (L := []) (n := 33) (s := [.reg [], .reg [(0, { call := some ((stage_New_v y2).ren (sel [0, 1, 2]), preOf (sel [0, 1, 2]) 0 [], upOf (sel [0, 1, 2]) (stage_New_up  y2)) })], .reg [], .reg [(6, { call := some (parrellaw14_some_v y4, [], []) }), (7, { call := some ((stage_Stage_Put_v y6).ren (sel [0, 1, 2]), preOf (sel [0, 1, 2]) 0 (stage_Stage_Put_objs y2.1 y2.2 (T_api_Tx.mk 0 1 1) (T_api_Reg.mk 1 1) y4), upOf (sel [0, 1, 2]) (stage_Stage_Put_up y2.1 y2.2 (T_api_Tx.mk 0 1 1) (T_api_Reg.mk 1 1) y4 y6)) }), (9, { v := some (.bool false) })], .reg [(2, { call := some ((stage_Stage_Owner_v y9).ren (sel [0, 1, 2]), preOf (sel [0, 1, 2]) 0 (stage_Stage_Owner_objs y6.2.1 y6.2.2 (A8.mk 97 0 0 0 0 0 0 0)), upOf (sel [0, 1, 2]) (stage_Stage_Owner_up y6.2.1 y6.2.2 (A8.mk 97 0 0 0 0 0 0 0) y9)) })], .reg [(2, { call := some ((stage_Stage_Take_v y11).ren (sel [0, 1, 2]), preOf (sel [0, 1, 2]) 0 (stage_Stage_Take_objs y6.2.1 y6.2.2 (T_api_Tx.mk 0 1 1)), upOf (sel [0, 1, 2]) (stage_Stage_Take_up y6.2.1 y6.2.2 (T_api_Tx.mk 0 1 1) y11)) })], .reg [(2, { v := some (.bool (decide (y9.1 = (T_api_Tx.mk 0 1 1)))) }), (3, { v := some (.bool true) }), (6, { v := some (.bool false) })]])
          (a_ (a_ (r1_ tr) (a_ (a_ (a_ (a_ (stage_New_ok  y2 e1 (sel [0, 1, 2]) (sel_inj rfl rfl)) tr) tr) (r1_ tr)) (a_ (a_ (a_ (Eq.refl true) tr) (r1_ (a_ (a_ (a_ (Eq.refl 3) (a_ (le_ 3 3 rfl) (Eq.refl 0))) tr) tr))) (a_ (r4_ (a_ (a_ (a_ tr (le_ 3 3 rfl)) tr) (a_ (a_ (Eq.refl true) tr) (a_ (a_ (a_ (parrellaw14_some_tri  y4 e3) tr) tr) (a_ (a_ (a_ (stage_Stage_Put_ok y2.1 y2.2 (T_api_Tx.mk 0 1 1) (T_api_Reg.mk 1 1) y4 y6 e5 (sel [0, 1, 2]) (sel_inj rfl rfl)) (a_ (LO.Le.refl (.var [.map 1, .map 2])) (a_ (LO.Le.refl (.map true [.int .u8, .int .u32, .int .u32] (encM v_T_api_Tx v_T_stage_prepared y2.1))) (a_ (LO.Le.refl (.map true [.int .u8, .int .u8, .int .u8, .int .u8, .int .u8, .int .u8, .int .u8, .int .u8] (encM (fun z_ : A8 (Int) => LV.agg [.int .u8 z_.a0, .int .u8 z_.a1, .int .u8 z_.a2, .int .u8 z_.a3, .int .u8 z_.a4, .int .u8 z_.a5, .int .u8 z_.a6, .int .u8 z_.a7]) v_T_api_Tx y2.2))) tr)))) tr) (r1_ (a_ (a_ tr (a_ (leB c7) tr)) tr))))))) (a_ (r1_ (a_ (a_ (Eq.refl true) tr) (a_ (a_ (a_ (stage_Stage_Owner_ok y6.2.1 y6.2.2 (A8.mk 97 0 0 0 0 0 0 0) y9 e8 (sel [0, 1, 2]) (sel_inj rfl rfl)) (a_ (LO.Le.refl (.var [.map 1, .map 2])) (a_ (LO.Le.refl (.map true [.int .u8, .int .u32, .int .u32] (encM v_T_api_Tx v_T_stage_prepared y6.2.1))) (a_ (LO.Le.refl (.map true [.int .u8, .int .u8, .int .u8, .int .u8, .int .u8, .int .u8, .int .u8, .int .u8] (encM (fun z_ : A8 (Int) => LV.agg [.int .u8 z_.a0, .int .u8 z_.a1, .int .u8 z_.a2, .int .u8 z_.a3, .int .u8 z_.a4, .int .u8 z_.a5, .int .u8 z_.a6, .int .u8 z_.a7]) v_T_api_Tx y6.2.2))) tr)))) tr) (r4_ (a_ (a_ (a_ (Eq.refl 3) (a_ (le_ 3 3 rfl) (Eq.refl 0))) tr) (r1_ tr)))))) (a_ (r1_ (a_ (a_ (a_ tr (le_ 3 3 rfl)) tr) (a_ (a_ (a_ (stage_Stage_Take_ok y6.2.1 y6.2.2 (T_api_Tx.mk 0 1 1) y11 e10 (sel [0, 1, 2]) (sel_inj rfl rfl)) (a_ (LO.Le.refl (.var [.map 1, .map 2])) (a_ (LO.Le.refl (.map true [.int .u8, .int .u32, .int .u32] (encM v_T_api_Tx v_T_stage_prepared y6.2.1))) (a_ (LO.Le.refl (.map true [.int .u8, .int .u8, .int .u8, .int .u8, .int .u8, .int .u8, .int .u8, .int .u8] (encM (fun z_ : A8 (Int) => LV.agg [.int .u8 z_.a0, .int .u8 z_.a1, .int .u8 z_.a2, .int .u8 z_.a3, .int .u8 z_.a4, .int .u8 z_.a5, .int .u8 z_.a6, .int .u8 z_.a7]) v_T_api_Tx y6.2.2))) tr)))) tr) (r1_ (r4_ tr))))) (a_ (a_ (a_ (a_ tr (le_ 3 3 rfl)) tr) (a_ (a_ (a_ tr (le_ 3 3 rfl)) tr) (a_ (a_ tr (a_ (leB (k_T_api_Tx y9.1 (T_api_Tx.mk 0 1 1))) tr)) (a_ (a_ tr (a_ (leB c12) tr)) (r2_ (a_ (a_ tr (a_ (leB c13) tr)) (a_ tr (t2_ (r2_ (t2_ (r2_ (t4_ (r2_ tr))))))))))))) tr))))))) tr) (by as_aux_lemma => kernel_rfl) rfl
    · skip
      obtain rfl := Option.some.inj h
      exact run_ret mixed (L := []) (n := 33) (s := [.reg [], .reg [(0, { call := some ((stage_New_v y2).ren (sel [0, 1, 2]), preOf (sel [0, 1, 2]) 0 [], upOf (sel [0, 1, 2]) (stage_New_up  y2)) })], .reg [], .reg [(6, { call := some (parrellaw14_some_v y4, [], []) }), (7, { call := some ((stage_Stage_Put_v y6).ren (sel [0, 1, 2]), preOf (sel [0, 1, 2]) 0 (stage_Stage_Put_objs y2.1 y2.2 (T_api_Tx.mk 0 1 1) (T_api_Reg.mk 1 1) y4), upOf (sel [0, 1, 2]) (stage_Stage_Put_up y2.1 y2.2 (T_api_Tx.mk 0 1 1) (T_api_Reg.mk 1 1) y4 y6)) }), (9, { v := some (.bool false) })], .reg [(2, { call := some ((stage_Stage_Owner_v y9).ren (sel [0, 1, 2]), preOf (sel [0, 1, 2]) 0 (stage_Stage_Owner_objs y6.2.1 y6.2.2 (A8.mk 97 0 0 0 0 0 0 0)), upOf (sel [0, 1, 2]) (stage_Stage_Owner_up y6.2.1 y6.2.2 (A8.mk 97 0 0 0 0 0 0 0) y9)) })], .reg [(2, { call := some ((stage_Stage_Take_v y11).ren (sel [0, 1, 2]), preOf (sel [0, 1, 2]) 0 (stage_Stage_Take_objs y6.2.1 y6.2.2 (T_api_Tx.mk 0 1 1)), upOf (sel [0, 1, 2]) (stage_Stage_Take_up y6.2.1 y6.2.2 (T_api_Tx.mk 0 1 1) y11)) })], .reg [(2, { v := some (.bool (decide (y9.1 = (T_api_Tx.mk 0 1 1)))) }), (3, { v := some (.bool false) })]])
        (a_ (a_ (r1_ tr) (a_ (a_ (a_ (a_ (stage_New_ok  y2 e1 (sel [0, 1, 2]) (sel_inj rfl rfl)) tr) tr) (r1_ tr)) (a_ (a_ (a_ (Eq.refl true) tr) (r1_ (a_ (a_ (a_ (Eq.refl 3) (a_ (le_ 3 3 rfl) (Eq.refl 0))) tr) tr))) (a_ (r4_ (a_ (a_ (a_ tr (le_ 3 3 rfl)) tr) (a_ (a_ (Eq.refl true) tr) (a_ (a_ (a_ (parrellaw14_some_tri  y4 e3) tr) tr) (a_ (a_ (a_ (stage_Stage_Put_ok y2.1 y2.2 (T_api_Tx.mk 0 1 1) (T_api_Reg.mk 1 1) y4 y6 e5 (sel [0, 1, 2]) (sel_inj rfl rfl)) (a_ (LO.Le.refl (.var [.map 1, .map 2])) (a_ (LO.Le.refl (.map true [.int .u8, .int .u32, .int .u32] (encM v_T_api_Tx v_T_stage_prepared y2.1))) (a_ (LO.Le.refl (.map true [.int .u8, .int .u8, .int .u8, .int .u8, .int .u8, .int .u8, .int .u8, .int .u8] (encM (fun z_ : A8 (Int) => LV.agg [.int .u8 z_.a0, .int .u8 z_.a1, .int .u8 z_.a2, .int .u8 z_.a3, .int .u8 z_.a4, .int .u8 z_.a5, .int .u8 z_.a6, .int .u8 z_.a7]) v_T_api_Tx y2.2))) tr)))) tr) (r1_ (a_ (a_ tr (a_ (leB c7) tr)) tr))))))) (a_ (r1_ (a_ (a_ (Eq.refl true) tr) (a_ (a_ (a_ (stage_Stage_Owner_ok y6.2.1 y6.2.2 (A8.mk 97 0 0 0 0 0 0 0) y9 e8 (sel [0, 1, 2]) (sel_inj rfl rfl)) (a_ (LO.Le.refl (.var [.map 1, .map 2])) (a_ (LO.Le.refl (.map true [.int .u8, .int .u32, .int .u32] (encM v_T_api_Tx v_T_stage_prepared y6.2.1))) (a_ (LO.Le.refl (.map true [.int .u8, .int .u8, .int .u8, .int .u8, .int .u8, .int .u8, .int .u8, .int .u8] (encM (fun z_ : A8 (Int) => LV.agg [.int .u8 z_.a0, .int .u8 z_.a1, .int .u8 z_.a2, .int .u8 z_.a3, .int .u8 z_.a4, .int .u8 z_.a5, .int .u8 z_.a6, .int .u8 z_.a7]) v_T_api_Tx y6.2.2))) tr)))) tr) (r4_ (a_ (a_ (a_ (Eq.refl 3) (a_ (le_ 3 3 rfl) (Eq.refl 0))) tr) (r1_ tr)))))) (a_ (r1_ (a_ (a_ (a_ tr (le_ 3 3 rfl)) tr) (a_ (a_ (a_ (stage_Stage_Take_ok y6.2.1 y6.2.2 (T_api_Tx.mk 0 1 1) y11 e10 (sel [0, 1, 2]) (sel_inj rfl rfl)) (a_ (LO.Le.refl (.var [.map 1, .map 2])) (a_ (LO.Le.refl (.map true [.int .u8, .int .u32, .int .u32] (encM v_T_api_Tx v_T_stage_prepared y6.2.1))) (a_ (LO.Le.refl (.map true [.int .u8, .int .u8, .int .u8, .int .u8, .int .u8, .int .u8, .int .u8, .int .u8] (encM (fun z_ : A8 (Int) => LV.agg [.int .u8 z_.a0, .int .u8 z_.a1, .int .u8 z_.a2, .int .u8 z_.a3, .int .u8 z_.a4, .int .u8 z_.a5, .int .u8 z_.a6, .int .u8 z_.a7]) v_T_api_Tx y6.2.2))) tr)))) tr) (r1_ (r4_ tr))))) (a_ (a_ (a_ (a_ tr (le_ 3 3 rfl)) tr) (a_ (a_ (a_ tr (le_ 3 3 rfl)) tr) (a_ (a_ tr (a_ (leB (k_T_api_Tx y9.1 (T_api_Tx.mk 0 1 1))) tr)) (a_ (a_ tr (a_ (leB c12) tr)) (a_ tr (r2_ (a_ tr (t2_ (r2_ (t2_ (r2_ (t4_ (r2_ tr))))))))))))) tr))))))) tr) (by as_aux_lemma => kernel_rfl) rfl

theorem parrellaw14_alive_tri  (r : (Bool)) (h : parrellaw14_alive  = some r) : FnTri Tryd.prog 9 [] [] (parrellaw14_alive_v r) [] := FnTri.none (parrellaw14_alive_ok  r h) rfl rfl

/-- parrel/msg.WritesMay -/

def msg_WritesMay_2_v (r : (Bool)) : LV := .bool r

def msg_WritesMay_2_up (l : List (T_api_Write)) (r : (Bool)) : Upd := [(0, some (.gr 21 (l).length (rowF c_T_api_Write default l)))]

def msg_WritesMay_2_objs (l : List (T_api_Write)) : List LO := [.gr 21 (l).length (rowF c_T_api_Write default l)]

def msg_WritesMay_2_T0 (l : List (T_api_Write)) (t7 : Int) : List LV := [.gs 0 (l).length, .any, .any, .any, .any, .gs 0 (l).length, .int .i64 ((l).length : Int), .int .i64 t7, .any, .any, .any, .any, .any, .any, .any, .any, .any, .any, .any, .any, .any, .any, .any, .any, .any, .any, .any, .any, .any, .any, .any, .any, .any, .any, .any, .any, .any, .any, .any, .any, .any, .any]

def msg_WritesMay_2_H0 (l : List (T_api_Write)) (t7 : Int) : Heap := [some (.gr 21 (l).length (rowF c_T_api_Write default l))]

def msg_WritesMay_2_l0 (l : List (T_api_Write))  : Nat → (Int) → Option ((Bool))
  | 0, _ => none
  | fuel + 1, t7 =>
    if ((decide (t7 < ((l).length : Int))) : Bool) then
      if 0 ≤ t7 ∧ t7 < (((l).length : Nat) : Int) then
      (msg_keyMay (l.getD t7.toNat default).f_Key).bind fun yL0_4 =>
      if ((!yL0_4) : Bool) then
        some false
      else
        (msg_ItemMay (l.getD t7.toNat default).f_Item).bind fun yL0_7 =>
        if ((!yL0_7) : Bool) then
          some false
        else
          if ((decide (0 < t7)) : Bool) then
            if 0 ≤ (IntKind.wrap .i64 (t7 - 1)) ∧ (IntKind.wrap .i64 (t7 - 1)) < (((l).length : Nat) : Int) then
            (ids_Keys (l.getD ((IntKind.wrap .i64 (t7 - 1))).toNat default).f_Key (l.getD t7.toNat default).f_Key).bind fun yL0_12 =>
            if ((decide (0 ≤ yL0_12)) : Bool) then
              some false
            else
              msg_WritesMay_2_l0 l  fuel (IntKind.wrap .i64 (t7 + 1))
            else none
          else
            msg_WritesMay_2_l0 l  fuel (IntKind.wrap .i64 (t7 + 1))
      else none
    else
      some (decide (((l).length : Int) ≤ 16))

def msg_WritesMay_2 (l : List (T_api_Write)) : Option ((Bool)) :=
  msg_WritesMay_2_l0 l  big 0

theorem msg_WritesMay_2_l0_ok {w0 : World} {W : Nat → Prop} {μ0 : Emb} (hμ : ∀ c p, μ0 c = some p → c < 1) (l : List (T_api_Write))  : ∀ (fuel : Nat) (t7 : Int) (r : (Bool)), msg_WritesMay_2_l0 l  fuel t7 = some r → kont Tryd.prog w0 W μ0 (FnPost Tryd.prog Tryd.f38 1 1 (msg_WritesMay_2_v r) (msg_WritesMay_2_up l r)) (kAt (bodyOf Tryd.f38) 0) none (msg_WritesMay_2_T0 l t7) (msg_WritesMay_2_H0 l t7) := by
  intro fuel
  induction fuel with
  | zero => intro t7 r h; rw [msg_WritesMay_2_l0] at h; cases h
  | succ fuel ih =>
    intro t7 r h
    rw [msg_WritesMay_2_l0] at h
    rcases itb_some h with ⟨cL0_1, h⟩ | ⟨cL0_1, h⟩
    · skip
      obtain ⟨gL0_2, h⟩ := guard_some h
      obtain ⟨yL0_4, eL0_3, h⟩ := bind_some h
      rcases itb_some h with ⟨cL0_5, h⟩ | ⟨cL0_5, h⟩
      · skip
        obtain rfl := Option.some.inj h
        exact run_ret mixed (L := []) (n := 28) (s := [.go, .reg [(0, { v := some (.bool true) })], .reg [], .reg [(2, { call := some (msg_keyMay_v yL0_4, [], []) }), (4, { v := some (.bool true) })], .reg []])
          (a_ (a_ (a_ (a_ tr (a_ (leB cL0_1) tr)) tr) (a_ (r1_ (a_ (a_ (a_ (Eq.refl 21) gL0_2) tr) (a_ (a_ (a_ (ltN gL0_2) (le_ 21 21 rfl)) tr) (r2_ (a_ (a_ (a_ (Eq.refl 21) (a_ (le_ 21 21 rfl) (Eq.refl 0))) tr) tr))))) (a_ (r1_ (a_ (a_ (a_ tr (le_ 8 21 rfl)) tr) (a_ (a_ (a_ (msg_keyMay_tri (l.getD t7.toNat default).f_Key yL0_4 eL0_3) tr) tr) (r1_ (a_ (a_ tr (a_ (leB cL0_5) tr)) (t4_ (r2_ (t2_ (t4_ (t8_ (r1_ tr))))))))))) (a_ (r1_ tr) tr)))) tr) (by as_aux_lemma => kernel_rfl) rfl
      · skip
        obtain ⟨yL0_7, eL0_6, h⟩ := bind_some h
        rcases itb_some h with ⟨cL0_8, h⟩ | ⟨cL0_8, h⟩
        · skip
          obtain rfl := Option.some.inj h
          exact run_ret mixed (L := []) (n := 28) (s := [.go, .reg [(0, { v := some (.bool true) })], .reg [], .reg [(2, { call := some (msg_keyMay_v yL0_4, [], []) }), (4, { v := some (.bool false) }), (7, { call := some (msg_ItemMay_v yL0_7, [], []) }), (10, { v := some (.bool true) })], .reg []])
            (a_ (a_ (a_ (a_ tr (a_ (leB cL0_1) tr)) tr) (a_ (r1_ (a_ (a_ (a_ (Eq.refl 21) gL0_2) tr) (a_ (a_ (a_ (ltN gL0_2) (le_ 21 21 rfl)) tr) (r2_ (a_ (a_ (a_ (Eq.refl 21) (a_ (le_ 21 21 rfl) (Eq.refl 0))) tr) tr))))) (a_ (r1_ (a_ (a_ (a_ tr (le_ 8 21 rfl)) tr) (a_ (a_ (a_ (msg_keyMay_tri (l.getD t7.toNat default).f_Key yL0_4 eL0_3) tr) tr) (r1_ (a_ (a_ tr (a_ (leB cL0_5) tr)) (r1_ (a_ (a_ (a_ tr (le_ 21 21 rfl)) tr) (a_ (a_ (a_ (msg_ItemMay_tri (l.getD t7.toNat default).f_Item yL0_7 eL0_6) tr) tr) (r2_ (a_ (a_ tr (a_ (leB cL0_8) tr)) (t2_ (t4_ (t8_ (r1_ tr)))))))))))))) (a_ (r1_ tr) tr)))) tr) (by as_aux_lemma => kernel_rfl) rfl
        · skip
          rcases itb_some h with ⟨cL0_9, h⟩ | ⟨cL0_9, h⟩
          · skip
            obtain ⟨gL0_10, h⟩ := guard_some h
            obtain ⟨yL0_12, eL0_11, h⟩ := bind_some h
            rcases itb_some h with ⟨cL0_13, h⟩ | ⟨cL0_13, h⟩
            · skip
              obtain rfl := Option.some.inj h
              exact run_ret mixed (L := []) (n := 28) (s := [.go, .reg [(0, { v := some (.bool true) })], .reg [], .reg [(2, { call := some (msg_keyMay_v yL0_4, [], []) }), (4, { v := some (.bool false) }), (7, { call := some (msg_ItemMay_v yL0_7, [], []) }), (10, { v := some (.bool false) }), (13, { v := some (.bool true) }), (22, { call := some (ids_Keys_v yL0_12, [], []) }), (25, { v := some (.bool true) })], .reg []])
                (a_ (a_ (a_ (a_ tr (a_ (leB cL0_1) tr)) tr) (a_ (r1_ (a_ (a_ (a_ (Eq.refl 21) gL0_2) tr) (a_ (a_ (a_ (ltN gL0_2) (le_ 21 21 rfl)) tr) (r2_ (a_ (a_ (a_ (Eq.refl 21) (a_ (le_ 21 21 rfl) (Eq.refl 0))) tr) tr))))) (a_ (r1_ (a_ (a_ (a_ tr (le_ 8 21 rfl)) tr) (a_ (a_ (a_ (msg_keyMay_tri (l.getD t7.toNat default).f_Key yL0_4 eL0_3) tr) tr) (r1_ (a_ (a_ tr (a_ (leB cL0_5) tr)) (r1_ (a_ (a_ (a_ tr (le_ 21 21 rfl)) tr) (a_ (a_ (a_ (msg_ItemMay_tri (l.getD t7.toNat default).f_Item yL0_7 eL0_6) tr) tr) (r2_ (a_ (a_ tr (a_ (leB cL0_8) tr)) (r2_ (a_ (a_ tr (a_ (leB cL0_9) tr)) (r1_ (r2_ (a_ (a_ (a_ (Eq.refl 21) gL0_10) tr) (r1_ (a_ (a_ (a_ (ltN gL0_10) (le_ 8 21 rfl)) tr) (r1_ (a_ (a_ (a_ tr (le_ 8 21 rfl)) tr) (a_ (a_ (a_ (ids_Keys_tri (l.getD ((IntKind.wrap .i64 (t7 - 1))).toNat default).f_Key (l.getD t7.toNat default).f_Key yL0_12 eL0_11) tr) tr) (r2_ (a_ (a_ tr (a_ (leB cL0_13) tr)) tr)))))))))))))))))))))) (a_ (r1_ tr) tr)))) tr) (by as_aux_lemma => kernel_rfl) rfl
            · skip
              exact run_to mixed hμ (L := []) (n := 29) (s := [.go, .reg [(0, { v := some (.bool true) })], .reg [], .reg [(2, { call := some (msg_keyMay_v yL0_4, [], []) }), (4, { v := some (.bool false) }), (7, { call := some (msg_ItemMay_v yL0_7, [], []) }), (10, { v := some (.bool false) }), (13, { v := some (.bool true) }), (22, { call := some (ids_Keys_v yL0_12, [], []) }), (25, { v := some (.bool false) })], .reg []])
                (a_ (a_ (a_ tr (a_ (leB cL0_1) tr)) tr) (a_ (r1_ (a_ (a_ (a_ (Eq.refl 21) gL0_2) tr) (a_ (a_ (a_ (ltN gL0_2) (le_ 21 21 rfl)) tr) (r2_ (a_ (a_ (a_ (Eq.refl 21) (a_ (le_ 21 21 rfl) (Eq.refl 0))) tr) tr))))) (a_ (r1_ (a_ (a_ (a_ tr (le_ 8 21 rfl)) tr) (a_ (a_ (a_ (msg_keyMay_tri (l.getD t7.toNat default).f_Key yL0_4 eL0_3) tr) tr) (r1_ (a_ (a_ tr (a_ (leB cL0_5) tr)) (r1_ (a_ (a_ (a_ tr (le_ 21 21 rfl)) tr) (a_ (a_ (a_ (msg_ItemMay_tri (l.getD t7.toNat default).f_Item yL0_7 eL0_6) tr) tr) (r2_ (a_ (a_ tr (a_ (leB cL0_8) tr)) (r2_ (a_ (a_ tr (a_ (leB cL0_9) tr)) (r1_ (r2_ (a_ (a_ (a_ (Eq.refl 21) gL0_10) tr) (r1_ (a_ (a_ (a_ (ltN gL0_10) (le_ 8 21 rfl)) tr) (r1_ (a_ (a_ (a_ tr (le_ 8 21 rfl)) tr) (a_ (a_ (a_ (ids_Keys_tri (l.getD ((IntKind.wrap .i64 (t7 - 1))).toNat default).f_Key (l.getD t7.toNat default).f_Key yL0_12 eL0_11) tr) tr) (r2_ (a_ (a_ tr (a_ (leB cL0_13) tr)) tr)))))))))))))))))))))) (a_ (r2_ tr) tr)))) (ih _ r h) (by as_aux_lemma => kernel_rfl) ⟨fun _ _ => rfl, trivial⟩
          · skip
            exact run_to mixed hμ (L := []) (n := 29) (s := [.go, .reg [(0, { v := some (.bool true) })], .reg [], .reg [(2, { call := some (msg_keyMay_v yL0_4, [], []) }), (4, { v := some (.bool false) }), (7, { call := some (msg_ItemMay_v yL0_7, [], []) }), (10, { v := some (.bool false) }), (13, { v := some (.bool false) })], .reg []])
              (a_ (a_ (a_ tr (a_ (leB cL0_1) tr)) tr) (a_ (r1_ (a_ (a_ (a_ (Eq.refl 21) gL0_2) tr) (a_ (a_ (a_ (ltN gL0_2) (le_ 21 21 rfl)) tr) (r2_ (a_ (a_ (a_ (Eq.refl 21) (a_ (le_ 21 21 rfl) (Eq.refl 0))) tr) tr))))) (a_ (r1_ (a_ (a_ (a_ tr (le_ 8 21 rfl)) tr) (a_ (a_ (a_ (msg_keyMay_tri (l.getD t7.toNat default).f_Key yL0_4 eL0_3) tr) tr) (r1_ (a_ (a_ tr (a_ (leB cL0_5) tr)) (r1_ (a_ (a_ (a_ tr (le_ 21 21 rfl)) tr) (a_ (a_ (a_ (msg_ItemMay_tri (l.getD t7.toNat default).f_Item yL0_7 eL0_6) tr) tr) (r2_ (a_ (a_ tr (a_ (leB cL0_8) tr)) (r2_ (a_ (a_ tr (a_ (leB cL0_9) tr)) (t2_ (t8_ (r2_ tr))))))))))))))) (a_ (r2_ tr) tr)))) (ih _ r h) (by as_aux_lemma => kernel_rfl) ⟨fun _ _ => rfl, trivial⟩
    · skip
      obtain rfl := Option.some.inj h
      exact run_ret mixed (L := []) (n := 19) (s := [.go, .reg [(0, { v := some (.bool false) })], .reg []])
        (a_ (a_ (a_ (a_ tr (a_ (leB cL0_1) tr)) tr) (a_ (r4_ tr) tr)) tr) (by as_aux_lemma => kernel_rfl) rfl

theorem msg_WritesMay_2_ok (l : List (T_api_Write)) (r : (Bool)) (h : msg_WritesMay_2 l = some r) : ∀ σ, Inj 1 σ → FnTri Tryd.prog 38 (renL σ [.gs 0 (l).length]) (preOf σ 0 (msg_WritesMay_2_objs l)) ((msg_WritesMay_2_v r).ren σ) (upOf σ (msg_WritesMay_2_up l r)) := by
  refine fn_of Tryd.func38 (by kernel_rfl) (by kernel_rfl) (by kernel_rfl) ⟨fun _ _ => rfl, trivial⟩ (by kernel_rfl) ⟨fun _ _ => rfl, trivial⟩ (by kernel_rfl) ?_
  intro w0 W μ0 hμ
  unfold msg_WritesMay_2 at h
  exact run_to mixed hμ (L := []) (n := 18) (s := [.reg [], .reg []])
    (a_ (r1_ tr) (a_ (r1_ (r2_ tr)) tr)) (msg_WritesMay_2_l0_ok hμ l  big _ r h) (by as_aux_lemma => kernel_rfl) ⟨fun _ _ => rfl, trivial⟩

/-- parrel/stage.may -/

def stage_may_2_v (r : (Bool)) : LV := .bool r

def stage_may_2_up (t : T_api_Tx) (g : T_api_Reg) (l : List (T_api_Write)) (r : (Bool)) : Upd := [(0, some (.gr 21 (l).length (rowF c_T_api_Write default l)))]

def stage_may_2_objs (t : T_api_Tx) (g : T_api_Reg) (l : List (T_api_Write)) : List LO := [.gr 21 (l).length (rowF c_T_api_Write default l)]

def stage_may_2 (t : T_api_Tx) (g : T_api_Reg) (l : List (T_api_Write)) : Option ((Bool)) :=
  (ids_TxMay t).bind fun y2 =>
  if (y2 : Bool) then
    (ids_RegMay g).bind fun y5 =>
    if (y5 : Bool) then
      if ((decide (0 < ((l).length : Int))) : Bool) then
        (msg_WritesMay_2 l).bind fun y9 =>
        some y9
      else
        some false
    else
      some false
  else
    some false

theorem stage_may_2_ok (t : T_api_Tx) (g : T_api_Reg) (l : List (T_api_Write)) (r : (Bool)) (h : stage_may_2 t g l = some r) : ∀ σ, Inj 1 σ → FnTri Tryd.prog 25 (renL σ [v_T_api_Tx t, v_T_api_Reg g, .gs 0 (l).length]) (preOf σ 0 (stage_may_2_objs t g l)) ((stage_may_2_v r).ren σ) (upOf σ (stage_may_2_up t g l r)) := by
  refine fn_of Tryd.func25 (by kernel_rfl) (by kernel_rfl) (by kernel_rfl) ⟨fun _ _ => rfl, trivial⟩ (by kernel_rfl) ⟨fun _ _ => rfl, trivial⟩ (by kernel_rfl) ?_
  intro w0 W μ0 hμ
  unfold stage_may_2 at h
  obtain ⟨y2, e1, h⟩ := bind_some h
  rcases itb_some h with ⟨c3, h⟩ | ⟨c3, h⟩
  · skip
    obtain ⟨y5, e4, h⟩ := bind_some h
    rcases itb_some h with ⟨c6, h⟩ | ⟨c6, h⟩
    · skip
      rcases itb_some h with ⟨c7, h⟩ | ⟨c7, h⟩
      · skip
        obtain ⟨y9, e8, h⟩ := bind_some h
        obtain rfl := Option.some.inj h
        exact run_ret mixed (L := []) (n := 15) (s := [.reg [], .reg [(1, { call := some (ids_TxMay_v y2, [], []) }), (2, { v := some (.bool true) }), (4, { call := some (ids_RegMay_v y5, [], []) }), (6, { v := some (.bool true) }), (11, { v := some (.bool true) }), (13, { call := some ((msg_WritesMay_2_v y9).ren (sel [0]), preOf (sel [0]) 0 (msg_WritesMay_2_objs l), upOf (sel [0]) (msg_WritesMay_2_up l y9)) })]])
          (a_ (a_ (r1_ (r2_ tr)) (a_ (a_ (a_ (a_ tr (le_ 3 3 rfl)) tr) (a_ (a_ (a_ (ids_TxMay_tri t y2 e1) tr) tr) (a_ (a_ tr (a_ (leB c3) tr)) (a_ (a_ (a_ tr (le_ 2 2 rfl)) tr) (a_ (a_ (a_ (ids_RegMay_tri g y5 e4) tr) tr) (r1_ (a_ (a_ tr (a_ (leB c6) tr)) (r4_ (a_ (a_ tr (a_ (leB c7) tr)) (r1_ (a_ (a_ (a_ (msg_WritesMay_2_ok l y9 e8 (sel [0]) (sel_inj rfl rfl)) (a_ (LO.Le.refl (.gr 21 (l).length (rowF c_T_api_Write default l))) tr)) tr) (r2_ tr)))))))))))) tr)) tr) (by as_aux_lemma => kernel_rfl) rfl
      · skip
        obtain rfl := Option.some.inj h
        exact run_ret mixed (L := []) (n := 15) (s := [.reg [], .reg [(1, { call := some (ids_TxMay_v y2, [], []) }), (2, { v := some (.bool true) }), (4, { call := some (ids_RegMay_v y5, [], []) }), (6, { v := some (.bool true) }), (11, { v := some (.bool false) })]])
          (a_ (a_ (r1_ (r2_ tr)) (a_ (a_ (a_ (a_ tr (le_ 3 3 rfl)) tr) (a_ (a_ (a_ (ids_TxMay_tri t y2 e1) tr) tr) (a_ (a_ tr (a_ (leB c3) tr)) (a_ (a_ (a_ tr (le_ 2 2 rfl)) tr) (a_ (a_ (a_ (ids_RegMay_tri g y5 e4) tr) tr) (r1_ (a_ (a_ tr (a_ (leB c6) tr)) (r4_ (a_ (a_ tr (a_ (leB c7) tr)) (t2_ (r2_ tr))))))))))) tr)) tr) (by as_aux_lemma => kernel_rfl) rfl
    · skip
      obtain rfl := Option.some.inj h
      exact run_ret mixed (L := []) (n := 15) (s := [.reg [], .reg [(1, { call := some (ids_TxMay_v y2, [], []) }), (2, { v := some (.bool true) }), (4, { call := some (ids_RegMay_v y5, [], []) }), (6, { v := some (.bool false) })]])
        (a_ (a_ (r1_ (r2_ tr)) (a_ (a_ (a_ (a_ tr (le_ 3 3 rfl)) tr) (a_ (a_ (a_ (ids_TxMay_tri t y2 e1) tr) tr) (a_ (a_ tr (a_ (leB c3) tr)) (a_ (a_ (a_ tr (le_ 2 2 rfl)) tr) (a_ (a_ (a_ (ids_RegMay_tri g y5 e4) tr) tr) (r1_ (a_ (a_ tr (a_ (leB c6) tr)) (a_ tr (t2_ (r2_ (t2_ (r2_ tr)))))))))))) tr)) tr) (by as_aux_lemma => kernel_rfl) rfl
  · skip
    obtain rfl := Option.some.inj h
    exact run_ret mixed (L := []) (n := 15) (s := [.reg [], .reg [(1, { call := some (ids_TxMay_v y2, [], []) }), (2, { v := some (.bool false) })]])
      (a_ (a_ (r1_ (r2_ tr)) (a_ (a_ (a_ (a_ tr (le_ 3 3 rfl)) tr) (a_ (a_ (a_ (ids_TxMay_tri t y2 e1) tr) tr) (a_ (a_ tr (a_ (leB c3) tr)) (t2_ (r2_ (a_ tr (t2_ (r2_ (t2_ (r2_ tr)))))))))) tr)) tr) (by as_aux_lemma => kernel_rfl) rfl

/-- slices.Equal[[]parrel/api.Write,parrel/api.Write] -/

def slices_Equal_api_Write_api_Write_2_v (r : (Bool)) : LV := .bool r

def slices_Equal_api_Write_api_Write_2_up (s1 : List (T_api_Write)) (s2 : List (T_api_Write)) (r : (Bool)) : Upd := [(0, some (.gr 21 (s2).length (rowF c_T_api_Write default s2)))]

def slices_Equal_api_Write_api_Write_2_objs (s1 : List (T_api_Write)) (s2 : List (T_api_Write)) : List LO := [.gr 21 (s2).length (rowF c_T_api_Write default s2)]

def slices_Equal_api_Write_api_Write_2_T0 (s1 : List (T_api_Write)) (s2 : List (T_api_Write)) (t13 : Int) : List LV := [.ds 21 (s1).length (rowF c_T_api_Write default s1), .gs 0 (s2).length, .any, .any, .any, .any, .any, .any, .any, .any, .any, .any, .int .i64 ((s1).length : Int), .int .i64 t13, .any, .any, .any, .any, .any, .any, .any, .any, .any, .any, .any, .any]

def slices_Equal_api_Write_api_Write_2_H0 (s1 : List (T_api_Write)) (s2 : List (T_api_Write)) (t13 : Int) : Heap := [some (.gr 21 (s2).length (rowF c_T_api_Write default s2))]

def slices_Equal_api_Write_api_Write_2_l0 (s1 : List (T_api_Write)) (s2 : List (T_api_Write))  : Nat → (Int) → Option ((Bool))
  | 0, _ => none
  | fuel + 1, t13 =>
    if ((decide (t13 < ((s1).length : Int))) : Bool) then
      if 0 ≤ t13 ∧ t13 < (((s1).length : Nat) : Int) then
      if 0 ≤ t13 ∧ t13 < (((s2).length : Nat) : Int) then
      if ((!decide ((s1.getD t13.toNat default) = (s2.getD t13.toNat default))) : Bool) then
        some false
      else
        slices_Equal_api_Write_api_Write_2_l0 s1 s2  fuel (IntKind.wrap .i64 (t13 + 1))
      else none
      else none
    else
      some true

def slices_Equal_api_Write_api_Write_2 (s1 : List (T_api_Write)) (s2 : List (T_api_Write)) : Option ((Bool)) :=
  if ((((s1).length : Int) != ((s2).length : Int)) : Bool) then
    some false
  else
    slices_Equal_api_Write_api_Write_2_l0 s1 s2  big 0

theorem slices_Equal_api_Write_api_Write_2_l0_ok {w0 : World} {W : Nat → Prop} {μ0 : Emb} (hμ : ∀ c p, μ0 c = some p → c < 1) (s1 : List (T_api_Write)) (s2 : List (T_api_Write))  : ∀ (fuel : Nat) (t13 : Int) (r : (Bool)), slices_Equal_api_Write_api_Write_2_l0 s1 s2  fuel t13 = some r → kont Tryd.prog w0 W μ0 (FnPost Tryd.prog Tryd.f26 1 1 (slices_Equal_api_Write_api_Write_2_v r) (slices_Equal_api_Write_api_Write_2_up s1 s2 r)) (kAt (bodyOf Tryd.f26) 0) none (slices_Equal_api_Write_api_Write_2_T0 s1 s2 t13) (slices_Equal_api_Write_api_Write_2_H0 s1 s2 t13) := by
  intro fuel
  induction fuel with
  | zero => intro t13 r h; rw [slices_Equal_api_Write_api_Write_2_l0] at h; cases h
  | succ fuel ih =>
    intro t13 r h
    rw [slices_Equal_api_Write_api_Write_2_l0] at h
    rcases itb_some h with ⟨cL0_1, h⟩ | ⟨cL0_1, h⟩
    · skip
      obtain ⟨gL0_2, h⟩ := guard_some h
      obtain ⟨gL0_3, h⟩ := guard_some h
      rcases itb_some h with ⟨cL0_4, h⟩ | ⟨cL0_4, h⟩
      · skip
        obtain rfl := Option.some.inj h
        exact run_ret mixed (L := []) (n := 28) (s := [.go, .reg [(0, { v := some (.bool true) })], .reg [], .reg [(8, { v := some (.bool true) })], .reg []])
          (a_ (a_ (a_ (a_ tr (a_ (leB cL0_1) tr)) tr) (a_ (r2_ tr) (a_ (r2_ (a_ (a_ (a_ (Eq.refl 21) gL0_2) tr) (a_ (a_ (le_ 21 21 rfl) tr) (r2_ (a_ (a_ (a_ (Eq.refl 21) gL0_3) tr) (a_ (a_ (a_ (ltN gL0_3) (le_ 21 21 rfl)) tr) (a_ (a_ tr (a_ (LV.Le.trans (leB (congrArg not (k_T_api_Write (s1.getD t13.toNat default) (s2.getD t13.toNat default)))) (leB cL0_4)) tr)) tr))))))) (a_ (r1_ tr) tr)))) tr) (by as_aux_lemma => kernel_rfl) rfl
      · skip
        exact run_to mixed hμ (L := []) (n := 29) (s := [.go, .reg [(0, { v := some (.bool true) })], .reg [], .reg [(8, { v := some (.bool false) })], .reg []])
          (a_ (a_ (a_ tr (a_ (leB cL0_1) tr)) tr) (a_ (r2_ tr) (a_ (r2_ (a_ (a_ (a_ (Eq.refl 21) gL0_2) tr) (a_ (a_ (le_ 21 21 rfl) tr) (r2_ (a_ (a_ (a_ (Eq.refl 21) gL0_3) tr) (a_ (a_ (a_ (ltN gL0_3) (le_ 21 21 rfl)) tr) (a_ (a_ tr (a_ (LV.Le.trans (leB (congrArg not (k_T_api_Write (s1.getD t13.toNat default) (s2.getD t13.toNat default)))) (leB cL0_4)) tr)) tr))))))) (a_ (r2_ tr) tr)))) (ih _ r h) (by as_aux_lemma => kernel_rfl) ⟨fun _ _ => rfl, trivial⟩
    · skip
      obtain rfl := Option.some.inj h
      exact run_ret mixed (L := []) (n := 19) (s := [.go, .reg [(0, { v := some (.bool false) })], .reg []])
        (a_ (a_ (a_ (a_ tr (a_ (leB cL0_1) tr)) tr) (a_ (r1_ tr) tr)) tr) (by as_aux_lemma => kernel_rfl) rfl

theorem slices_Equal_api_Write_api_Write_2_ok (s1 : List (T_api_Write)) (s2 : List (T_api_Write)) (r : (Bool)) (h : slices_Equal_api_Write_api_Write_2 s1 s2 = some r) : ∀ σ, Inj 1 σ → FnTri Tryd.prog 26 (renL σ [.ds 21 (s1).length (rowF c_T_api_Write default s1), .gs 0 (s2).length]) (preOf σ 0 (slices_Equal_api_Write_api_Write_2_objs s1 s2)) ((slices_Equal_api_Write_api_Write_2_v r).ren σ) (upOf σ (slices_Equal_api_Write_api_Write_2_up s1 s2 r)) := by
  refine fn_of Tryd.func26 (by kernel_rfl) (by kernel_rfl) (by kernel_rfl) ⟨fun _ _ => rfl, trivial⟩ (by kernel_rfl) ⟨fun _ _ => rfl, trivial⟩ (by kernel_rfl) ?_
  intro w0 W μ0 hμ
  unfold slices_Equal_api_Write_api_Write_2 at h
  rcases itb_some h with ⟨c1, h⟩ | ⟨c1, h⟩
  · skip
    obtain rfl := Option.some.inj h
    exact run_ret mixed (L := []) (n := 20) (s := [.reg [], .reg [(4, { v := some (.bool true) })], .reg []])
      (a_ (a_ (r1_ tr) (a_ (r4_ (a_ (a_ tr (a_ (leB c1) tr)) tr)) (a_ (r1_ tr) tr))) tr) (by as_aux_lemma => kernel_rfl) rfl
  · skip
    exact run_to mixed hμ (L := []) (n := 24) (s := [.reg [], .reg [(4, { v := some (.bool false) })], .reg []])
      (a_ (r1_ tr) (a_ (r4_ (a_ (a_ tr (a_ (leB c1) tr)) tr)) (a_ (r1_ (r2_ tr)) tr))) (slices_Equal_api_Write_api_Write_2_l0_ok hμ s1 s2  big _ r h) (by as_aux_lemma => kernel_rfl) ⟨fun _ _ => rfl, trivial⟩

/-- slices.Clone[[]parrel/api.Write,parrel/api.Write] -/

def slices_Clone_api_Write_api_Write_3_v (r : (List (T_api_Write))) : LV := .ds 21 (r).length (rowF c_T_api_Write default r)

def slices_Clone_api_Write_api_Write_3_up (s : List (T_api_Write)) (r : (List (T_api_Write))) : Upd := [(0, some (.gr 21 (s).length (rowF c_T_api_Write default s)))]

def slices_Clone_api_Write_api_Write_3_objs (s : List (T_api_Write)) : List LO := [.gr 21 (s).length (rowF c_T_api_Write default s)]

def slices_Clone_api_Write_api_Write_3 (s : List (T_api_Write)) : Option ((List (T_api_Write))) :=
  if (((s).length == 0) : Bool) then
    some ([] : List (T_api_Write))
  else
    if (0 + (s).length) * 48 ≤ 140737488351232 then
    some s
    else none

theorem slices_Clone_api_Write_api_Write_3_ok (s : List (T_api_Write)) (r : (List (T_api_Write))) (h : slices_Clone_api_Write_api_Write_3 s = some r) : ∀ σ, Inj 1 σ → FnTri Tryd.prog 27 (renL σ [.gs 0 (s).length]) (preOf σ 0 (slices_Clone_api_Write_api_Write_3_objs s)) ((slices_Clone_api_Write_api_Write_3_v r).ren σ) (upOf σ (slices_Clone_api_Write_api_Write_3_up s r)) := by
  refine fn_of Tryd.func27 (by kernel_rfl) (by kernel_rfl) (by kernel_rfl) ⟨fun _ _ => rfl, trivial⟩ (by kernel_rfl) ⟨fun _ _ => rfl, trivial⟩ (by kernel_rfl) ?_
  intro w0 W μ0 hμ
  unfold slices_Clone_api_Write_api_Write_3 at h
  rcases itb_some h with ⟨c1, h⟩ | ⟨c1, h⟩
  · skip
    obtain rfl := Option.some.inj h
    exact run_ret mixed (L := []) (n := 20) (s := [.reg [(0, { v := some (.ds 21 (([] : List (T_api_Write))).length (rowF c_T_api_Write default ([] : List (T_api_Write)))) })], .reg [(1, { v := some (.bool true) })], .reg [(0, { v := some (.ds 21 (([] : List (T_api_Write))).length (rowF c_T_api_Write default ([] : List (T_api_Write)))) })]])
      (a_ (a_ (a_ (a_ tr (a_ (le_nil_ds 21 (rowF c_T_api_Write default [])) tr)) tr) (a_ (r1_ (a_ (a_ tr (a_ (leB c1) tr)) tr)) (a_ (a_ (a_ tr (a_ (le_nil_ds 21 (rowF c_T_api_Write default [])) tr)) tr) tr))) tr) (by as_aux_lemma => kernel_rfl) rfl
  · skip
    obtain ⟨g2, h⟩ := guard_some h
    obtain rfl := Option.some.inj h
    exact run_ret mixed (L := []) (n := 21) (s := [.reg [(0, { v := some (.ds 21 (([] : List (T_api_Write))).length (rowF c_T_api_Write default ([] : List (T_api_Write)))) })], .reg [(1, { v := some (.bool false) })], .reg [(0, { os := [(1, .row 21 ([] : List (T_api_Write)).length (rowF c_T_api_Write default []) true)] }), (2, { app := 4 })]])
      (a_ (a_ (a_ (a_ tr (a_ (le_nil_ds 21 (rowF c_T_api_Write default [])) tr)) tr) (a_ (r1_ (a_ (a_ tr (a_ (leB c1) tr)) tr)) (a_ (a_ (a_ (a_ (Eq.refl true) (a_ (Eq.refl 21) (a_ (lt_ 0 21 rfl) (le_ 0 16777216 rfl)))) (a_ (sub_litr c_T_api_Write default 21 (fun _ => rfl) []) tr)) (r1_ (a_ (a_ (a_ (a_ (a_ (Eq.refl 21) (Nat.le_refl (s).length)) (a_ (lt_ 0 21 rfl) (a_ (lt_ 0 48 rfl) (a_ g2 (a_ (Eq.refl 21) (Eq.refl true)))))) (fz_row (enc := c_T_api_Write) (d := default) (fun _ => rfl) s)) tr) (r1_ tr)))) tr))) tr) (by as_aux_lemma => kernel_rfl) rfl

end
end Go.Proofs.YtfjdnnoflmpdeaaDoor.Wk
