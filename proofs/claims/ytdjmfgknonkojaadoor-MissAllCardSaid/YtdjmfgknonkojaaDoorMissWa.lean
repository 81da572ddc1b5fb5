/- Printed by tr.py: Go functions as Lean functions, with the proofs that they walk so. -/
import Derived.Test.YtdjmfgknonkojaaDoorProg
import Derived.Test.YtdjmfgknonkojaaDoorCnW
import Derived.Test.YtdjmfgknonkojaaDoorCnZ
import Derived.WalkKit
import Derived.TacticsInMore
import Derived.RegionIn
import Derived.LoopNIn
import Derived.LoopIn
import Derived.ControlIn
import Derived.Shelf.Spec.TrailingZeros
namespace Go.Proofs.YtdjmfgknonkojaaDoor.Wk
open Go Go.Cn Go.RowKit
set_option maxRecDepth 100000
set_option maxHeartbeats 4000000
set_option linter.unusedVariables false
set_option linter.unusedSimpArgs false
noncomputable section
theorem mixed : Tryd.prog.follows .mixedOrders = true := by kernel_rfl
structure T_api_Reg where
  f_Boot : Int
  f_N : Int
  deriving DecidableEq, Inhabited

def c_T_api_Reg (x : T_api_Reg) : List LV := [.int .u32 x.f_Boot, .int .u32 x.f_N]

def v_T_api_Reg (x : T_api_Reg) : LV := .agg (c_T_api_Reg x)

theorem x_T_api_Reg (a b : T_api_Reg) : a = b ↔ a.f_Boot = b.f_Boot ∧ a.f_N = b.f_N := by
  cases a; cases b; simp

theorem k_T_api_Reg (a b : T_api_Reg) : eqK (v_T_api_Reg a) (v_T_api_Reg b) = decide (a = b) := by
  rw [Bool.eq_iff_iff, decide_eq_true_eq]
  simp only [x_T_api_Reg, v_T_api_Reg, c_T_api_Reg, eqK, eqCs, eqC, Bool.and_eq_true, beq_iff_eq, and_assoc, and_true]

structure T_api_Config where
  f_Epoch : Int
  f_R : Int
  f_W : Int
  f_Votes : A8 (Int)
  deriving DecidableEq, Inhabited

def c_T_api_Config (x : T_api_Config) : List LV := [.int .u32 x.f_Epoch, .int .u8 x.f_R, .int .u8 x.f_W, .int .u8 x.f_Votes.a0, .int .u8 x.f_Votes.a1, .int .u8 x.f_Votes.a2, .int .u8 x.f_Votes.a3, .int .u8 x.f_Votes.a4, .int .u8 x.f_Votes.a5, .int .u8 x.f_Votes.a6, .int .u8 x.f_Votes.a7]

def v_T_api_Config (x : T_api_Config) : LV := .agg (c_T_api_Config x)

theorem x_T_api_Config (a b : T_api_Config) : a = b ↔ a.f_Epoch = b.f_Epoch ∧ a.f_R = b.f_R ∧ a.f_W = b.f_W ∧ a.f_Votes = b.f_Votes := by
  cases a; cases b; simp

theorem k_T_api_Config (a b : T_api_Config) : eqK (v_T_api_Config a) (v_T_api_Config b) = decide (a = b) := by
  rw [Bool.eq_iff_iff, decide_eq_true_eq]
  simp only [x_T_api_Config, A8.x, v_T_api_Config, c_T_api_Config, eqK, eqCs, eqC, Bool.and_eq_true, beq_iff_eq, and_assoc, and_true]

structure T_api_Item where
  f_Version : Int
  f_Value : List UInt8
  f_Conf : T_api_Config
  deriving DecidableEq, Inhabited

def c_T_api_Item (x : T_api_Item) : List LV := [.int .u32 x.f_Version, .str x.f_Value, .int .u32 x.f_Conf.f_Epoch, .int .u8 x.f_Conf.f_R, .int .u8 x.f_Conf.f_W, .int .u8 x.f_Conf.f_Votes.a0, .int .u8 x.f_Conf.f_Votes.a1, .int .u8 x.f_Conf.f_Votes.a2, .int .u8 x.f_Conf.f_Votes.a3, .int .u8 x.f_Conf.f_Votes.a4, .int .u8 x.f_Conf.f_Votes.a5, .int .u8 x.f_Conf.f_Votes.a6, .int .u8 x.f_Conf.f_Votes.a7]

def v_T_api_Item (x : T_api_Item) : LV := .agg (c_T_api_Item x)

theorem x_T_api_Item (a b : T_api_Item) : a = b ↔ a.f_Version = b.f_Version ∧ a.f_Value = b.f_Value ∧ a.f_Conf = b.f_Conf := by
  cases a; cases b; simp

theorem k_T_api_Item (a b : T_api_Item) : eqK (v_T_api_Item a) (v_T_api_Item b) = decide (a = b) := by
  rw [Bool.eq_iff_iff, decide_eq_true_eq]
  simp only [x_T_api_Item, x_T_api_Config, A8.x, v_T_api_Item, c_T_api_Item, eqK, eqCs, eqC, Bool.and_eq_true, beq_iff_eq, and_assoc, and_true]

structure T_parrelref19_Got where
  f_Node : Int
  f_Reg : T_api_Reg
  f_Item : T_api_Item
  deriving DecidableEq, Inhabited

def c_T_parrelref19_Got (x : T_parrelref19_Got) : List LV := [.int .u8 x.f_Node, .int .u32 x.f_Reg.f_Boot, .int .u32 x.f_Reg.f_N, .int .u32 x.f_Item.f_Version, .str x.f_Item.f_Value, .int .u32 x.f_Item.f_Conf.f_Epoch, .int .u8 x.f_Item.f_Conf.f_R, .int .u8 x.f_Item.f_Conf.f_W, .int .u8 x.f_Item.f_Conf.f_Votes.a0, .int .u8 x.f_Item.f_Conf.f_Votes.a1, .int .u8 x.f_Item.f_Conf.f_Votes.a2, .int .u8 x.f_Item.f_Conf.f_Votes.a3, .int .u8 x.f_Item.f_Conf.f_Votes.a4, .int .u8 x.f_Item.f_Conf.f_Votes.a5, .int .u8 x.f_Item.f_Conf.f_Votes.a6, .int .u8 x.f_Item.f_Conf.f_Votes.a7]

def v_T_parrelref19_Got (x : T_parrelref19_Got) : LV := .agg (c_T_parrelref19_Got x)

theorem x_T_parrelref19_Got (a b : T_parrelref19_Got) : a = b ↔ a.f_Node = b.f_Node ∧ a.f_Reg = b.f_Reg ∧ a.f_Item = b.f_Item := by
  cases a; cases b; simp

theorem k_T_parrelref19_Got (a b : T_parrelref19_Got) : eqK (v_T_parrelref19_Got a) (v_T_parrelref19_Got b) = decide (a = b) := by
  rw [Bool.eq_iff_iff, decide_eq_true_eq]
  simp only [x_T_parrelref19_Got, x_T_api_Reg, x_T_api_Item, x_T_api_Config, A8.x, v_T_parrelref19_Got, c_T_parrelref19_Got, eqK, eqCs, eqC, Bool.and_eq_true, beq_iff_eq, and_assoc, and_true]

structure T_parrelref20_Lock where
  f_Key : A8 (Int)
  f_Mode : Int
  f_Got : List (T_parrelref19_Got)
  deriving DecidableEq, Inhabited

def c_T_parrelref20_Lock (x : T_parrelref20_Lock) : List LV := [.int .u8 x.f_Key.a0, .int .u8 x.f_Key.a1, .int .u8 x.f_Key.a2, .int .u8 x.f_Key.a3, .int .u8 x.f_Key.a4, .int .u8 x.f_Key.a5, .int .u8 x.f_Key.a6, .int .u8 x.f_Key.a7, .int .u8 x.f_Mode, .ds 16 (x.f_Got).length (rowF c_T_parrelref19_Got default x.f_Got)]

def v_T_parrelref20_Lock (x : T_parrelref20_Lock) : LV := .agg (c_T_parrelref20_Lock x)

structure T_api_Write where
  f_Key : A8 (Int)
  f_Item : T_api_Item
  deriving DecidableEq, Inhabited

def c_T_api_Write (x : T_api_Write) : List LV := [.int .u8 x.f_Key.a0, .int .u8 x.f_Key.a1, .int .u8 x.f_Key.a2, .int .u8 x.f_Key.a3, .int .u8 x.f_Key.a4, .int .u8 x.f_Key.a5, .int .u8 x.f_Key.a6, .int .u8 x.f_Key.a7, .int .u32 x.f_Item.f_Version, .str x.f_Item.f_Value, .int .u32 x.f_Item.f_Conf.f_Epoch, .int .u8 x.f_Item.f_Conf.f_R, .int .u8 x.f_Item.f_Conf.f_W, .int .u8 x.f_Item.f_Conf.f_Votes.a0, .int .u8 x.f_Item.f_Conf.f_Votes.a1, .int .u8 x.f_Item.f_Conf.f_Votes.a2, .int .u8 x.f_Item.f_Conf.f_Votes.a3, .int .u8 x.f_Item.f_Conf.f_Votes.a4, .int .u8 x.f_Item.f_Conf.f_Votes.a5, .int .u8 x.f_Item.f_Conf.f_Votes.a6, .int .u8 x.f_Item.f_Conf.f_Votes.a7]

def v_T_api_Write (x : T_api_Write) : LV := .agg (c_T_api_Write x)

theorem x_T_api_Write (a b : T_api_Write) : a = b ↔ a.f_Key = b.f_Key ∧ a.f_Item = b.f_Item := by
  cases a; cases b; simp

theorem k_T_api_Write (a b : T_api_Write) : eqK (v_T_api_Write a) (v_T_api_Write b) = decide (a = b) := by
  rw [Bool.eq_iff_iff, decide_eq_true_eq]
  simp only [x_T_api_Write, A8.x, x_T_api_Item, x_T_api_Config, v_T_api_Write, c_T_api_Write, eqK, eqCs, eqC, Bool.and_eq_true, beq_iff_eq, and_assoc, and_true]

structure T_gather_Got where
  f_Node : Int
  f_Reg : T_api_Reg
  f_Item : T_api_Item
  deriving DecidableEq, Inhabited

def c_T_gather_Got (x : T_gather_Got) : List LV := [.int .u8 x.f_Node, .int .u32 x.f_Reg.f_Boot, .int .u32 x.f_Reg.f_N, .int .u32 x.f_Item.f_Version, .str x.f_Item.f_Value, .int .u32 x.f_Item.f_Conf.f_Epoch, .int .u8 x.f_Item.f_Conf.f_R, .int .u8 x.f_Item.f_Conf.f_W, .int .u8 x.f_Item.f_Conf.f_Votes.a0, .int .u8 x.f_Item.f_Conf.f_Votes.a1, .int .u8 x.f_Item.f_Conf.f_Votes.a2, .int .u8 x.f_Item.f_Conf.f_Votes.a3, .int .u8 x.f_Item.f_Conf.f_Votes.a4, .int .u8 x.f_Item.f_Conf.f_Votes.a5, .int .u8 x.f_Item.f_Conf.f_Votes.a6, .int .u8 x.f_Item.f_Conf.f_Votes.a7]

def v_T_gather_Got (x : T_gather_Got) : LV := .agg (c_T_gather_Got x)

theorem x_T_gather_Got (a b : T_gather_Got) : a = b ↔ a.f_Node = b.f_Node ∧ a.f_Reg = b.f_Reg ∧ a.f_Item = b.f_Item := by
  cases a; cases b; simp

theorem k_T_gather_Got (a b : T_gather_Got) : eqK (v_T_gather_Got a) (v_T_gather_Got b) = decide (a = b) := by
  rw [Bool.eq_iff_iff, decide_eq_true_eq]
  simp only [x_T_gather_Got, x_T_api_Reg, x_T_api_Item, x_T_api_Config, A8.x, v_T_gather_Got, c_T_gather_Got, eqK, eqCs, eqC, Bool.and_eq_true, beq_iff_eq, and_assoc, and_true]

structure T_miss_Lock where
  f_Key : A8 (Int)
  f_Mode : Int
  f_Got : List (T_gather_Got)
  deriving DecidableEq, Inhabited

def c_T_miss_Lock (x : T_miss_Lock) : List LV := [.int .u8 x.f_Key.a0, .int .u8 x.f_Key.a1, .int .u8 x.f_Key.a2, .int .u8 x.f_Key.a3, .int .u8 x.f_Key.a4, .int .u8 x.f_Key.a5, .int .u8 x.f_Key.a6, .int .u8 x.f_Key.a7, .int .u8 x.f_Mode, .ds 16 (x.f_Got).length (rowF c_T_gather_Got default x.f_Got)]

def v_T_miss_Lock (x : T_miss_Lock) : LV := .agg (c_T_miss_Lock x)

structure T_coord_Member where
  f_Node : Int
  f_Reg : T_api_Reg
  f_Writes : List (T_api_Write)
  deriving DecidableEq, Inhabited

def c_T_coord_Member (x : T_coord_Member) : List LV := [.int .u8 x.f_Node, .int .u32 x.f_Reg.f_Boot, .int .u32 x.f_Reg.f_N, .ds 21 (x.f_Writes).length (rowF c_T_api_Write default x.f_Writes)]

def v_T_coord_Member (x : T_coord_Member) : LV := .agg (c_T_coord_Member x)

structure T_parrelref18_Member where
  f_Node : Int
  f_Reg : T_api_Reg
  f_Writes : List (T_api_Write)
  f_Vote : Int
  deriving DecidableEq, Inhabited

def c_T_parrelref18_Member (x : T_parrelref18_Member) : List LV := [.int .u8 x.f_Node, .int .u32 x.f_Reg.f_Boot, .int .u32 x.f_Reg.f_N, .ds 21 (x.f_Writes).length (rowF c_T_api_Write default x.f_Writes), .int .u8 x.f_Vote]

def v_T_parrelref18_Member (x : T_parrelref18_Member) : LV := .agg (c_T_parrelref18_Member x)

theorem ext87 (l : List UInt8) (c : Int) : ExtTri Tryd.prog 87 [.str l, .int .u8 c] (.int .i64 (Lib.indexByte l c.toNat.toUInt8)) := ext_indexByte Tryd.func87 (by kernel_rfl) (by kernel_rfl) (by kernel_rfl) (by kernel_rfl) l c

/-- parrel/parrellaw20.far -/

def parrellaw20_far_v (r : (Bool)) : LV := .bool r

def parrellaw20_far_T1 (l : List (T_parrelref20_Lock)) (x_w : List (T_api_Write)) (x_n2 : Int) (t32 : Int) : List LV := [.ds 10 (l).length (rowF c_T_parrelref20_Lock default l), .ds 21 (x_w).length (rowF c_T_api_Write default x_w), .any, .any, .any, .int .i64 x_n2, .any, .any, .any, .any, .any, .any, .any, .any, .any, .any, .any, .any, .any, .any, .any, .any, .any, .any, .any, .any, .any, .any, .any, .any, .ds 21 ((x_w.take ((if 30 < ((x_w).length : Int) then 30 else ((x_w).length : Int))).toNat)).length (rowF c_T_api_Write default (x_w.take ((if 30 < ((x_w).length : Int) then 30 else ((x_w).length : Int))).toNat)), .int .i64 (((x_w.take ((if 30 < ((x_w).length : Int) then 30 else ((x_w).length : Int))).toNat)).length : Int), .int .i64 t32, .any, .any, .any, .any, .any, .any, .any, .any, .any, .any, .any, .any, .any, .any, .any, .any, .any, .any, .any, .any, .any, .any, .any]

def parrellaw20_far_H1 (l : List (T_parrelref20_Lock)) (x_w : List (T_api_Write)) (x_n2 : Int) (t32 : Int) : Heap := []

def parrellaw20_far_T0 (l : List (T_parrelref20_Lock)) (x_w : List (T_api_Write)) (x_n : Int) (t16 : Int) : List LV := [.ds 10 (l).length (rowF c_T_parrelref20_Lock default l), .ds 21 (x_w).length (rowF c_T_api_Write default x_w), .any, .any, .any, .int .i64 x_n, .any, .any, .any, .any, .any, .any, .any, .any, .ds 10 ((l.take ((if 30 < ((l).length : Int) then 30 else ((l).length : Int))).toNat)).length (rowF c_T_parrelref20_Lock default (l.take ((if 30 < ((l).length : Int) then 30 else ((l).length : Int))).toNat)), .int .i64 (((l.take ((if 30 < ((l).length : Int) then 30 else ((l).length : Int))).toNat)).length : Int), .int .i64 t16, .any, .any, .any, .any, .any, .any, .any, .any, .any, .any, .any, .any, .any, .any, .any, .any, .any, .any, .any, .any, .any, .any, .any, .any, .any, .any, .any, .any, .any, .any, .any, .any, .any, .any, .any, .any, .any, .any, .any]

def parrellaw20_far_H0 (l : List (T_parrelref20_Lock)) (x_w : List (T_api_Write)) (x_n : Int) (t16 : Int) : Heap := []

def parrellaw20_far_l1 (l : List (T_parrelref20_Lock)) (x_w : List (T_api_Write))  : Nat → (Int) → (Int) → Option ((Bool))
  | 0, _, _ => none
  | fuel + 1, x_n2, t32 =>
    if ((decide (t32 < (((x_w.take ((if 30 < ((x_w).length : Int) then 30 else ((x_w).length : Int))).toNat)).length : Int))) : Bool) then
      if 0 ≤ t32 ∧ t32 < ((((x_w.take ((if 30 < ((x_w).length : Int) then 30 else ((x_w).length : Int))).toNat)).length : Nat) : Int) then
      parrellaw20_far_l1 l x_w  fuel (IntKind.wrap .i64 (x_n2 + (if 10000 < ((((x_w.take ((if 30 < ((x_w).length : Int) then 30 else ((x_w).length : Int))).toNat).getD t32.toNat default).f_Item.f_Value).length : Int) then 10000 else ((((x_w.take ((if 30 < ((x_w).length : Int) then 30 else ((x_w).length : Int))).toNat).getD t32.toNat default).f_Item.f_Value).length : Int)))) (IntKind.wrap .i64 (t32 + 1))
      else none
    else
      if ((decide (30 < ((l).length : Int))) : Bool) then
        some true
      else
        if ((decide (30 < ((x_w).length : Int))) : Bool) then
          some true
        else
          some (decide (10000 < x_n2))

def parrellaw20_far_l0 (l : List (T_parrelref20_Lock)) (x_w : List (T_api_Write))  : Nat → (Int) → (Int) → Option ((Bool))
  | 0, _, _ => none
  | fuel + 1, x_n, t16 =>
    if ((decide (t16 < (((l.take ((if 30 < ((l).length : Int) then 30 else ((l).length : Int))).toNat)).length : Int))) : Bool) then
      if 0 ≤ t16 ∧ t16 < ((((l.take ((if 30 < ((l).length : Int) then 30 else ((l).length : Int))).toNat)).length : Nat) : Int) then
      parrellaw20_far_l0 l x_w  fuel (IntKind.wrap .i64 (x_n + ((((l.take ((if 30 < ((l).length : Int) then 30 else ((l).length : Int))).toNat).getD t16.toNat default).f_Got).length : Int))) (IntKind.wrap .i64 (t16 + 1))
      else none
    else
      if 0 ≤ (0 : Int) ∧ 0 ≤ (if 30 < ((x_w).length : Int) then 30 else ((x_w).length : Int)) ∧ (if 30 < ((x_w).length : Int) then 30 else ((x_w).length : Int)) ≤ (((x_w).length : Nat) : Int) then
      parrellaw20_far_l1 l x_w  big x_n 0
      else none

def parrellaw20_far (l : List (T_parrelref20_Lock)) (x_w : List (T_api_Write)) : Option ((Bool)) :=
  if 0 ≤ (0 : Int) ∧ 0 ≤ (if 30 < ((l).length : Int) then 30 else ((l).length : Int)) ∧ (if 30 < ((l).length : Int) then 30 else ((l).length : Int)) ≤ (((l).length : Nat) : Int) then
  parrellaw20_far_l0 l x_w  big 0 0
  else none

theorem parrellaw20_far_l1_ok {w0 : World} {W : Nat → Prop} {μ0 : Emb} (hμ : ∀ c p, μ0 c = some p → c < 0) (l : List (T_parrelref20_Lock)) (x_w : List (T_api_Write))  : ∀ (fuel : Nat) (x_n2 : Int) (t32 : Int) (r : (Bool)), parrellaw20_far_l1 l x_w  fuel x_n2 t32 = some r → kont Tryd.prog w0 W μ0 (FnPost Tryd.prog Tryd.f7 0 0 (parrellaw20_far_v r) []) (kAt (bodyOf Tryd.f7) 1) none (parrellaw20_far_T1 l x_w x_n2 t32) (parrellaw20_far_H1 l x_w x_n2 t32) := by
  intro fuel
  induction fuel with
  | zero => intro x_n2 t32 r h; rw [parrellaw20_far_l1] at h; cases h
  | succ fuel ih =>
    intro x_n2 t32 r h
    rw [parrellaw20_far_l1] at h
    rcases itb_some h with ⟨cL1_1, h⟩ | ⟨cL1_1, h⟩
    · skip
      obtain ⟨gL1_2, h⟩ := guard_some h
      exact run_to mixed hμ (L := []) (n := 26) (s := [.go, .reg [(0, { v := some (.bool true) })], .reg [], .reg [], .reg []])
        (a_ (a_ (a_ tr (a_ (leB cL1_1) tr)) tr) (a_ (a_ (a_ (a_ (Eq.refl 21) gL1_2) tr) (a_ (a_ (le_ 21 21 rfl) tr) (a_ (a_ tr tr) (a_ (a_ (a_ (Eq.refl 21) (a_ (le_ 21 21 rfl) (Eq.refl 0))) tr) tr)))) (a_ (a_ (a_ tr tr) (a_ (a_ tr tr) (a_ (a_ tr tr) (a_ (a_ (a_ tr (lt_ 9 21 rfl)) tr) (a_ (a_ tr tr) (a_ (a_ tr tr) (a_ (a_ tr tr) (a_ (a_ tr tr) tr)))))))) (a_ (a_ (a_ tr tr) (a_ (a_ tr tr) tr)) tr)))) (ih _ _ r h) (by kernel_rfl) trivial
    · skip
      rcases itb_some h with ⟨cL1_2, h⟩ | ⟨cL1_2, h⟩
      · skip
        obtain rfl := Option.some.inj h
        exact run_ret mixed (L := []) (n := 19) (s := [.go, .reg [(0, { v := some (.bool false) })], .reg [(3, { v := some (.bool true) })]])
          (a_ (a_ (a_ (a_ tr (a_ (leB cL1_1) tr)) tr) (a_ (a_ (a_ tr tr) (a_ (a_ tr tr) (a_ (a_ tr tr) (a_ (a_ tr (a_ (leB cL1_2) tr)) (a_ tr (a_ tr (a_ tr (a_ (a_ tr tr) (a_ (a_ tr tr) (a_ tr (a_ tr (a_ (a_ tr tr) (a_ (a_ tr tr) tr))))))))))))) tr)) tr) (by kernel_rfl) rfl
      · skip
        rcases itb_some h with ⟨cL1_3, h⟩ | ⟨cL1_3, h⟩
        · skip
          obtain rfl := Option.some.inj h
          exact run_ret mixed (L := []) (n := 19) (s := [.go, .reg [(0, { v := some (.bool false) })], .reg [(3, { v := some (.bool false) }), (8, { v := some (.bool true) })]])
            (a_ (a_ (a_ (a_ tr (a_ (leB cL1_1) tr)) tr) (a_ (a_ (a_ tr tr) (a_ (a_ tr tr) (a_ (a_ tr tr) (a_ (a_ tr (a_ (leB cL1_2) tr)) (a_ (a_ tr tr) (a_ (a_ tr tr) (a_ (a_ tr tr) (a_ (a_ tr tr) (a_ (a_ tr (a_ (leB cL1_3) tr)) (a_ tr (a_ tr (a_ (a_ tr tr) (a_ (a_ tr tr) tr))))))))))))) tr)) tr) (by kernel_rfl) rfl
        · skip
          obtain rfl := Option.some.inj h
          exact run_ret mixed (L := []) (n := 19) (s := [.go, .reg [(0, { v := some (.bool false) })], .reg [(3, { v := some (.bool false) }), (8, { v := some (.bool false) })]])
            (a_ (a_ (a_ (a_ tr (a_ (leB cL1_1) tr)) tr) (a_ (a_ (a_ tr tr) (a_ (a_ tr tr) (a_ (a_ tr tr) (a_ (a_ tr (a_ (leB cL1_2) tr)) (a_ (a_ tr tr) (a_ (a_ tr tr) (a_ (a_ tr tr) (a_ (a_ tr tr) (a_ (a_ tr (a_ (leB cL1_3) tr)) (a_ (a_ tr tr) (a_ (a_ tr tr) (a_ (a_ tr tr) (a_ (a_ tr tr) tr))))))))))))) tr)) tr) (by kernel_rfl) rfl

theorem parrellaw20_far_l0_ok {w0 : World} {W : Nat → Prop} {μ0 : Emb} (hμ : ∀ c p, μ0 c = some p → c < 0) (l : List (T_parrelref20_Lock)) (x_w : List (T_api_Write))  : ∀ (fuel : Nat) (x_n : Int) (t16 : Int) (r : (Bool)), parrellaw20_far_l0 l x_w  fuel x_n t16 = some r → kont Tryd.prog w0 W μ0 (FnPost Tryd.prog Tryd.f7 0 0 (parrellaw20_far_v r) []) (kAt (bodyOf Tryd.f7) 0) none (parrellaw20_far_T0 l x_w x_n t16) (parrellaw20_far_H0 l x_w x_n t16) := by
  intro fuel
  induction fuel with
  | zero => intro x_n t16 r h; rw [parrellaw20_far_l0] at h; cases h
  | succ fuel ih =>
    intro x_n t16 r h
    rw [parrellaw20_far_l0] at h
    rcases itb_some h with ⟨cL0_1, h⟩ | ⟨cL0_1, h⟩
    · skip
      obtain ⟨gL0_2, h⟩ := guard_some h
      exact run_to mixed hμ (L := []) (n := 26) (s := [.go, .reg [(0, { v := some (.bool true) })], .reg [], .reg [], .reg []])
        (a_ (a_ (a_ tr (a_ (leB cL0_1) tr)) tr) (a_ (a_ (a_ (a_ (Eq.refl 10) gL0_2) tr) (a_ (a_ (le_ 10 10 rfl) tr) (a_ (a_ tr tr) (a_ (a_ (a_ (Eq.refl 10) (a_ (le_ 10 10 rfl) (Eq.refl 0))) tr) tr)))) (a_ (a_ (a_ tr tr) (a_ (a_ tr tr) (a_ (a_ (a_ tr (lt_ 9 10 rfl)) tr) (a_ (a_ tr tr) (a_ (a_ tr tr) (a_ (a_ tr tr) tr)))))) (a_ (a_ (a_ tr tr) (a_ (a_ tr tr) tr)) tr)))) (ih _ _ r h) (by kernel_rfl) trivial
    · skip
      obtain ⟨gL0_2, h⟩ := guard_some h
      exact run_to mixed hμ (L := []) (n := 22) (s := [.go, .reg [(0, { v := some (.bool false) })], .reg [(4, { v := some (.ds 21 ((x_w.take ((if 30 < ((x_w).length : Int) then 30 else ((x_w).length : Int))).toNat)).length (rowF c_T_api_Write default (x_w.take ((if 30 < ((x_w).length : Int) then 30 else ((x_w).length : Int))).toNat))) })]])
        (a_ (a_ (a_ tr (a_ (leB cL0_1) tr)) tr) (a_ (a_ (a_ tr tr) (a_ (a_ tr tr) (a_ (a_ tr tr) (a_ (a_ tr tr) (a_ (a_ (a_ (Eq.refl 21) gL0_2) (a_ (le_take c_T_api_Write default 21 x_w ((if 30 < ((x_w).length : Int) then 30 else ((x_w).length : Int))).toNat (toN_le gL0_2.2.2)) tr)) (a_ (a_ tr tr) (a_ (a_ tr tr) tr))))))) tr)) (parrellaw20_far_l1_ok hμ l x_w  big _ _ r h) (by kernel_rfl) trivial

theorem parrellaw20_far_ok (l : List (T_parrelref20_Lock)) (x_w : List (T_api_Write)) (r : (Bool)) (h : parrellaw20_far l x_w = some r) : ∀ σ, Inj 0 σ → FnTri Tryd.prog 7 (renL σ [.ds 10 (l).length (rowF c_T_parrelref20_Lock default l), .ds 21 (x_w).length (rowF c_T_api_Write default x_w)]) (preOf σ 0 []) ((parrellaw20_far_v r).ren σ) (upOf σ []) := by
  refine fn_of Tryd.func7 (by kernel_rfl) (by kernel_rfl) (by kernel_rfl) trivial (by kernel_rfl) trivial (by kernel_rfl) ?_
  intro w0 W μ0 hμ
  unfold parrellaw20_far at h
  obtain ⟨g1, h⟩ := guard_some h
  exact run_to mixed hμ (L := []) (n := 21) (s := [.reg [], .reg [], .reg [(4, { v := some (.ds 10 ((l.take ((if 30 < ((l).length : Int) then 30 else ((l).length : Int))).toNat)).length (rowF c_T_parrelref20_Lock default (l.take ((if 30 < ((l).length : Int) then 30 else ((l).length : Int))).toNat))) })]])
    (a_ (a_ (a_ tr tr) tr) (a_ (a_ (a_ tr tr) tr) (a_ (a_ (a_ tr tr) (a_ (a_ tr tr) (a_ (a_ tr tr) (a_ (a_ tr tr) (a_ (a_ (a_ (Eq.refl 10) g1) (a_ (le_take c_T_parrelref20_Lock default 10 l ((if 30 < ((l).length : Int) then 30 else ((l).length : Int))).toNat (toN_le g1.2.2)) tr)) (a_ (a_ tr tr) (a_ (a_ tr tr) tr))))))) tr))) (parrellaw20_far_l0_ok hμ l x_w  big _ _ r h) (by kernel_rfl) trivial

theorem parrellaw20_far_tri (l : List (T_parrelref20_Lock)) (x_w : List (T_api_Write)) (r : (Bool)) (h : parrellaw20_far l x_w = some r) : FnTri Tryd.prog 7 [.ds 10 (l).length (rowF c_T_parrelref20_Lock default l), .ds 21 (x_w).length (rowF c_T_api_Write default x_w)] [] (parrellaw20_far_v r) [] := FnTri.none (parrellaw20_far_ok l x_w r h) rfl rfl

/-- parrel/parrellaw20.three -/

def parrellaw20_three_v (r : (List (T_api_Write))) : LV := .ds 21 (r).length (rowF c_T_api_Write default r)

def parrellaw20_three  : Option ((List (T_api_Write))) :=
  some ([(T_api_Write.mk (A8.mk 97 0 0 0 0 0 0 0) (T_api_Item.mk 1 [] (T_api_Config.mk 1 2 2 (A8.mk 1 1 1 0 0 0 0 0))))] : List (T_api_Write))

theorem parrellaw20_three_ok  (r : (List (T_api_Write))) (h : parrellaw20_three  = some r) : ∀ σ, Inj 0 σ → FnTri Tryd.prog 19 (renL σ []) (preOf σ 0 []) ((parrellaw20_three_v r).ren σ) (upOf σ []) := by
  refine fn_of Tryd.func19 (by kernel_rfl) (by kernel_rfl) (by kernel_rfl) trivial (by kernel_rfl) trivial (by kernel_rfl) ?_
  intro w0 W μ0 hμ
  unfold parrellaw20_three at h
  obtain rfl := Option.some.inj h
  exact run_ret mixed (L := []) (n := 16) (s := [.reg [(0, { v := some (.ds 21 (([] : List (T_api_Write))).length (rowF c_T_api_Write default ([] : List (T_api_Write)))) })], .reg [(5, { os := [(0, .gr 21 (([(T_api_Write.mk (A8.mk 97 0 0 0 0 0 0 0) (T_api_Item.mk 1 [] (T_api_Config.mk 1 2 2 (A8.mk 1 1 1 0 0 0 0 0))))] : List (T_api_Write))).length (rowF c_T_api_Write default ([(T_api_Write.mk (A8.mk 97 0 0 0 0 0 0 0) (T_api_Item.mk 1 [] (T_api_Config.mk 1 2 2 (A8.mk 1 1 1 0 0 0 0 0))))] : List (T_api_Write))))], v := some (.gs 0 (([(T_api_Write.mk (A8.mk 97 0 0 0 0 0 0 0) (T_api_Item.mk 1 [] (T_api_Config.mk 1 2 2 (A8.mk 1 1 1 0 0 0 0 0))))] : List (T_api_Write))).length) })], .frz 0])
    (a_ (a_ (a_ (a_ tr (a_ (le_nil_ds 21 (rowF c_T_api_Write default [])) tr)) tr) (a_ (a_ (a_ (Eq.refl true) tr) (a_ (a_ (Eq.refl true) tr) (a_ (a_ (Eq.refl true) tr) (a_ (a_ (Eq.refl true) tr) (a_ (a_ (Eq.refl true) tr) (a_ (a_ (a_ (Eq.refl true) (a_ (Eq.refl 21) (a_ (lt_ 0 21 rfl) (le_ 21 16777216 rfl)))) (a_ (le_sl_gs 0 1 (some 1) rfl) (a_ (sub_lit c_T_api_Write default 21 (fun _ => rfl) ([(T_api_Write.mk (A8.mk 97 0 0 0 0 0 0 0) (T_api_Item.mk 1 [] (T_api_Config.mk 1 2 2 (A8.mk 1 1 1 0 0 0 0 0))))] : List (T_api_Write))) tr))) (a_ (a_ tr tr) tr))))))) (a_ (a_ (fz_row (enc := c_T_api_Write) (d := default) (fun _ => rfl) ([(T_api_Write.mk (A8.mk 97 0 0 0 0 0 0 0) (T_api_Item.mk 1 [] (T_api_Config.mk 1 2 2 (A8.mk 1 1 1 0 0 0 0 0))))] : List (T_api_Write))) (a_ (Nat.le_refl (([(T_api_Write.mk (A8.mk 97 0 0 0 0 0 0 0) (T_api_Item.mk 1 [] (T_api_Config.mk 1 2 2 (A8.mk 1 1 1 0 0 0 0 0))))] : List (T_api_Write))).length) (a_ (Nat.le_refl (([(T_api_Write.mk (A8.mk 97 0 0 0 0 0 0 0) (T_api_Item.mk 1 [] (T_api_Config.mk 1 2 2 (A8.mk 1 1 1 0 0 0 0 0))))] : List (T_api_Write))).length) tr))) tr))) tr) (by kernel_rfl) rfl

theorem parrellaw20_three_tri  (r : (List (T_api_Write))) (h : parrellaw20_three  = some r) : FnTri Tryd.prog 19 [] [] (parrellaw20_three_v r) [] := FnTri.none (parrellaw20_three_ok  r h) rfl rfl

/-- strings.trimRightByte -/

def strings_trimRightByte_v (r : (List UInt8)) : LV := .str r

def strings_trimRightByte_T0 (c : Int) (s2 : List UInt8) : List LV := [.str s2, .int .u8 c, .any, .any, .any, .any, .any, .any, .any, .any, .any, .any, .any, .any, .any, .any, .any, .any, .any, .any, .any, .any, .any]

def strings_trimRightByte_H0 (c : Int) (s2 : List UInt8) : Heap := []

def strings_trimRightByte_l0 (c : Int)  : Nat → (List UInt8) → Option ((List UInt8))
  | 0, _ => none
  | fuel + 1, s2 =>
    if ((decide (0 < ((s2).length : Int))) : Bool) then
      if 0 ≤ (IntKind.wrap .i64 (((s2).length : Int) - 1)) ∧ (IntKind.wrap .i64 (((s2).length : Int) - 1)) < (((s2).length : Nat) : Int) then
      if ((((s2.getD ((IntKind.wrap .i64 (((s2).length : Int) - 1))).toNat 0).toNat : Int) == c) : Bool) then
        if 0 ≤ (0 : Int) ∧ (0 : Int) ≤ (IntKind.wrap .i64 (((s2).length : Int) - 1)) ∧ (IntKind.wrap .i64 (((s2).length : Int) - 1)) ≤ (((s2).length : Nat) : Int) then
        strings_trimRightByte_l0 c  fuel ((s2.drop 0).take (((IntKind.wrap .i64 (((s2).length : Int) - 1))).toNat - 0))
        else none
      else
        some s2
      else none
    else
      some s2

def strings_trimRightByte (s : List UInt8) (c : Int) : Option ((List UInt8)) :=
  strings_trimRightByte_l0 c  big s

theorem strings_trimRightByte_l0_ok {w0 : World} {W : Nat → Prop} {μ0 : Emb} (hμ : ∀ c p, μ0 c = some p → c < 0) (c : Int)  : ∀ (fuel : Nat) (s2 : List UInt8) (r : (List UInt8)), strings_trimRightByte_l0 c  fuel s2 = some r → kont Tryd.prog w0 W μ0 (FnPost Tryd.prog Tryd.f70 0 0 (strings_trimRightByte_v r) []) (kAt (bodyOf Tryd.f70) 0) none (strings_trimRightByte_T0 c s2) (strings_trimRightByte_H0 c s2) := by
  intro fuel
  induction fuel with
  | zero => intro s2 r h; rw [strings_trimRightByte_l0] at h; cases h
  | succ fuel ih =>
    intro s2 r h
    rw [strings_trimRightByte_l0] at h
    rcases itb_some h with ⟨cL0_1, h⟩ | ⟨cL0_1, h⟩
    · skip
      obtain ⟨gL0_2, h⟩ := guard_some h
      rcases itb_some h with ⟨cL0_3, h⟩ | ⟨cL0_3, h⟩
      · skip
        obtain ⟨gL0_4, h⟩ := guard_some h
        exact run_to mixed hμ (L := []) (n := 20) (s := [.go, .reg [(3, { v := some (.bool true) }), (11, { v := some (.bool true) })], .reg []])
          (a_ (a_ (a_ tr tr) (a_ (a_ tr tr) (a_ (a_ tr tr) (a_ (a_ tr (a_ (leB cL0_1) tr)) (a_ (a_ tr tr) (a_ (a_ tr tr) (a_ (a_ tr tr) (a_ (a_ tr tr) (a_ (a_ gL0_2 tr) (a_ (a_ tr tr) (a_ (a_ tr tr) (a_ (a_ tr (a_ (leB cL0_3) tr)) tr)))))))))))) (a_ (a_ (a_ tr tr) (a_ (a_ tr tr) (a_ (a_ tr tr) (a_ (a_ tr tr) (a_ (a_ gL0_4 tr) (a_ (a_ tr tr) tr)))))) tr)) (ih _ r h) (by kernel_rfl) trivial
      · skip
        obtain rfl := Option.some.inj h
        exact run_ret mixed (L := []) (n := 19) (s := [.go, .reg [(3, { v := some (.bool true) }), (11, { v := some (.bool false) })], .reg []])
          (a_ (a_ (a_ (a_ tr tr) (a_ (a_ tr tr) (a_ (a_ tr tr) (a_ (a_ tr (a_ (leB cL0_1) tr)) (a_ (a_ tr tr) (a_ (a_ tr tr) (a_ (a_ tr tr) (a_ (a_ tr tr) (a_ (a_ gL0_2 tr) (a_ (a_ tr tr) (a_ (a_ tr tr) (a_ (a_ tr (a_ (leB cL0_3) tr)) tr)))))))))))) (a_ (a_ (a_ tr tr) (a_ (a_ tr tr) tr)) tr)) tr) (by kernel_rfl) rfl
    · skip
      obtain rfl := Option.some.inj h
      exact run_ret mixed (L := []) (n := 19) (s := [.go, .reg [(3, { v := some (.bool false) })], .reg []])
        (a_ (a_ (a_ (a_ tr tr) (a_ (a_ tr tr) (a_ (a_ tr tr) (a_ (a_ tr (a_ (leB cL0_1) tr)) (a_ tr (a_ tr (a_ tr (a_ tr (a_ tr (a_ tr (a_ tr (a_ (a_ tr tr) tr)))))))))))) (a_ (a_ (a_ tr tr) (a_ (a_ tr tr) tr)) tr)) tr) (by kernel_rfl) rfl

theorem strings_trimRightByte_ok (s : List UInt8) (c : Int) (r : (List UInt8)) (h : strings_trimRightByte s c = some r) : ∀ σ, Inj 0 σ → FnTri Tryd.prog 70 (renL σ [.str s, .int .u8 c]) (preOf σ 0 []) ((strings_trimRightByte_v r).ren σ) (upOf σ []) := by
  refine fn_of Tryd.func70 (by kernel_rfl) (by kernel_rfl) (by kernel_rfl) trivial (by kernel_rfl) trivial (by kernel_rfl) ?_
  intro w0 W μ0 hμ
  unfold strings_trimRightByte at h
  exact run_to mixed hμ (L := []) (n := 15) (s := [.reg []])
    (a_ (a_ (a_ tr tr) tr) tr) (strings_trimRightByte_l0_ok hμ c  big _ r h) (by kernel_rfl) trivial

theorem strings_trimRightByte_tri (s : List UInt8) (c : Int) (r : (List UInt8)) (h : strings_trimRightByte s c = some r) : FnTri Tryd.prog 70 [.str s, .int .u8 c] [] (strings_trimRightByte_v r) [] := FnTri.none (strings_trimRightByte_ok s c r h) rfl rfl

/-- strings.TrimRight -/

def strings_TrimRight_v (r : (List UInt8)) : LV := .str r

def strings_TrimRight (s : List UInt8) : Option ((List UInt8)) :=
  if ((s == []) : Bool) then
    some s
  else
    (strings_trimRightByte s 0).bind fun y3 =>
    some y3

theorem strings_TrimRight_ok (s : List UInt8) (r : (List UInt8)) (h : strings_TrimRight s = some r) : ∀ σ, Inj 0 σ → FnTri Tryd.prog 59 (renL σ [.str s, .str ([0] : List UInt8)]) (preOf σ 0 []) ((strings_TrimRight_v r).ren σ) (upOf σ []) := by
  refine fn_of Tryd.func59 (by kernel_rfl) (by kernel_rfl) (by kernel_rfl) trivial (by kernel_rfl) trivial (by kernel_rfl) ?_
  intro w0 W μ0 hμ
  unfold strings_TrimRight at h
  rcases itb_some h with ⟨c1, h⟩ | ⟨c1, h⟩
  · skip
    obtain rfl := Option.some.inj h
    exact run_ret mixed (L := []) (n := 20) (s := [.reg [], .reg [(2, { v := some (.bool true) })], .reg []])
      (a_ (a_ (a_ (a_ tr tr) tr) (a_ (a_ (a_ tr tr) (a_ (a_ tr tr) (a_ (a_ tr (a_ (leB c1) tr)) (a_ tr (a_ tr (a_ (a_ tr tr) tr)))))) (a_ (a_ (a_ tr tr) (a_ (a_ tr tr) tr)) tr))) tr) (by kernel_rfl) rfl
  · skip
    obtain ⟨y3, e2, h⟩ := bind_some h
    obtain rfl := Option.some.inj h
    exact run_ret mixed (L := []) (n := 26) (s := [.reg [], .reg [(2, { v := some (.bool false) })], .reg [], .reg [(3, { call := some (strings_trimRightByte_v y3, [], []) })]])
      (a_ (a_ (a_ (a_ tr tr) tr) (a_ (a_ (a_ tr tr) (a_ (a_ tr tr) (a_ (a_ tr (a_ (leB c1) tr)) (a_ (a_ tr tr) (a_ (a_ tr tr) (a_ (a_ tr tr) tr)))))) (a_ (a_ (a_ tr tr) (a_ (a_ tr tr) (a_ (a_ tr tr) (a_ (a_ tr tr) (a_ (a_ tr tr) (a_ (a_ (a_ (lei_ 0 0 rfl) (lti_ 0 1 rfl)) tr) (a_ (a_ tr tr) (a_ (a_ tr tr) tr)))))))) (a_ (a_ (a_ tr tr) (a_ (a_ tr tr) (a_ (a_ (a_ (lei_ 0 0 rfl) (lti_ 0 1 rfl)) tr) (a_ (a_ (a_ (strings_trimRightByte_tri s 0 y3 e2) tr) tr) (a_ (a_ tr tr) tr))))) tr)))) tr) (by kernel_rfl) rfl

theorem strings_TrimRight_tri (s : List UInt8) (r : (List UInt8)) (h : strings_TrimRight s = some r) : FnTri Tryd.prog 59 [.str s, .str ([0] : List UInt8)] [] (strings_TrimRight_v r) [] := FnTri.none (strings_TrimRight_ok s r h) rfl rfl

/-- internal/stringslite.IndexByte -/

def internal_stringslite_IndexByte_v (r : (Int)) : LV := .int .i64 r

def internal_stringslite_IndexByte (s : List UInt8) (c : Int) : Option ((Int)) :=
  some (Lib.indexByte s (c).toNat.toUInt8)

theorem internal_stringslite_IndexByte_ok (s : List UInt8) (c : Int) (r : (Int)) (h : internal_stringslite_IndexByte s c = some r) : ∀ σ, Inj 0 σ → FnTri Tryd.prog 82 (renL σ [.str s, .int .u8 c]) (preOf σ 0 []) ((internal_stringslite_IndexByte_v r).ren σ) (upOf σ []) := by
  refine fn_of Tryd.func82 (by kernel_rfl) (by kernel_rfl) (by kernel_rfl) trivial (by kernel_rfl) trivial (by kernel_rfl) ?_
  intro w0 W μ0 hμ
  unfold internal_stringslite_IndexByte at h
  obtain rfl := Option.some.inj h
  exact run_ret mixed (L := []) (n := 15) (s := [.reg [], .reg [(2, { ext := some (.int .i64 (Lib.indexByte s (c).toNat.toUInt8)) })]])
    (a_ (a_ (a_ (a_ tr tr) tr) (a_ (a_ (a_ tr tr) (a_ (a_ tr tr) (a_ (a_ (ext87 s c) tr) (a_ (a_ tr tr) tr)))) tr)) tr) (by kernel_rfl) rfl

theorem internal_stringslite_IndexByte_tri (s : List UInt8) (c : Int) (r : (Int)) (h : internal_stringslite_IndexByte s c = some r) : FnTri Tryd.prog 82 [.str s, .int .u8 c] [] (internal_stringslite_IndexByte_v r) [] := FnTri.none (internal_stringslite_IndexByte_ok s c r h) rfl rfl

/-- strings.IndexByte -/

def strings_IndexByte_v (r : (Int)) : LV := .int .i64 r

def strings_IndexByte (s : List UInt8) (c : Int) : Option ((Int)) :=
  (internal_stringslite_IndexByte s c).bind fun y2 =>
  some y2

theorem strings_IndexByte_ok (s : List UInt8) (c : Int) (r : (Int)) (h : strings_IndexByte s c = some r) : ∀ σ, Inj 0 σ → FnTri Tryd.prog 74 (renL σ [.str s, .int .u8 c]) (preOf σ 0 []) ((strings_IndexByte_v r).ren σ) (upOf σ []) := by
  refine fn_of Tryd.func74 (by kernel_rfl) (by kernel_rfl) (by kernel_rfl) trivial (by kernel_rfl) trivial (by kernel_rfl) ?_
  intro w0 W μ0 hμ
  unfold strings_IndexByte at h
  obtain ⟨y2, e1, h⟩ := bind_some h
  obtain rfl := Option.some.inj h
  exact run_ret mixed (L := []) (n := 15) (s := [.reg [], .reg [(2, { call := some (internal_stringslite_IndexByte_v y2, [], []) })]])
    (a_ (a_ (a_ (a_ tr tr) tr) (a_ (a_ (a_ tr tr) (a_ (a_ tr tr) (a_ (a_ (a_ (internal_stringslite_IndexByte_tri s c y2 e1) tr) tr) (a_ (a_ tr tr) tr)))) tr)) tr) (by kernel_rfl) rfl

theorem strings_IndexByte_tri (s : List UInt8) (c : Int) (r : (Int)) (h : strings_IndexByte s c = some r) : FnTri Tryd.prog 74 [.str s, .int .u8 c] [] (strings_IndexByte_v r) [] := FnTri.none (strings_IndexByte_ok s c r h) rfl rfl

/-- parrel/ids.KeyOf -/

def ids_KeyOf_v (r : (A8 (Int)) × (Int)) : LV := .tup [.agg [.int .u8 r.1.a0, .int .u8 r.1.a1, .int .u8 r.1.a2, .int .u8 r.1.a3, .int .u8 r.1.a4, .int .u8 r.1.a5, .int .u8 r.1.a6, .int .u8 r.1.a7], .int .i64 r.2]

def ids_KeyOf (s : List UInt8) : Option ((A8 (Int)) × (Int)) :=
  if ((s == []) : Bool) then
    some ((A8.mk 0 0 0 0 0 0 0 0), 1)
  else
    if ((decide (8 < ((s).length : Int))) : Bool) then
      some ((A8.mk 0 0 0 0 0 0 0 0), 1)
    else
      (strings_IndexByte s 0).bind fun y4 =>
      if ((decide (0 ≤ y4)) : Bool) then
        some ((A8.mk 0 0 0 0 0 0 0 0), 1)
      else
        some ((A8.mk (if 0 < (s).length then ((s.getD 0 0).toNat : Int) else 0) (if 1 < (s).length then ((s.getD 1 0).toNat : Int) else 0) (if 2 < (s).length then ((s.getD 2 0).toNat : Int) else 0) (if 3 < (s).length then ((s.getD 3 0).toNat : Int) else 0) (if 4 < (s).length then ((s.getD 4 0).toNat : Int) else 0) (if 5 < (s).length then ((s.getD 5 0).toNat : Int) else 0) (if 6 < (s).length then ((s.getD 6 0).toNat : Int) else 0) (if 7 < (s).length then ((s.getD 7 0).toNat : Int) else 0)), 0)

theorem ids_KeyOf_ok (s : List UInt8) (r : (A8 (Int)) × (Int)) (h : ids_KeyOf s = some r) : ∀ σ, Inj 0 σ → FnTri Tryd.prog 60 (renL σ [.str s]) (preOf σ 0 []) ((ids_KeyOf_v r).ren σ) (upOf σ []) := by
  refine fn_of Tryd.func60 (by kernel_rfl) (by kernel_rfl) (by kernel_rfl) trivial (by kernel_rfl) trivial (by kernel_rfl) ?_
  intro w0 W μ0 hμ
  unfold ids_KeyOf at h
  rcases itb_some h with ⟨c1, h⟩ | ⟨c1, h⟩
  · skip
    obtain rfl := Option.some.inj h
    exact run_ret mixed (L := []) (n := 23) (s := [.reg [], .reg [], .reg [(2, { v := some (.bool true) })], .reg []])
      (a_ (a_ (a_ (a_ tr tr) (a_ (a_ tr tr) tr)) (a_ (a_ (a_ tr tr) tr) (a_ (a_ (a_ tr tr) (a_ (a_ tr tr) (a_ (a_ tr (a_ (leB c1) tr)) (a_ tr (a_ tr (a_ tr (a_ (a_ tr tr) (a_ (a_ tr tr) (a_ tr (a_ tr (a_ tr (a_ (a_ tr tr) tr)))))))))))) (a_ (a_ (a_ (a_ tr (le_ 8 8 rfl)) tr) (a_ (a_ (a_ (Eq.refl 8) (a_ (le_ 8 8 rfl) (Eq.refl 0))) tr) (a_ (a_ tr tr) tr))) tr)))) (a_ (a_ tr (le_ 8 8 rfl)) tr)) (by kernel_rfl) rfl
  · skip
    rcases itb_some h with ⟨c2, h⟩ | ⟨c2, h⟩
    · skip
      obtain rfl := Option.some.inj h
      exact run_ret mixed (L := []) (n := 23) (s := [.reg [], .reg [], .reg [(2, { v := some (.bool false) }), (7, { v := some (.bool true) })], .reg []])
        (a_ (a_ (a_ (a_ tr tr) (a_ (a_ tr tr) tr)) (a_ (a_ (a_ tr tr) tr) (a_ (a_ (a_ tr tr) (a_ (a_ tr tr) (a_ (a_ tr (a_ (leB c1) tr)) (a_ (a_ tr tr) (a_ (a_ tr tr) (a_ (a_ tr tr) (a_ (a_ tr tr) (a_ (a_ tr (a_ (leB c2) tr)) (a_ tr (a_ tr (a_ tr (a_ (a_ tr tr) tr)))))))))))) (a_ (a_ (a_ (a_ tr (le_ 8 8 rfl)) tr) (a_ (a_ (a_ (Eq.refl 8) (a_ (le_ 8 8 rfl) (Eq.refl 0))) tr) (a_ (a_ tr tr) tr))) tr)))) (a_ (a_ tr (le_ 8 8 rfl)) tr)) (by kernel_rfl) rfl
    · skip
      obtain ⟨y4, e3, h⟩ := bind_some h
      rcases itb_some h with ⟨c5, h⟩ | ⟨c5, h⟩
      · skip
        obtain rfl := Option.some.inj h
        exact run_ret mixed (L := []) (n := 23) (s := [.reg [], .reg [], .reg [(2, { v := some (.bool false) }), (7, { v := some (.bool false) }), (9, { call := some (strings_IndexByte_v y4, [], []) }), (11, { v := some (.bool true) })], .reg []])
          (a_ (a_ (a_ (a_ tr tr) (a_ (a_ tr tr) tr)) (a_ (a_ (a_ tr tr) tr) (a_ (a_ (a_ tr tr) (a_ (a_ tr tr) (a_ (a_ tr (a_ (leB c1) tr)) (a_ (a_ tr tr) (a_ (a_ tr tr) (a_ (a_ tr tr) (a_ (a_ tr tr) (a_ (a_ tr (a_ (leB c2) tr)) (a_ (a_ tr tr) (a_ (a_ (a_ (strings_IndexByte_tri s 0 y4 e3) tr) tr) (a_ (a_ tr tr) (a_ (a_ tr (a_ (leB c5) tr)) tr)))))))))))) (a_ (a_ (a_ (a_ tr (le_ 8 8 rfl)) tr) (a_ (a_ (a_ (Eq.refl 8) (a_ (le_ 8 8 rfl) (Eq.refl 0))) tr) (a_ (a_ tr tr) tr))) tr)))) (a_ (a_ tr (le_ 8 8 rfl)) tr)) (by kernel_rfl) rfl
      · skip
        obtain rfl := Option.some.inj h
        exact run_ret mixed (L := []) (n := 27) (s := [.reg [], .reg [], .reg [(2, { v := some (.bool false) }), (7, { v := some (.bool false) }), (9, { call := some (strings_IndexByte_v y4, [], []) }), (11, { v := some (.bool false) })], .reg [], .reg []])
          (a_ (a_ (a_ (a_ tr tr) (a_ (a_ tr tr) tr)) (a_ (a_ (a_ tr tr) tr) (a_ (a_ (a_ tr tr) (a_ (a_ tr tr) (a_ (a_ tr (a_ (leB c1) tr)) (a_ (a_ tr tr) (a_ (a_ tr tr) (a_ (a_ tr tr) (a_ (a_ tr tr) (a_ (a_ tr (a_ (leB c2) tr)) (a_ (a_ tr tr) (a_ (a_ (a_ (strings_IndexByte_tri s 0 y4 e3) tr) tr) (a_ (a_ tr tr) (a_ (a_ tr (a_ (leB c5) tr)) tr)))))))))))) (a_ (a_ (a_ (a_ (lei_ 0 0 rfl) (a_ (lei_ 0 8 rfl) (lei_ 8 8 rfl))) tr) (a_ (a_ tr tr) (a_ (a_ (a_ (Eq.refl 1) (a_ (Eq.refl 0) (a_ (le_ 8 8 rfl) (Eq.refl true)))) tr) tr))) (a_ (a_ (a_ (a_ tr (le_ 8 8 rfl)) tr) (a_ (a_ (a_ (Eq.refl 8) (a_ (le_ 8 8 rfl) (Eq.refl 0))) tr) (a_ (a_ tr tr) tr))) tr))))) (a_ (a_ tr (le_ 8 8 rfl)) tr)) (by kernel_rfl) rfl

theorem ids_KeyOf_tri (s : List UInt8) (r : (A8 (Int)) × (Int)) (h : ids_KeyOf s = some r) : FnTri Tryd.prog 60 [.str s] [] (ids_KeyOf_v r) [] := FnTri.none (ids_KeyOf_ok s r h) rfl rfl

/-- parrel/ids.Name -/

def ids_Name_v (r : (List UInt8) × (Bool)) : LV := .tup [.str r.1, .bool r.2]

def ids_Name (x_k : A8 (Int)) : Option ((List UInt8) × (Bool)) :=
  (strings_TrimRight (strI (([x_k.a0, x_k.a1, x_k.a2, x_k.a3, x_k.a4, x_k.a5, x_k.a6, x_k.a7] : List Int).take 8))).bind fun y2 =>
  (ids_KeyOf y2).bind fun y4 =>
  if ((y4.2 != 0) : Bool) then
    some ([], false)
  else
    if ((!decide (y4.1 = x_k)) : Bool) then
      some ([], false)
    else
      some (y2, true)

theorem ids_Name_ok (x_k : A8 (Int)) (r : (List UInt8) × (Bool)) (h : ids_Name x_k = some r) : ∀ σ, Inj 0 σ → FnTri Tryd.prog 43 (renL σ [.agg [.int .u8 x_k.a0, .int .u8 x_k.a1, .int .u8 x_k.a2, .int .u8 x_k.a3, .int .u8 x_k.a4, .int .u8 x_k.a5, .int .u8 x_k.a6, .int .u8 x_k.a7]]) (preOf σ 0 []) ((ids_Name_v r).ren σ) (upOf σ []) := by
  refine fn_of Tryd.func43 (by kernel_rfl) (by kernel_rfl) (by kernel_rfl) trivial (by kernel_rfl) trivial (by kernel_rfl) ?_
  intro w0 W μ0 hμ
  unfold ids_Name at h
  obtain ⟨y2, e1, h⟩ := bind_some h
  obtain ⟨y4, e3, h⟩ := bind_some h
  rcases itb_some h with ⟨c5, h⟩ | ⟨c5, h⟩
  · skip
    obtain rfl := Option.some.inj h
    exact run_ret mixed (L := []) (n := 26) (s := [.reg [], .reg [(1, { v := some (.str (strI (([x_k.a0, x_k.a1, x_k.a2, x_k.a3, x_k.a4, x_k.a5, x_k.a6, x_k.a7] : List Int).take 8))) }), (2, { call := some (strings_TrimRight_v y2, [], []) })], .reg [(1, { call := some (ids_KeyOf_v y4, [], []) })], .reg [(2, { v := some (.bool true) })], .reg []])
      (a_ (a_ (a_ (a_ tr tr) (a_ (a_ tr tr) (a_ (a_ tr tr) tr))) (a_ (a_ (a_ (a_ (lei_ 0 0 rfl) (a_ (lei_ 0 8 rfl) (lei_ 8 8 rfl))) tr) (a_ (a_ (arr_ob [x_k.a0, x_k.a1, x_k.a2, x_k.a3, x_k.a4, x_k.a5, x_k.a6, x_k.a7] 8 8 (le_ 8 8 rfl) rfl) (a_ (le_arr [x_k.a0, x_k.a1, x_k.a2, x_k.a3, x_k.a4, x_k.a5, x_k.a6, x_k.a7] 8 8 (le_ 8 8 rfl) rfl) tr)) (a_ (a_ (a_ (strings_TrimRight_tri (strI (([x_k.a0, x_k.a1, x_k.a2, x_k.a3, x_k.a4, x_k.a5, x_k.a6, x_k.a7] : List Int).take 8)) y2 e1) tr) tr) (a_ (a_ tr tr) tr)))) (a_ (a_ (a_ tr tr) (a_ (a_ (a_ (ids_KeyOf_tri y2 y4 e3) tr) tr) (a_ (a_ tr tr) (a_ (a_ tr tr) (a_ (a_ tr tr) (a_ (a_ tr tr) (a_ (a_ (a_ (Eq.refl 8) (a_ (le_ 8 8 rfl) (Eq.refl 0))) tr) (a_ (a_ tr tr) tr)))))))) (a_ (a_ (a_ tr tr) (a_ (a_ tr tr) (a_ (a_ tr (a_ (leB c5) tr)) (a_ tr (a_ tr (a_ tr (a_ (a_ tr tr) tr))))))) (a_ (a_ (a_ tr tr) (a_ (a_ tr tr) tr)) tr))))) tr) (by kernel_rfl) rfl
  · skip
    rcases itb_some h with ⟨c6, h⟩ | ⟨c6, h⟩
    · skip
      obtain rfl := Option.some.inj h
      exact run_ret mixed (L := []) (n := 26) (s := [.reg [], .reg [(1, { v := some (.str (strI (([x_k.a0, x_k.a1, x_k.a2, x_k.a3, x_k.a4, x_k.a5, x_k.a6, x_k.a7] : List Int).take 8))) }), (2, { call := some (strings_TrimRight_v y2, [], []) })], .reg [(1, { call := some (ids_KeyOf_v y4, [], []) })], .reg [(2, { v := some (.bool false) }), (5, { v := some (.bool (!decide (y4.1 = x_k))) }), (6, { v := some (.bool true) })], .reg []])
        (a_ (a_ (a_ (a_ tr tr) (a_ (a_ tr tr) (a_ (a_ tr tr) tr))) (a_ (a_ (a_ (a_ (lei_ 0 0 rfl) (a_ (lei_ 0 8 rfl) (lei_ 8 8 rfl))) tr) (a_ (a_ (arr_ob [x_k.a0, x_k.a1, x_k.a2, x_k.a3, x_k.a4, x_k.a5, x_k.a6, x_k.a7] 8 8 (le_ 8 8 rfl) rfl) (a_ (le_arr [x_k.a0, x_k.a1, x_k.a2, x_k.a3, x_k.a4, x_k.a5, x_k.a6, x_k.a7] 8 8 (le_ 8 8 rfl) rfl) tr)) (a_ (a_ (a_ (strings_TrimRight_tri (strI (([x_k.a0, x_k.a1, x_k.a2, x_k.a3, x_k.a4, x_k.a5, x_k.a6, x_k.a7] : List Int).take 8)) y2 e1) tr) tr) (a_ (a_ tr tr) tr)))) (a_ (a_ (a_ tr tr) (a_ (a_ (a_ (ids_KeyOf_tri y2 y4 e3) tr) tr) (a_ (a_ tr tr) (a_ (a_ tr tr) (a_ (a_ tr tr) (a_ (a_ tr tr) (a_ (a_ (a_ (Eq.refl 8) (a_ (le_ 8 8 rfl) (Eq.refl 0))) tr) (a_ (a_ tr tr) tr)))))))) (a_ (a_ (a_ tr tr) (a_ (a_ tr tr) (a_ (a_ tr (a_ (leB c5) tr)) (a_ (a_ (a_ tr (le_ 8 8 rfl)) tr) (a_ (a_ (a_ tr (le_ 8 8 rfl)) tr) (a_ (a_ tr (a_ (leB (congrArg not ((k_arr8 .u8) y4.1 x_k))) tr)) (a_ (a_ tr (a_ (leB c6) tr)) tr))))))) (a_ (a_ (a_ tr tr) (a_ (a_ tr tr) tr)) tr))))) tr) (by kernel_rfl) rfl
    · skip
      obtain rfl := Option.some.inj h
      exact run_ret mixed (L := []) (n := 27) (s := [.reg [], .reg [(1, { v := some (.str (strI (([x_k.a0, x_k.a1, x_k.a2, x_k.a3, x_k.a4, x_k.a5, x_k.a6, x_k.a7] : List Int).take 8))) }), (2, { call := some (strings_TrimRight_v y2, [], []) })], .reg [(1, { call := some (ids_KeyOf_v y4, [], []) })], .reg [(2, { v := some (.bool false) }), (5, { v := some (.bool (!decide (y4.1 = x_k))) }), (6, { v := some (.bool false) })], .reg []])
        (a_ (a_ (a_ (a_ tr tr) (a_ (a_ tr tr) (a_ (a_ tr tr) tr))) (a_ (a_ (a_ (a_ (lei_ 0 0 rfl) (a_ (lei_ 0 8 rfl) (lei_ 8 8 rfl))) tr) (a_ (a_ (arr_ob [x_k.a0, x_k.a1, x_k.a2, x_k.a3, x_k.a4, x_k.a5, x_k.a6, x_k.a7] 8 8 (le_ 8 8 rfl) rfl) (a_ (le_arr [x_k.a0, x_k.a1, x_k.a2, x_k.a3, x_k.a4, x_k.a5, x_k.a6, x_k.a7] 8 8 (le_ 8 8 rfl) rfl) tr)) (a_ (a_ (a_ (strings_TrimRight_tri (strI (([x_k.a0, x_k.a1, x_k.a2, x_k.a3, x_k.a4, x_k.a5, x_k.a6, x_k.a7] : List Int).take 8)) y2 e1) tr) tr) (a_ (a_ tr tr) tr)))) (a_ (a_ (a_ tr tr) (a_ (a_ (a_ (ids_KeyOf_tri y2 y4 e3) tr) tr) (a_ (a_ tr tr) (a_ (a_ tr tr) (a_ (a_ tr tr) (a_ (a_ tr tr) (a_ (a_ (a_ (Eq.refl 8) (a_ (le_ 8 8 rfl) (Eq.refl 0))) tr) (a_ (a_ tr tr) tr)))))))) (a_ (a_ (a_ tr tr) (a_ (a_ tr tr) (a_ (a_ tr (a_ (leB c5) tr)) (a_ (a_ (a_ tr (le_ 8 8 rfl)) tr) (a_ (a_ (a_ tr (le_ 8 8 rfl)) tr) (a_ (a_ tr (a_ (leB (congrArg not ((k_arr8 .u8) y4.1 x_k))) tr)) (a_ (a_ tr (a_ (leB c6) tr)) tr))))))) (a_ (a_ (a_ tr tr) (a_ (a_ tr tr) (a_ (a_ tr tr) tr))) tr))))) tr) (by kernel_rfl) rfl

theorem ids_Name_tri (x_k : A8 (Int)) (r : (List UInt8) × (Bool)) (h : ids_Name x_k = some r) : FnTri Tryd.prog 43 [.agg [.int .u8 x_k.a0, .int .u8 x_k.a1, .int .u8 x_k.a2, .int .u8 x_k.a3, .int .u8 x_k.a4, .int .u8 x_k.a5, .int .u8 x_k.a6, .int .u8 x_k.a7]] [] (ids_Name_v r) [] := FnTri.none (ids_Name_ok x_k r h) rfl rfl

/-- parrel/ids.isCount -/

def ids_isCount_v (r : (Bool)) : LV := .bool r

def ids_isCount (x_n : Int) : Option ((Bool)) :=
  some (decide ((IntKind.wrap .u32 (x_n - 1)) < 2147483647))

theorem ids_isCount_ok (x_n : Int) (r : (Bool)) (h : ids_isCount x_n = some r) : ∀ σ, Inj 0 σ → FnTri Tryd.prog 61 (renL σ [.int .u32 x_n]) (preOf σ 0 []) ((ids_isCount_v r).ren σ) (upOf σ []) := by
  refine fn_of Tryd.func61 (by kernel_rfl) (by kernel_rfl) (by kernel_rfl) trivial (by kernel_rfl) trivial (by kernel_rfl) ?_
  intro w0 W μ0 hμ
  unfold ids_isCount at h
  obtain rfl := Option.some.inj h
  exact run_ret mixed (L := []) (n := 15) (s := [.reg [], .reg []])
    (a_ (a_ (a_ (a_ tr tr) tr) (a_ (a_ (a_ tr tr) (a_ (a_ tr tr) (a_ (a_ tr tr) (a_ (a_ tr tr) tr)))) tr)) tr) (by kernel_rfl) rfl

theorem ids_isCount_tri (x_n : Int) (r : (Bool)) (h : ids_isCount x_n = some r) : FnTri Tryd.prog 61 [.int .u32 x_n] [] (ids_isCount_v r) [] := FnTri.none (ids_isCount_ok x_n r h) rfl rfl

/-- parrel/ids.RegMay -/

def ids_RegMay_v (r : (Bool)) : LV := .bool r

def ids_RegMay (g : T_api_Reg) : Option ((Bool)) :=
  (ids_isCount g.f_Boot).bind fun y2 =>
  if (y2 : Bool) then
    (ids_isCount g.f_N).bind fun y5 =>
    some y5
  else
    some false

theorem ids_RegMay_ok (g : T_api_Reg) (r : (Bool)) (h : ids_RegMay g = some r) : ∀ σ, Inj 0 σ → FnTri Tryd.prog 45 (renL σ [v_T_api_Reg g]) (preOf σ 0 []) ((ids_RegMay_v r).ren σ) (upOf σ []) := by
  refine fn_of Tryd.func45 (by kernel_rfl) (by kernel_rfl) (by kernel_rfl) trivial (by kernel_rfl) trivial (by kernel_rfl) ?_
  intro w0 W μ0 hμ
  unfold ids_RegMay at h
  obtain ⟨y2, e1, h⟩ := bind_some h
  rcases itb_some h with ⟨c3, h⟩ | ⟨c3, h⟩
  · skip
    obtain ⟨y5, e4, h⟩ := bind_some h
    obtain rfl := Option.some.inj h
    exact run_ret mixed (L := []) (n := 15) (s := [.reg [], .reg [(2, { call := some (ids_isCount_v y2, [], []) }), (3, { v := some (.bool true) }), (6, { call := some (ids_isCount_v y5, [], []) })]])
      (a_ (a_ (a_ (a_ tr tr) (a_ (a_ tr tr) tr)) (a_ (a_ (a_ tr tr) (a_ (a_ (a_ tr (lt_ 0 2 rfl)) tr) (a_ (a_ (a_ (ids_isCount_tri g.f_Boot y2 e1) tr) tr) (a_ (a_ tr (a_ (leB c3) tr)) (a_ (a_ tr tr) (a_ (a_ (a_ tr (lt_ 1 2 rfl)) tr) (a_ (a_ (a_ (ids_isCount_tri g.f_N y5 e4) tr) tr) (a_ (a_ tr tr) (a_ (a_ tr tr) tr))))))))) tr)) tr) (by kernel_rfl) rfl
  · skip
    obtain rfl := Option.some.inj h
    exact run_ret mixed (L := []) (n := 15) (s := [.reg [], .reg [(2, { call := some (ids_isCount_v y2, [], []) }), (3, { v := some (.bool false) })]])
      (a_ (a_ (a_ (a_ tr tr) (a_ (a_ tr tr) tr)) (a_ (a_ (a_ tr tr) (a_ (a_ (a_ tr (lt_ 0 2 rfl)) tr) (a_ (a_ (a_ (ids_isCount_tri g.f_Boot y2 e1) tr) tr) (a_ (a_ tr (a_ (leB c3) tr)) (a_ tr (a_ tr (a_ tr (a_ (a_ tr tr) (a_ (a_ tr tr) tr))))))))) tr)) tr) (by kernel_rfl) rfl

theorem ids_RegMay_tri (g : T_api_Reg) (r : (Bool)) (h : ids_RegMay g = some r) : FnTri Tryd.prog 45 [v_T_api_Reg g] [] (ids_RegMay_v r) [] := FnTri.none (ids_RegMay_ok g r h) rfl rfl

/-- (parrel/miss.Lock).may$1 -/

def miss_Lock_may_L1_v (r : (Bool)) : LV := .bool r

def miss_Lock_may_L1 (x : T_gather_Got) : Option ((Bool)) :=
  if ((decide (8 ≤ x.f_Node)) : Bool) then
    some true
  else
    (ids_RegMay x.f_Reg).bind fun y3 =>
    some (!y3)

theorem miss_Lock_may_L1_ok (x : T_gather_Got) (r : (Bool)) (h : miss_Lock_may_L1 x = some r) : ∀ σ, Inj 0 σ → FnTri Tryd.prog 44 (renL σ [v_T_gather_Got x]) (preOf σ 0 []) ((miss_Lock_may_L1_v r).ren σ) (upOf σ []) := by
  refine fn_of Tryd.func44 (by kernel_rfl) (by kernel_rfl) (by kernel_rfl) trivial (by kernel_rfl) trivial (by kernel_rfl) ?_
  intro w0 W μ0 hμ
  unfold miss_Lock_may_L1 at h
  rcases itb_some h with ⟨c1, h⟩ | ⟨c1, h⟩
  · skip
    obtain rfl := Option.some.inj h
    exact run_ret mixed (L := []) (n := 15) (s := [.reg [], .reg [(3, { v := some (.bool true) })]])
      (a_ (a_ (a_ (a_ tr tr) (a_ (a_ tr tr) tr)) (a_ (a_ (a_ tr tr) (a_ (a_ (a_ tr (lt_ 0 16 rfl)) tr) (a_ (a_ tr tr) (a_ (a_ tr (a_ (leB c1) tr)) (a_ tr (a_ tr (a_ tr (a_ tr (a_ (a_ tr tr) (a_ (a_ tr tr) tr)))))))))) tr)) tr) (by kernel_rfl) rfl
  · skip
    obtain ⟨y3, e2, h⟩ := bind_some h
    obtain rfl := Option.some.inj h
    exact run_ret mixed (L := []) (n := 15) (s := [.reg [], .reg [(3, { v := some (.bool false) }), (6, { call := some (ids_RegMay_v y3, [], []) })]])
      (a_ (a_ (a_ (a_ tr tr) (a_ (a_ tr tr) tr)) (a_ (a_ (a_ tr tr) (a_ (a_ (a_ tr (lt_ 0 16 rfl)) tr) (a_ (a_ tr tr) (a_ (a_ tr (a_ (leB c1) tr)) (a_ (a_ tr tr) (a_ (a_ (a_ tr (le_ 3 16 rfl)) tr) (a_ (a_ (a_ (ids_RegMay_tri x.f_Reg y3 e2) tr) tr) (a_ (a_ tr tr) (a_ (a_ tr tr) (a_ (a_ tr tr) tr)))))))))) tr)) tr) (by kernel_rfl) rfl

theorem miss_Lock_may_L1_tri (x : T_gather_Got) (r : (Bool)) (h : miss_Lock_may_L1 x = some r) : FnTri Tryd.prog 44 [v_T_gather_Got x] [] (miss_Lock_may_L1_v r) [] := FnTri.none (miss_Lock_may_L1_ok x r h) rfl rfl

/-- slices.IndexFunc[[]parrel/gather.Got,parrel/gather.Got] -/

def slices_IndexFunc_gather_Got_gather_Got_v (r : (Int)) : LV := .int .i64 r

def slices_IndexFunc_gather_Got_gather_Got_T0 (s : List (T_gather_Got)) (t8 : Int) : List LV := [.ds 16 (s).length (rowF c_T_gather_Got default s), .fn 44 [] [], .any, .any, .any, .any, .any, .int .i64 ((s).length : Int), .int .i64 t8, .any, .any, .any, .any, .any, .any, .any, .any, .any, .any]

def slices_IndexFunc_gather_Got_gather_Got_H0 (s : List (T_gather_Got)) (t8 : Int) : Heap := []

def slices_IndexFunc_gather_Got_gather_Got_l0 (s : List (T_gather_Got))  : Nat → (Int) → Option ((Int))
  | 0, _ => none
  | fuel + 1, t8 =>
    if ((decide (t8 < ((s).length : Int))) : Bool) then
      if 0 ≤ t8 ∧ t8 < (((s).length : Nat) : Int) then
      (miss_Lock_may_L1 (s.getD t8.toNat default)).bind fun yL0_4 =>
      if (yL0_4 : Bool) then
        some t8
      else
        slices_IndexFunc_gather_Got_gather_Got_l0 s  fuel (IntKind.wrap .i64 (t8 + 1))
      else none
    else
      some (-1)

def slices_IndexFunc_gather_Got_gather_Got (s : List (T_gather_Got)) : Option ((Int)) :=
  slices_IndexFunc_gather_Got_gather_Got_l0 s  big 0

theorem slices_IndexFunc_gather_Got_gather_Got_l0_ok {w0 : World} {W : Nat → Prop} {μ0 : Emb} (hμ : ∀ c p, μ0 c = some p → c < 0) (s : List (T_gather_Got))  : ∀ (fuel : Nat) (t8 : Int) (r : (Int)), slices_IndexFunc_gather_Got_gather_Got_l0 s  fuel t8 = some r → kont Tryd.prog w0 W μ0 (FnPost Tryd.prog Tryd.f62 0 0 (slices_IndexFunc_gather_Got_gather_Got_v r) []) (kAt (bodyOf Tryd.f62) 0) none (slices_IndexFunc_gather_Got_gather_Got_T0 s t8) (slices_IndexFunc_gather_Got_gather_Got_H0 s t8) := by
  intro fuel
  induction fuel with
  | zero => intro t8 r h; rw [slices_IndexFunc_gather_Got_gather_Got_l0] at h; cases h
  | succ fuel ih =>
    intro t8 r h
    rw [slices_IndexFunc_gather_Got_gather_Got_l0] at h
    rcases itb_some h with ⟨cL0_1, h⟩ | ⟨cL0_1, h⟩
    · skip
      obtain ⟨gL0_2, h⟩ := guard_some h
      obtain ⟨yL0_4, eL0_3, h⟩ := bind_some h
      rcases itb_some h with ⟨cL0_5, h⟩ | ⟨cL0_5, h⟩
      · skip
        obtain rfl := Option.some.inj h
        exact run_ret mixed (L := []) (n := 28) (s := [.go, .reg [(0, { v := some (.bool true) })], .reg [], .reg [(5, { call := some (miss_Lock_may_L1_v yL0_4, [], []), v := some (.bool true) })], .reg []])
          (a_ (a_ (a_ (a_ tr (a_ (leB cL0_1) tr)) tr) (a_ (a_ (a_ tr tr) (a_ (a_ tr tr) tr)) (a_ (a_ (a_ tr tr) (a_ (a_ tr tr) (a_ (a_ tr tr) (a_ (a_ (a_ (Eq.refl 16) gL0_2) tr) (a_ (a_ (le_ 16 16 rfl) tr) (a_ (a_ (a_ (miss_Lock_may_L1_tri (s.getD t8.toNat default) yL0_4 eL0_3) tr) (a_ (leB cL0_5) tr)) tr)))))) (a_ (a_ (a_ tr tr) (a_ (a_ tr tr) tr)) tr)))) tr) (by kernel_rfl) rfl
      · skip
        exact run_to mixed hμ (L := []) (n := 29) (s := [.go, .reg [(0, { v := some (.bool true) })], .reg [], .reg [(5, { call := some (miss_Lock_may_L1_v yL0_4, [], []), v := some (.bool false) })], .reg []])
          (a_ (a_ (a_ tr (a_ (leB cL0_1) tr)) tr) (a_ (a_ (a_ tr tr) (a_ (a_ tr tr) tr)) (a_ (a_ (a_ tr tr) (a_ (a_ tr tr) (a_ (a_ tr tr) (a_ (a_ (a_ (Eq.refl 16) gL0_2) tr) (a_ (a_ (le_ 16 16 rfl) tr) (a_ (a_ (a_ (miss_Lock_may_L1_tri (s.getD t8.toNat default) yL0_4 eL0_3) tr) (a_ (leB cL0_5) tr)) tr)))))) (a_ (a_ (a_ tr tr) (a_ (a_ tr tr) tr)) tr)))) (ih _ r h) (by kernel_rfl) trivial
    · skip
      obtain rfl := Option.some.inj h
      exact run_ret mixed (L := []) (n := 19) (s := [.go, .reg [(0, { v := some (.bool false) })], .reg []])
        (a_ (a_ (a_ (a_ tr (a_ (leB cL0_1) tr)) tr) (a_ (a_ (a_ tr tr) tr) tr)) tr) (by kernel_rfl) rfl

theorem slices_IndexFunc_gather_Got_gather_Got_ok (s : List (T_gather_Got)) (r : (Int)) (h : slices_IndexFunc_gather_Got_gather_Got s = some r) : ∀ σ, Inj 0 σ → FnTri Tryd.prog 62 (renL σ [.ds 16 (s).length (rowF c_T_gather_Got default s), .fn 44 [] []]) (preOf σ 0 []) ((slices_IndexFunc_gather_Got_gather_Got_v r).ren σ) (upOf σ []) := by
  refine fn_of Tryd.func62 (by kernel_rfl) (by kernel_rfl) (by kernel_rfl) trivial (by kernel_rfl) trivial (by kernel_rfl) ?_
  intro w0 W μ0 hμ
  unfold slices_IndexFunc_gather_Got_gather_Got at h
  exact run_to mixed hμ (L := []) (n := 18) (s := [.reg [], .reg []])
    (a_ (a_ (a_ tr tr) tr) (a_ (a_ (a_ tr tr) (a_ (a_ tr tr) (a_ (a_ tr tr) tr))) tr)) (slices_IndexFunc_gather_Got_gather_Got_l0_ok hμ s  big _ r h) (by kernel_rfl) trivial

theorem slices_IndexFunc_gather_Got_gather_Got_tri (s : List (T_gather_Got)) (r : (Int)) (h : slices_IndexFunc_gather_Got_gather_Got s = some r) : FnTri Tryd.prog 62 [.ds 16 (s).length (rowF c_T_gather_Got default s), .fn 44 [] []] [] (slices_IndexFunc_gather_Got_gather_Got_v r) [] := FnTri.none (slices_IndexFunc_gather_Got_gather_Got_ok s r h) rfl rfl

/-- slices.ContainsFunc[[]parrel/gather.Got,parrel/gather.Got] -/

def slices_ContainsFunc_gather_Got_gather_Got_v (r : (Bool)) : LV := .bool r

def slices_ContainsFunc_gather_Got_gather_Got (s : List (T_gather_Got)) : Option ((Bool)) :=
  (slices_IndexFunc_gather_Got_gather_Got s).bind fun y2 =>
  some (decide (0 ≤ y2))

theorem slices_ContainsFunc_gather_Got_gather_Got_ok (s : List (T_gather_Got)) (r : (Bool)) (h : slices_ContainsFunc_gather_Got_gather_Got s = some r) : ∀ σ, Inj 0 σ → FnTri Tryd.prog 46 (renL σ [.ds 16 (s).length (rowF c_T_gather_Got default s), .fn 44 [] []]) (preOf σ 0 []) ((slices_ContainsFunc_gather_Got_gather_Got_v r).ren σ) (upOf σ []) := by
  refine fn_of Tryd.func46 (by kernel_rfl) (by kernel_rfl) (by kernel_rfl) trivial (by kernel_rfl) trivial (by kernel_rfl) ?_
  intro w0 W μ0 hμ
  unfold slices_ContainsFunc_gather_Got_gather_Got at h
  obtain ⟨y2, e1, h⟩ := bind_some h
  obtain rfl := Option.some.inj h
  exact run_ret mixed (L := []) (n := 15) (s := [.reg [], .reg [(2, { call := some (slices_IndexFunc_gather_Got_gather_Got_v y2, [], []) })]])
    (a_ (a_ (a_ (a_ tr tr) tr) (a_ (a_ (a_ tr tr) (a_ (a_ tr tr) (a_ (a_ (a_ (slices_IndexFunc_gather_Got_gather_Got_tri s y2 e1) tr) tr) (a_ (a_ tr tr) (a_ (a_ tr tr) tr))))) tr)) tr) (by kernel_rfl) rfl

theorem slices_ContainsFunc_gather_Got_gather_Got_tri (s : List (T_gather_Got)) (r : (Bool)) (h : slices_ContainsFunc_gather_Got_gather_Got s = some r) : FnTri Tryd.prog 46 [.ds 16 (s).length (rowF c_T_gather_Got default s), .fn 44 [] []] [] (slices_ContainsFunc_gather_Got_gather_Got_v r) [] := FnTri.none (slices_ContainsFunc_gather_Got_gather_Got_ok s r h) rfl rfl

/-- (parrel/miss.Lock).may -/

def miss_Lock_may_v (r : (Bool)) : LV := .bool r

def miss_Lock_may (l : T_miss_Lock) : Option ((Bool)) :=
  (ids_Name l.f_Key).bind fun y2 =>
  if (y2.2 : Bool) then
    if ((l.f_Mode == 1) : Bool) then
      (slices_ContainsFunc_gather_Got_gather_Got l.f_Got).bind fun y6 =>
      some (!y6)
    else
      if ((l.f_Mode == 2) : Bool) then
        (slices_ContainsFunc_gather_Got_gather_Got l.f_Got).bind fun y7 =>
        some (!y7)
      else
        some false
  else
    some false

theorem miss_Lock_may_ok (l : T_miss_Lock) (r : (Bool)) (h : miss_Lock_may l = some r) : ∀ σ, Inj 0 σ → FnTri Tryd.prog 22 (renL σ [v_T_miss_Lock l]) (preOf σ 0 []) ((miss_Lock_may_v r).ren σ) (upOf σ []) := by
  refine fn_of Tryd.func22 (by kernel_rfl) (by kernel_rfl) (by kernel_rfl) trivial (by kernel_rfl) trivial (by kernel_rfl) ?_
  intro w0 W μ0 hμ
  unfold miss_Lock_may at h
  obtain ⟨y2, e1, h⟩ := bind_some h
  rcases itb_some h with ⟨c3, h⟩ | ⟨c3, h⟩
  · skip
    rcases itb_some h with ⟨c4, h⟩ | ⟨c4, h⟩
    · skip
      obtain ⟨y6, e5, h⟩ := bind_some h
      obtain rfl := Option.some.inj h
      exact run_ret mixed (L := []) (n := 21) (s := [.reg [], .reg [(2, { call := some (ids_Name_v y2, [], []) })], .reg [], .reg [(1, { v := some (.bool true) }), (5, { v := some (.bool true) }), (15, { call := some (slices_ContainsFunc_gather_Got_gather_Got_v y6, [], []) })]])
        (a_ (a_ (a_ (a_ tr tr) (a_ (a_ tr tr) tr)) (a_ (a_ (a_ tr tr) (a_ (a_ (a_ tr (le_ 8 10 rfl)) tr) (a_ (a_ (a_ (ids_Name_tri l.f_Key y2 e1) tr) tr) (a_ (a_ tr tr) (a_ (a_ tr tr) (a_ (a_ tr tr) (a_ (a_ tr tr) (a_ (a_ tr tr) tr)))))))) (a_ (a_ (a_ tr tr) tr) (a_ (a_ (a_ tr tr) (a_ (a_ tr (a_ (leB c3) tr)) (a_ (a_ tr tr) (a_ (a_ (a_ tr (lt_ 8 10 rfl)) tr) (a_ (a_ tr tr) (a_ (a_ tr (a_ (leB c4) tr)) (a_ tr (a_ tr (a_ tr (a_ (a_ tr tr) (a_ (a_ tr tr) (a_ (a_ tr tr) (a_ (a_ tr tr) (a_ (a_ (a_ tr (lt_ 9 10 rfl)) tr) (a_ (a_ tr tr) (a_ (a_ (a_ (slices_ContainsFunc_gather_Got_gather_Got_tri l.f_Got y6 e5) tr) tr) (a_ (a_ tr tr) (a_ (a_ tr tr) (a_ (a_ tr tr) tr))))))))))))))))))) tr)))) tr) (by kernel_rfl) rfl
    · skip
      rcases itb_some h with ⟨c5, h⟩ | ⟨c5, h⟩
      · skip
        obtain ⟨y7, e6, h⟩ := bind_some h
        obtain rfl := Option.some.inj h
        exact run_ret mixed (L := []) (n := 21) (s := [.reg [], .reg [(2, { call := some (ids_Name_v y2, [], []) })], .reg [], .reg [(1, { v := some (.bool true) }), (5, { v := some (.bool false) }), (11, { v := some (.bool true) }), (15, { call := some (slices_ContainsFunc_gather_Got_gather_Got_v y7, [], []) })]])
          (a_ (a_ (a_ (a_ tr tr) (a_ (a_ tr tr) tr)) (a_ (a_ (a_ tr tr) (a_ (a_ (a_ tr (le_ 8 10 rfl)) tr) (a_ (a_ (a_ (ids_Name_tri l.f_Key y2 e1) tr) tr) (a_ (a_ tr tr) (a_ (a_ tr tr) (a_ (a_ tr tr) (a_ (a_ tr tr) (a_ (a_ tr tr) tr)))))))) (a_ (a_ (a_ tr tr) tr) (a_ (a_ (a_ tr tr) (a_ (a_ tr (a_ (leB c3) tr)) (a_ (a_ tr tr) (a_ (a_ (a_ tr (lt_ 8 10 rfl)) tr) (a_ (a_ tr tr) (a_ (a_ tr (a_ (leB c4) tr)) (a_ (a_ tr tr) (a_ (a_ (a_ tr (lt_ 8 10 rfl)) tr) (a_ (a_ tr tr) (a_ (a_ tr tr) (a_ (a_ tr tr) (a_ (a_ tr (a_ (leB c5) tr)) (a_ (a_ tr tr) (a_ (a_ (a_ tr (lt_ 9 10 rfl)) tr) (a_ (a_ tr tr) (a_ (a_ (a_ (slices_ContainsFunc_gather_Got_gather_Got_tri l.f_Got y7 e6) tr) tr) (a_ (a_ tr tr) (a_ (a_ tr tr) (a_ (a_ tr tr) tr))))))))))))))))))) tr)))) tr) (by kernel_rfl) rfl
      · skip
        obtain rfl := Option.some.inj h
        exact run_ret mixed (L := []) (n := 21) (s := [.reg [], .reg [(2, { call := some (ids_Name_v y2, [], []) })], .reg [], .reg [(1, { v := some (.bool true) }), (5, { v := some (.bool false) }), (11, { v := some (.bool false) })]])
          (a_ (a_ (a_ (a_ tr tr) (a_ (a_ tr tr) tr)) (a_ (a_ (a_ tr tr) (a_ (a_ (a_ tr (le_ 8 10 rfl)) tr) (a_ (a_ (a_ (ids_Name_tri l.f_Key y2 e1) tr) tr) (a_ (a_ tr tr) (a_ (a_ tr tr) (a_ (a_ tr tr) (a_ (a_ tr tr) (a_ (a_ tr tr) tr)))))))) (a_ (a_ (a_ tr tr) tr) (a_ (a_ (a_ tr tr) (a_ (a_ tr (a_ (leB c3) tr)) (a_ (a_ tr tr) (a_ (a_ (a_ tr (lt_ 8 10 rfl)) tr) (a_ (a_ tr tr) (a_ (a_ tr (a_ (leB c4) tr)) (a_ (a_ tr tr) (a_ (a_ (a_ tr (lt_ 8 10 rfl)) tr) (a_ (a_ tr tr) (a_ (a_ tr tr) (a_ (a_ tr tr) (a_ (a_ tr (a_ (leB c5) tr)) (a_ tr (a_ tr (a_ tr (a_ tr (a_ tr (a_ (a_ tr tr) (a_ (a_ tr tr) tr))))))))))))))))))) tr)))) tr) (by kernel_rfl) rfl
  · skip
    obtain rfl := Option.some.inj h
    exact run_ret mixed (L := []) (n := 21) (s := [.reg [], .reg [(2, { call := some (ids_Name_v y2, [], []) })], .reg [], .reg [(1, { v := some (.bool false) })]])
      (a_ (a_ (a_ (a_ tr tr) (a_ (a_ tr tr) tr)) (a_ (a_ (a_ tr tr) (a_ (a_ (a_ tr (le_ 8 10 rfl)) tr) (a_ (a_ (a_ (ids_Name_tri l.f_Key y2 e1) tr) tr) (a_ (a_ tr tr) (a_ (a_ tr tr) (a_ (a_ tr tr) (a_ (a_ tr tr) (a_ (a_ tr tr) tr)))))))) (a_ (a_ (a_ tr tr) tr) (a_ (a_ (a_ tr tr) (a_ (a_ tr (a_ (leB c3) tr)) (a_ tr (a_ tr (a_ tr (a_ tr (a_ tr (a_ tr (a_ tr (a_ tr (a_ (a_ tr tr) (a_ (a_ tr tr) (a_ tr (a_ tr (a_ tr (a_ tr (a_ tr (a_ (a_ tr tr) (a_ (a_ tr tr) tr))))))))))))))))))) tr)))) tr) (by kernel_rfl) rfl

theorem miss_Lock_may_tri (l : T_miss_Lock) (r : (Bool)) (h : miss_Lock_may l = some r) : FnTri Tryd.prog 22 [v_T_miss_Lock l] [] (miss_Lock_may_v r) [] := FnTri.none (miss_Lock_may_ok l r h) rfl rfl

/-- parrel/miss.Plan$1 -/

def miss_Plan_L1_v (r : (Bool)) : LV := .bool r

def miss_Plan_L1 (l : T_miss_Lock) : Option ((Bool)) :=
  (miss_Lock_may l).bind fun y2 =>
  some (!y2)

theorem miss_Plan_L1_ok (l : T_miss_Lock) (r : (Bool)) (h : miss_Plan_L1 l = some r) : ∀ σ, Inj 0 σ → FnTri Tryd.prog 21 (renL σ [v_T_miss_Lock l]) (preOf σ 0 []) ((miss_Plan_L1_v r).ren σ) (upOf σ []) := by
  refine fn_of Tryd.func21 (by kernel_rfl) (by kernel_rfl) (by kernel_rfl) trivial (by kernel_rfl) trivial (by kernel_rfl) ?_
  intro w0 W μ0 hμ
  unfold miss_Plan_L1 at h
  obtain ⟨y2, e1, h⟩ := bind_some h
  obtain rfl := Option.some.inj h
  exact run_ret mixed (L := []) (n := 15) (s := [.reg [], .reg [(1, { call := some (miss_Lock_may_v y2, [], []) })]])
    (a_ (a_ (a_ (a_ tr tr) (a_ (a_ tr tr) tr)) (a_ (a_ (a_ (a_ tr (le_ 10 10 rfl)) tr) (a_ (a_ (a_ (miss_Lock_may_tri l y2 e1) tr) tr) (a_ (a_ tr tr) (a_ (a_ tr tr) tr)))) tr)) tr) (by kernel_rfl) rfl

theorem miss_Plan_L1_tri (l : T_miss_Lock) (r : (Bool)) (h : miss_Plan_L1 l = some r) : FnTri Tryd.prog 21 [v_T_miss_Lock l] [] (miss_Plan_L1_v r) [] := FnTri.none (miss_Plan_L1_ok l r h) rfl rfl

/-- slices.IndexFunc[[]parrel/miss.Lock,parrel/miss.Lock] -/

def slices_IndexFunc_miss_Lock_miss_Lock_v (r : (Int)) : LV := .int .i64 r

def slices_IndexFunc_miss_Lock_miss_Lock_T0 (s : List (T_miss_Lock)) (t8 : Int) : List LV := [.ds 10 (s).length (rowF c_T_miss_Lock default s), .fn 21 [] [], .any, .any, .any, .any, .any, .int .i64 ((s).length : Int), .int .i64 t8, .any, .any, .any, .any, .any, .any, .any, .any, .any, .any]

def slices_IndexFunc_miss_Lock_miss_Lock_H0 (s : List (T_miss_Lock)) (t8 : Int) : Heap := []

def slices_IndexFunc_miss_Lock_miss_Lock_l0 (s : List (T_miss_Lock))  : Nat → (Int) → Option ((Int))
  | 0, _ => none
  | fuel + 1, t8 =>
    if ((decide (t8 < ((s).length : Int))) : Bool) then
      if 0 ≤ t8 ∧ t8 < (((s).length : Nat) : Int) then
      (miss_Plan_L1 (s.getD t8.toNat default)).bind fun yL0_4 =>
      if (yL0_4 : Bool) then
        some t8
      else
        slices_IndexFunc_miss_Lock_miss_Lock_l0 s  fuel (IntKind.wrap .i64 (t8 + 1))
      else none
    else
      some (-1)

def slices_IndexFunc_miss_Lock_miss_Lock (s : List (T_miss_Lock)) : Option ((Int)) :=
  slices_IndexFunc_miss_Lock_miss_Lock_l0 s  big 0

theorem slices_IndexFunc_miss_Lock_miss_Lock_l0_ok {w0 : World} {W : Nat → Prop} {μ0 : Emb} (hμ : ∀ c p, μ0 c = some p → c < 0) (s : List (T_miss_Lock))  : ∀ (fuel : Nat) (t8 : Int) (r : (Int)), slices_IndexFunc_miss_Lock_miss_Lock_l0 s  fuel t8 = some r → kont Tryd.prog w0 W μ0 (FnPost Tryd.prog Tryd.f42 0 0 (slices_IndexFunc_miss_Lock_miss_Lock_v r) []) (kAt (bodyOf Tryd.f42) 0) none (slices_IndexFunc_miss_Lock_miss_Lock_T0 s t8) (slices_IndexFunc_miss_Lock_miss_Lock_H0 s t8) := by
  intro fuel
  induction fuel with
  | zero => intro t8 r h; rw [slices_IndexFunc_miss_Lock_miss_Lock_l0] at h; cases h
  | succ fuel ih =>
    intro t8 r h
    rw [slices_IndexFunc_miss_Lock_miss_Lock_l0] at h
    rcases itb_some h with ⟨cL0_1, h⟩ | ⟨cL0_1, h⟩
    · skip
      obtain ⟨gL0_2, h⟩ := guard_some h
      obtain ⟨yL0_4, eL0_3, h⟩ := bind_some h
      rcases itb_some h with ⟨cL0_5, h⟩ | ⟨cL0_5, h⟩
      · skip
        obtain rfl := Option.some.inj h
        exact run_ret mixed (L := []) (n := 28) (s := [.go, .reg [(0, { v := some (.bool true) })], .reg [], .reg [(5, { call := some (miss_Plan_L1_v yL0_4, [], []), v := some (.bool true) })], .reg []])
          (a_ (a_ (a_ (a_ tr (a_ (leB cL0_1) tr)) tr) (a_ (a_ (a_ tr tr) (a_ (a_ tr tr) tr)) (a_ (a_ (a_ tr tr) (a_ (a_ tr tr) (a_ (a_ tr tr) (a_ (a_ (a_ (Eq.refl 10) gL0_2) tr) (a_ (a_ (le_ 10 10 rfl) tr) (a_ (a_ (a_ (miss_Plan_L1_tri (s.getD t8.toNat default) yL0_4 eL0_3) tr) (a_ (leB cL0_5) tr)) tr)))))) (a_ (a_ (a_ tr tr) (a_ (a_ tr tr) tr)) tr)))) tr) (by kernel_rfl) rfl
      · skip
        exact run_to mixed hμ (L := []) (n := 29) (s := [.go, .reg [(0, { v := some (.bool true) })], .reg [], .reg [(5, { call := some (miss_Plan_L1_v yL0_4, [], []), v := some (.bool false) })], .reg []])
          (a_ (a_ (a_ tr (a_ (leB cL0_1) tr)) tr) (a_ (a_ (a_ tr tr) (a_ (a_ tr tr) tr)) (a_ (a_ (a_ tr tr) (a_ (a_ tr tr) (a_ (a_ tr tr) (a_ (a_ (a_ (Eq.refl 10) gL0_2) tr) (a_ (a_ (le_ 10 10 rfl) tr) (a_ (a_ (a_ (miss_Plan_L1_tri (s.getD t8.toNat default) yL0_4 eL0_3) tr) (a_ (leB cL0_5) tr)) tr)))))) (a_ (a_ (a_ tr tr) (a_ (a_ tr tr) tr)) tr)))) (ih _ r h) (by kernel_rfl) trivial
    · skip
      obtain rfl := Option.some.inj h
      exact run_ret mixed (L := []) (n := 19) (s := [.go, .reg [(0, { v := some (.bool false) })], .reg []])
        (a_ (a_ (a_ (a_ tr (a_ (leB cL0_1) tr)) tr) (a_ (a_ (a_ tr tr) tr) tr)) tr) (by kernel_rfl) rfl

theorem slices_IndexFunc_miss_Lock_miss_Lock_ok (s : List (T_miss_Lock)) (r : (Int)) (h : slices_IndexFunc_miss_Lock_miss_Lock s = some r) : ∀ σ, Inj 0 σ → FnTri Tryd.prog 42 (renL σ [.ds 10 (s).length (rowF c_T_miss_Lock default s), .fn 21 [] []]) (preOf σ 0 []) ((slices_IndexFunc_miss_Lock_miss_Lock_v r).ren σ) (upOf σ []) := by
  refine fn_of Tryd.func42 (by kernel_rfl) (by kernel_rfl) (by kernel_rfl) trivial (by kernel_rfl) trivial (by kernel_rfl) ?_
  intro w0 W μ0 hμ
  unfold slices_IndexFunc_miss_Lock_miss_Lock at h
  exact run_to mixed hμ (L := []) (n := 18) (s := [.reg [], .reg []])
    (a_ (a_ (a_ tr tr) tr) (a_ (a_ (a_ tr tr) (a_ (a_ tr tr) (a_ (a_ tr tr) tr))) tr)) (slices_IndexFunc_miss_Lock_miss_Lock_l0_ok hμ s  big _ r h) (by kernel_rfl) trivial

theorem slices_IndexFunc_miss_Lock_miss_Lock_tri (s : List (T_miss_Lock)) (r : (Int)) (h : slices_IndexFunc_miss_Lock_miss_Lock s = some r) : FnTri Tryd.prog 42 [.ds 10 (s).length (rowF c_T_miss_Lock default s), .fn 21 [] []] [] (slices_IndexFunc_miss_Lock_miss_Lock_v r) [] := FnTri.none (slices_IndexFunc_miss_Lock_miss_Lock_ok s r h) rfl rfl

/-- slices.ContainsFunc[[]parrel/miss.Lock,parrel/miss.Lock] -/

def slices_ContainsFunc_miss_Lock_miss_Lock_v (r : (Bool)) : LV := .bool r

def slices_ContainsFunc_miss_Lock_miss_Lock (s : List (T_miss_Lock)) : Option ((Bool)) :=
  (slices_IndexFunc_miss_Lock_miss_Lock s).bind fun y2 =>
  some (decide (0 ≤ y2))

theorem slices_ContainsFunc_miss_Lock_miss_Lock_ok (s : List (T_miss_Lock)) (r : (Bool)) (h : slices_ContainsFunc_miss_Lock_miss_Lock s = some r) : ∀ σ, Inj 0 σ → FnTri Tryd.prog 20 (renL σ [.ds 10 (s).length (rowF c_T_miss_Lock default s), .fn 21 [] []]) (preOf σ 0 []) ((slices_ContainsFunc_miss_Lock_miss_Lock_v r).ren σ) (upOf σ []) := by
  refine fn_of Tryd.func20 (by kernel_rfl) (by kernel_rfl) (by kernel_rfl) trivial (by kernel_rfl) trivial (by kernel_rfl) ?_
  intro w0 W μ0 hμ
  unfold slices_ContainsFunc_miss_Lock_miss_Lock at h
  obtain ⟨y2, e1, h⟩ := bind_some h
  obtain rfl := Option.some.inj h
  exact run_ret mixed (L := []) (n := 15) (s := [.reg [], .reg [(2, { call := some (slices_IndexFunc_miss_Lock_miss_Lock_v y2, [], []) })]])
    (a_ (a_ (a_ (a_ tr tr) tr) (a_ (a_ (a_ tr tr) (a_ (a_ tr tr) (a_ (a_ (a_ (slices_IndexFunc_miss_Lock_miss_Lock_tri s y2 e1) tr) tr) (a_ (a_ tr tr) (a_ (a_ tr tr) tr))))) tr)) tr) (by kernel_rfl) rfl

theorem slices_ContainsFunc_miss_Lock_miss_Lock_tri (s : List (T_miss_Lock)) (r : (Bool)) (h : slices_ContainsFunc_miss_Lock_miss_Lock s = some r) : FnTri Tryd.prog 20 [.ds 10 (s).length (rowF c_T_miss_Lock default s), .fn 21 [] []] [] (slices_ContainsFunc_miss_Lock_miss_Lock_v r) [] := FnTri.none (slices_ContainsFunc_miss_Lock_miss_Lock_ok s r h) rfl rfl

/-- parrel/msg.keyMay -/

def msg_keyMay_v (r : (Bool)) : LV := .bool r

def msg_keyMay (x_k : A8 (Int)) : Option ((Bool)) :=
  (ids_Name x_k).bind fun y2 =>
  some y2.2

theorem msg_keyMay_ok (x_k : A8 (Int)) (r : (Bool)) (h : msg_keyMay x_k = some r) : ∀ σ, Inj 0 σ → FnTri Tryd.prog 47 (renL σ [.agg [.int .u8 x_k.a0, .int .u8 x_k.a1, .int .u8 x_k.a2, .int .u8 x_k.a3, .int .u8 x_k.a4, .int .u8 x_k.a5, .int .u8 x_k.a6, .int .u8 x_k.a7]]) (preOf σ 0 []) ((msg_keyMay_v r).ren σ) (upOf σ []) := by
  refine fn_of Tryd.func47 (by kernel_rfl) (by kernel_rfl) (by kernel_rfl) trivial (by kernel_rfl) trivial (by kernel_rfl) ?_
  intro w0 W μ0 hμ
  unfold msg_keyMay at h
  obtain ⟨y2, e1, h⟩ := bind_some h
  obtain rfl := Option.some.inj h
  exact run_ret mixed (L := []) (n := 18) (s := [.reg [], .reg [(1, { call := some (ids_Name_v y2, [], []) })], .reg []])
    (a_ (a_ (a_ (a_ tr tr) (a_ (a_ tr tr) tr)) (a_ (a_ (a_ (a_ tr (le_ 8 8 rfl)) tr) (a_ (a_ (a_ (ids_Name_tri x_k y2 e1) tr) tr) (a_ (a_ tr tr) (a_ (a_ tr tr) (a_ (a_ tr tr) (a_ (a_ tr tr) (a_ (a_ tr tr) tr))))))) (a_ (a_ (a_ tr tr) (a_ (a_ tr tr) tr)) tr))) tr) (by kernel_rfl) rfl

theorem msg_keyMay_tri (x_k : A8 (Int)) (r : (Bool)) (h : msg_keyMay x_k = some r) : FnTri Tryd.prog 47 [.agg [.int .u8 x_k.a0, .int .u8 x_k.a1, .int .u8 x_k.a2, .int .u8 x_k.a3, .int .u8 x_k.a4, .int .u8 x_k.a5, .int .u8 x_k.a6, .int .u8 x_k.a7]] [] (msg_keyMay_v r) [] := FnTri.none (msg_keyMay_ok x_k r h) rfl rfl

/-- parrel/votes.Of -/

def votes_Of_v (r : (Int)) : LV := .int .i64 r

def votes_Of_T0 (c : T_api_Config) (set : Int) (x_n : Int) (t10 : Int) : List LV := [.any, .int .u64 set, .any, .any, .any, .int .i64 x_n, .any, .any, .any, .agg [.int .u8 c.f_Votes.a0, .int .u8 c.f_Votes.a1, .int .u8 c.f_Votes.a2, .int .u8 c.f_Votes.a3, .int .u8 c.f_Votes.a4, .int .u8 c.f_Votes.a5, .int .u8 c.f_Votes.a6, .int .u8 c.f_Votes.a7], .int .i64 t10, .any, .any, .any, .any, .any, .any, .any, .any, .any, .any, .any, .any, .any, .any, .any]

def votes_Of_H0 (c : T_api_Config) (set : Int) (x_n : Int) (t10 : Int) : Heap := []

def votes_Of_l0 (c : T_api_Config) (set : Int)  : Nat → (Int) → (Int) → Option ((Int))
  | 0, _, _ => none
  | fuel + 1, x_n, t10 =>
    if ((decide (t10 < 8)) : Bool) then
      if 0 ≤ t10 ∧ t10 < 8 then
      if 0 ≤ t10 then
      votes_Of_l0 c set  fuel (IntKind.wrap .i64 (x_n + (IntKind.wrap .i64 ((IntKind.wrap .i64 (A8.get c.f_Votes t10.toNat)) * (IntKind.wrap .i64 (IntKind.wrap .u64 ((BitVec.ofInt (IntKind.bits .u64) (Int.fdiv set (2 ^ (min (Int.toNat t10) (IntKind.bits .u64)))) &&& BitVec.ofInt (IntKind.bits .u64) 1).toNat : Int))))))) (IntKind.wrap .i64 (t10 + 1))
      else none
      else none
    else
      some x_n

def votes_Of (c : T_api_Config) (set : Int) : Option ((Int)) :=
  votes_Of_l0 c set  big 0 0

theorem votes_Of_l0_ok {w0 : World} {W : Nat → Prop} {μ0 : Emb} (hμ : ∀ c p, μ0 c = some p → c < 0) (c : T_api_Config) (set : Int)  : ∀ (fuel : Nat) (x_n : Int) (t10 : Int) (r : (Int)), votes_Of_l0 c set  fuel x_n t10 = some r → kont Tryd.prog w0 W μ0 (FnPost Tryd.prog Tryd.f38 0 0 (votes_Of_v r) []) (kAt (bodyOf Tryd.f38) 0) none (votes_Of_T0 c set x_n t10) (votes_Of_H0 c set x_n t10) := by
  intro fuel
  induction fuel with
  | zero => intro x_n t10 r h; rw [votes_Of_l0] at h; cases h
  | succ fuel ih =>
    intro x_n t10 r h
    rw [votes_Of_l0] at h
    rcases itb_some h with ⟨cL0_1, h⟩ | ⟨cL0_1, h⟩
    · skip
      obtain ⟨gL0_2, h⟩ := guard_some h
      obtain ⟨gL0_3, h⟩ := guard_some h
      exact run_to mixed hμ (L := []) (n := 26) (s := [.go, .reg [(0, { v := some (.bool true) })], .reg [(1, { v := some (.int .u8 (A8.get c.f_Votes t10.toNat)) })], .reg [], .reg []])
        (a_ (a_ (a_ tr (a_ (leB cL0_1) tr)) tr) (a_ (a_ (a_ tr tr) (a_ (a_ (a_ gL0_2 (ix8lt gL0_2 1 8 rfl rfl)) (a_ (ix8s (cInt .u8) 1 (fun _ => rfl) c.f_Votes t10.toNat (lt8N gL0_2) (le_ 1 1 rfl)) tr)) (a_ (a_ tr tr) (a_ (a_ tr tr) tr)))) (a_ (a_ (a_ tr tr) (a_ (a_ tr tr) (a_ (a_ tr tr) (a_ (a_ tr tr) (a_ (a_ tr tr) (a_ (a_ gL0_3 tr) (a_ (a_ tr tr) (a_ (a_ tr tr) (a_ (a_ tr tr) (a_ (a_ tr tr) (a_ (a_ tr tr) tr))))))))))) (a_ (a_ (a_ tr tr) (a_ (a_ tr tr) tr)) tr)))) (ih _ _ r h) (by kernel_rfl) trivial
    · skip
      obtain rfl := Option.some.inj h
      exact run_ret mixed (L := []) (n := 19) (s := [.go, .reg [(0, { v := some (.bool false) })], .reg []])
        (a_ (a_ (a_ (a_ tr (a_ (leB cL0_1) tr)) tr) (a_ (a_ (a_ tr tr) (a_ (a_ tr tr) tr)) tr)) tr) (by kernel_rfl) rfl

theorem votes_Of_ok (c : T_api_Config) (set : Int) (r : (Int)) (h : votes_Of c set = some r) : ∀ σ, Inj 0 σ → FnTri Tryd.prog 38 (renL σ [v_T_api_Config c, .int .u64 set]) (preOf σ 0 []) ((votes_Of_v r).ren σ) (upOf σ []) := by
  refine fn_of Tryd.func38 (by kernel_rfl) (by kernel_rfl) (by kernel_rfl) trivial (by kernel_rfl) trivial (by kernel_rfl) ?_
  intro w0 W μ0 hμ
  unfold votes_Of at h
  exact run_to mixed hμ (L := []) (n := 21) (s := [.reg [], .reg [], .reg []])
    (a_ (a_ (a_ tr tr) (a_ (a_ tr tr) tr)) (a_ (a_ (a_ tr tr) tr) (a_ (a_ (a_ tr tr) (a_ (a_ (a_ tr (le_ 11 11 rfl)) tr) (a_ (a_ tr tr) tr))) tr))) (votes_Of_l0_ok hμ c set  big _ _ r h) (by kernel_rfl) trivial

theorem votes_Of_tri (c : T_api_Config) (set : Int) (r : (Int)) (h : votes_Of c set = some r) : FnTri Tryd.prog 38 [v_T_api_Config c, .int .u64 set] [] (votes_Of_v r) [] := FnTri.none (votes_Of_ok c set r h) rfl rfl

/-- parrel/votes.Total -/

def votes_Total_v (r : (Int)) : LV := .int .i64 r

def votes_Total (c : T_api_Config) : Option ((Int)) :=
  (votes_Of c 255).bind fun y2 =>
  some y2

theorem votes_Total_ok (c : T_api_Config) (r : (Int)) (h : votes_Total c = some r) : ∀ σ, Inj 0 σ → FnTri Tryd.prog 75 (renL σ [v_T_api_Config c]) (preOf σ 0 []) ((votes_Total_v r).ren σ) (upOf σ []) := by
  refine fn_of Tryd.func75 (by kernel_rfl) (by kernel_rfl) (by kernel_rfl) trivial (by kernel_rfl) trivial (by kernel_rfl) ?_
  intro w0 W μ0 hμ
  unfold votes_Total at h
  obtain ⟨y2, e1, h⟩ := bind_some h
  obtain rfl := Option.some.inj h
  exact run_ret mixed (L := []) (n := 15) (s := [.reg [], .reg [(1, { call := some (votes_Of_v y2, [], []) })]])
    (a_ (a_ (a_ (a_ tr tr) (a_ (a_ tr tr) tr)) (a_ (a_ (a_ (a_ tr (le_ 11 11 rfl)) tr) (a_ (a_ (a_ (votes_Of_tri c 255 y2 e1) tr) tr) (a_ (a_ tr tr) tr))) tr)) tr) (by kernel_rfl) rfl

theorem votes_Total_tri (c : T_api_Config) (r : (Int)) (h : votes_Total c = some r) : FnTri Tryd.prog 75 [v_T_api_Config c] [] (votes_Total_v r) [] := FnTri.none (votes_Total_ok c r h) rfl rfl

/-- slices.Max[[]uint8,uint8] -/

def slices_Max_uint8_uint8_v (r : (Int)) : LV := .int .u8 r

def slices_Max_uint8_uint8_up (x : T_api_Config) (r : (Int)) : Upd := [(0, some (.var (c_T_api_Config x)))]

def slices_Max_uint8_uint8_objs (x : T_api_Config) : List LO := [.var (c_T_api_Config x)]

def slices_Max_uint8_uint8_T0 (x : T_api_Config) (m : Int) (i : Int) : List LV := [.sl 0 0 3 true 8 (some 8), .any, .any, .int .u8 m, .int .i64 i, .any, .any, .any, .any, .any, .any, .any, .any, .any, .any, .any, .any, .any, .any, .any, .any, .any, .any, .any, .any]

def slices_Max_uint8_uint8_H0 (x : T_api_Config) (m : Int) (i : Int) : Heap := [some (.var (c_T_api_Config x))]

def slices_Max_uint8_uint8_l0 (x : T_api_Config)  : Nat → (Int) → (Int) → Option ((Int))
  | 0, _, _ => none
  | fuel + 1, m, i =>
    if ((decide (i < 8)) : Bool) then
      if 0 ≤ i ∧ i < 8 then
      slices_Max_uint8_uint8_l0 x  fuel (if (A8.get x.f_Votes i.toNat) > m then (A8.get x.f_Votes i.toNat) else m) (IntKind.wrap .i64 (i + 1))
      else none
    else
      some m

def slices_Max_uint8_uint8 (x : T_api_Config) : Option ((Int)) :=
  slices_Max_uint8_uint8_l0 x  big x.f_Votes.a0 1

theorem slices_Max_uint8_uint8_l0_ok {w0 : World} {W : Nat → Prop} {μ0 : Emb} (hμ : ∀ c p, μ0 c = some p → c < 1) (x : T_api_Config)  : ∀ (fuel : Nat) (m : Int) (i : Int) (r : (Int)), slices_Max_uint8_uint8_l0 x  fuel m i = some r → kont Tryd.prog w0 W μ0 (FnPost Tryd.prog Tryd.f77 1 1 (slices_Max_uint8_uint8_v r) (slices_Max_uint8_uint8_up x r)) (kAt (bodyOf Tryd.f77) 0) none (slices_Max_uint8_uint8_T0 x m i) (slices_Max_uint8_uint8_H0 x m i) := by
  intro fuel
  induction fuel with
  | zero => intro m i r h; rw [slices_Max_uint8_uint8_l0] at h; cases h
  | succ fuel ih =>
    intro m i r h
    rw [slices_Max_uint8_uint8_l0] at h
    rcases itb_some h with ⟨cL0_1, h⟩ | ⟨cL0_1, h⟩
    · skip
      obtain ⟨gL0_2, h⟩ := guard_some h
      exact run_to mixed hμ (L := []) (n := 23) (s := [.go, .reg [(3, { v := some (.bool true) })], .reg [(4, { v := some (.int .u8 (A8.get x.f_Votes i.toNat)) })], .reg []])
        (a_ (a_ (a_ tr tr) (a_ (a_ tr tr) (a_ (a_ tr tr) (a_ (a_ tr (a_ (leB cL0_1) tr)) tr)))) (a_ (a_ (a_ tr tr) (a_ (a_ tr tr) (a_ (a_ tr tr) (a_ (a_ gL0_2 tr) (a_ (a_ (a_ tr (arrLt (len := 8) gL0_2 3 1 11 rfl rfl)) (a_ (ld8s (cInt .u8) 1 (fun _ => rfl) x.f_Votes [.int .u32 x.f_Epoch, .int .u8 x.f_R, .int .u8 x.f_W] [] 3 rfl i.toNat (lt8N gL0_2) (le_ (0 + 1) 1 rfl)) tr)) (a_ (a_ tr tr) (a_ (a_ tr tr) tr))))))) (a_ (a_ (a_ tr tr) (a_ (a_ tr tr) (a_ (a_ tr tr) tr))) tr))) (ih _ _ r h) (by kernel_rfl) ⟨rfl, trivial⟩
    · skip
      obtain rfl := Option.some.inj h
      exact run_ret mixed (L := []) (n := 19) (s := [.go, .reg [(3, { v := some (.bool false) })], .reg []])
        (a_ (a_ (a_ (a_ tr tr) (a_ (a_ tr tr) (a_ (a_ tr tr) (a_ (a_ tr (a_ (leB cL0_1) tr)) tr)))) (a_ (a_ (a_ tr tr) (a_ (a_ tr tr) tr)) tr)) tr) (by kernel_rfl) rfl

theorem slices_Max_uint8_uint8_ok (x : T_api_Config) (r : (Int)) (h : slices_Max_uint8_uint8 x = some r) : ∀ σ, Inj 1 σ → FnTri Tryd.prog 77 (renL σ [.sl 0 0 3 true 8 (some 8)]) (preOf σ 0 (slices_Max_uint8_uint8_objs x)) ((slices_Max_uint8_uint8_v r).ren σ) (upOf σ (slices_Max_uint8_uint8_up x r)) := by
  refine fn_of Tryd.func77 (by kernel_rfl) (by kernel_rfl) (by kernel_rfl) ⟨rfl, trivial⟩ (by kernel_rfl) ⟨rfl, trivial⟩ (by kernel_rfl) ?_
  intro w0 W μ0 hμ
  unfold slices_Max_uint8_uint8 at h
  exact run_to mixed hμ (L := []) (n := 27) (s := [.reg [], .reg [], .reg [], .reg []])
    (a_ (a_ (a_ tr tr) tr) (a_ (a_ (a_ tr tr) (a_ (a_ tr tr) (a_ (a_ tr tr) tr))) (a_ (a_ (a_ tr tr) (a_ (a_ (a_ (lei_ 0 0 rfl) (lti_ 0 8 rfl)) tr) (a_ (a_ (a_ tr (lt_ 3 11 rfl)) tr) (a_ (a_ tr tr) tr)))) (a_ (a_ (a_ tr tr) tr) tr)))) (slices_Max_uint8_uint8_l0_ok hμ x  big _ _ r h) (by kernel_rfl) ⟨rfl, trivial⟩

/-- parrel/votes.May$1 -/

def votes_May_L1_v (r : (Bool)) : LV := .bool r

def votes_May_L1_up (x_n : Int) (x1 : Int) (r : (Bool)) : Upd := [(0, some (.var [.int .i64 x1]))]

def votes_May_L1_objs (x_n : Int) (x1 : Int) : List LO := [.var [.int .i64 x1]]

def votes_May_L1 (x_n : Int) (x1 : Int) : Option ((Bool)) :=
  if ((decide (1 ≤ x_n)) : Bool) then
    some (decide ((IntKind.wrap .i64 x_n) ≤ x1))
  else
    some false

theorem votes_May_L1_ok (x_n : Int) (x1 : Int) (r : (Bool)) (h : votes_May_L1 x_n x1 = some r) : ∀ σ, Inj 1 σ → FnTri Tryd.prog 76 (renL σ [.int .u8 x_n, .ptr 0 0 0]) (preOf σ 0 (votes_May_L1_objs x_n x1)) ((votes_May_L1_v r).ren σ) (upOf σ (votes_May_L1_up x_n x1 r)) := by
  refine fn_of Tryd.func76 (by kernel_rfl) (by kernel_rfl) (by kernel_rfl) ⟨rfl, trivial⟩ (by kernel_rfl) ⟨rfl, trivial⟩ (by kernel_rfl) ?_
  intro w0 W μ0 hμ
  unfold votes_May_L1 at h
  rcases itb_some h with ⟨c1, h⟩ | ⟨c1, h⟩
  · skip
    obtain rfl := Option.some.inj h
    exact run_ret mixed (L := []) (n := 15) (s := [.reg [], .reg [(2, { v := some (.bool true) })]])
      (a_ (a_ (a_ (a_ tr tr) tr) (a_ (a_ (a_ tr tr) (a_ (a_ tr tr) (a_ (a_ tr (a_ (leB c1) tr)) (a_ (a_ tr tr) (a_ (a_ tr tr) (a_ (a_ (a_ tr (lt_ 0 1 rfl)) tr) (a_ (a_ tr tr) (a_ (a_ tr tr) (a_ (a_ tr tr) tr))))))))) tr)) tr) (by kernel_rfl) rfl
  · skip
    obtain rfl := Option.some.inj h
    exact run_ret mixed (L := []) (n := 15) (s := [.reg [], .reg [(2, { v := some (.bool false) })]])
      (a_ (a_ (a_ (a_ tr tr) tr) (a_ (a_ (a_ tr tr) (a_ (a_ tr tr) (a_ (a_ tr (a_ (leB c1) tr)) (a_ tr (a_ tr (a_ tr (a_ tr (a_ (a_ tr tr) (a_ (a_ tr tr) tr))))))))) tr)) tr) (by kernel_rfl) rfl

/-- parrel/votes.May -/

def votes_May_v (r : (Bool)) : LV := .bool r

def votes_May (c : T_api_Config) : Option ((Bool)) :=
  (votes_Total c).bind fun y2 =>
  if ((decide ((IntKind.wrap .u32 (c.f_Epoch - 1)) < 2147483647)) : Bool) then
    (slices_Max_uint8_uint8 c).bind fun y5 =>
    if ((decide (y5 ≤ 15)) : Bool) then
      (votes_May_L1 c.f_R y2).bind fun y8 =>
      if (y8 : Bool) then
        (votes_May_L1 c.f_W y2).bind fun y11 =>
        if (y11 : Bool) then
          if ((decide (y2 < (IntKind.wrap .i64 ((IntKind.wrap .i64 c.f_R) + (IntKind.wrap .i64 c.f_W))))) : Bool) then
            some (decide (y2 < (IntKind.wrap .i64 (2 * (IntKind.wrap .i64 c.f_W)))))
          else
            some false
        else
          some false
      else
        some false
    else
      some false
  else
    some false

theorem votes_May_ok (c : T_api_Config) (r : (Bool)) (h : votes_May c = some r) : ∀ σ, Inj 0 σ → FnTri Tryd.prog 63 (renL σ [v_T_api_Config c]) (preOf σ 0 []) ((votes_May_v r).ren σ) (upOf σ []) := by
  refine fn_of Tryd.func63 (by kernel_rfl) (by kernel_rfl) (by kernel_rfl) trivial (by kernel_rfl) trivial (by kernel_rfl) ?_
  intro w0 W μ0 hμ
  unfold votes_May at h
  obtain ⟨y2, e1, h⟩ := bind_some h
  rcases itb_some h with ⟨c3, h⟩ | ⟨c3, h⟩
  · skip
    obtain ⟨y5, e4, h⟩ := bind_some h
    rcases itb_some h with ⟨c6, h⟩ | ⟨c6, h⟩
    · skip
      obtain ⟨y8, e7, h⟩ := bind_some h
      rcases itb_some h with ⟨c9, h⟩ | ⟨c9, h⟩
      · skip
        obtain ⟨y11, e10, h⟩ := bind_some h
        rcases itb_some h with ⟨c12, h⟩ | ⟨c12, h⟩
        · skip
          rcases itb_some h with ⟨c13, h⟩ | ⟨c13, h⟩
          · skip
            obtain rfl := Option.some.inj h
            exact run_ret mixed (L := []) (n := 21) (s := [.reg [], .reg [(1, { call := some (votes_Total_v y2, [], []) })], .reg [], .reg [(4, { v := some (.bool true) }), (7, { call := some ((slices_Max_uint8_uint8_v y5).ren (sel [0]), preOf (sel [0]) 0 (slices_Max_uint8_uint8_objs c), upOf (sel [0]) (slices_Max_uint8_uint8_up c y5)) }), (10, { v := some (.bool true) }), (14, { call := some ((votes_May_L1_v y8).ren (sel [1]), preOf (sel [1]) 0 (votes_May_L1_objs c.f_R y2), upOf (sel [1]) (votes_May_L1_up c.f_R y2 y8)) }), (16, { v := some (.bool true) }), (20, { call := some ((votes_May_L1_v y11).ren (sel [1]), preOf (sel [1]) 0 (votes_May_L1_objs c.f_W y2), upOf (sel [1]) (votes_May_L1_up c.f_W y2 y11)) }), (22, { v := some (.bool true) }), (33, { v := some (.bool true) })]])
              (a_ (a_ (a_ (a_ tr tr) (a_ (a_ tr tr) tr)) (a_ (a_ (a_ (a_ tr (le_ 11 11 rfl)) tr) (a_ (a_ (a_ (votes_Total_tri c y2 e1) tr) tr) (a_ (a_ tr tr) (a_ (a_ (a_ (Eq.refl 1) (a_ (le_ 1 1 rfl) (Eq.refl 0))) tr) tr)))) (a_ (a_ (a_ tr tr) (a_ (a_ tr tr) tr)) (a_ (a_ (a_ tr tr) (a_ (a_ (a_ tr (lt_ 0 11 rfl)) tr) (a_ (a_ tr tr) (a_ (a_ tr tr) (a_ (a_ tr (a_ (leB c3) tr)) (a_ (a_ tr tr) (a_ (a_ (a_ (lei_ 0 0 rfl) (a_ (lei_ 0 8 rfl) (lei_ 8 8 rfl))) tr) (a_ (a_ (a_ (slices_Max_uint8_uint8_ok c y5 e4 (sel [0]) (sel_inj rfl rfl)) (a_ (LO.Le.refl (.var (c_T_api_Config c))) tr)) tr) (a_ (a_ tr tr) (a_ (a_ tr tr) (a_ (a_ tr (a_ (leB c6) tr)) (a_ (a_ tr tr) (a_ (a_ tr tr) (a_ (a_ (a_ tr (lt_ 1 11 rfl)) tr) (a_ (a_ (a_ (votes_May_L1_ok c.f_R y2 y8 e7 (sel [1]) (sel_inj rfl rfl)) (a_ (LO.Le.refl (.var [.int .i64 y2])) tr)) tr) (a_ (a_ tr tr) (a_ (a_ tr (a_ (leB c9) tr)) (a_ (a_ tr tr) (a_ (a_ tr tr) (a_ (a_ (a_ tr (lt_ 2 11 rfl)) tr) (a_ (a_ (a_ (votes_May_L1_ok c.f_W y2 y11 e10 (sel [1]) (sel_inj rfl rfl)) (a_ (LO.Le.refl (.var [.int .i64 y2])) tr)) tr) (a_ (a_ tr tr) (a_ (a_ tr (a_ (leB c12) tr)) (a_ (a_ tr tr) (a_ (a_ (a_ tr (lt_ 1 11 rfl)) tr) (a_ (a_ tr tr) (a_ (a_ tr tr) (a_ (a_ (a_ tr (lt_ 2 11 rfl)) tr) (a_ (a_ tr tr) (a_ (a_ tr tr) (a_ (a_ (a_ tr (lt_ 0 1 rfl)) tr) (a_ (a_ tr tr) (a_ (a_ tr tr) (a_ (a_ tr (a_ (leB c13) tr)) (a_ (a_ tr tr) (a_ (a_ (a_ tr (lt_ 2 11 rfl)) tr) (a_ (a_ tr tr) (a_ (a_ tr tr) (a_ (a_ (a_ tr (lt_ 0 1 rfl)) tr) (a_ (a_ tr tr) (a_ (a_ tr tr) (a_ (a_ tr tr) tr)))))))))))))))))))))))))))))))))))))))))) tr)))) tr) (by kernel_rfl) rfl
          · skip
            obtain rfl := Option.some.inj h
            exact run_ret mixed (L := []) (n := 21) (s := [.reg [], .reg [(1, { call := some (votes_Total_v y2, [], []) })], .reg [], .reg [(4, { v := some (.bool true) }), (7, { call := some ((slices_Max_uint8_uint8_v y5).ren (sel [0]), preOf (sel [0]) 0 (slices_Max_uint8_uint8_objs c), upOf (sel [0]) (slices_Max_uint8_uint8_up c y5)) }), (10, { v := some (.bool true) }), (14, { call := some ((votes_May_L1_v y8).ren (sel [1]), preOf (sel [1]) 0 (votes_May_L1_objs c.f_R y2), upOf (sel [1]) (votes_May_L1_up c.f_R y2 y8)) }), (16, { v := some (.bool true) }), (20, { call := some ((votes_May_L1_v y11).ren (sel [1]), preOf (sel [1]) 0 (votes_May_L1_objs c.f_W y2), upOf (sel [1]) (votes_May_L1_up c.f_W y2 y11)) }), (22, { v := some (.bool true) }), (33, { v := some (.bool false) })]])
              (a_ (a_ (a_ (a_ tr tr) (a_ (a_ tr tr) tr)) (a_ (a_ (a_ (a_ tr (le_ 11 11 rfl)) tr) (a_ (a_ (a_ (votes_Total_tri c y2 e1) tr) tr) (a_ (a_ tr tr) (a_ (a_ (a_ (Eq.refl 1) (a_ (le_ 1 1 rfl) (Eq.refl 0))) tr) tr)))) (a_ (a_ (a_ tr tr) (a_ (a_ tr tr) tr)) (a_ (a_ (a_ tr tr) (a_ (a_ (a_ tr (lt_ 0 11 rfl)) tr) (a_ (a_ tr tr) (a_ (a_ tr tr) (a_ (a_ tr (a_ (leB c3) tr)) (a_ (a_ tr tr) (a_ (a_ (a_ (lei_ 0 0 rfl) (a_ (lei_ 0 8 rfl) (lei_ 8 8 rfl))) tr) (a_ (a_ (a_ (slices_Max_uint8_uint8_ok c y5 e4 (sel [0]) (sel_inj rfl rfl)) (a_ (LO.Le.refl (.var (c_T_api_Config c))) tr)) tr) (a_ (a_ tr tr) (a_ (a_ tr tr) (a_ (a_ tr (a_ (leB c6) tr)) (a_ (a_ tr tr) (a_ (a_ tr tr) (a_ (a_ (a_ tr (lt_ 1 11 rfl)) tr) (a_ (a_ (a_ (votes_May_L1_ok c.f_R y2 y8 e7 (sel [1]) (sel_inj rfl rfl)) (a_ (LO.Le.refl (.var [.int .i64 y2])) tr)) tr) (a_ (a_ tr tr) (a_ (a_ tr (a_ (leB c9) tr)) (a_ (a_ tr tr) (a_ (a_ tr tr) (a_ (a_ (a_ tr (lt_ 2 11 rfl)) tr) (a_ (a_ (a_ (votes_May_L1_ok c.f_W y2 y11 e10 (sel [1]) (sel_inj rfl rfl)) (a_ (LO.Le.refl (.var [.int .i64 y2])) tr)) tr) (a_ (a_ tr tr) (a_ (a_ tr (a_ (leB c12) tr)) (a_ (a_ tr tr) (a_ (a_ (a_ tr (lt_ 1 11 rfl)) tr) (a_ (a_ tr tr) (a_ (a_ tr tr) (a_ (a_ (a_ tr (lt_ 2 11 rfl)) tr) (a_ (a_ tr tr) (a_ (a_ tr tr) (a_ (a_ (a_ tr (lt_ 0 1 rfl)) tr) (a_ (a_ tr tr) (a_ (a_ tr tr) (a_ (a_ tr (a_ (leB c13) tr)) (a_ tr (a_ tr (a_ tr (a_ tr (a_ tr (a_ tr (a_ (a_ tr tr) (a_ (a_ tr tr) tr)))))))))))))))))))))))))))))))))))))))))) tr)))) tr) (by kernel_rfl) rfl
        · skip
          obtain rfl := Option.some.inj h
          exact run_ret mixed (L := []) (n := 21) (s := [.reg [], .reg [(1, { call := some (votes_Total_v y2, [], []) })], .reg [], .reg [(4, { v := some (.bool true) }), (7, { call := some ((slices_Max_uint8_uint8_v y5).ren (sel [0]), preOf (sel [0]) 0 (slices_Max_uint8_uint8_objs c), upOf (sel [0]) (slices_Max_uint8_uint8_up c y5)) }), (10, { v := some (.bool true) }), (14, { call := some ((votes_May_L1_v y8).ren (sel [1]), preOf (sel [1]) 0 (votes_May_L1_objs c.f_R y2), upOf (sel [1]) (votes_May_L1_up c.f_R y2 y8)) }), (16, { v := some (.bool true) }), (20, { call := some ((votes_May_L1_v y11).ren (sel [1]), preOf (sel [1]) 0 (votes_May_L1_objs c.f_W y2), upOf (sel [1]) (votes_May_L1_up c.f_W y2 y11)) }), (22, { v := some (.bool false) })]])
            (a_ (a_ (a_ (a_ tr tr) (a_ (a_ tr tr) tr)) (a_ (a_ (a_ (a_ tr (le_ 11 11 rfl)) tr) (a_ (a_ (a_ (votes_Total_tri c y2 e1) tr) tr) (a_ (a_ tr tr) (a_ (a_ (a_ (Eq.refl 1) (a_ (le_ 1 1 rfl) (Eq.refl 0))) tr) tr)))) (a_ (a_ (a_ tr tr) (a_ (a_ tr tr) tr)) (a_ (a_ (a_ tr tr) (a_ (a_ (a_ tr (lt_ 0 11 rfl)) tr) (a_ (a_ tr tr) (a_ (a_ tr tr) (a_ (a_ tr (a_ (leB c3) tr)) (a_ (a_ tr tr) (a_ (a_ (a_ (lei_ 0 0 rfl) (a_ (lei_ 0 8 rfl) (lei_ 8 8 rfl))) tr) (a_ (a_ (a_ (slices_Max_uint8_uint8_ok c y5 e4 (sel [0]) (sel_inj rfl rfl)) (a_ (LO.Le.refl (.var (c_T_api_Config c))) tr)) tr) (a_ (a_ tr tr) (a_ (a_ tr tr) (a_ (a_ tr (a_ (leB c6) tr)) (a_ (a_ tr tr) (a_ (a_ tr tr) (a_ (a_ (a_ tr (lt_ 1 11 rfl)) tr) (a_ (a_ (a_ (votes_May_L1_ok c.f_R y2 y8 e7 (sel [1]) (sel_inj rfl rfl)) (a_ (LO.Le.refl (.var [.int .i64 y2])) tr)) tr) (a_ (a_ tr tr) (a_ (a_ tr (a_ (leB c9) tr)) (a_ (a_ tr tr) (a_ (a_ tr tr) (a_ (a_ (a_ tr (lt_ 2 11 rfl)) tr) (a_ (a_ (a_ (votes_May_L1_ok c.f_W y2 y11 e10 (sel [1]) (sel_inj rfl rfl)) (a_ (LO.Le.refl (.var [.int .i64 y2])) tr)) tr) (a_ (a_ tr tr) (a_ (a_ tr (a_ (leB c12) tr)) (a_ tr (a_ tr (a_ tr (a_ tr (a_ tr (a_ tr (a_ tr (a_ tr (a_ tr (a_ (a_ tr tr) (a_ (a_ tr tr) (a_ tr (a_ tr (a_ tr (a_ tr (a_ tr (a_ tr (a_ (a_ tr tr) (a_ (a_ tr tr) tr)))))))))))))))))))))))))))))))))))))))))) tr)))) tr) (by kernel_rfl) rfl
      · skip
        obtain rfl := Option.some.inj h
        exact run_ret mixed (L := []) (n := 21) (s := [.reg [], .reg [(1, { call := some (votes_Total_v y2, [], []) })], .reg [], .reg [(4, { v := some (.bool true) }), (7, { call := some ((slices_Max_uint8_uint8_v y5).ren (sel [0]), preOf (sel [0]) 0 (slices_Max_uint8_uint8_objs c), upOf (sel [0]) (slices_Max_uint8_uint8_up c y5)) }), (10, { v := some (.bool true) }), (14, { call := some ((votes_May_L1_v y8).ren (sel [1]), preOf (sel [1]) 0 (votes_May_L1_objs c.f_R y2), upOf (sel [1]) (votes_May_L1_up c.f_R y2 y8)) }), (16, { v := some (.bool false) })]])
          (a_ (a_ (a_ (a_ tr tr) (a_ (a_ tr tr) tr)) (a_ (a_ (a_ (a_ tr (le_ 11 11 rfl)) tr) (a_ (a_ (a_ (votes_Total_tri c y2 e1) tr) tr) (a_ (a_ tr tr) (a_ (a_ (a_ (Eq.refl 1) (a_ (le_ 1 1 rfl) (Eq.refl 0))) tr) tr)))) (a_ (a_ (a_ tr tr) (a_ (a_ tr tr) tr)) (a_ (a_ (a_ tr tr) (a_ (a_ (a_ tr (lt_ 0 11 rfl)) tr) (a_ (a_ tr tr) (a_ (a_ tr tr) (a_ (a_ tr (a_ (leB c3) tr)) (a_ (a_ tr tr) (a_ (a_ (a_ (lei_ 0 0 rfl) (a_ (lei_ 0 8 rfl) (lei_ 8 8 rfl))) tr) (a_ (a_ (a_ (slices_Max_uint8_uint8_ok c y5 e4 (sel [0]) (sel_inj rfl rfl)) (a_ (LO.Le.refl (.var (c_T_api_Config c))) tr)) tr) (a_ (a_ tr tr) (a_ (a_ tr tr) (a_ (a_ tr (a_ (leB c6) tr)) (a_ (a_ tr tr) (a_ (a_ tr tr) (a_ (a_ (a_ tr (lt_ 1 11 rfl)) tr) (a_ (a_ (a_ (votes_May_L1_ok c.f_R y2 y8 e7 (sel [1]) (sel_inj rfl rfl)) (a_ (LO.Le.refl (.var [.int .i64 y2])) tr)) tr) (a_ (a_ tr tr) (a_ (a_ tr (a_ (leB c9) tr)) (a_ tr (a_ tr (a_ tr (a_ tr (a_ (a_ tr tr) (a_ (a_ tr tr) (a_ tr (a_ tr (a_ tr (a_ tr (a_ tr (a_ tr (a_ tr (a_ tr (a_ tr (a_ (a_ tr tr) (a_ (a_ tr tr) (a_ tr (a_ tr (a_ tr (a_ tr (a_ tr (a_ tr (a_ (a_ tr tr) (a_ (a_ tr tr) tr)))))))))))))))))))))))))))))))))))))))))) tr)))) tr) (by kernel_rfl) rfl
    · skip
      obtain rfl := Option.some.inj h
      exact run_ret mixed (L := []) (n := 21) (s := [.reg [], .reg [(1, { call := some (votes_Total_v y2, [], []) })], .reg [], .reg [(4, { v := some (.bool true) }), (7, { call := some ((slices_Max_uint8_uint8_v y5).ren (sel [0]), preOf (sel [0]) 0 (slices_Max_uint8_uint8_objs c), upOf (sel [0]) (slices_Max_uint8_uint8_up c y5)) }), (10, { v := some (.bool false) })]])
        (a_ (a_ (a_ (a_ tr tr) (a_ (a_ tr tr) tr)) (a_ (a_ (a_ (a_ tr (le_ 11 11 rfl)) tr) (a_ (a_ (a_ (votes_Total_tri c y2 e1) tr) tr) (a_ (a_ tr tr) (a_ (a_ (a_ (Eq.refl 1) (a_ (le_ 1 1 rfl) (Eq.refl 0))) tr) tr)))) (a_ (a_ (a_ tr tr) (a_ (a_ tr tr) tr)) (a_ (a_ (a_ tr tr) (a_ (a_ (a_ tr (lt_ 0 11 rfl)) tr) (a_ (a_ tr tr) (a_ (a_ tr tr) (a_ (a_ tr (a_ (leB c3) tr)) (a_ (a_ tr tr) (a_ (a_ (a_ (lei_ 0 0 rfl) (a_ (lei_ 0 8 rfl) (lei_ 8 8 rfl))) tr) (a_ (a_ (a_ (slices_Max_uint8_uint8_ok c y5 e4 (sel [0]) (sel_inj rfl rfl)) (a_ (LO.Le.refl (.var (c_T_api_Config c))) tr)) tr) (a_ (a_ tr tr) (a_ (a_ tr tr) (a_ (a_ tr (a_ (leB c6) tr)) (a_ tr (a_ tr (a_ tr (a_ tr (a_ (a_ tr tr) (a_ (a_ tr tr) (a_ tr (a_ tr (a_ tr (a_ tr (a_ (a_ tr tr) (a_ (a_ tr tr) (a_ tr (a_ tr (a_ tr (a_ tr (a_ tr (a_ tr (a_ tr (a_ tr (a_ tr (a_ (a_ tr tr) (a_ (a_ tr tr) (a_ tr (a_ tr (a_ tr (a_ tr (a_ tr (a_ tr (a_ (a_ tr tr) (a_ (a_ tr tr) tr)))))))))))))))))))))))))))))))))))))))))) tr)))) tr) (by kernel_rfl) rfl
  · skip
    obtain rfl := Option.some.inj h
    exact run_ret mixed (L := []) (n := 21) (s := [.reg [], .reg [(1, { call := some (votes_Total_v y2, [], []) })], .reg [], .reg [(4, { v := some (.bool false) })]])
      (a_ (a_ (a_ (a_ tr tr) (a_ (a_ tr tr) tr)) (a_ (a_ (a_ (a_ tr (le_ 11 11 rfl)) tr) (a_ (a_ (a_ (votes_Total_tri c y2 e1) tr) tr) (a_ (a_ tr tr) (a_ (a_ (a_ (Eq.refl 1) (a_ (le_ 1 1 rfl) (Eq.refl 0))) tr) tr)))) (a_ (a_ (a_ tr tr) (a_ (a_ tr tr) tr)) (a_ (a_ (a_ tr tr) (a_ (a_ (a_ tr (lt_ 0 11 rfl)) tr) (a_ (a_ tr tr) (a_ (a_ tr tr) (a_ (a_ tr (a_ (leB c3) tr)) (a_ tr (a_ tr (a_ tr (a_ tr (a_ (a_ tr tr) (a_ (a_ tr tr) (a_ tr (a_ tr (a_ tr (a_ tr (a_ (a_ tr tr) (a_ (a_ tr tr) (a_ tr (a_ tr (a_ tr (a_ tr (a_ (a_ tr tr) (a_ (a_ tr tr) (a_ tr (a_ tr (a_ tr (a_ tr (a_ tr (a_ tr (a_ tr (a_ tr (a_ tr (a_ (a_ tr tr) (a_ (a_ tr tr) (a_ tr (a_ tr (a_ tr (a_ tr (a_ tr (a_ tr (a_ (a_ tr tr) (a_ (a_ tr tr) tr)))))))))))))))))))))))))))))))))))))))))) tr)))) tr) (by kernel_rfl) rfl

theorem votes_May_tri (c : T_api_Config) (r : (Bool)) (h : votes_May c = some r) : FnTri Tryd.prog 63 [v_T_api_Config c] [] (votes_May_v r) [] := FnTri.none (votes_May_ok c r h) rfl rfl

/-- parrel/msg.ItemMay -/

def msg_ItemMay_v (r : (Bool)) : LV := .bool r

def msg_ItemMay (i : T_api_Item) : Option ((Bool)) :=
  if ((decide (i.f_Version ≤ 2147483647)) : Bool) then
    if ((decide (((i.f_Value).length : Int) ≤ 64)) : Bool) then
      (votes_May i.f_Conf).bind fun y4 =>
      some y4
    else
      some false
  else
    some false

theorem msg_ItemMay_ok (i : T_api_Item) (r : (Bool)) (h : msg_ItemMay i = some r) : ∀ σ, Inj 0 σ → FnTri Tryd.prog 48 (renL σ [v_T_api_Item i]) (preOf σ 0 []) ((msg_ItemMay_v r).ren σ) (upOf σ []) := by
  refine fn_of Tryd.func48 (by kernel_rfl) (by kernel_rfl) (by kernel_rfl) trivial (by kernel_rfl) trivial (by kernel_rfl) ?_
  intro w0 W μ0 hμ
  unfold msg_ItemMay at h
  rcases itb_some h with ⟨c1, h⟩ | ⟨c1, h⟩
  · skip
    rcases itb_some h with ⟨c2, h⟩ | ⟨c2, h⟩
    · skip
      obtain ⟨y4, e3, h⟩ := bind_some h
      obtain rfl := Option.some.inj h
      exact run_ret mixed (L := []) (n := 15) (s := [.reg [], .reg [(3, { v := some (.bool true) }), (9, { v := some (.bool true) }), (12, { call := some (votes_May_v y4, [], []) })]])
        (a_ (a_ (a_ (a_ tr tr) (a_ (a_ tr tr) tr)) (a_ (a_ (a_ tr tr) (a_ (a_ (a_ tr (lt_ 0 13 rfl)) tr) (a_ (a_ tr tr) (a_ (a_ tr (a_ (leB c1) tr)) (a_ (a_ tr tr) (a_ (a_ (a_ tr (lt_ 1 13 rfl)) tr) (a_ (a_ tr tr) (a_ (a_ tr tr) (a_ (a_ tr tr) (a_ (a_ tr (a_ (leB c2) tr)) (a_ (a_ tr tr) (a_ (a_ (a_ tr (le_ 13 13 rfl)) tr) (a_ (a_ (a_ (votes_May_tri i.f_Conf y4 e3) tr) tr) (a_ (a_ tr tr) (a_ (a_ tr tr) tr))))))))))))))) tr)) tr) (by kernel_rfl) rfl
    · skip
      obtain rfl := Option.some.inj h
      exact run_ret mixed (L := []) (n := 15) (s := [.reg [], .reg [(3, { v := some (.bool true) }), (9, { v := some (.bool false) })]])
        (a_ (a_ (a_ (a_ tr tr) (a_ (a_ tr tr) tr)) (a_ (a_ (a_ tr tr) (a_ (a_ (a_ tr (lt_ 0 13 rfl)) tr) (a_ (a_ tr tr) (a_ (a_ tr (a_ (leB c1) tr)) (a_ (a_ tr tr) (a_ (a_ (a_ tr (lt_ 1 13 rfl)) tr) (a_ (a_ tr tr) (a_ (a_ tr tr) (a_ (a_ tr tr) (a_ (a_ tr (a_ (leB c2) tr)) (a_ tr (a_ tr (a_ tr (a_ (a_ tr tr) (a_ (a_ tr tr) tr))))))))))))))) tr)) tr) (by kernel_rfl) rfl
  · skip
    obtain rfl := Option.some.inj h
    exact run_ret mixed (L := []) (n := 15) (s := [.reg [], .reg [(3, { v := some (.bool false) })]])
      (a_ (a_ (a_ (a_ tr tr) (a_ (a_ tr tr) tr)) (a_ (a_ (a_ tr tr) (a_ (a_ (a_ tr (lt_ 0 13 rfl)) tr) (a_ (a_ tr tr) (a_ (a_ tr (a_ (leB c1) tr)) (a_ tr (a_ tr (a_ tr (a_ tr (a_ (a_ tr tr) (a_ (a_ tr tr) (a_ tr (a_ tr (a_ tr (a_ (a_ tr tr) (a_ (a_ tr tr) tr))))))))))))))) tr)) tr) (by kernel_rfl) rfl

theorem msg_ItemMay_tri (i : T_api_Item) (r : (Bool)) (h : msg_ItemMay i = some r) : FnTri Tryd.prog 48 [v_T_api_Item i] [] (msg_ItemMay_v r) [] := FnTri.none (msg_ItemMay_ok i r h) rfl rfl

/-- cmp.isNaN[byte] -/

def cmp_isNaN_byte_v (r : (Bool)) : LV := .bool r

def cmp_isNaN_byte (x : Int) : Option ((Bool)) :=
  some (x != x)

theorem cmp_isNaN_byte_ok (x : Int) (r : (Bool)) (h : cmp_isNaN_byte x = some r) : ∀ σ, Inj 0 σ → FnTri Tryd.prog 83 (renL σ [.int .u8 x]) (preOf σ 0 []) ((cmp_isNaN_byte_v r).ren σ) (upOf σ []) := by
  refine fn_of Tryd.func83 (by kernel_rfl) (by kernel_rfl) (by kernel_rfl) trivial (by kernel_rfl) trivial (by kernel_rfl) ?_
  intro w0 W μ0 hμ
  unfold cmp_isNaN_byte at h
  obtain rfl := Option.some.inj h
  exact run_ret mixed (L := []) (n := 15) (s := [.reg [], .reg []])
    (a_ (a_ (a_ (a_ tr tr) tr) (a_ (a_ (a_ tr tr) (a_ (a_ tr tr) (a_ (a_ tr tr) (a_ (a_ tr tr) tr)))) tr)) tr) (by kernel_rfl) rfl

theorem cmp_isNaN_byte_tri (x : Int) (r : (Bool)) (h : cmp_isNaN_byte x = some r) : FnTri Tryd.prog 83 [.int .u8 x] [] (cmp_isNaN_byte_v r) [] := FnTri.none (cmp_isNaN_byte_ok x r h) rfl rfl

/-- cmp.Compare[byte] -/

def cmp_Compare_byte_v (r : (Int)) : LV := .int .i64 r

def cmp_Compare_byte (x : Int) (y : Int) : Option ((Int)) :=
  (cmp_isNaN_byte x).bind fun y2 =>
  (cmp_isNaN_byte y).bind fun y4 =>
  if (y2 : Bool) then
    if (y4 : Bool) then
      some 0
    else
      some (-1)
  else
    if (y4 : Bool) then
      some 1
    else
      if ((decide (x < y)) : Bool) then
        some (-1)
      else
        if ((decide (y < x)) : Bool) then
          some 1
        else
          some 0

theorem cmp_Compare_byte_ok (x : Int) (y : Int) (r : (Int)) (h : cmp_Compare_byte x y = some r) : ∀ σ, Inj 0 σ → FnTri Tryd.prog 78 (renL σ [.int .u8 x, .int .u8 y]) (preOf σ 0 []) ((cmp_Compare_byte_v r).ren σ) (upOf σ []) := by
  refine fn_of Tryd.func78 (by kernel_rfl) (by kernel_rfl) (by kernel_rfl) trivial (by kernel_rfl) trivial (by kernel_rfl) ?_
  intro w0 W μ0 hμ
  unfold cmp_Compare_byte at h
  obtain ⟨y2, e1, h⟩ := bind_some h
  obtain ⟨y4, e3, h⟩ := bind_some h
  rcases itb_some h with ⟨c5, h⟩ | ⟨c5, h⟩
  · skip
    rcases itb_some h with ⟨c6, h⟩ | ⟨c6, h⟩
    · skip
      obtain rfl := Option.some.inj h
      exact run_ret mixed (L := []) (n := 31) (s := [.reg [], .reg [(1, { call := some (cmp_isNaN_byte_v y2, [], []) })], .reg [(1, { call := some (cmp_isNaN_byte_v y4, [], []) })], .reg [(0, { v := some (.bool true) })], .reg [(0, { v := some (.bool true) })], .reg []])
        (a_ (a_ (a_ (a_ tr tr) tr) (a_ (a_ (a_ tr tr) (a_ (a_ (a_ (cmp_isNaN_byte_tri x y2 e1) tr) tr) (a_ (a_ tr tr) tr))) (a_ (a_ (a_ tr tr) (a_ (a_ (a_ (cmp_isNaN_byte_tri y y4 e3) tr) tr) (a_ (a_ tr tr) tr))) (a_ (a_ (a_ tr (a_ (leB c5) tr)) tr) (a_ (a_ (a_ tr (a_ (leB c6) tr)) tr) (a_ (a_ (a_ tr tr) tr) tr)))))) tr) (by kernel_rfl) rfl
    · skip
      obtain rfl := Option.some.inj h
      exact run_ret mixed (L := []) (n := 32) (s := [.reg [], .reg [(1, { call := some (cmp_isNaN_byte_v y2, [], []) })], .reg [(1, { call := some (cmp_isNaN_byte_v y4, [], []) })], .reg [(0, { v := some (.bool true) })], .reg [(0, { v := some (.bool false) })], .reg []])
        (a_ (a_ (a_ (a_ tr tr) tr) (a_ (a_ (a_ tr tr) (a_ (a_ (a_ (cmp_isNaN_byte_tri x y2 e1) tr) tr) (a_ (a_ tr tr) tr))) (a_ (a_ (a_ tr tr) (a_ (a_ (a_ (cmp_isNaN_byte_tri y y4 e3) tr) tr) (a_ (a_ tr tr) tr))) (a_ (a_ (a_ tr (a_ (leB c5) tr)) tr) (a_ (a_ (a_ tr (a_ (leB c6) tr)) tr) (a_ (a_ (a_ tr tr) tr) tr)))))) tr) (by kernel_rfl) rfl
  · skip
    rcases itb_some h with ⟨c6, h⟩ | ⟨c6, h⟩
    · skip
      obtain rfl := Option.some.inj h
      exact run_ret mixed (L := []) (n := 32) (s := [.reg [], .reg [(1, { call := some (cmp_isNaN_byte_v y2, [], []) })], .reg [(1, { call := some (cmp_isNaN_byte_v y4, [], []) })], .reg [(0, { v := some (.bool false) })], .reg [(0, { v := some (.bool true) })], .reg []])
        (a_ (a_ (a_ (a_ tr tr) tr) (a_ (a_ (a_ tr tr) (a_ (a_ (a_ (cmp_isNaN_byte_tri x y2 e1) tr) tr) (a_ (a_ tr tr) tr))) (a_ (a_ (a_ tr tr) (a_ (a_ (a_ (cmp_isNaN_byte_tri y y4 e3) tr) tr) (a_ (a_ tr tr) tr))) (a_ (a_ (a_ tr (a_ (leB c5) tr)) tr) (a_ (a_ (a_ tr (a_ (leB c6) tr)) tr) (a_ (a_ (a_ tr tr) tr) tr)))))) tr) (by kernel_rfl) rfl
    · skip
      rcases itb_some h with ⟨c7, h⟩ | ⟨c7, h⟩
      · skip
        obtain rfl := Option.some.inj h
        exact run_ret mixed (L := []) (n := 38) (s := [.reg [], .reg [(1, { call := some (cmp_isNaN_byte_v y2, [], []) })], .reg [(1, { call := some (cmp_isNaN_byte_v y4, [], []) })], .reg [(0, { v := some (.bool false) })], .reg [(0, { v := some (.bool false) })], .reg [(2, { v := some (.bool true) })], .reg []])
          (a_ (a_ (a_ (a_ tr tr) tr) (a_ (a_ (a_ tr tr) (a_ (a_ (a_ (cmp_isNaN_byte_tri x y2 e1) tr) tr) (a_ (a_ tr tr) tr))) (a_ (a_ (a_ tr tr) (a_ (a_ (a_ (cmp_isNaN_byte_tri y y4 e3) tr) tr) (a_ (a_ tr tr) tr))) (a_ (a_ (a_ tr (a_ (leB c5) tr)) tr) (a_ (a_ (a_ tr (a_ (leB c6) tr)) tr) (a_ (a_ (a_ tr tr) (a_ (a_ tr tr) (a_ (a_ tr (a_ (leB c7) tr)) tr))) (a_ (a_ (a_ tr tr) tr) tr))))))) tr) (by kernel_rfl) rfl
      · skip
        rcases itb_some h with ⟨c8, h⟩ | ⟨c8, h⟩
        · skip
          obtain rfl := Option.some.inj h
          exact run_ret mixed (L := []) (n := 44) (s := [.reg [], .reg [(1, { call := some (cmp_isNaN_byte_v y2, [], []) })], .reg [(1, { call := some (cmp_isNaN_byte_v y4, [], []) })], .reg [(0, { v := some (.bool false) })], .reg [(0, { v := some (.bool false) })], .reg [(2, { v := some (.bool false) })], .reg [(2, { v := some (.bool true) })], .reg []])
            (a_ (a_ (a_ (a_ tr tr) tr) (a_ (a_ (a_ tr tr) (a_ (a_ (a_ (cmp_isNaN_byte_tri x y2 e1) tr) tr) (a_ (a_ tr tr) tr))) (a_ (a_ (a_ tr tr) (a_ (a_ (a_ (cmp_isNaN_byte_tri y y4 e3) tr) tr) (a_ (a_ tr tr) tr))) (a_ (a_ (a_ tr (a_ (leB c5) tr)) tr) (a_ (a_ (a_ tr (a_ (leB c6) tr)) tr) (a_ (a_ (a_ tr tr) (a_ (a_ tr tr) (a_ (a_ tr (a_ (leB c7) tr)) tr))) (a_ (a_ (a_ tr tr) (a_ (a_ tr tr) (a_ (a_ tr (a_ (leB c8) tr)) tr))) (a_ (a_ (a_ tr tr) tr) tr)))))))) tr) (by kernel_rfl) rfl
        · skip
          obtain rfl := Option.some.inj h
          exact run_ret mixed (L := []) (n := 45) (s := [.reg [], .reg [(1, { call := some (cmp_isNaN_byte_v y2, [], []) })], .reg [(1, { call := some (cmp_isNaN_byte_v y4, [], []) })], .reg [(0, { v := some (.bool false) })], .reg [(0, { v := some (.bool false) })], .reg [(2, { v := some (.bool false) })], .reg [(2, { v := some (.bool false) })], .reg []])
            (a_ (a_ (a_ (a_ tr tr) tr) (a_ (a_ (a_ tr tr) (a_ (a_ (a_ (cmp_isNaN_byte_tri x y2 e1) tr) tr) (a_ (a_ tr tr) tr))) (a_ (a_ (a_ tr tr) (a_ (a_ (a_ (cmp_isNaN_byte_tri y y4 e3) tr) tr) (a_ (a_ tr tr) tr))) (a_ (a_ (a_ tr (a_ (leB c5) tr)) tr) (a_ (a_ (a_ tr (a_ (leB c6) tr)) tr) (a_ (a_ (a_ tr tr) (a_ (a_ tr tr) (a_ (a_ tr (a_ (leB c7) tr)) tr))) (a_ (a_ (a_ tr tr) (a_ (a_ tr tr) (a_ (a_ tr (a_ (leB c8) tr)) tr))) (a_ (a_ (a_ tr tr) tr) tr)))))))) tr) (by kernel_rfl) rfl

theorem cmp_Compare_byte_tri (x : Int) (y : Int) (r : (Int)) (h : cmp_Compare_byte x y = some r) : FnTri Tryd.prog 78 [.int .u8 x, .int .u8 y] [] (cmp_Compare_byte_v r) [] := FnTri.none (cmp_Compare_byte_ok x y r h) rfl rfl

/-- slices.Compare[[]byte,byte] -/

def slices_Compare_byte_byte_v (r : (Int)) : LV := .int .i64 r

def slices_Compare_byte_byte_up (s1 : A8 (Int)) (s2 : A8 (Int)) (r : (Int)) : Upd := [(0, some (.var [.int .u8 s1.a0, .int .u8 s1.a1, .int .u8 s1.a2, .int .u8 s1.a3, .int .u8 s1.a4, .int .u8 s1.a5, .int .u8 s1.a6, .int .u8 s1.a7])), (1, some (.var [.int .u8 s2.a0, .int .u8 s2.a1, .int .u8 s2.a2, .int .u8 s2.a3, .int .u8 s2.a4, .int .u8 s2.a5, .int .u8 s2.a6, .int .u8 s2.a7]))]

def slices_Compare_byte_byte_objs (s1 : A8 (Int)) (s2 : A8 (Int)) : List LO := [.var [.int .u8 s1.a0, .int .u8 s1.a1, .int .u8 s1.a2, .int .u8 s1.a3, .int .u8 s1.a4, .int .u8 s1.a5, .int .u8 s1.a6, .int .u8 s1.a7], .var [.int .u8 s2.a0, .int .u8 s2.a1, .int .u8 s2.a2, .int .u8 s2.a3, .int .u8 s2.a4, .int .u8 s2.a5, .int .u8 s2.a6, .int .u8 s2.a7]]

def slices_Compare_byte_byte_T0 (s1 : A8 (Int)) (s2 : A8 (Int)) (t11 : Int) : List LV := [.sl 0 0 0 true 8 (some 8), .sl 1 0 0 true 8 (some 8), .any, .any, .any, .any, .any, .any, .any, .sl 0 0 0 true 8 (some 8), .int .i64 8, .int .i64 t11, .any, .any, .any, .any, .any, .any, .any, .any, .any, .any, .any, .any, .any, .any, .any, .any, .any, .any, .any, .any, .any, .any, .any, .any]

def slices_Compare_byte_byte_H0 (s1 : A8 (Int)) (s2 : A8 (Int)) (t11 : Int) : Heap := [some (.var [.int .u8 s1.a0, .int .u8 s1.a1, .int .u8 s1.a2, .int .u8 s1.a3, .int .u8 s1.a4, .int .u8 s1.a5, .int .u8 s1.a6, .int .u8 s1.a7]), some (.var [.int .u8 s2.a0, .int .u8 s2.a1, .int .u8 s2.a2, .int .u8 s2.a3, .int .u8 s2.a4, .int .u8 s2.a5, .int .u8 s2.a6, .int .u8 s2.a7])]

def slices_Compare_byte_byte_l0 (s1 : A8 (Int)) (s2 : A8 (Int))  : Nat → (Int) → Option ((Int))
  | 0, _ => none
  | fuel + 1, t11 =>
    if ((decide (t11 < 8)) : Bool) then
      if 0 ≤ t11 ∧ t11 < 8 then
      if ((decide (8 ≤ t11)) : Bool) then
        some 1
      else
        (cmp_Compare_byte (A8.get s1 t11.toNat) (A8.get s2 t11.toNat)).bind fun yL0_5 =>
        if ((yL0_5 != 0) : Bool) then
          some yL0_5
        else
          slices_Compare_byte_byte_l0 s1 s2  fuel (IntKind.wrap .i64 (t11 + 1))
      else none
    else
      some 0

def slices_Compare_byte_byte (s1 : A8 (Int)) (s2 : A8 (Int)) : Option ((Int)) :=
  slices_Compare_byte_byte_l0 s1 s2  big 0

theorem slices_Compare_byte_byte_l0_ok {w0 : World} {W : Nat → Prop} {μ0 : Emb} (hμ : ∀ c p, μ0 c = some p → c < 2) (s1 : A8 (Int)) (s2 : A8 (Int))  : ∀ (fuel : Nat) (t11 : Int) (r : (Int)), slices_Compare_byte_byte_l0 s1 s2  fuel t11 = some r → kont Tryd.prog w0 W μ0 (FnPost Tryd.prog Tryd.f64 2 2 (slices_Compare_byte_byte_v r) (slices_Compare_byte_byte_up s1 s2 r)) (kAt (bodyOf Tryd.f64) 0) none (slices_Compare_byte_byte_T0 s1 s2 t11) (slices_Compare_byte_byte_H0 s1 s2 t11) := by
  intro fuel
  induction fuel with
  | zero => intro t11 r h; rw [slices_Compare_byte_byte_l0] at h; cases h
  | succ fuel ih =>
    intro t11 r h
    rw [slices_Compare_byte_byte_l0] at h
    rcases itb_some h with ⟨cL0_1, h⟩ | ⟨cL0_1, h⟩
    · skip
      obtain ⟨gL0_2, h⟩ := guard_some h
      rcases itb_some h with ⟨cL0_3, h⟩ | ⟨cL0_3, h⟩
      · skip
        obtain rfl := Option.some.inj h
        exact run_ret mixed (L := []) (n := 29) (s := [.go, .reg [(0, { v := some (.bool true) })], .reg [(2, { v := some (.int .u8 (A8.get s1 t11.toNat)) })], .reg [(3, { v := some (.bool true) })], .reg []])
          (a_ (a_ (a_ (a_ tr (a_ (leB cL0_1) tr)) tr) (a_ (a_ (a_ tr tr) (a_ (a_ gL0_2 tr) (a_ (a_ (a_ tr (arrLt (len := 8) gL0_2 0 1 8 rfl rfl)) (a_ (ld8s (cInt .u8) 1 (fun _ => rfl) s1 [] [] 0 rfl t11.toNat (lt8N gL0_2) (le_ (0 + 1) 1 rfl)) tr)) (a_ (a_ tr tr) (a_ (a_ tr tr) tr))))) (a_ (a_ (a_ tr tr) (a_ (a_ tr tr) (a_ (a_ tr tr) (a_ (a_ tr (a_ (leB cL0_3) tr)) tr)))) (a_ (a_ (a_ tr tr) tr) tr)))) tr) (by kernel_rfl) rfl
      · skip
        obtain ⟨yL0_5, eL0_4, h⟩ := bind_some h
        rcases itb_some h with ⟨cL0_6, h⟩ | ⟨cL0_6, h⟩
        · skip
          obtain rfl := Option.some.inj h
          exact run_ret mixed (L := []) (n := 40) (s := [.go, .reg [(0, { v := some (.bool true) })], .reg [(2, { v := some (.int .u8 (A8.get s1 t11.toNat)) })], .reg [(3, { v := some (.bool false) })], .reg [(3, { v := some (.int .u8 (A8.get s2 t11.toNat)) })], .reg [(2, { call := some (cmp_Compare_byte_v yL0_5, [], []) })], .reg [(1, { v := some (.bool true) })], .reg []])
            (a_ (a_ (a_ (a_ tr (a_ (leB cL0_1) tr)) tr) (a_ (a_ (a_ tr tr) (a_ (a_ gL0_2 tr) (a_ (a_ (a_ tr (arrLt (len := 8) gL0_2 0 1 8 rfl rfl)) (a_ (ld8s (cInt .u8) 1 (fun _ => rfl) s1 [] [] 0 rfl t11.toNat (lt8N gL0_2) (le_ (0 + 1) 1 rfl)) tr)) (a_ (a_ tr tr) (a_ (a_ tr tr) tr))))) (a_ (a_ (a_ tr tr) (a_ (a_ tr tr) (a_ (a_ tr tr) (a_ (a_ tr (a_ (leB cL0_3) tr)) tr)))) (a_ (a_ (a_ tr tr) (a_ (a_ tr tr) (a_ (a_ gL0_2 tr) (a_ (a_ (a_ tr (arrLt (len := 8) gL0_2 0 1 8 rfl rfl)) (a_ (ld8s (cInt .u8) 1 (fun _ => rfl) s2 [] [] 0 rfl t11.toNat (lt8N gL0_2) (le_ (0 + 1) 1 rfl)) tr)) (a_ (a_ tr tr) tr))))) (a_ (a_ (a_ tr tr) (a_ (a_ tr tr) (a_ (a_ (a_ (cmp_Compare_byte_tri (A8.get s1 t11.toNat) (A8.get s2 t11.toNat) yL0_5 eL0_4) tr) tr) (a_ (a_ tr tr) tr)))) (a_ (a_ (a_ tr tr) (a_ (a_ tr (a_ (leB cL0_6) tr)) tr)) (a_ (a_ (a_ tr tr) (a_ (a_ tr tr) tr)) tr))))))) tr) (by kernel_rfl) rfl
        · skip
          exact run_to mixed hμ (L := []) (n := 41) (s := [.go, .reg [(0, { v := some (.bool true) })], .reg [(2, { v := some (.int .u8 (A8.get s1 t11.toNat)) })], .reg [(3, { v := some (.bool false) })], .reg [(3, { v := some (.int .u8 (A8.get s2 t11.toNat)) })], .reg [(2, { call := some (cmp_Compare_byte_v yL0_5, [], []) })], .reg [(1, { v := some (.bool false) })], .reg []])
            (a_ (a_ (a_ tr (a_ (leB cL0_1) tr)) tr) (a_ (a_ (a_ tr tr) (a_ (a_ gL0_2 tr) (a_ (a_ (a_ tr (arrLt (len := 8) gL0_2 0 1 8 rfl rfl)) (a_ (ld8s (cInt .u8) 1 (fun _ => rfl) s1 [] [] 0 rfl t11.toNat (lt8N gL0_2) (le_ (0 + 1) 1 rfl)) tr)) (a_ (a_ tr tr) (a_ (a_ tr tr) tr))))) (a_ (a_ (a_ tr tr) (a_ (a_ tr tr) (a_ (a_ tr tr) (a_ (a_ tr (a_ (leB cL0_3) tr)) tr)))) (a_ (a_ (a_ tr tr) (a_ (a_ tr tr) (a_ (a_ gL0_2 tr) (a_ (a_ (a_ tr (arrLt (len := 8) gL0_2 0 1 8 rfl rfl)) (a_ (ld8s (cInt .u8) 1 (fun _ => rfl) s2 [] [] 0 rfl t11.toNat (lt8N gL0_2) (le_ (0 + 1) 1 rfl)) tr)) (a_ (a_ tr tr) tr))))) (a_ (a_ (a_ tr tr) (a_ (a_ tr tr) (a_ (a_ (a_ (cmp_Compare_byte_tri (A8.get s1 t11.toNat) (A8.get s2 t11.toNat) yL0_5 eL0_4) tr) tr) (a_ (a_ tr tr) tr)))) (a_ (a_ (a_ tr tr) (a_ (a_ tr (a_ (leB cL0_6) tr)) tr)) (a_ (a_ (a_ tr tr) (a_ (a_ tr tr) tr)) tr))))))) (ih _ r h) (by kernel_rfl) ⟨rfl, rfl, trivial⟩
    · skip
      obtain rfl := Option.some.inj h
      exact run_ret mixed (L := []) (n := 25) (s := [.go, .reg [(0, { v := some (.bool false) })], .reg [], .reg []])
        (a_ (a_ (a_ (a_ tr (a_ (leB cL0_1) tr)) tr) (a_ (a_ (a_ tr tr) (a_ (a_ tr tr) (a_ (a_ tr tr) (a_ (a_ tr tr) (a_ (a_ tr tr) tr))))) (a_ (a_ (a_ tr tr) tr) tr))) tr) (by kernel_rfl) rfl

theorem slices_Compare_byte_byte_ok (s1 : A8 (Int)) (s2 : A8 (Int)) (r : (Int)) (h : slices_Compare_byte_byte s1 s2 = some r) : ∀ σ, Inj 2 σ → FnTri Tryd.prog 64 (renL σ [.sl 0 0 0 true 8 (some 8), .sl 1 0 0 true 8 (some 8)]) (preOf σ 0 (slices_Compare_byte_byte_objs s1 s2)) ((slices_Compare_byte_byte_v r).ren σ) (upOf σ (slices_Compare_byte_byte_up s1 s2 r)) := by
  refine fn_of Tryd.func64 (by kernel_rfl) (by kernel_rfl) (by kernel_rfl) ⟨rfl, rfl, trivial⟩ (by kernel_rfl) ⟨rfl, rfl, trivial⟩ (by kernel_rfl) ?_
  intro w0 W μ0 hμ
  unfold slices_Compare_byte_byte at h
  exact run_to mixed hμ (L := []) (n := 18) (s := [.reg [], .reg []])
    (a_ (a_ (a_ tr tr) tr) (a_ (a_ (a_ tr tr) (a_ (a_ tr tr) (a_ (a_ tr tr) tr))) tr)) (slices_Compare_byte_byte_l0_ok hμ s1 s2  big _ r h) (by kernel_rfl) ⟨rfl, rfl, trivial⟩

/-- parrel/ids.Keys -/

def ids_Keys_v (r : (Int)) : LV := .int .i64 r

def ids_Keys (a : A8 (Int)) (b : A8 (Int)) : Option ((Int)) :=
  (slices_Compare_byte_byte a b).bind fun y2 =>
  some y2

theorem ids_Keys_ok (a : A8 (Int)) (b : A8 (Int)) (r : (Int)) (h : ids_Keys a b = some r) : ∀ σ, Inj 0 σ → FnTri Tryd.prog 49 (renL σ [.agg [.int .u8 a.a0, .int .u8 a.a1, .int .u8 a.a2, .int .u8 a.a3, .int .u8 a.a4, .int .u8 a.a5, .int .u8 a.a6, .int .u8 a.a7], .agg [.int .u8 b.a0, .int .u8 b.a1, .int .u8 b.a2, .int .u8 b.a3, .int .u8 b.a4, .int .u8 b.a5, .int .u8 b.a6, .int .u8 b.a7]]) (preOf σ 0 []) ((ids_Keys_v r).ren σ) (upOf σ []) := by
  refine fn_of Tryd.func49 (by kernel_rfl) (by kernel_rfl) (by kernel_rfl) trivial (by kernel_rfl) trivial (by kernel_rfl) ?_
  intro w0 W μ0 hμ
  unfold ids_Keys at h
  obtain ⟨y2, e1, h⟩ := bind_some h
  obtain rfl := Option.some.inj h
  exact run_ret mixed (L := []) (n := 15) (s := [.reg [], .reg [(2, { call := some ((slices_Compare_byte_byte_v y2).ren (sel [0, 1]), preOf (sel [0, 1]) 0 (slices_Compare_byte_byte_objs a b), upOf (sel [0, 1]) (slices_Compare_byte_byte_up a b y2)) })]])
    (a_ (a_ (a_ (a_ tr tr) (a_ (a_ tr tr) (a_ (a_ tr tr) tr))) (a_ (a_ (a_ (a_ (lei_ 0 0 rfl) (a_ (lei_ 0 8 rfl) (lei_ 8 8 rfl))) tr) (a_ (a_ (a_ (lei_ 0 0 rfl) (a_ (lei_ 0 8 rfl) (lei_ 8 8 rfl))) tr) (a_ (a_ (a_ (slices_Compare_byte_byte_ok a b y2 e1 (sel [0, 1]) (sel_inj rfl rfl)) (a_ (LO.Le.refl (.var [.int .u8 a.a0, .int .u8 a.a1, .int .u8 a.a2, .int .u8 a.a3, .int .u8 a.a4, .int .u8 a.a5, .int .u8 a.a6, .int .u8 a.a7])) (a_ (LO.Le.refl (.var [.int .u8 b.a0, .int .u8 b.a1, .int .u8 b.a2, .int .u8 b.a3, .int .u8 b.a4, .int .u8 b.a5, .int .u8 b.a6, .int .u8 b.a7])) tr))) tr) (a_ (a_ tr tr) tr)))) tr)) tr) (by kernel_rfl) rfl

theorem ids_Keys_tri (a : A8 (Int)) (b : A8 (Int)) (r : (Int)) (h : ids_Keys a b = some r) : FnTri Tryd.prog 49 [.agg [.int .u8 a.a0, .int .u8 a.a1, .int .u8 a.a2, .int .u8 a.a3, .int .u8 a.a4, .int .u8 a.a5, .int .u8 a.a6, .int .u8 a.a7], .agg [.int .u8 b.a0, .int .u8 b.a1, .int .u8 b.a2, .int .u8 b.a3, .int .u8 b.a4, .int .u8 b.a5, .int .u8 b.a6, .int .u8 b.a7]] [] (ids_Keys_v r) [] := FnTri.none (ids_Keys_ok a b r h) rfl rfl

/-- parrel/msg.WritesMay -/

def msg_WritesMay_v (r : (Bool)) : LV := .bool r

def msg_WritesMay_T0 (l : List (T_api_Write)) (t7 : Int) : List LV := [.ds 21 (l).length (rowF c_T_api_Write default l), .any, .any, .any, .any, .ds 21 (l).length (rowF c_T_api_Write default l), .int .i64 ((l).length : Int), .int .i64 t7, .any, .any, .any, .any, .any, .any, .any, .any, .any, .any, .any, .any, .any, .any, .any, .any, .any, .any, .any, .any, .any, .any, .any, .any, .any, .any, .any, .any, .any, .any, .any, .any, .any, .any]

def msg_WritesMay_H0 (l : List (T_api_Write)) (t7 : Int) : Heap := []

def msg_WritesMay_l0 (l : List (T_api_Write))  : Nat → (Int) → Option ((Bool))
  | 0, _ => none
  | fuel + 1, t7 =>
    if ((decide (t7 < ((l).length : Int))) : Bool) then
      if 0 ≤ t7 ∧ t7 < (((l).length : Nat) : Int) then
      (msg_keyMay (l.getD t7.toNat default).f_Key).bind fun yL0_4 =>
      if ((!yL0_4) : Bool) then
        some false
      else
        (msg_ItemMay (l.getD t7.toNat default).f_Item).bind fun yL0_7 =>
        if ((!yL0_7) : Bool) then
          some false
        else
          if ((decide (0 < t7)) : Bool) then
            if 0 ≤ (IntKind.wrap .i64 (t7 - 1)) ∧ (IntKind.wrap .i64 (t7 - 1)) < (((l).length : Nat) : Int) then
            (ids_Keys (l.getD ((IntKind.wrap .i64 (t7 - 1))).toNat default).f_Key (l.getD t7.toNat default).f_Key).bind fun yL0_12 =>
            if ((decide (0 ≤ yL0_12)) : Bool) then
              some false
            else
              msg_WritesMay_l0 l  fuel (IntKind.wrap .i64 (t7 + 1))
            else none
          else
            msg_WritesMay_l0 l  fuel (IntKind.wrap .i64 (t7 + 1))
      else none
    else
      some (decide (((l).length : Int) ≤ 16))

def msg_WritesMay (l : List (T_api_Write)) : Option ((Bool)) :=
  msg_WritesMay_l0 l  big 0

theorem msg_WritesMay_l0_ok {w0 : World} {W : Nat → Prop} {μ0 : Emb} (hμ : ∀ c p, μ0 c = some p → c < 0) (l : List (T_api_Write))  : ∀ (fuel : Nat) (t7 : Int) (r : (Bool)), msg_WritesMay_l0 l  fuel t7 = some r → kont Tryd.prog w0 W μ0 (FnPost Tryd.prog Tryd.f23 0 0 (msg_WritesMay_v r) []) (kAt (bodyOf Tryd.f23) 0) none (msg_WritesMay_T0 l t7) (msg_WritesMay_H0 l t7) := by
  intro fuel
  induction fuel with
  | zero => intro t7 r h; rw [msg_WritesMay_l0] at h; cases h
  | succ fuel ih =>
    intro t7 r h
    rw [msg_WritesMay_l0] at h
    rcases itb_some h with ⟨cL0_1, h⟩ | ⟨cL0_1, h⟩
    · skip
      obtain ⟨gL0_2, h⟩ := guard_some h
      obtain ⟨yL0_4, eL0_3, h⟩ := bind_some h
      rcases itb_some h with ⟨cL0_5, h⟩ | ⟨cL0_5, h⟩
      · skip
        obtain rfl := Option.some.inj h
        exact run_ret mixed (L := []) (n := 28) (s := [.go, .reg [(0, { v := some (.bool true) })], .reg [], .reg [(2, { call := some (msg_keyMay_v yL0_4, [], []) }), (4, { v := some (.bool true) })], .reg []])
          (a_ (a_ (a_ (a_ tr (a_ (leB cL0_1) tr)) tr) (a_ (a_ (a_ tr tr) (a_ (a_ (a_ (Eq.refl 21) gL0_2) tr) (a_ (a_ (le_ 21 21 rfl) tr) (a_ (a_ tr tr) (a_ (a_ tr tr) (a_ (a_ (a_ (Eq.refl 21) (a_ (le_ 21 21 rfl) (Eq.refl 0))) tr) tr)))))) (a_ (a_ (a_ tr tr) (a_ (a_ (a_ tr (le_ 8 21 rfl)) tr) (a_ (a_ (a_ (msg_keyMay_tri (l.getD t7.toNat default).f_Key yL0_4 eL0_3) tr) tr) (a_ (a_ tr tr) (a_ (a_ tr (a_ (leB cL0_5) tr)) (a_ tr (a_ tr (a_ tr (a_ tr (a_ (a_ tr tr) (a_ (a_ tr tr) (a_ tr (a_ tr (a_ tr (a_ tr (a_ tr (a_ tr (a_ tr (a_ tr (a_ tr (a_ tr (a_ tr (a_ tr (a_ tr (a_ tr (a_ (a_ tr tr) tr)))))))))))))))))))))))))) (a_ (a_ (a_ tr tr) tr) tr)))) tr) (by kernel_rfl) rfl
      · skip
        obtain ⟨yL0_7, eL0_6, h⟩ := bind_some h
        rcases itb_some h with ⟨cL0_8, h⟩ | ⟨cL0_8, h⟩
        · skip
          obtain rfl := Option.some.inj h
          exact run_ret mixed (L := []) (n := 28) (s := [.go, .reg [(0, { v := some (.bool true) })], .reg [], .reg [(2, { call := some (msg_keyMay_v yL0_4, [], []) }), (4, { v := some (.bool false) }), (7, { call := some (msg_ItemMay_v yL0_7, [], []) }), (10, { v := some (.bool true) })], .reg []])
            (a_ (a_ (a_ (a_ tr (a_ (leB cL0_1) tr)) tr) (a_ (a_ (a_ tr tr) (a_ (a_ (a_ (Eq.refl 21) gL0_2) tr) (a_ (a_ (le_ 21 21 rfl) tr) (a_ (a_ tr tr) (a_ (a_ tr tr) (a_ (a_ (a_ (Eq.refl 21) (a_ (le_ 21 21 rfl) (Eq.refl 0))) tr) tr)))))) (a_ (a_ (a_ tr tr) (a_ (a_ (a_ tr (le_ 8 21 rfl)) tr) (a_ (a_ (a_ (msg_keyMay_tri (l.getD t7.toNat default).f_Key yL0_4 eL0_3) tr) tr) (a_ (a_ tr tr) (a_ (a_ tr (a_ (leB cL0_5) tr)) (a_ (a_ tr tr) (a_ (a_ (a_ tr (le_ 21 21 rfl)) tr) (a_ (a_ (a_ (msg_ItemMay_tri (l.getD t7.toNat default).f_Item yL0_7 eL0_6) tr) tr) (a_ (a_ tr tr) (a_ (a_ tr tr) (a_ (a_ tr (a_ (leB cL0_8) tr)) (a_ tr (a_ tr (a_ tr (a_ tr (a_ tr (a_ tr (a_ tr (a_ tr (a_ tr (a_ tr (a_ tr (a_ tr (a_ tr (a_ tr (a_ (a_ tr tr) tr)))))))))))))))))))))))))) (a_ (a_ (a_ tr tr) tr) tr)))) tr) (by kernel_rfl) rfl
        · skip
          rcases itb_some h with ⟨cL0_9, h⟩ | ⟨cL0_9, h⟩
          · skip
            obtain ⟨gL0_10, h⟩ := guard_some h
            obtain ⟨yL0_12, eL0_11, h⟩ := bind_some h
            rcases itb_some h with ⟨cL0_13, h⟩ | ⟨cL0_13, h⟩
            · skip
              obtain rfl := Option.some.inj h
              exact run_ret mixed (L := []) (n := 28) (s := [.go, .reg [(0, { v := some (.bool true) })], .reg [], .reg [(2, { call := some (msg_keyMay_v yL0_4, [], []) }), (4, { v := some (.bool false) }), (7, { call := some (msg_ItemMay_v yL0_7, [], []) }), (10, { v := some (.bool false) }), (13, { v := some (.bool true) }), (22, { call := some (ids_Keys_v yL0_12, [], []) }), (25, { v := some (.bool true) })], .reg []])
                (a_ (a_ (a_ (a_ tr (a_ (leB cL0_1) tr)) tr) (a_ (a_ (a_ tr tr) (a_ (a_ (a_ (Eq.refl 21) gL0_2) tr) (a_ (a_ (le_ 21 21 rfl) tr) (a_ (a_ tr tr) (a_ (a_ tr tr) (a_ (a_ (a_ (Eq.refl 21) (a_ (le_ 21 21 rfl) (Eq.refl 0))) tr) tr)))))) (a_ (a_ (a_ tr tr) (a_ (a_ (a_ tr (le_ 8 21 rfl)) tr) (a_ (a_ (a_ (msg_keyMay_tri (l.getD t7.toNat default).f_Key yL0_4 eL0_3) tr) tr) (a_ (a_ tr tr) (a_ (a_ tr (a_ (leB cL0_5) tr)) (a_ (a_ tr tr) (a_ (a_ (a_ tr (le_ 21 21 rfl)) tr) (a_ (a_ (a_ (msg_ItemMay_tri (l.getD t7.toNat default).f_Item yL0_7 eL0_6) tr) tr) (a_ (a_ tr tr) (a_ (a_ tr tr) (a_ (a_ tr (a_ (leB cL0_8) tr)) (a_ (a_ tr tr) (a_ (a_ tr tr) (a_ (a_ tr (a_ (leB cL0_9) tr)) (a_ (a_ tr tr) (a_ (a_ tr tr) (a_ (a_ tr tr) (a_ (a_ (a_ (Eq.refl 21) gL0_10) tr) (a_ (a_ tr tr) (a_ (a_ (le_ 8 21 rfl) tr) (a_ (a_ tr tr) (a_ (a_ (a_ tr (le_ 8 21 rfl)) tr) (a_ (a_ (a_ (ids_Keys_tri (l.getD ((IntKind.wrap .i64 (t7 - 1))).toNat default).f_Key (l.getD t7.toNat default).f_Key yL0_12 eL0_11) tr) tr) (a_ (a_ tr tr) (a_ (a_ tr tr) (a_ (a_ tr (a_ (leB cL0_13) tr)) tr)))))))))))))))))))))))))) (a_ (a_ (a_ tr tr) tr) tr)))) tr) (by kernel_rfl) rfl
            · skip
              exact run_to mixed hμ (L := []) (n := 29) (s := [.go, .reg [(0, { v := some (.bool true) })], .reg [], .reg [(2, { call := some (msg_keyMay_v yL0_4, [], []) }), (4, { v := some (.bool false) }), (7, { call := some (msg_ItemMay_v yL0_7, [], []) }), (10, { v := some (.bool false) }), (13, { v := some (.bool true) }), (22, { call := some (ids_Keys_v yL0_12, [], []) }), (25, { v := some (.bool false) })], .reg []])
                (a_ (a_ (a_ tr (a_ (leB cL0_1) tr)) tr) (a_ (a_ (a_ tr tr) (a_ (a_ (a_ (Eq.refl 21) gL0_2) tr) (a_ (a_ (le_ 21 21 rfl) tr) (a_ (a_ tr tr) (a_ (a_ tr tr) (a_ (a_ (a_ (Eq.refl 21) (a_ (le_ 21 21 rfl) (Eq.refl 0))) tr) tr)))))) (a_ (a_ (a_ tr tr) (a_ (a_ (a_ tr (le_ 8 21 rfl)) tr) (a_ (a_ (a_ (msg_keyMay_tri (l.getD t7.toNat default).f_Key yL0_4 eL0_3) tr) tr) (a_ (a_ tr tr) (a_ (a_ tr (a_ (leB cL0_5) tr)) (a_ (a_ tr tr) (a_ (a_ (a_ tr (le_ 21 21 rfl)) tr) (a_ (a_ (a_ (msg_ItemMay_tri (l.getD t7.toNat default).f_Item yL0_7 eL0_6) tr) tr) (a_ (a_ tr tr) (a_ (a_ tr tr) (a_ (a_ tr (a_ (leB cL0_8) tr)) (a_ (a_ tr tr) (a_ (a_ tr tr) (a_ (a_ tr (a_ (leB cL0_9) tr)) (a_ (a_ tr tr) (a_ (a_ tr tr) (a_ (a_ tr tr) (a_ (a_ (a_ (Eq.refl 21) gL0_10) tr) (a_ (a_ tr tr) (a_ (a_ (le_ 8 21 rfl) tr) (a_ (a_ tr tr) (a_ (a_ (a_ tr (le_ 8 21 rfl)) tr) (a_ (a_ (a_ (ids_Keys_tri (l.getD ((IntKind.wrap .i64 (t7 - 1))).toNat default).f_Key (l.getD t7.toNat default).f_Key yL0_12 eL0_11) tr) tr) (a_ (a_ tr tr) (a_ (a_ tr tr) (a_ (a_ tr (a_ (leB cL0_13) tr)) tr)))))))))))))))))))))))))) (a_ (a_ (a_ tr tr) (a_ (a_ tr tr) tr)) tr)))) (ih _ r h) (by kernel_rfl) trivial
          · skip
            exact run_to mixed hμ (L := []) (n := 29) (s := [.go, .reg [(0, { v := some (.bool true) })], .reg [], .reg [(2, { call := some (msg_keyMay_v yL0_4, [], []) }), (4, { v := some (.bool false) }), (7, { call := some (msg_ItemMay_v yL0_7, [], []) }), (10, { v := some (.bool false) }), (13, { v := some (.bool false) })], .reg []])
              (a_ (a_ (a_ tr (a_ (leB cL0_1) tr)) tr) (a_ (a_ (a_ tr tr) (a_ (a_ (a_ (Eq.refl 21) gL0_2) tr) (a_ (a_ (le_ 21 21 rfl) tr) (a_ (a_ tr tr) (a_ (a_ tr tr) (a_ (a_ (a_ (Eq.refl 21) (a_ (le_ 21 21 rfl) (Eq.refl 0))) tr) tr)))))) (a_ (a_ (a_ tr tr) (a_ (a_ (a_ tr (le_ 8 21 rfl)) tr) (a_ (a_ (a_ (msg_keyMay_tri (l.getD t7.toNat default).f_Key yL0_4 eL0_3) tr) tr) (a_ (a_ tr tr) (a_ (a_ tr (a_ (leB cL0_5) tr)) (a_ (a_ tr tr) (a_ (a_ (a_ tr (le_ 21 21 rfl)) tr) (a_ (a_ (a_ (msg_ItemMay_tri (l.getD t7.toNat default).f_Item yL0_7 eL0_6) tr) tr) (a_ (a_ tr tr) (a_ (a_ tr tr) (a_ (a_ tr (a_ (leB cL0_8) tr)) (a_ (a_ tr tr) (a_ (a_ tr tr) (a_ (a_ tr (a_ (leB cL0_9) tr)) (a_ tr (a_ tr (a_ tr (a_ tr (a_ tr (a_ tr (a_ tr (a_ tr (a_ tr (a_ tr (a_ (a_ tr tr) (a_ (a_ tr tr) tr)))))))))))))))))))))))))) (a_ (a_ (a_ tr tr) (a_ (a_ tr tr) tr)) tr)))) (ih _ r h) (by kernel_rfl) trivial
    · skip
      obtain rfl := Option.some.inj h
      exact run_ret mixed (L := []) (n := 19) (s := [.go, .reg [(0, { v := some (.bool false) })], .reg []])
        (a_ (a_ (a_ (a_ tr (a_ (leB cL0_1) tr)) tr) (a_ (a_ (a_ tr tr) (a_ (a_ tr tr) (a_ (a_ tr tr) (a_ (a_ tr tr) tr)))) tr)) tr) (by kernel_rfl) rfl

theorem msg_WritesMay_ok (l : List (T_api_Write)) (r : (Bool)) (h : msg_WritesMay l = some r) : ∀ σ, Inj 0 σ → FnTri Tryd.prog 23 (renL σ [.ds 21 (l).length (rowF c_T_api_Write default l)]) (preOf σ 0 []) ((msg_WritesMay_v r).ren σ) (upOf σ []) := by
  refine fn_of Tryd.func23 (by kernel_rfl) (by kernel_rfl) (by kernel_rfl) trivial (by kernel_rfl) trivial (by kernel_rfl) ?_
  intro w0 W μ0 hμ
  unfold msg_WritesMay at h
  exact run_to mixed hμ (L := []) (n := 18) (s := [.reg [], .reg []])
    (a_ (a_ (a_ tr tr) tr) (a_ (a_ (a_ tr tr) (a_ (a_ tr tr) (a_ (a_ tr tr) tr))) tr)) (msg_WritesMay_l0_ok hμ l  big _ r h) (by kernel_rfl) trivial

theorem msg_WritesMay_tri (l : List (T_api_Write)) (r : (Bool)) (h : msg_WritesMay l = some r) : FnTri Tryd.prog 23 [.ds 21 (l).length (rowF c_T_api_Write default l)] [] (msg_WritesMay_v r) [] := FnTri.none (msg_WritesMay_ok l r h) rfl rfl

/-- parrel/bits.bit -/

def bits_bit_v (r : (Int)) : LV := .int .u64 r

def bits_bit (x_n : Int) : Option ((Int)) :=
  if ((decide (x_n < 0)) : Bool) then
    some 0
  else
    if ((decide (64 ≤ x_n)) : Bool) then
      some 0
    else
      if 0 ≤ x_n then
      some (IntKind.wrap .u64 (1 * 2 ^ (min (Int.toNat x_n) (IntKind.bits .u64))))
      else none

theorem bits_bit_ok (x_n : Int) (r : (Int)) (h : bits_bit x_n = some r) : ∀ σ, Inj 0 σ → FnTri Tryd.prog 67 (renL σ [.int .i64 x_n]) (preOf σ 0 []) ((bits_bit_v r).ren σ) (upOf σ []) := by
  refine fn_of Tryd.func67 (by kernel_rfl) (by kernel_rfl) (by kernel_rfl) trivial (by kernel_rfl) trivial (by kernel_rfl) ?_
  intro w0 W μ0 hμ
  unfold bits_bit at h
  rcases itb_some h with ⟨c1, h⟩ | ⟨c1, h⟩
  · skip
    obtain rfl := Option.some.inj h
    exact run_ret mixed (L := []) (n := 20) (s := [.reg [], .reg [(2, { v := some (.bool true) })], .reg []])
      (a_ (a_ (a_ (a_ tr tr) tr) (a_ (a_ (a_ tr tr) (a_ (a_ tr tr) (a_ (a_ tr (a_ (leB c1) tr)) (a_ tr (a_ tr (a_ (a_ tr tr) tr)))))) (a_ (a_ (a_ tr tr) tr) tr))) tr) (by kernel_rfl) rfl
  · skip
    rcases itb_some h with ⟨c2, h⟩ | ⟨c2, h⟩
    · skip
      obtain rfl := Option.some.inj h
      exact run_ret mixed (L := []) (n := 20) (s := [.reg [], .reg [(2, { v := some (.bool false) }), (5, { v := some (.bool true) })], .reg []])
        (a_ (a_ (a_ (a_ tr tr) tr) (a_ (a_ (a_ tr tr) (a_ (a_ tr tr) (a_ (a_ tr (a_ (leB c1) tr)) (a_ (a_ tr tr) (a_ (a_ tr tr) (a_ (a_ tr (a_ (leB c2) tr)) tr)))))) (a_ (a_ (a_ tr tr) tr) tr))) tr) (by kernel_rfl) rfl
    · skip
      obtain ⟨g3, h⟩ := guard_some h
      obtain rfl := Option.some.inj h
      exact run_ret mixed (L := []) (n := 21) (s := [.reg [], .reg [(2, { v := some (.bool false) }), (5, { v := some (.bool false) })], .reg []])
        (a_ (a_ (a_ (a_ tr tr) tr) (a_ (a_ (a_ tr tr) (a_ (a_ tr tr) (a_ (a_ tr (a_ (leB c1) tr)) (a_ (a_ tr tr) (a_ (a_ tr tr) (a_ (a_ tr (a_ (leB c2) tr)) tr)))))) (a_ (a_ (a_ tr tr) (a_ (a_ g3 tr) (a_ (a_ tr tr) tr))) tr))) tr) (by kernel_rfl) rfl

theorem bits_bit_tri (x_n : Int) (r : (Int)) (h : bits_bit x_n = some r) : FnTri Tryd.prog 67 [.int .i64 x_n] [] (bits_bit_v r) [] := FnTri.none (bits_bit_ok x_n r h) rfl rfl

/-- parrel/bits.With -/

def bits_With_v (r : (Int)) : LV := .int .u64 r

def bits_With (set : Int) (x_n : Int) : Option ((Int)) :=
  (bits_bit x_n).bind fun y2 =>
  some (IntKind.wrap .u64 ((BitVec.ofInt (IntKind.bits .u64) set ||| BitVec.ofInt (IntKind.bits .u64) y2).toNat : Int))

theorem bits_With_ok (set : Int) (x_n : Int) (r : (Int)) (h : bits_With set x_n = some r) : ∀ σ, Inj 0 σ → FnTri Tryd.prog 55 (renL σ [.int .u64 set, .int .i64 x_n]) (preOf σ 0 []) ((bits_With_v r).ren σ) (upOf σ []) := by
  refine fn_of Tryd.func55 (by kernel_rfl) (by kernel_rfl) (by kernel_rfl) trivial (by kernel_rfl) trivial (by kernel_rfl) ?_
  intro w0 W μ0 hμ
  unfold bits_With at h
  obtain ⟨y2, e1, h⟩ := bind_some h
  obtain rfl := Option.some.inj h
  exact run_ret mixed (L := []) (n := 15) (s := [.reg [], .reg [(2, { call := some (bits_bit_v y2, [], []) })]])
    (a_ (a_ (a_ (a_ tr tr) tr) (a_ (a_ (a_ tr tr) (a_ (a_ tr tr) (a_ (a_ (a_ (bits_bit_tri x_n y2 e1) tr) tr) (a_ (a_ tr tr) (a_ (a_ tr tr) tr))))) tr)) tr) (by kernel_rfl) rfl

theorem bits_With_tri (set : Int) (x_n : Int) (r : (Int)) (h : bits_With set x_n = some r) : FnTri Tryd.prog 55 [.int .u64 set, .int .i64 x_n] [] (bits_With_v r) [] := FnTri.none (bits_With_ok set x_n r h) rfl rfl

/-- (parrel/miss.Lock).nodes -/

def miss_Lock_nodes_v (r : (Int)) : LV := .int .u64 r

def miss_Lock_nodes_T0 (l : T_miss_Lock) (set : Int) (t9 : Int) : List LV := [.any, .any, .any, .int .u64 set, .any, .any, .any, .ds 16 (l.f_Got).length (rowF c_T_gather_Got default l.f_Got), .int .i64 ((l.f_Got).length : Int), .int .i64 t9, .any, .any, .any, .any, .any, .any, .any, .any, .any, .any]

def miss_Lock_nodes_H0 (l : T_miss_Lock) (set : Int) (t9 : Int) : Heap := []

def miss_Lock_nodes_l0 (l : T_miss_Lock)  : Nat → (Int) → (Int) → Option ((Int))
  | 0, _, _ => none
  | fuel + 1, set, t9 =>
    if ((decide (t9 < ((l.f_Got).length : Int))) : Bool) then
      if 0 ≤ t9 ∧ t9 < (((l.f_Got).length : Nat) : Int) then
      (bits_With set (IntKind.wrap .i64 (l.f_Got.getD t9.toNat default).f_Node)).bind fun yL0_4 =>
      miss_Lock_nodes_l0 l  fuel yL0_4 (IntKind.wrap .i64 (t9 + 1))
      else none
    else
      some set

def miss_Lock_nodes (l : T_miss_Lock) : Option ((Int)) :=
  miss_Lock_nodes_l0 l  big 0 0

theorem miss_Lock_nodes_l0_ok {w0 : World} {W : Nat → Prop} {μ0 : Emb} (hμ : ∀ c p, μ0 c = some p → c < 0) (l : T_miss_Lock)  : ∀ (fuel : Nat) (set : Int) (t9 : Int) (r : (Int)), miss_Lock_nodes_l0 l  fuel set t9 = some r → kont Tryd.prog w0 W μ0 (FnPost Tryd.prog Tryd.f37 0 0 (miss_Lock_nodes_v r) []) (kAt (bodyOf Tryd.f37) 0) none (miss_Lock_nodes_T0 l set t9) (miss_Lock_nodes_H0 l set t9) := by
  intro fuel
  induction fuel with
  | zero => intro set t9 r h; rw [miss_Lock_nodes_l0] at h; cases h
  | succ fuel ih =>
    intro set t9 r h
    rw [miss_Lock_nodes_l0] at h
    rcases itb_some h with ⟨cL0_1, h⟩ | ⟨cL0_1, h⟩
    · skip
      obtain ⟨gL0_2, h⟩ := guard_some h
      obtain ⟨yL0_4, eL0_3, h⟩ := bind_some h
      exact run_to mixed hμ (L := []) (n := 26) (s := [.go, .reg [(0, { v := some (.bool true) })], .reg [], .reg [(4, { call := some (bits_With_v yL0_4, [], []) })], .reg []])
        (a_ (a_ (a_ tr (a_ (leB cL0_1) tr)) tr) (a_ (a_ (a_ (a_ (Eq.refl 16) gL0_2) tr) (a_ (a_ (le_ 16 16 rfl) tr) (a_ (a_ tr tr) (a_ (a_ (a_ (Eq.refl 16) (a_ (le_ 16 16 rfl) (Eq.refl 0))) tr) tr)))) (a_ (a_ (a_ tr tr) (a_ (a_ tr tr) (a_ (a_ (a_ tr (lt_ 0 16 rfl)) tr) (a_ (a_ tr tr) (a_ (a_ (a_ (bits_With_tri set (IntKind.wrap .i64 (l.f_Got.getD t9.toNat default).f_Node) yL0_4 eL0_3) tr) tr) (a_ (a_ tr tr) tr)))))) (a_ (a_ (a_ tr tr) (a_ (a_ tr tr) tr)) tr)))) (ih _ _ r h) (by kernel_rfl) trivial
    · skip
      obtain rfl := Option.some.inj h
      exact run_ret mixed (L := []) (n := 19) (s := [.go, .reg [(0, { v := some (.bool false) })], .reg []])
        (a_ (a_ (a_ (a_ tr (a_ (leB cL0_1) tr)) tr) (a_ (a_ (a_ tr tr) (a_ (a_ tr tr) tr)) tr)) tr) (by kernel_rfl) rfl

theorem miss_Lock_nodes_ok (l : T_miss_Lock) (r : (Int)) (h : miss_Lock_nodes l = some r) : ∀ σ, Inj 0 σ → FnTri Tryd.prog 37 (renL σ [v_T_miss_Lock l]) (preOf σ 0 []) ((miss_Lock_nodes_v r).ren σ) (upOf σ []) := by
  refine fn_of Tryd.func37 (by kernel_rfl) (by kernel_rfl) (by kernel_rfl) trivial (by kernel_rfl) trivial (by kernel_rfl) ?_
  intro w0 W μ0 hμ
  unfold miss_Lock_nodes at h
  exact run_to mixed hμ (L := []) (n := 21) (s := [.reg [], .reg [], .reg []])
    (a_ (a_ (a_ tr tr) (a_ (a_ tr tr) tr)) (a_ (a_ (a_ tr tr) tr) (a_ (a_ (a_ tr tr) (a_ (a_ (a_ tr (lt_ 9 10 rfl)) tr) (a_ (a_ tr tr) (a_ (a_ tr tr) tr)))) tr))) (miss_Lock_nodes_l0_ok hμ l  big _ _ r h) (by kernel_rfl) trivial

theorem miss_Lock_nodes_tri (l : T_miss_Lock) (r : (Int)) (h : miss_Lock_nodes l = some r) : FnTri Tryd.prog 37 [v_T_miss_Lock l] [] (miss_Lock_nodes_v r) [] := FnTri.none (miss_Lock_nodes_ok l r h) rfl rfl

/-- (*parrel/miss.plan).take -/

def miss_plan_take_v (r : (Bool) × (A8 (T_api_Reg)) × (List (A8 (Int) × Int))) : LV := .bool r.1

def miss_plan_take_up (Boot : A8 (T_api_Reg)) (writers : List (A8 (Int) × Int)) (l : T_miss_Lock) (r : (Bool) × (A8 (T_api_Reg)) × (List (A8 (Int) × Int))) : Upd := [(0, some (.var [.int .u32 r.2.1.a0.f_Boot, .int .u32 r.2.1.a0.f_N, .int .u32 r.2.1.a1.f_Boot, .int .u32 r.2.1.a1.f_N, .int .u32 r.2.1.a2.f_Boot, .int .u32 r.2.1.a2.f_N, .int .u32 r.2.1.a3.f_Boot, .int .u32 r.2.1.a3.f_N, .int .u32 r.2.1.a4.f_Boot, .int .u32 r.2.1.a4.f_N, .int .u32 r.2.1.a5.f_Boot, .int .u32 r.2.1.a5.f_N, .int .u32 r.2.1.a6.f_Boot, .int .u32 r.2.1.a6.f_N, .int .u32 r.2.1.a7.f_Boot, .int .u32 r.2.1.a7.f_N, .map 1])), (1, some (.map true [.int .u8, .int .u8, .int .u8, .int .u8, .int .u8, .int .u8, .int .u8, .int .u8] (encM (fun z_ : A8 (Int) => LV.agg [.int .u8 z_.a0, .int .u8 z_.a1, .int .u8 z_.a2, .int .u8 z_.a3, .int .u8 z_.a4, .int .u8 z_.a5, .int .u8 z_.a6, .int .u8 z_.a7]) (LV.int .u64) r.2.2)))]

def miss_plan_take_objs (Boot : A8 (T_api_Reg)) (writers : List (A8 (Int) × Int)) (l : T_miss_Lock) : List LO := [.var [.int .u32 Boot.a0.f_Boot, .int .u32 Boot.a0.f_N, .int .u32 Boot.a1.f_Boot, .int .u32 Boot.a1.f_N, .int .u32 Boot.a2.f_Boot, .int .u32 Boot.a2.f_N, .int .u32 Boot.a3.f_Boot, .int .u32 Boot.a3.f_N, .int .u32 Boot.a4.f_Boot, .int .u32 Boot.a4.f_N, .int .u32 Boot.a5.f_Boot, .int .u32 Boot.a5.f_N, .int .u32 Boot.a6.f_Boot, .int .u32 Boot.a6.f_N, .int .u32 Boot.a7.f_Boot, .int .u32 Boot.a7.f_N, .map 1], .map true [.int .u8, .int .u8, .int .u8, .int .u8, .int .u8, .int .u8, .int .u8, .int .u8] (encM (fun z_ : A8 (Int) => LV.agg [.int .u8 z_.a0, .int .u8 z_.a1, .int .u8 z_.a2, .int .u8 z_.a3, .int .u8 z_.a4, .int .u8 z_.a5, .int .u8 z_.a6, .int .u8 z_.a7]) (LV.int .u64) writers)]

def miss_plan_take_T0 (writers : List (A8 (Int) × Int)) (l : T_miss_Lock) (t11 : Int) (Boot2 : A8 (T_api_Reg)) : List LV := [.ptr 0 0 0, .any, .any, .ptr 2 0 0, .any, .any, .any, .any, .any, .ds 16 (l.f_Got).length (rowF c_T_gather_Got default l.f_Got), .int .i64 ((l.f_Got).length : Int), .int .i64 t11, .any, .any, .any, .any, .any, .any, .any, .any, .any, .any, .any, .any, .any, .any, .any, .any, .any, .any, .any, .any, .any, .any, .any, .any, .any, .any, .any, .any, .any, .any, .any, .any, .any, .any, .any, .any, .any, .any, .any, .any, .any, .any]

def miss_plan_take_H0 (writers : List (A8 (Int) × Int)) (l : T_miss_Lock) (t11 : Int) (Boot2 : A8 (T_api_Reg)) : Heap := [some (.var [.int .u32 Boot2.a0.f_Boot, .int .u32 Boot2.a0.f_N, .int .u32 Boot2.a1.f_Boot, .int .u32 Boot2.a1.f_N, .int .u32 Boot2.a2.f_Boot, .int .u32 Boot2.a2.f_N, .int .u32 Boot2.a3.f_Boot, .int .u32 Boot2.a3.f_N, .int .u32 Boot2.a4.f_Boot, .int .u32 Boot2.a4.f_N, .int .u32 Boot2.a5.f_Boot, .int .u32 Boot2.a5.f_N, .int .u32 Boot2.a6.f_Boot, .int .u32 Boot2.a6.f_N, .int .u32 Boot2.a7.f_Boot, .int .u32 Boot2.a7.f_N, .map 1]), some (.map true [.int .u8, .int .u8, .int .u8, .int .u8, .int .u8, .int .u8, .int .u8, .int .u8] (encM (fun z_ : A8 (Int) => LV.agg [.int .u8 z_.a0, .int .u8 z_.a1, .int .u8 z_.a2, .int .u8 z_.a3, .int .u8 z_.a4, .int .u8 z_.a5, .int .u8 z_.a6, .int .u8 z_.a7]) (LV.int .u64) writers)), some (.var (c_T_miss_Lock l))]

def miss_plan_take_l0 (Boot : A8 (T_api_Reg)) (writers : List (A8 (Int) × Int)) (l : T_miss_Lock)  : Nat → (Int) → (A8 (T_api_Reg)) → Option ((Bool) × (A8 (T_api_Reg)) × (List (A8 (Int) × Int)))
  | 0, _, _ => none
  | fuel + 1, t11, Boot2 =>
    if ((decide (t11 < ((l.f_Got).length : Int))) : Bool) then
      if 0 ≤ t11 ∧ t11 < (((l.f_Got).length : Nat) : Int) then
      if 0 ≤ (l.f_Got.getD t11.toNat default).f_Node ∧ (l.f_Got.getD t11.toNat default).f_Node < 8 then
      if ((!decide ((A8.get Boot2 ((l.f_Got.getD t11.toNat default).f_Node).toNat) = (T_api_Reg.mk 0 0))) : Bool) then
        if ((!decide ((A8.get Boot2 ((l.f_Got.getD t11.toNat default).f_Node).toNat) = (l.f_Got.getD t11.toNat default).f_Reg)) : Bool) then
          some (false, Boot2, writers)
        else
          miss_plan_take_l0 Boot writers l  fuel (IntKind.wrap .i64 (t11 + 1)) (A8.set Boot2 (l.f_Got.getD t11.toNat default).f_Reg ((l.f_Got.getD t11.toNat default).f_Node).toNat)
      else
        miss_plan_take_l0 Boot writers l  fuel (IntKind.wrap .i64 (t11 + 1)) (A8.set Boot2 (l.f_Got.getD t11.toNat default).f_Reg ((l.f_Got.getD t11.toNat default).f_Node).toNat)
      else none
      else none
    else
      if ((l.f_Mode == 2) : Bool) then
        (miss_Lock_nodes l).bind fun yL0_4 =>
        some (true, Boot2, (mset writers l.f_Key (IntKind.wrap .u64 ((BitVec.ofInt (IntKind.bits .u64) ((mget writers l.f_Key).getD default) ||| BitVec.ofInt (IntKind.bits .u64) yL0_4).toNat : Int))))
      else
        some (true, Boot2, writers)

def miss_plan_take (Boot : A8 (T_api_Reg)) (writers : List (A8 (Int) × Int)) (l : T_miss_Lock) : Option ((Bool) × (A8 (T_api_Reg)) × (List (A8 (Int) × Int))) :=
  miss_plan_take_l0 Boot writers l  big 0 Boot

theorem miss_plan_take_l0_ok {w0 : World} {W : Nat → Prop} {μ0 : Emb} (hμ : ∀ c p, μ0 c = some p → c < 2) (Boot : A8 (T_api_Reg)) (writers : List (A8 (Int) × Int)) (l : T_miss_Lock)  : ∀ (fuel : Nat) (t11 : Int) (Boot2 : A8 (T_api_Reg)) (r : (Bool) × (A8 (T_api_Reg)) × (List (A8 (Int) × Int))), miss_plan_take_l0 Boot writers l  fuel t11 Boot2 = some r → kont Tryd.prog w0 W μ0 (FnPost Tryd.prog Tryd.f24 2 2 (miss_plan_take_v r) (miss_plan_take_up Boot writers l r)) (kAt (bodyOf Tryd.f24) 0) none (miss_plan_take_T0 writers l t11 Boot2) (miss_plan_take_H0 writers l t11 Boot2) := by
  intro fuel
  induction fuel with
  | zero => intro t11 Boot2 r h; rw [miss_plan_take_l0] at h; cases h
  | succ fuel ih =>
    intro t11 Boot2 r h
    rw [miss_plan_take_l0] at h
    rcases itb_some h with ⟨cL0_1, h⟩ | ⟨cL0_1, h⟩
    · skip
      obtain ⟨gL0_2, h⟩ := guard_some h
      obtain ⟨gL0_3, h⟩ := guard_some h
      rcases itb_some h with ⟨cL0_4, h⟩ | ⟨cL0_4, h⟩
      · skip
        rcases itb_some h with ⟨cL0_5, h⟩ | ⟨cL0_5, h⟩
        · skip
          obtain rfl := Option.some.inj h
          exact run_ret mixed (L := []) (n := 32) (s := [.go, .reg [(0, { v := some (.bool true) })], .reg [], .reg [], .reg [(2, { v := some (v_T_api_Reg (A8.get Boot2 ((l.f_Got.getD t11.toNat default).f_Node).toNat)) }), (4, { v := some (.bool (!decide ((A8.get Boot2 ((l.f_Got.getD t11.toNat default).f_Node).toNat) = (T_api_Reg.mk 0 0)))) }), (5, { v := some (.bool true) }), (8, { v := some (v_T_api_Reg (A8.get Boot2 ((l.f_Got.getD t11.toNat default).f_Node).toNat)) }), (11, { v := some (.bool (!decide ((A8.get Boot2 ((l.f_Got.getD t11.toNat default).f_Node).toNat) = (l.f_Got.getD t11.toNat default).f_Reg))) }), (12, { v := some (.bool true) })], .reg []])
            (a_ (a_ (a_ (a_ tr (a_ (leB cL0_1) tr)) tr) (a_ (a_ (a_ (a_ (Eq.refl 16) gL0_2) tr) (a_ (a_ (le_ 16 16 rfl) tr) (a_ (a_ tr tr) (a_ (a_ (a_ (Eq.refl 16) (a_ (le_ 16 16 rfl) (Eq.refl 0))) tr) tr)))) (a_ (a_ (a_ tr tr) (a_ (a_ tr tr) (a_ (a_ (a_ tr (lt_ 0 16 rfl)) tr) (a_ (a_ tr tr) (a_ (a_ tr tr) (a_ (a_ gL0_3 tr) (a_ (a_ tr tr) tr))))))) (a_ (a_ (a_ tr tr) (a_ (a_ tr tr) (a_ (a_ (a_ tr (arrLe (len := 8) gL0_3 0 2 17 2 rfl rfl)) (a_ (ld8 c_T_api_Reg 2 (fun _ => rfl) Boot2 [] [.map 1] 0 rfl ((l.f_Got.getD t11.toNat default).f_Node).toNat 2 (lt8N gL0_3) (le_ (0 + 2) 2 rfl)) tr)) (a_ (a_ (Eq.refl true) tr) (a_ (a_ tr (a_ (leB (congrArg not (k_T_api_Reg (A8.get Boot2 ((l.f_Got.getD t11.toNat default).f_Node).toNat) (T_api_Reg.mk 0 0)))) tr)) (a_ (a_ tr (a_ (leB cL0_4) tr)) (a_ (a_ tr tr) (a_ (a_ tr tr) (a_ (a_ (a_ tr (arrLe (len := 8) gL0_3 0 2 17 2 rfl rfl)) (a_ (ld8 c_T_api_Reg 2 (fun _ => rfl) Boot2 [] [.map 1] 0 rfl ((l.f_Got.getD t11.toNat default).f_Node).toNat 2 (lt8N gL0_3) (le_ (0 + 2) 2 rfl)) tr)) (a_ (a_ tr tr) (a_ (a_ (a_ tr (le_ 3 16 rfl)) tr) (a_ (a_ tr (a_ (leB (congrArg not (k_T_api_Reg (A8.get Boot2 ((l.f_Got.getD t11.toNat default).f_Node).toNat) (l.f_Got.getD t11.toNat default).f_Reg))) tr)) (a_ (a_ tr (a_ (leB cL0_5) tr)) tr))))))))))))) (a_ (a_ (a_ tr tr) tr) tr))))) tr) (by kernel_rfl) rfl
        · skip
          exact run_to mixed hμ (L := [2]) (n := 35) (s := [.go, .reg [(0, { v := some (.bool true) })], .reg [], .reg [], .reg [(2, { v := some (v_T_api_Reg (A8.get Boot2 ((l.f_Got.getD t11.toNat default).f_Node).toNat)) }), (4, { v := some (.bool (!decide ((A8.get Boot2 ((l.f_Got.getD t11.toNat default).f_Node).toNat) = (T_api_Reg.mk 0 0)))) }), (5, { v := some (.bool true) }), (8, { v := some (v_T_api_Reg (A8.get Boot2 ((l.f_Got.getD t11.toNat default).f_Node).toNat)) }), (11, { v := some (.bool (!decide ((A8.get Boot2 ((l.f_Got.getD t11.toNat default).f_Node).toNat) = (l.f_Got.getD t11.toNat default).f_Reg))) }), (12, { v := some (.bool false) })], .reg [(4, { os := [(0, .var [.int .u32 (A8.set Boot2 (l.f_Got.getD t11.toNat default).f_Reg ((l.f_Got.getD t11.toNat default).f_Node).toNat).a0.f_Boot, .int .u32 (A8.set Boot2 (l.f_Got.getD t11.toNat default).f_Reg ((l.f_Got.getD t11.toNat default).f_Node).toNat).a0.f_N, .int .u32 (A8.set Boot2 (l.f_Got.getD t11.toNat default).f_Reg ((l.f_Got.getD t11.toNat default).f_Node).toNat).a1.f_Boot, .int .u32 (A8.set Boot2 (l.f_Got.getD t11.toNat default).f_Reg ((l.f_Got.getD t11.toNat default).f_Node).toNat).a1.f_N, .int .u32 (A8.set Boot2 (l.f_Got.getD t11.toNat default).f_Reg ((l.f_Got.getD t11.toNat default).f_Node).toNat).a2.f_Boot, .int .u32 (A8.set Boot2 (l.f_Got.getD t11.toNat default).f_Reg ((l.f_Got.getD t11.toNat default).f_Node).toNat).a2.f_N, .int .u32 (A8.set Boot2 (l.f_Got.getD t11.toNat default).f_Reg ((l.f_Got.getD t11.toNat default).f_Node).toNat).a3.f_Boot, .int .u32 (A8.set Boot2 (l.f_Got.getD t11.toNat default).f_Reg ((l.f_Got.getD t11.toNat default).f_Node).toNat).a3.f_N, .int .u32 (A8.set Boot2 (l.f_Got.getD t11.toNat default).f_Reg ((l.f_Got.getD t11.toNat default).f_Node).toNat).a4.f_Boot, .int .u32 (A8.set Boot2 (l.f_Got.getD t11.toNat default).f_Reg ((l.f_Got.getD t11.toNat default).f_Node).toNat).a4.f_N, .int .u32 (A8.set Boot2 (l.f_Got.getD t11.toNat default).f_Reg ((l.f_Got.getD t11.toNat default).f_Node).toNat).a5.f_Boot, .int .u32 (A8.set Boot2 (l.f_Got.getD t11.toNat default).f_Reg ((l.f_Got.getD t11.toNat default).f_Node).toNat).a5.f_N, .int .u32 (A8.set Boot2 (l.f_Got.getD t11.toNat default).f_Reg ((l.f_Got.getD t11.toNat default).f_Node).toNat).a6.f_Boot, .int .u32 (A8.set Boot2 (l.f_Got.getD t11.toNat default).f_Reg ((l.f_Got.getD t11.toNat default).f_Node).toNat).a6.f_N, .int .u32 (A8.set Boot2 (l.f_Got.getD t11.toNat default).f_Reg ((l.f_Got.getD t11.toNat default).f_Node).toNat).a7.f_Boot, .int .u32 (A8.set Boot2 (l.f_Got.getD t11.toNat default).f_Reg ((l.f_Got.getD t11.toNat default).f_Node).toNat).a7.f_N, .map 1])] })], .reg []])
            (a_ (a_ (a_ tr (a_ (leB cL0_1) tr)) tr) (a_ (a_ (a_ (a_ (Eq.refl 16) gL0_2) tr) (a_ (a_ (le_ 16 16 rfl) tr) (a_ (a_ tr tr) (a_ (a_ (a_ (Eq.refl 16) (a_ (le_ 16 16 rfl) (Eq.refl 0))) tr) tr)))) (a_ (a_ (a_ tr tr) (a_ (a_ tr tr) (a_ (a_ (a_ tr (lt_ 0 16 rfl)) tr) (a_ (a_ tr tr) (a_ (a_ tr tr) (a_ (a_ gL0_3 tr) (a_ (a_ tr tr) tr))))))) (a_ (a_ (a_ tr tr) (a_ (a_ tr tr) (a_ (a_ (a_ tr (arrLe (len := 8) gL0_3 0 2 17 2 rfl rfl)) (a_ (ld8 c_T_api_Reg 2 (fun _ => rfl) Boot2 [] [.map 1] 0 rfl ((l.f_Got.getD t11.toNat default).f_Node).toNat 2 (lt8N gL0_3) (le_ (0 + 2) 2 rfl)) tr)) (a_ (a_ (Eq.refl true) tr) (a_ (a_ tr (a_ (leB (congrArg not (k_T_api_Reg (A8.get Boot2 ((l.f_Got.getD t11.toNat default).f_Node).toNat) (T_api_Reg.mk 0 0)))) tr)) (a_ (a_ tr (a_ (leB cL0_4) tr)) (a_ (a_ tr tr) (a_ (a_ tr tr) (a_ (a_ (a_ tr (arrLe (len := 8) gL0_3 0 2 17 2 rfl rfl)) (a_ (ld8 c_T_api_Reg 2 (fun _ => rfl) Boot2 [] [.map 1] 0 rfl ((l.f_Got.getD t11.toNat default).f_Node).toNat 2 (lt8N gL0_3) (le_ (0 + 2) 2 rfl)) tr)) (a_ (a_ tr tr) (a_ (a_ (a_ tr (le_ 3 16 rfl)) tr) (a_ (a_ tr (a_ (leB (congrArg not (k_T_api_Reg (A8.get Boot2 ((l.f_Got.getD t11.toNat default).f_Node).toNat) (l.f_Got.getD t11.toNat default).f_Reg))) tr)) (a_ (a_ tr (a_ (leB cL0_5) tr)) tr))))))))))))) (a_ (a_ (a_ tr tr) (a_ (a_ tr tr) (a_ (a_ (a_ tr (le_ 3 16 rfl)) tr) (a_ (a_ tr tr) (a_ (a_ (a_ (Eq.refl 2) (a_ (arrLe (len := 8) gL0_3 0 2 17 2 rfl rfl) (Eq.refl 0))) (a_ (st8 c_T_api_Reg 2 (fun _ => rfl) Boot2 [] [.map 1] 0 rfl ((l.f_Got.getD t11.toNat default).f_Node).toNat (lt8N gL0_3) (l.f_Got.getD t11.toNat default).f_Reg) tr)) tr))))) (a_ (a_ (a_ tr tr) (a_ (a_ tr tr) tr)) tr)))))) (ih _ _ r h) (by kernel_rfl) ⟨rfl, trivial, rfl, trivial⟩
      · skip
        exact run_to mixed hμ (L := [2]) (n := 35) (s := [.go, .reg [(0, { v := some (.bool true) })], .reg [], .reg [], .reg [(2, { v := some (v_T_api_Reg (A8.get Boot2 ((l.f_Got.getD t11.toNat default).f_Node).toNat)) }), (4, { v := some (.bool (!decide ((A8.get Boot2 ((l.f_Got.getD t11.toNat default).f_Node).toNat) = (T_api_Reg.mk 0 0)))) }), (5, { v := some (.bool false) })], .reg [(4, { os := [(0, .var [.int .u32 (A8.set Boot2 (l.f_Got.getD t11.toNat default).f_Reg ((l.f_Got.getD t11.toNat default).f_Node).toNat).a0.f_Boot, .int .u32 (A8.set Boot2 (l.f_Got.getD t11.toNat default).f_Reg ((l.f_Got.getD t11.toNat default).f_Node).toNat).a0.f_N, .int .u32 (A8.set Boot2 (l.f_Got.getD t11.toNat default).f_Reg ((l.f_Got.getD t11.toNat default).f_Node).toNat).a1.f_Boot, .int .u32 (A8.set Boot2 (l.f_Got.getD t11.toNat default).f_Reg ((l.f_Got.getD t11.toNat default).f_Node).toNat).a1.f_N, .int .u32 (A8.set Boot2 (l.f_Got.getD t11.toNat default).f_Reg ((l.f_Got.getD t11.toNat default).f_Node).toNat).a2.f_Boot, .int .u32 (A8.set Boot2 (l.f_Got.getD t11.toNat default).f_Reg ((l.f_Got.getD t11.toNat default).f_Node).toNat).a2.f_N, .int .u32 (A8.set Boot2 (l.f_Got.getD t11.toNat default).f_Reg ((l.f_Got.getD t11.toNat default).f_Node).toNat).a3.f_Boot, .int .u32 (A8.set Boot2 (l.f_Got.getD t11.toNat default).f_Reg ((l.f_Got.getD t11.toNat default).f_Node).toNat).a3.f_N, .int .u32 (A8.set Boot2 (l.f_Got.getD t11.toNat default).f_Reg ((l.f_Got.getD t11.toNat default).f_Node).toNat).a4.f_Boot, .int .u32 (A8.set Boot2 (l.f_Got.getD t11.toNat default).f_Reg ((l.f_Got.getD t11.toNat default).f_Node).toNat).a4.f_N, .int .u32 (A8.set Boot2 (l.f_Got.getD t11.toNat default).f_Reg ((l.f_Got.getD t11.toNat default).f_Node).toNat).a5.f_Boot, .int .u32 (A8.set Boot2 (l.f_Got.getD t11.toNat default).f_Reg ((l.f_Got.getD t11.toNat default).f_Node).toNat).a5.f_N, .int .u32 (A8.set Boot2 (l.f_Got.getD t11.toNat default).f_Reg ((l.f_Got.getD t11.toNat default).f_Node).toNat).a6.f_Boot, .int .u32 (A8.set Boot2 (l.f_Got.getD t11.toNat default).f_Reg ((l.f_Got.getD t11.toNat default).f_Node).toNat).a6.f_N, .int .u32 (A8.set Boot2 (l.f_Got.getD t11.toNat default).f_Reg ((l.f_Got.getD t11.toNat default).f_Node).toNat).a7.f_Boot, .int .u32 (A8.set Boot2 (l.f_Got.getD t11.toNat default).f_Reg ((l.f_Got.getD t11.toNat default).f_Node).toNat).a7.f_N, .map 1])] })], .reg []])
          (a_ (a_ (a_ tr (a_ (leB cL0_1) tr)) tr) (a_ (a_ (a_ (a_ (Eq.refl 16) gL0_2) tr) (a_ (a_ (le_ 16 16 rfl) tr) (a_ (a_ tr tr) (a_ (a_ (a_ (Eq.refl 16) (a_ (le_ 16 16 rfl) (Eq.refl 0))) tr) tr)))) (a_ (a_ (a_ tr tr) (a_ (a_ tr tr) (a_ (a_ (a_ tr (lt_ 0 16 rfl)) tr) (a_ (a_ tr tr) (a_ (a_ tr tr) (a_ (a_ gL0_3 tr) (a_ (a_ tr tr) tr))))))) (a_ (a_ (a_ tr tr) (a_ (a_ tr tr) (a_ (a_ (a_ tr (arrLe (len := 8) gL0_3 0 2 17 2 rfl rfl)) (a_ (ld8 c_T_api_Reg 2 (fun _ => rfl) Boot2 [] [.map 1] 0 rfl ((l.f_Got.getD t11.toNat default).f_Node).toNat 2 (lt8N gL0_3) (le_ (0 + 2) 2 rfl)) tr)) (a_ (a_ (Eq.refl true) tr) (a_ (a_ tr (a_ (leB (congrArg not (k_T_api_Reg (A8.get Boot2 ((l.f_Got.getD t11.toNat default).f_Node).toNat) (T_api_Reg.mk 0 0)))) tr)) (a_ (a_ tr (a_ (leB cL0_4) tr)) (a_ tr (a_ tr (a_ tr (a_ tr (a_ tr (a_ tr (a_ (a_ tr tr) tr))))))))))))) (a_ (a_ (a_ tr tr) (a_ (a_ tr tr) (a_ (a_ (a_ tr (le_ 3 16 rfl)) tr) (a_ (a_ tr tr) (a_ (a_ (a_ (Eq.refl 2) (a_ (arrLe (len := 8) gL0_3 0 2 17 2 rfl rfl) (Eq.refl 0))) (a_ (st8 c_T_api_Reg 2 (fun _ => rfl) Boot2 [] [.map 1] 0 rfl ((l.f_Got.getD t11.toNat default).f_Node).toNat (lt8N gL0_3) (l.f_Got.getD t11.toNat default).f_Reg) tr)) tr))))) (a_ (a_ (a_ tr tr) (a_ (a_ tr tr) tr)) tr)))))) (ih _ _ r h) (by kernel_rfl) ⟨rfl, trivial, rfl, trivial⟩
    · skip
      rcases itb_some h with ⟨cL0_2, h⟩ | ⟨cL0_2, h⟩
      · skip
        obtain ⟨yL0_4, eL0_3, h⟩ := bind_some h
        obtain rfl := Option.some.inj h
        exact run_ret mixed (L := []) (n := 27) (s := [.go, .reg [(0, { v := some (.bool false) })], .reg [(2, { v := some (.bool true) })], .wk [] [(1, .mapP true [.int .u8, .int .u8, .int .u8, .int .u8, .int .u8, .int .u8, .int .u8, .int .u8] (encM (fun z_ : A8 (Int) => LV.agg [.int .u8 z_.a0, .int .u8 z_.a1, .int .u8 z_.a2, .int .u8 z_.a3, .int .u8 z_.a4, .int .u8 z_.a5, .int .u8 z_.a6, .int .u8 z_.a7]) (LV.int .u64) writers) ((fun z_ : A8 (Int) => LV.agg [.int .u8 z_.a0, .int .u8 z_.a1, .int .u8 z_.a2, .int .u8 z_.a3, .int .u8 z_.a4, .int .u8 z_.a5, .int .u8 z_.a6, .int .u8 z_.a7]) l.f_Key) (.int .u64 0))], .reg [(6, { look := ((mget writers l.f_Key).map (LV.int .u64)), v := some (.int .u64 ((mget writers l.f_Key).getD default)) }), (8, { call := some (miss_Lock_nodes_v yL0_4, [], []) }), (10, { soft := some 1 }), (12, { os := [(1, .map true [.int .u8, .int .u8, .int .u8, .int .u8, .int .u8, .int .u8, .int .u8, .int .u8] (encM (fun z_ : A8 (Int) => LV.agg [.int .u8 z_.a0, .int .u8 z_.a1, .int .u8 z_.a2, .int .u8 z_.a3, .int .u8 z_.a4, .int .u8 z_.a5, .int .u8 z_.a6, .int .u8 z_.a7]) (LV.int .u64) (mset writers l.f_Key (IntKind.wrap .u64 ((BitVec.ofInt (IntKind.bits .u64) ((mget writers l.f_Key).getD default) ||| BitVec.ofInt (IntKind.bits .u64) yL0_4).toNat : Int)))))] })], .reg []])
          (a_ (a_ (a_ (a_ tr (a_ (leB cL0_1) tr)) tr) (a_ (a_ (a_ tr tr) (a_ (a_ (a_ tr (lt_ 8 10 rfl)) tr) (a_ (a_ tr (a_ (leB cL0_2) tr)) tr))) (a_ (a_ tr (a_ (sub_begin true [.int .u8, .int .u8, .int .u8, .int .u8, .int .u8, .int .u8, .int .u8, .int .u8] (encM (fun z_ : A8 (Int) => LV.agg [.int .u8 z_.a0, .int .u8 z_.a1, .int .u8 z_.a2, .int .u8 z_.a3, .int .u8 z_.a4, .int .u8 z_.a5, .int .u8 z_.a6, .int .u8 z_.a7]) (LV.int .u64) writers) ((fun z_ : A8 (Int) => LV.agg [.int .u8 z_.a0, .int .u8 z_.a1, .int .u8 z_.a2, .int .u8 z_.a3, .int .u8 z_.a4, .int .u8 z_.a5, .int .u8 z_.a6, .int .u8 z_.a7]) l.f_Key) (.int .u64 0)) tr)) (a_ (a_ (a_ (a_ tr tr) (a_ (a_ tr tr) (a_ (a_ tr tr) (a_ (a_ (a_ tr (lt_ 16 17 rfl)) tr) (a_ (a_ tr tr) (a_ (a_ (a_ tr (le_ 8 10 rfl)) tr) (a_ (a_ (a_ (Eq.refl true) (a_ (findE_enc (fun z_ : A8 (Int) => LV.agg [.int .u8 z_.a0, .int .u8 z_.a1, .int .u8 z_.a2, .int .u8 z_.a3, .int .u8 z_.a4, .int .u8 z_.a5, .int .u8 z_.a6, .int .u8 z_.a7]) (LV.int .u64) (k_arr8 .u8) writers l.f_Key) (a_ (Eq.refl ((fun z_ : A8 (Int) => LV.agg [.int .u8 z_.a0, .int .u8 z_.a1, .int .u8 z_.a2, .int .u8 z_.a3, .int .u8 z_.a4, .int .u8 z_.a5, .int .u8 z_.a6, .int .u8 z_.a7]) l.f_Key)) (a_ (Eq.refl (.int .u64 0 : LV)) (eqk_self (fun z_ : A8 (Int) => LV.agg [.int .u8 z_.a0, .int .u8 z_.a1, .int .u8 z_.a2, .int .u8 z_.a3, .int .u8 z_.a4, .int .u8 z_.a5, .int .u8 z_.a6, .int .u8 z_.a7]) (k_arr8 .u8) l.f_Key))))) (a_ (le_look (LV.int .u64) (mget writers l.f_Key) default) tr)) (a_ (a_ (a_ tr (le_ 10 10 rfl)) tr) (a_ (a_ (a_ (miss_Lock_nodes_tri l yL0_4 eL0_3) tr) tr) (a_ (a_ tr tr) (a_ (a_ (a_ (Eq.refl true) (a_ (Eq.refl true) (a_ (eqk_self (fun z_ : A8 (Int) => LV.agg [.int .u8 z_.a0, .int .u8 z_.a1, .int .u8 z_.a2, .int .u8 z_.a3, .int .u8 z_.a4, .int .u8 z_.a5, .int .u8 z_.a6, .int .u8 z_.a7]) (k_arr8 .u8) l.f_Key) (a_ (Eq.refl ((fun z_ : A8 (Int) => LV.agg [.int .u8 z_.a0, .int .u8 z_.a1, .int .u8 z_.a2, .int .u8 z_.a3, .int .u8 z_.a4, .int .u8 z_.a5, .int .u8 z_.a6, .int .u8 z_.a7]) l.f_Key)) (Eq.refl (.int .u64 0 : LV)))))) tr) (a_ (a_ tr tr) (a_ (a_ (a_ (Eq.refl true) (eqk_self (fun z_ : A8 (Int) => LV.agg [.int .u8 z_.a0, .int .u8 z_.a1, .int .u8 z_.a2, .int .u8 z_.a3, .int .u8 z_.a4, .int .u8 z_.a5, .int .u8 z_.a6, .int .u8 z_.a7]) (k_arr8 .u8) l.f_Key)) (a_ (sub_upd (fun z_ : A8 (Int) => LV.agg [.int .u8 z_.a0, .int .u8 z_.a1, .int .u8 z_.a2, .int .u8 z_.a3, .int .u8 z_.a4, .int .u8 z_.a5, .int .u8 z_.a6, .int .u8 z_.a7]) (LV.int .u64) (k_arr8 .u8) true [.int .u8, .int .u8, .int .u8, .int .u8, .int .u8, .int .u8, .int .u8, .int .u8] writers l.f_Key (IntKind.wrap .u64 ((BitVec.ofInt (IntKind.bits .u64) ((mget writers l.f_Key).getD default) ||| BitVec.ofInt (IntKind.bits .u64) yL0_4).toNat : Int))) tr)) tr))))))))))))) (sub_begun true [.int .u8, .int .u8, .int .u8, .int .u8, .int .u8, .int .u8, .int .u8, .int .u8] (encM (fun z_ : A8 (Int) => LV.agg [.int .u8 z_.a0, .int .u8 z_.a1, .int .u8 z_.a2, .int .u8 z_.a3, .int .u8 z_.a4, .int .u8 z_.a5, .int .u8 z_.a6, .int .u8 z_.a7]) (LV.int .u64) writers) ((fun z_ : A8 (Int) => LV.agg [.int .u8 z_.a0, .int .u8 z_.a1, .int .u8 z_.a2, .int .u8 z_.a3, .int .u8 z_.a4, .int .u8 z_.a5, .int .u8 z_.a6, .int .u8 z_.a7]) l.f_Key) (.int .u64 0 : LV) 3)) (a_ (a_ (a_ tr tr) tr) tr))))) tr) (by kernel_rfl) rfl
      · skip
        obtain rfl := Option.some.inj h
        exact run_ret mixed (L := []) (n := 25) (s := [.go, .reg [(0, { v := some (.bool false) })], .reg [(2, { v := some (.bool false) })], .reg []])
          (a_ (a_ (a_ (a_ tr (a_ (leB cL0_1) tr)) tr) (a_ (a_ (a_ tr tr) (a_ (a_ (a_ tr (lt_ 8 10 rfl)) tr) (a_ (a_ tr (a_ (leB cL0_2) tr)) tr))) (a_ (a_ (a_ tr tr) tr) tr))) tr) (by kernel_rfl) rfl

theorem miss_plan_take_ok (Boot : A8 (T_api_Reg)) (writers : List (A8 (Int) × Int)) (l : T_miss_Lock) (r : (Bool) × (A8 (T_api_Reg)) × (List (A8 (Int) × Int))) (h : miss_plan_take Boot writers l = some r) : ∀ σ, Inj 2 σ → FnTri Tryd.prog 24 (renL σ [.ptr 0 0 0, v_T_miss_Lock l]) (preOf σ 0 (miss_plan_take_objs Boot writers l)) ((miss_plan_take_v r).ren σ) (upOf σ (miss_plan_take_up Boot writers l r)) := by
  refine fn_of Tryd.func24 (by kernel_rfl) (by kernel_rfl) (by kernel_rfl) ⟨rfl, trivial, trivial⟩ (by kernel_rfl) ⟨rfl, trivial, trivial⟩ (by kernel_rfl) ?_
  intro w0 W μ0 hμ
  unfold miss_plan_take at h
  exact run_to mixed hμ (L := [2]) (n := 18) (s := [.reg [], .reg []])
    (a_ (a_ (a_ tr tr) (a_ (a_ tr tr) tr)) (a_ (a_ (a_ tr tr) (a_ (a_ (a_ tr (lt_ 9 10 rfl)) tr) (a_ (a_ tr tr) (a_ (a_ tr tr) tr)))) tr)) (miss_plan_take_l0_ok hμ Boot writers l  big _ _ r h) (by kernel_rfl) ⟨rfl, trivial, rfl, trivial⟩

/-- parrel/miss.Plan$2 -/

def miss_Plan_L2_v (r : (Bool)) : LV := .bool r

def miss_Plan_L2_up (x_w : T_api_Write) (Boot : A8 (T_api_Reg)) (writers : List (A8 (Int) × Int)) (r : (Bool)) : Upd := [(0, some (.var [.ptr 1 0 0])), (1, some (.var [.int .u32 Boot.a0.f_Boot, .int .u32 Boot.a0.f_N, .int .u32 Boot.a1.f_Boot, .int .u32 Boot.a1.f_N, .int .u32 Boot.a2.f_Boot, .int .u32 Boot.a2.f_N, .int .u32 Boot.a3.f_Boot, .int .u32 Boot.a3.f_N, .int .u32 Boot.a4.f_Boot, .int .u32 Boot.a4.f_N, .int .u32 Boot.a5.f_Boot, .int .u32 Boot.a5.f_N, .int .u32 Boot.a6.f_Boot, .int .u32 Boot.a6.f_N, .int .u32 Boot.a7.f_Boot, .int .u32 Boot.a7.f_N, .map 2])), (2, some (.map true [.int .u8, .int .u8, .int .u8, .int .u8, .int .u8, .int .u8, .int .u8, .int .u8] (encM (fun z_ : A8 (Int) => LV.agg [.int .u8 z_.a0, .int .u8 z_.a1, .int .u8 z_.a2, .int .u8 z_.a3, .int .u8 z_.a4, .int .u8 z_.a5, .int .u8 z_.a6, .int .u8 z_.a7]) (LV.int .u64) writers)))]

def miss_Plan_L2_objs (x_w : T_api_Write) (Boot : A8 (T_api_Reg)) (writers : List (A8 (Int) × Int)) : List LO := [.var [.ptr 1 0 0], .var [.int .u32 Boot.a0.f_Boot, .int .u32 Boot.a0.f_N, .int .u32 Boot.a1.f_Boot, .int .u32 Boot.a1.f_N, .int .u32 Boot.a2.f_Boot, .int .u32 Boot.a2.f_N, .int .u32 Boot.a3.f_Boot, .int .u32 Boot.a3.f_N, .int .u32 Boot.a4.f_Boot, .int .u32 Boot.a4.f_N, .int .u32 Boot.a5.f_Boot, .int .u32 Boot.a5.f_N, .int .u32 Boot.a6.f_Boot, .int .u32 Boot.a6.f_N, .int .u32 Boot.a7.f_Boot, .int .u32 Boot.a7.f_N, .map 2], .map true [.int .u8, .int .u8, .int .u8, .int .u8, .int .u8, .int .u8, .int .u8, .int .u8] (encM (fun z_ : A8 (Int) => LV.agg [.int .u8 z_.a0, .int .u8 z_.a1, .int .u8 z_.a2, .int .u8 z_.a3, .int .u8 z_.a4, .int .u8 z_.a5, .int .u8 z_.a6, .int .u8 z_.a7]) (LV.int .u64) writers)]

def miss_Plan_L2 (x_w : T_api_Write) (Boot : A8 (T_api_Reg)) (writers : List (A8 (Int) × Int)) : Option ((Bool)) :=
  some (((mget writers x_w.f_Key).getD default) == 0)

theorem miss_Plan_L2_ok (x_w : T_api_Write) (Boot : A8 (T_api_Reg)) (writers : List (A8 (Int) × Int)) (r : (Bool)) (h : miss_Plan_L2 x_w Boot writers = some r) : ∀ σ, Inj 3 σ → FnTri Tryd.prog 26 (renL σ [v_T_api_Write x_w, .ptr 0 0 0]) (preOf σ 0 (miss_Plan_L2_objs x_w Boot writers)) ((miss_Plan_L2_v r).ren σ) (upOf σ (miss_Plan_L2_up x_w Boot writers r)) := by
  refine fn_of Tryd.func26 (by kernel_rfl) (by kernel_rfl) (by kernel_rfl) ⟨rfl, rfl, trivial, trivial⟩ (by kernel_rfl) ⟨rfl, rfl, trivial, trivial⟩ (by kernel_rfl) ?_
  intro w0 W μ0 hμ
  unfold miss_Plan_L2 at h
  obtain rfl := Option.some.inj h
  exact run_ret mixed (L := []) (n := 15) (s := [.reg [], .reg [(6, { look := ((mget writers x_w.f_Key).map (LV.int .u64)), v := some (.int .u64 ((mget writers x_w.f_Key).getD default)) })]])
    (a_ (a_ (a_ (a_ tr tr) (a_ (a_ tr tr) tr)) (a_ (a_ (a_ (a_ tr (lt_ 0 1 rfl)) tr) (a_ (a_ tr tr) (a_ (a_ tr tr) (a_ (a_ (a_ tr (lt_ 16 17 rfl)) tr) (a_ (a_ tr tr) (a_ (a_ (a_ tr (le_ 8 21 rfl)) tr) (a_ (a_ (a_ (Eq.refl true) (findE_enc (fun z_ : A8 (Int) => LV.agg [.int .u8 z_.a0, .int .u8 z_.a1, .int .u8 z_.a2, .int .u8 z_.a3, .int .u8 z_.a4, .int .u8 z_.a5, .int .u8 z_.a6, .int .u8 z_.a7]) (LV.int .u64) (k_arr8 .u8) writers x_w.f_Key)) (a_ (le_look (LV.int .u64) (mget writers x_w.f_Key) default) tr)) (a_ (a_ tr tr) (a_ (a_ tr tr) tr))))))))) tr)) tr) (by kernel_rfl) rfl

/-- slices.IndexFunc[[]parrel/api.Write,parrel/api.Write] -/

def slices_IndexFunc_api_Write_api_Write_v (r : (Int)) : LV := .int .i64 r

def slices_IndexFunc_api_Write_api_Write_up (s : List (T_api_Write)) (Boot : A8 (T_api_Reg)) (writers : List (A8 (Int) × Int)) (r : (Int)) : Upd := [(0, some (.var [.ptr 1 0 0])), (1, some (.var [.int .u32 Boot.a0.f_Boot, .int .u32 Boot.a0.f_N, .int .u32 Boot.a1.f_Boot, .int .u32 Boot.a1.f_N, .int .u32 Boot.a2.f_Boot, .int .u32 Boot.a2.f_N, .int .u32 Boot.a3.f_Boot, .int .u32 Boot.a3.f_N, .int .u32 Boot.a4.f_Boot, .int .u32 Boot.a4.f_N, .int .u32 Boot.a5.f_Boot, .int .u32 Boot.a5.f_N, .int .u32 Boot.a6.f_Boot, .int .u32 Boot.a6.f_N, .int .u32 Boot.a7.f_Boot, .int .u32 Boot.a7.f_N, .map 2])), (2, some (.map true [.int .u8, .int .u8, .int .u8, .int .u8, .int .u8, .int .u8, .int .u8, .int .u8] (encM (fun z_ : A8 (Int) => LV.agg [.int .u8 z_.a0, .int .u8 z_.a1, .int .u8 z_.a2, .int .u8 z_.a3, .int .u8 z_.a4, .int .u8 z_.a5, .int .u8 z_.a6, .int .u8 z_.a7]) (LV.int .u64) writers)))]

def slices_IndexFunc_api_Write_api_Write_objs (s : List (T_api_Write)) (Boot : A8 (T_api_Reg)) (writers : List (A8 (Int) × Int)) : List LO := [.var [.ptr 1 0 0], .var [.int .u32 Boot.a0.f_Boot, .int .u32 Boot.a0.f_N, .int .u32 Boot.a1.f_Boot, .int .u32 Boot.a1.f_N, .int .u32 Boot.a2.f_Boot, .int .u32 Boot.a2.f_N, .int .u32 Boot.a3.f_Boot, .int .u32 Boot.a3.f_N, .int .u32 Boot.a4.f_Boot, .int .u32 Boot.a4.f_N, .int .u32 Boot.a5.f_Boot, .int .u32 Boot.a5.f_N, .int .u32 Boot.a6.f_Boot, .int .u32 Boot.a6.f_N, .int .u32 Boot.a7.f_Boot, .int .u32 Boot.a7.f_N, .map 2], .map true [.int .u8, .int .u8, .int .u8, .int .u8, .int .u8, .int .u8, .int .u8, .int .u8] (encM (fun z_ : A8 (Int) => LV.agg [.int .u8 z_.a0, .int .u8 z_.a1, .int .u8 z_.a2, .int .u8 z_.a3, .int .u8 z_.a4, .int .u8 z_.a5, .int .u8 z_.a6, .int .u8 z_.a7]) (LV.int .u64) writers)]

def slices_IndexFunc_api_Write_api_Write_T0 (s : List (T_api_Write)) (Boot : A8 (T_api_Reg)) (writers : List (A8 (Int) × Int)) (t8 : Int) : List LV := [.ds 21 (s).length (rowF c_T_api_Write default s), .fn 26 [] [.ptr 0 0 0], .any, .any, .any, .any, .any, .int .i64 ((s).length : Int), .int .i64 t8, .any, .any, .any, .any, .any, .any, .any, .any, .any, .any]

def slices_IndexFunc_api_Write_api_Write_H0 (s : List (T_api_Write)) (Boot : A8 (T_api_Reg)) (writers : List (A8 (Int) × Int)) (t8 : Int) : Heap := [some (.var [.ptr 1 0 0]), some (.var [.int .u32 Boot.a0.f_Boot, .int .u32 Boot.a0.f_N, .int .u32 Boot.a1.f_Boot, .int .u32 Boot.a1.f_N, .int .u32 Boot.a2.f_Boot, .int .u32 Boot.a2.f_N, .int .u32 Boot.a3.f_Boot, .int .u32 Boot.a3.f_N, .int .u32 Boot.a4.f_Boot, .int .u32 Boot.a4.f_N, .int .u32 Boot.a5.f_Boot, .int .u32 Boot.a5.f_N, .int .u32 Boot.a6.f_Boot, .int .u32 Boot.a6.f_N, .int .u32 Boot.a7.f_Boot, .int .u32 Boot.a7.f_N, .map 2]), some (.map true [.int .u8, .int .u8, .int .u8, .int .u8, .int .u8, .int .u8, .int .u8, .int .u8] (encM (fun z_ : A8 (Int) => LV.agg [.int .u8 z_.a0, .int .u8 z_.a1, .int .u8 z_.a2, .int .u8 z_.a3, .int .u8 z_.a4, .int .u8 z_.a5, .int .u8 z_.a6, .int .u8 z_.a7]) (LV.int .u64) writers))]

def slices_IndexFunc_api_Write_api_Write_l0 (s : List (T_api_Write)) (Boot : A8 (T_api_Reg)) (writers : List (A8 (Int) × Int))  : Nat → (Int) → Option ((Int))
  | 0, _ => none
  | fuel + 1, t8 =>
    if ((decide (t8 < ((s).length : Int))) : Bool) then
      if 0 ≤ t8 ∧ t8 < (((s).length : Nat) : Int) then
      (miss_Plan_L2 (s.getD t8.toNat default) Boot writers).bind fun yL0_4 =>
      if (yL0_4 : Bool) then
        some t8
      else
        slices_IndexFunc_api_Write_api_Write_l0 s Boot writers  fuel (IntKind.wrap .i64 (t8 + 1))
      else none
    else
      some (-1)

def slices_IndexFunc_api_Write_api_Write (s : List (T_api_Write)) (Boot : A8 (T_api_Reg)) (writers : List (A8 (Int) × Int)) : Option ((Int)) :=
  slices_IndexFunc_api_Write_api_Write_l0 s Boot writers  big 0

theorem slices_IndexFunc_api_Write_api_Write_l0_ok {w0 : World} {W : Nat → Prop} {μ0 : Emb} (hμ : ∀ c p, μ0 c = some p → c < 3) (s : List (T_api_Write)) (Boot : A8 (T_api_Reg)) (writers : List (A8 (Int) × Int))  : ∀ (fuel : Nat) (t8 : Int) (r : (Int)), slices_IndexFunc_api_Write_api_Write_l0 s Boot writers  fuel t8 = some r → kont Tryd.prog w0 W μ0 (FnPost Tryd.prog Tryd.f50 3 3 (slices_IndexFunc_api_Write_api_Write_v r) (slices_IndexFunc_api_Write_api_Write_up s Boot writers r)) (kAt (bodyOf Tryd.f50) 0) none (slices_IndexFunc_api_Write_api_Write_T0 s Boot writers t8) (slices_IndexFunc_api_Write_api_Write_H0 s Boot writers t8) := by
  intro fuel
  induction fuel with
  | zero => intro t8 r h; rw [slices_IndexFunc_api_Write_api_Write_l0] at h; cases h
  | succ fuel ih =>
    intro t8 r h
    rw [slices_IndexFunc_api_Write_api_Write_l0] at h
    rcases itb_some h with ⟨cL0_1, h⟩ | ⟨cL0_1, h⟩
    · skip
      obtain ⟨gL0_2, h⟩ := guard_some h
      obtain ⟨yL0_4, eL0_3, h⟩ := bind_some h
      rcases itb_some h with ⟨cL0_5, h⟩ | ⟨cL0_5, h⟩
      · skip
        obtain rfl := Option.some.inj h
        exact run_ret mixed (L := []) (n := 28) (s := [.go, .reg [(0, { v := some (.bool true) })], .reg [], .reg [(5, { call := some ((miss_Plan_L2_v yL0_4).ren (sel [0, 1, 2]), preOf (sel [0, 1, 2]) 0 (miss_Plan_L2_objs (s.getD t8.toNat default) Boot writers), upOf (sel [0, 1, 2]) (miss_Plan_L2_up (s.getD t8.toNat default) Boot writers yL0_4)), v := some (.bool true) })], .reg []])
          (a_ (a_ (a_ (a_ tr (a_ (leB cL0_1) tr)) tr) (a_ (a_ (a_ tr tr) (a_ (a_ tr tr) tr)) (a_ (a_ (a_ tr tr) (a_ (a_ tr tr) (a_ (a_ tr tr) (a_ (a_ (a_ (Eq.refl 21) gL0_2) tr) (a_ (a_ (le_ 21 21 rfl) tr) (a_ (a_ (a_ (miss_Plan_L2_ok (s.getD t8.toNat default) Boot writers yL0_4 eL0_3 (sel [0, 1, 2]) (sel_inj rfl rfl)) (a_ (LO.Le.refl (.var [.ptr 1 0 0])) (a_ (LO.Le.refl (.var [.int .u32 Boot.a0.f_Boot, .int .u32 Boot.a0.f_N, .int .u32 Boot.a1.f_Boot, .int .u32 Boot.a1.f_N, .int .u32 Boot.a2.f_Boot, .int .u32 Boot.a2.f_N, .int .u32 Boot.a3.f_Boot, .int .u32 Boot.a3.f_N, .int .u32 Boot.a4.f_Boot, .int .u32 Boot.a4.f_N, .int .u32 Boot.a5.f_Boot, .int .u32 Boot.a5.f_N, .int .u32 Boot.a6.f_Boot, .int .u32 Boot.a6.f_N, .int .u32 Boot.a7.f_Boot, .int .u32 Boot.a7.f_N, .map 2])) (a_ (LO.Le.refl (.map true [.int .u8, .int .u8, .int .u8, .int .u8, .int .u8, .int .u8, .int .u8, .int .u8] (encM (fun z_ : A8 (Int) => LV.agg [.int .u8 z_.a0, .int .u8 z_.a1, .int .u8 z_.a2, .int .u8 z_.a3, .int .u8 z_.a4, .int .u8 z_.a5, .int .u8 z_.a6, .int .u8 z_.a7]) (LV.int .u64) writers))) tr)))) (a_ (leB cL0_5) tr)) tr)))))) (a_ (a_ (a_ tr tr) (a_ (a_ tr tr) tr)) tr)))) tr) (by kernel_rfl) rfl
      · skip
        exact run_to mixed hμ (L := []) (n := 29) (s := [.go, .reg [(0, { v := some (.bool true) })], .reg [], .reg [(5, { call := some ((miss_Plan_L2_v yL0_4).ren (sel [0, 1, 2]), preOf (sel [0, 1, 2]) 0 (miss_Plan_L2_objs (s.getD t8.toNat default) Boot writers), upOf (sel [0, 1, 2]) (miss_Plan_L2_up (s.getD t8.toNat default) Boot writers yL0_4)), v := some (.bool false) })], .reg []])
          (a_ (a_ (a_ tr (a_ (leB cL0_1) tr)) tr) (a_ (a_ (a_ tr tr) (a_ (a_ tr tr) tr)) (a_ (a_ (a_ tr tr) (a_ (a_ tr tr) (a_ (a_ tr tr) (a_ (a_ (a_ (Eq.refl 21) gL0_2) tr) (a_ (a_ (le_ 21 21 rfl) tr) (a_ (a_ (a_ (miss_Plan_L2_ok (s.getD t8.toNat default) Boot writers yL0_4 eL0_3 (sel [0, 1, 2]) (sel_inj rfl rfl)) (a_ (LO.Le.refl (.var [.ptr 1 0 0])) (a_ (LO.Le.refl (.var [.int .u32 Boot.a0.f_Boot, .int .u32 Boot.a0.f_N, .int .u32 Boot.a1.f_Boot, .int .u32 Boot.a1.f_N, .int .u32 Boot.a2.f_Boot, .int .u32 Boot.a2.f_N, .int .u32 Boot.a3.f_Boot, .int .u32 Boot.a3.f_N, .int .u32 Boot.a4.f_Boot, .int .u32 Boot.a4.f_N, .int .u32 Boot.a5.f_Boot, .int .u32 Boot.a5.f_N, .int .u32 Boot.a6.f_Boot, .int .u32 Boot.a6.f_N, .int .u32 Boot.a7.f_Boot, .int .u32 Boot.a7.f_N, .map 2])) (a_ (LO.Le.refl (.map true [.int .u8, .int .u8, .int .u8, .int .u8, .int .u8, .int .u8, .int .u8, .int .u8] (encM (fun z_ : A8 (Int) => LV.agg [.int .u8 z_.a0, .int .u8 z_.a1, .int .u8 z_.a2, .int .u8 z_.a3, .int .u8 z_.a4, .int .u8 z_.a5, .int .u8 z_.a6, .int .u8 z_.a7]) (LV.int .u64) writers))) tr)))) (a_ (leB cL0_5) tr)) tr)))))) (a_ (a_ (a_ tr tr) (a_ (a_ tr tr) tr)) tr)))) (ih _ r h) (by kernel_rfl) ⟨rfl, rfl, trivial, trivial⟩
    · skip
      obtain rfl := Option.some.inj h
      exact run_ret mixed (L := []) (n := 19) (s := [.go, .reg [(0, { v := some (.bool false) })], .reg []])
        (a_ (a_ (a_ (a_ tr (a_ (leB cL0_1) tr)) tr) (a_ (a_ (a_ tr tr) tr) tr)) tr) (by kernel_rfl) rfl

theorem slices_IndexFunc_api_Write_api_Write_ok (s : List (T_api_Write)) (Boot : A8 (T_api_Reg)) (writers : List (A8 (Int) × Int)) (r : (Int)) (h : slices_IndexFunc_api_Write_api_Write s Boot writers = some r) : ∀ σ, Inj 3 σ → FnTri Tryd.prog 50 (renL σ [.ds 21 (s).length (rowF c_T_api_Write default s), .fn 26 [] [.ptr 0 0 0]]) (preOf σ 0 (slices_IndexFunc_api_Write_api_Write_objs s Boot writers)) ((slices_IndexFunc_api_Write_api_Write_v r).ren σ) (upOf σ (slices_IndexFunc_api_Write_api_Write_up s Boot writers r)) := by
  refine fn_of Tryd.func50 (by kernel_rfl) (by kernel_rfl) (by kernel_rfl) ⟨rfl, rfl, trivial, trivial⟩ (by kernel_rfl) ⟨rfl, rfl, trivial, trivial⟩ (by kernel_rfl) ?_
  intro w0 W μ0 hμ
  unfold slices_IndexFunc_api_Write_api_Write at h
  exact run_to mixed hμ (L := []) (n := 18) (s := [.reg [], .reg []])
    (a_ (a_ (a_ tr tr) tr) (a_ (a_ (a_ tr tr) (a_ (a_ tr tr) (a_ (a_ tr tr) tr))) tr)) (slices_IndexFunc_api_Write_api_Write_l0_ok hμ s Boot writers  big _ r h) (by kernel_rfl) ⟨rfl, rfl, trivial, trivial⟩

/-- slices.ContainsFunc[[]parrel/api.Write,parrel/api.Write] -/

def slices_ContainsFunc_api_Write_api_Write_v (r : (Bool)) : LV := .bool r

def slices_ContainsFunc_api_Write_api_Write_up (s : List (T_api_Write)) (Boot : A8 (T_api_Reg)) (writers : List (A8 (Int) × Int)) (r : (Bool)) : Upd := [(0, some (.var [.ptr 1 0 0])), (1, some (.var [.int .u32 Boot.a0.f_Boot, .int .u32 Boot.a0.f_N, .int .u32 Boot.a1.f_Boot, .int .u32 Boot.a1.f_N, .int .u32 Boot.a2.f_Boot, .int .u32 Boot.a2.f_N, .int .u32 Boot.a3.f_Boot, .int .u32 Boot.a3.f_N, .int .u32 Boot.a4.f_Boot, .int .u32 Boot.a4.f_N, .int .u32 Boot.a5.f_Boot, .int .u32 Boot.a5.f_N, .int .u32 Boot.a6.f_Boot, .int .u32 Boot.a6.f_N, .int .u32 Boot.a7.f_Boot, .int .u32 Boot.a7.f_N, .map 2])), (2, some (.map true [.int .u8, .int .u8, .int .u8, .int .u8, .int .u8, .int .u8, .int .u8, .int .u8] (encM (fun z_ : A8 (Int) => LV.agg [.int .u8 z_.a0, .int .u8 z_.a1, .int .u8 z_.a2, .int .u8 z_.a3, .int .u8 z_.a4, .int .u8 z_.a5, .int .u8 z_.a6, .int .u8 z_.a7]) (LV.int .u64) writers)))]

def slices_ContainsFunc_api_Write_api_Write_objs (s : List (T_api_Write)) (Boot : A8 (T_api_Reg)) (writers : List (A8 (Int) × Int)) : List LO := [.var [.ptr 1 0 0], .var [.int .u32 Boot.a0.f_Boot, .int .u32 Boot.a0.f_N, .int .u32 Boot.a1.f_Boot, .int .u32 Boot.a1.f_N, .int .u32 Boot.a2.f_Boot, .int .u32 Boot.a2.f_N, .int .u32 Boot.a3.f_Boot, .int .u32 Boot.a3.f_N, .int .u32 Boot.a4.f_Boot, .int .u32 Boot.a4.f_N, .int .u32 Boot.a5.f_Boot, .int .u32 Boot.a5.f_N, .int .u32 Boot.a6.f_Boot, .int .u32 Boot.a6.f_N, .int .u32 Boot.a7.f_Boot, .int .u32 Boot.a7.f_N, .map 2], .map true [.int .u8, .int .u8, .int .u8, .int .u8, .int .u8, .int .u8, .int .u8, .int .u8] (encM (fun z_ : A8 (Int) => LV.agg [.int .u8 z_.a0, .int .u8 z_.a1, .int .u8 z_.a2, .int .u8 z_.a3, .int .u8 z_.a4, .int .u8 z_.a5, .int .u8 z_.a6, .int .u8 z_.a7]) (LV.int .u64) writers)]

def slices_ContainsFunc_api_Write_api_Write (s : List (T_api_Write)) (Boot : A8 (T_api_Reg)) (writers : List (A8 (Int) × Int)) : Option ((Bool)) :=
  (slices_IndexFunc_api_Write_api_Write s Boot writers).bind fun y2 =>
  some (decide (0 ≤ y2))

theorem slices_ContainsFunc_api_Write_api_Write_ok (s : List (T_api_Write)) (Boot : A8 (T_api_Reg)) (writers : List (A8 (Int) × Int)) (r : (Bool)) (h : slices_ContainsFunc_api_Write_api_Write s Boot writers = some r) : ∀ σ, Inj 3 σ → FnTri Tryd.prog 25 (renL σ [.ds 21 (s).length (rowF c_T_api_Write default s), .fn 26 [] [.ptr 0 0 0]]) (preOf σ 0 (slices_ContainsFunc_api_Write_api_Write_objs s Boot writers)) ((slices_ContainsFunc_api_Write_api_Write_v r).ren σ) (upOf σ (slices_ContainsFunc_api_Write_api_Write_up s Boot writers r)) := by
  refine fn_of Tryd.func25 (by kernel_rfl) (by kernel_rfl) (by kernel_rfl) ⟨rfl, rfl, trivial, trivial⟩ (by kernel_rfl) ⟨rfl, rfl, trivial, trivial⟩ (by kernel_rfl) ?_
  intro w0 W μ0 hμ
  unfold slices_ContainsFunc_api_Write_api_Write at h
  obtain ⟨y2, e1, h⟩ := bind_some h
  obtain rfl := Option.some.inj h
  exact run_ret mixed (L := []) (n := 15) (s := [.reg [], .reg [(2, { call := some ((slices_IndexFunc_api_Write_api_Write_v y2).ren (sel [0, 1, 2]), preOf (sel [0, 1, 2]) 0 (slices_IndexFunc_api_Write_api_Write_objs s Boot writers), upOf (sel [0, 1, 2]) (slices_IndexFunc_api_Write_api_Write_up s Boot writers y2)) })]])
    (a_ (a_ (a_ (a_ tr tr) tr) (a_ (a_ (a_ tr tr) (a_ (a_ tr tr) (a_ (a_ (a_ (slices_IndexFunc_api_Write_api_Write_ok s Boot writers y2 e1 (sel [0, 1, 2]) (sel_inj rfl rfl)) (a_ (LO.Le.refl (.var [.ptr 1 0 0])) (a_ (LO.Le.refl (.var [.int .u32 Boot.a0.f_Boot, .int .u32 Boot.a0.f_N, .int .u32 Boot.a1.f_Boot, .int .u32 Boot.a1.f_N, .int .u32 Boot.a2.f_Boot, .int .u32 Boot.a2.f_N, .int .u32 Boot.a3.f_Boot, .int .u32 Boot.a3.f_N, .int .u32 Boot.a4.f_Boot, .int .u32 Boot.a4.f_N, .int .u32 Boot.a5.f_Boot, .int .u32 Boot.a5.f_N, .int .u32 Boot.a6.f_Boot, .int .u32 Boot.a6.f_N, .int .u32 Boot.a7.f_Boot, .int .u32 Boot.a7.f_N, .map 2])) (a_ (LO.Le.refl (.map true [.int .u8, .int .u8, .int .u8, .int .u8, .int .u8, .int .u8, .int .u8, .int .u8] (encM (fun z_ : A8 (Int) => LV.agg [.int .u8 z_.a0, .int .u8 z_.a1, .int .u8 z_.a2, .int .u8 z_.a3, .int .u8 z_.a4, .int .u8 z_.a5, .int .u8 z_.a6, .int .u8 z_.a7]) (LV.int .u64) writers))) tr)))) tr) (a_ (a_ tr tr) (a_ (a_ tr tr) tr))))) tr)) tr) (by kernel_rfl) rfl

/-- parrel/votes.Writes -/

def votes_Writes_v (r : (Bool)) : LV := .bool r

def votes_Writes (c : T_api_Config) (set : Int) : Option ((Bool)) :=
  (votes_Of c set).bind fun y2 =>
  some (decide ((IntKind.wrap .i64 c.f_W) ≤ y2))

theorem votes_Writes_ok (c : T_api_Config) (set : Int) (r : (Bool)) (h : votes_Writes c set = some r) : ∀ σ, Inj 0 σ → FnTri Tryd.prog 17 (renL σ [v_T_api_Config c, .int .u64 set]) (preOf σ 0 []) ((votes_Writes_v r).ren σ) (upOf σ []) := by
  refine fn_of Tryd.func17 (by kernel_rfl) (by kernel_rfl) (by kernel_rfl) trivial (by kernel_rfl) trivial (by kernel_rfl) ?_
  intro w0 W μ0 hμ
  unfold votes_Writes at h
  obtain ⟨y2, e1, h⟩ := bind_some h
  obtain rfl := Option.some.inj h
  exact run_ret mixed (L := []) (n := 15) (s := [.reg [], .reg [(2, { call := some (votes_Of_v y2, [], []) })]])
    (a_ (a_ (a_ (a_ tr tr) (a_ (a_ tr tr) tr)) (a_ (a_ (a_ (a_ tr (le_ 11 11 rfl)) tr) (a_ (a_ tr tr) (a_ (a_ (a_ (votes_Of_tri c set y2 e1) tr) tr) (a_ (a_ tr tr) (a_ (a_ (a_ tr (lt_ 2 11 rfl)) tr) (a_ (a_ tr tr) (a_ (a_ tr tr) (a_ (a_ tr tr) tr)))))))) tr)) tr) (by kernel_rfl) rfl

theorem votes_Writes_tri (c : T_api_Config) (set : Int) (r : (Bool)) (h : votes_Writes c set = some r) : FnTri Tryd.prog 17 [v_T_api_Config c, .int .u64 set] [] (votes_Writes_v r) [] := FnTri.none (votes_Writes_ok c set r h) rfl rfl

/-- parrel/votes.Voters -/

def votes_Voters_v (r : (Int)) : LV := .int .u64 r

def votes_Voters_T0 (c : T_api_Config) (set : Int) (t8 : Int) : List LV := [.any, .any, .any, .int .u64 set, .any, .any, .any, .agg [.int .u8 c.f_Votes.a0, .int .u8 c.f_Votes.a1, .int .u8 c.f_Votes.a2, .int .u8 c.f_Votes.a3, .int .u8 c.f_Votes.a4, .int .u8 c.f_Votes.a5, .int .u8 c.f_Votes.a6, .int .u8 c.f_Votes.a7], .int .i64 t8, .any, .any, .any, .any, .any, .any, .any, .any, .any, .any, .any]

def votes_Voters_H0 (c : T_api_Config) (set : Int) (t8 : Int) : Heap := []

def votes_Voters_l0 (c : T_api_Config)  : Nat → (Int) → (Int) → Option ((Int))
  | 0, _, _ => none
  | fuel + 1, set, t8 =>
    if ((decide (t8 < 8)) : Bool) then
      if 0 ≤ t8 ∧ t8 < 8 then
      if ((decide (0 < (A8.get c.f_Votes t8.toNat))) : Bool) then
        if 0 ≤ t8 then
        votes_Voters_l0 c  fuel (IntKind.wrap .u64 ((BitVec.ofInt (IntKind.bits .u64) set ||| BitVec.ofInt (IntKind.bits .u64) (IntKind.wrap .u64 (1 * 2 ^ (min (Int.toNat t8) (IntKind.bits .u64))))).toNat : Int)) (IntKind.wrap .i64 (t8 + 1))
        else none
      else
        votes_Voters_l0 c  fuel set (IntKind.wrap .i64 (t8 + 1))
      else none
    else
      some set

def votes_Voters (c : T_api_Config) : Option ((Int)) :=
  votes_Voters_l0 c  big 0 0

theorem votes_Voters_l0_ok {w0 : World} {W : Nat → Prop} {μ0 : Emb} (hμ : ∀ c p, μ0 c = some p → c < 0) (c : T_api_Config)  : ∀ (fuel : Nat) (set : Int) (t8 : Int) (r : (Int)), votes_Voters_l0 c  fuel set t8 = some r → kont Tryd.prog w0 W μ0 (FnPost Tryd.prog Tryd.f16 0 0 (votes_Voters_v r) []) (kAt (bodyOf Tryd.f16) 0) none (votes_Voters_T0 c set t8) (votes_Voters_H0 c set t8) := by
  intro fuel
  induction fuel with
  | zero => intro set t8 r h; rw [votes_Voters_l0] at h; cases h
  | succ fuel ih =>
    intro set t8 r h
    rw [votes_Voters_l0] at h
    rcases itb_some h with ⟨cL0_1, h⟩ | ⟨cL0_1, h⟩
    · skip
      obtain ⟨gL0_2, h⟩ := guard_some h
      rcases itb_some h with ⟨cL0_3, h⟩ | ⟨cL0_3, h⟩
      · skip
        obtain ⟨gL0_4, h⟩ := guard_some h
        exact run_to mixed hμ (L := []) (n := 30) (s := [.go, .reg [(0, { v := some (.bool true) })], .reg [(1, { v := some (.int .u8 (A8.get c.f_Votes t8.toNat)) })], .reg [(1, { v := some (.bool true) })], .reg [], .reg []])
          (a_ (a_ (a_ tr (a_ (leB cL0_1) tr)) tr) (a_ (a_ (a_ tr tr) (a_ (a_ (a_ gL0_2 (ix8lt gL0_2 1 8 rfl rfl)) (a_ (ix8s (cInt .u8) 1 (fun _ => rfl) c.f_Votes t8.toNat (lt8N gL0_2) (le_ 1 1 rfl)) tr)) (a_ (a_ tr tr) (a_ (a_ tr tr) tr)))) (a_ (a_ (a_ tr tr) (a_ (a_ tr (a_ (leB cL0_3) tr)) tr)) (a_ (a_ (a_ tr tr) (a_ (a_ tr tr) (a_ (a_ gL0_4 tr) (a_ (a_ tr tr) (a_ (a_ tr tr) tr))))) (a_ (a_ (a_ tr tr) (a_ (a_ tr tr) tr)) tr))))) (ih _ _ r h) (by kernel_rfl) trivial
      · skip
        exact run_to mixed hμ (L := []) (n := 29) (s := [.go, .reg [(0, { v := some (.bool true) })], .reg [(1, { v := some (.int .u8 (A8.get c.f_Votes t8.toNat)) })], .reg [(1, { v := some (.bool false) })], .reg []])
          (a_ (a_ (a_ tr (a_ (leB cL0_1) tr)) tr) (a_ (a_ (a_ tr tr) (a_ (a_ (a_ gL0_2 (ix8lt gL0_2 1 8 rfl rfl)) (a_ (ix8s (cInt .u8) 1 (fun _ => rfl) c.f_Votes t8.toNat (lt8N gL0_2) (le_ 1 1 rfl)) tr)) (a_ (a_ tr tr) (a_ (a_ tr tr) tr)))) (a_ (a_ (a_ tr tr) (a_ (a_ tr (a_ (leB cL0_3) tr)) tr)) (a_ (a_ (a_ tr tr) (a_ (a_ tr tr) tr)) tr)))) (ih _ _ r h) (by kernel_rfl) trivial
    · skip
      obtain rfl := Option.some.inj h
      exact run_ret mixed (L := []) (n := 19) (s := [.go, .reg [(0, { v := some (.bool false) })], .reg []])
        (a_ (a_ (a_ (a_ tr (a_ (leB cL0_1) tr)) tr) (a_ (a_ (a_ tr tr) (a_ (a_ tr tr) tr)) tr)) tr) (by kernel_rfl) rfl

theorem votes_Voters_ok (c : T_api_Config) (r : (Int)) (h : votes_Voters c = some r) : ∀ σ, Inj 0 σ → FnTri Tryd.prog 16 (renL σ [v_T_api_Config c]) (preOf σ 0 []) ((votes_Voters_v r).ren σ) (upOf σ []) := by
  refine fn_of Tryd.func16 (by kernel_rfl) (by kernel_rfl) (by kernel_rfl) trivial (by kernel_rfl) trivial (by kernel_rfl) ?_
  intro w0 W μ0 hμ
  unfold votes_Voters at h
  exact run_to mixed hμ (L := []) (n := 21) (s := [.reg [], .reg [], .reg []])
    (a_ (a_ (a_ tr tr) (a_ (a_ tr tr) tr)) (a_ (a_ (a_ tr tr) tr) (a_ (a_ (a_ tr tr) (a_ (a_ (a_ tr (le_ 11 11 rfl)) tr) (a_ (a_ tr tr) tr))) tr))) (votes_Voters_l0_ok hμ c  big _ _ r h) (by kernel_rfl) trivial

theorem votes_Voters_tri (c : T_api_Config) (r : (Int)) (h : votes_Voters c = some r) : FnTri Tryd.prog 16 [v_T_api_Config c] [] (votes_Voters_v r) [] := FnTri.none (votes_Voters_ok c r h) rfl rfl

/-- parrel/miss.Nodes -/

def miss_Nodes_v (r : (Int)) : LV := .int .u64 r

def miss_Nodes_T0 (locks : List (T_miss_Lock)) (set : Int) (t8 : Int) : List LV := [.any, .any, .any, .int .u64 set, .any, .any, .ds 10 (locks).length (rowF c_T_miss_Lock default locks), .int .i64 ((locks).length : Int), .int .i64 t8, .any, .any, .any, .any, .any, .any, .any, .any, .any]

def miss_Nodes_H0 (locks : List (T_miss_Lock)) (set : Int) (t8 : Int) : Heap := []

def miss_Nodes_l0 (locks : List (T_miss_Lock))  : Nat → (Int) → (Int) → Option ((Int))
  | 0, _, _ => none
  | fuel + 1, set, t8 =>
    if ((decide (t8 < ((locks).length : Int))) : Bool) then
      if 0 ≤ t8 ∧ t8 < (((locks).length : Nat) : Int) then
      (miss_Lock_nodes (locks.getD t8.toNat default)).bind fun yL0_4 =>
      miss_Nodes_l0 locks  fuel (IntKind.wrap .u64 ((BitVec.ofInt (IntKind.bits .u64) set ||| BitVec.ofInt (IntKind.bits .u64) yL0_4).toNat : Int)) (IntKind.wrap .i64 (t8 + 1))
      else none
    else
      some set

def miss_Nodes (locks : List (T_miss_Lock)) : Option ((Int)) :=
  miss_Nodes_l0 locks  big 0 0

theorem miss_Nodes_l0_ok {w0 : World} {W : Nat → Prop} {μ0 : Emb} (hμ : ∀ c p, μ0 c = some p → c < 0) (locks : List (T_miss_Lock))  : ∀ (fuel : Nat) (set : Int) (t8 : Int) (r : (Int)), miss_Nodes_l0 locks  fuel set t8 = some r → kont Tryd.prog w0 W μ0 (FnPost Tryd.prog Tryd.f14 0 0 (miss_Nodes_v r) []) (kAt (bodyOf Tryd.f14) 0) none (miss_Nodes_T0 locks set t8) (miss_Nodes_H0 locks set t8) := by
  intro fuel
  induction fuel with
  | zero => intro set t8 r h; rw [miss_Nodes_l0] at h; cases h
  | succ fuel ih =>
    intro set t8 r h
    rw [miss_Nodes_l0] at h
    rcases itb_some h with ⟨cL0_1, h⟩ | ⟨cL0_1, h⟩
    · skip
      obtain ⟨gL0_2, h⟩ := guard_some h
      obtain ⟨yL0_4, eL0_3, h⟩ := bind_some h
      exact run_to mixed hμ (L := []) (n := 26) (s := [.go, .reg [(0, { v := some (.bool true) })], .reg [], .reg [(2, { call := some (miss_Lock_nodes_v yL0_4, [], []) })], .reg []])
        (a_ (a_ (a_ tr (a_ (leB cL0_1) tr)) tr) (a_ (a_ (a_ (a_ (Eq.refl 10) gL0_2) tr) (a_ (a_ (le_ 10 10 rfl) tr) (a_ (a_ tr tr) (a_ (a_ (a_ (Eq.refl 10) (a_ (le_ 10 10 rfl) (Eq.refl 0))) tr) tr)))) (a_ (a_ (a_ tr tr) (a_ (a_ (a_ tr (le_ 10 10 rfl)) tr) (a_ (a_ (a_ (miss_Lock_nodes_tri (locks.getD t8.toNat default) yL0_4 eL0_3) tr) tr) (a_ (a_ tr tr) (a_ (a_ tr tr) tr))))) (a_ (a_ (a_ tr tr) (a_ (a_ tr tr) tr)) tr)))) (ih _ _ r h) (by kernel_rfl) trivial
    · skip
      obtain rfl := Option.some.inj h
      exact run_ret mixed (L := []) (n := 19) (s := [.go, .reg [(0, { v := some (.bool false) })], .reg []])
        (a_ (a_ (a_ (a_ tr (a_ (leB cL0_1) tr)) tr) (a_ (a_ (a_ tr tr) (a_ (a_ tr tr) tr)) tr)) tr) (by kernel_rfl) rfl

theorem miss_Nodes_ok (locks : List (T_miss_Lock)) (r : (Int)) (h : miss_Nodes locks = some r) : ∀ σ, Inj 0 σ → FnTri Tryd.prog 14 (renL σ [.ds 10 (locks).length (rowF c_T_miss_Lock default locks)]) (preOf σ 0 []) ((miss_Nodes_v r).ren σ) (upOf σ []) := by
  refine fn_of Tryd.func14 (by kernel_rfl) (by kernel_rfl) (by kernel_rfl) trivial (by kernel_rfl) trivial (by kernel_rfl) ?_
  intro w0 W μ0 hμ
  unfold miss_Nodes at h
  exact run_to mixed hμ (L := []) (n := 21) (s := [.reg [], .reg [], .reg []])
    (a_ (a_ (a_ tr tr) tr) (a_ (a_ (a_ tr tr) tr) (a_ (a_ (a_ tr tr) (a_ (a_ tr tr) (a_ (a_ tr tr) tr))) tr))) (miss_Nodes_l0_ok hμ locks  big _ _ r h) (by kernel_rfl) trivial

theorem miss_Nodes_tri (locks : List (T_miss_Lock)) (r : (Int)) (h : miss_Nodes locks = some r) : FnTri Tryd.prog 14 [.ds 10 (locks).length (rowF c_T_miss_Lock default locks)] [] (miss_Nodes_v r) [] := FnTri.none (miss_Nodes_ok locks r h) rfl rfl

/-! bits.List: PRE -/
def bl27_Tab (w : World) : Prop := ∀ j, j < 64 → w.cell? ⟨0, j, none⟩ = some (.int .u8 ((Lib.deBruijn64tab.getD j 0 : Nat) : Int))
theorem bl27_tz_core (n : Nat) (x k idx : Nat) (w : World) (hx0 : ((x : Int) == 0) = false)
    (key : IntKind.u64.wrap (bits BinOp.and IntKind.u64 (x : Int) (IntKind.u64.wrap (-(x : Int))) * 285870213051353865) / 288230376151711744 = (idx : Int))
    (hi : idx < 64) (hk : k < 64) (hcell : w.cell? ⟨0, idx, none⟩ = some (.int .u8 k)) :
    CallsIn Fence.wide n Tryd.prog 66 #[.int .u64 x] w fun e w' => e = .returned (.int .i64 k) ∧ w' = w := by
  refine callsIn_of_wp Tryd.func66 rfl trivial ?_ rfl
  simp only [Tryd.ntmps66, List.size_toArray, List.length_cons, List.length_nil, Nat.reduceAdd, Nat.reduceSub, Array.replicate_succ, Array.replicate_zero, List.push_toArray, List.append_toArray, List.nil_append, List.cons_append]
  gi_wp2_with (simp only [key])
  go_ret
  exact ⟨rfl, rfl⟩
theorem bl27_tz (n : Nat) (x : Nat) (hx : x < 18446744073709551616) (hx0 : x ≠ 0) (w : World) (hT : bl27_Tab w) :
    CallsIn Fence.wide n Tryd.prog 66 #[.int .u64 x] w fun e w' => e = .returned (.int .i64 (Lib.ctz 64 x)) ∧ w' = w := by
  obtain ⟨hlow, hk⟩ := Lib.lowest_bit 64 x hx0 hx
  obtain ⟨hi, htab⟩ := Lib.deBruijn64_at _ hk
  have hcell := hT _ hi
  rw [htab] at hcell
  exact bl27_tz_core n x _ _ w (by simp; omega) (Go.Proofs.tz64_key x _ hx hx0 hlow) hi hk hcell
theorem bl27_all (n : Nat) (s : Int) (w : World) :
    CallsIn Fence.wide n Tryd.prog 51 #[.int .u64 s] w fun e w' => e = .returned (.func (.func 65) #[] #[.pointer (some ⟨w.heap.size, 0, none⟩)]) ∧ w' = w.alloc (.cells #[.int .u64 s] 38) := by
  refine callsIn_of_wp Tryd.func51 rfl trivial ?_ rfl
  simp only [Tryd.ntmps51, List.size_toArray, List.length_cons, List.length_nil, Nat.reduceAdd, Nat.reduceSub, Array.replicate_succ, Array.replicate_zero, List.push_toArray, List.append_toArray, List.nil_append, List.cons_append]
  gi_wp2
  go_ret
  exact ⟨rfl, rfl⟩
def bl27_boxN (bx : Nat) (w : World) : Nat :=
  match w.cell? ⟨bx, 0, none⟩ with
  | some (.int _ x) => x.toNat
  | _ => 0
theorem bl27_boxN_eq {bx : Nat} {w : World} {t : TypeId} {x : Nat} (h : Boxed w bx t (.int .u64 x)) : bl27_boxN bx w = x := by
  unfold bl27_boxN; rw [h.cell]; simp
theorem bl27_tab_same {w w' : World} (h : bl27_Tab w) (e : w'.heap[0]? = w.heap[0]?) : bl27_Tab w' := fun j hj => by
  rw [← h j hj]; exact World.cell?_of_block (a := ⟨0, j, none⟩) e
theorem bl27_al1 (n : Nat) (hn : 1 ≤ n) (l bx : Nat) (s : Nat) (hs : s < 18446744073709551616) (KB : Nat → Prop) (hKb : KB bx) (hKg : KB 0) (hne : 0 ≠ bx) (J : List Int → World → Prop) (B : Nat) (hJ : AbidesX B bx J)
    (hY : ∀ pre x W1, J pre W1 → pre.length < 64 → YieldAt Fence.wide (n - 1) Tryd.prog l #[.int .i64 x] W1 fun e W' => e = .returned (.bool true) ∧ J (pre ++ [x]) W' ∧ ∀ b, KB b → W'.heap[b]? = W1.heap[b]?)
    (W : World) (hB : Boxed W bx 38 (.int .u64 s)) (hT : bl27_Tab W) (h0 : J [] W) :
    CallsIn Fence.wide n Tryd.prog 65 #[.func (.yield l) #[] #[], .pointer (some ⟨bx, 0, none⟩)] W fun e W' => (∃ v, e = .returned v) ∧ J (bitsL s) W' := by
  have FTZ : Fence.wide.fn 66 := trivial
  refine callsIn_of_wp Tryd.func65 rfl trivial ?_ rfl
  simp only [Tryd.ntmps65, List.size_toArray, List.length_cons, List.length_nil, Nat.reduceAdd, Nat.reduceSub, Array.replicate_succ, Array.replicate_zero, List.push_toArray, List.append_toArray, List.nil_append, List.cons_append]
  gi_wp2
  gi_loopw [] (fun wr => ∃ (pre : List Int) (x : Nat), x < 18446744073709551616 ∧ Boxed wr bx 38 (.int .u64 x) ∧ bl27_Tab wr ∧ bitsL s = pre ++ bitsL x ∧ J pre wr) (fun wr => bl27_boxN bx wr)
  case atStart => exact ⟨[], s, hs, hB, hT, rfl, h0⟩
  case round =>
    obtain ⟨pre, x, hx, hb, ht, he, hj⟩ := hrel
    have hc := hb.cell
    by_cases hx0 : x = 0
    · subst hx0
      gi_wp2
      go_end0
      refine ⟨⟨_, rfl⟩, ?_⟩
      have e0 : bitsL ((0 : Nat) : Int) = [] := bitsL_zero
      rw [e0, List.append_nil] at he
      rw [he]; exact hj
    · have hxi : ((x : Int) != 0) = true := by simp; omega
      have hstep := bitsL_step x hx0 (by omega)
      have hlen : pre.length < 64 := by
        have := bitsL_len (s : Int)
        rw [he, hstep, List.length_append, List.length_cons] at this
        omega
      obtain ⟨fn, tmps, assign, body, hy, hR⟩ := hY pre (Lib.ctz 64 x : Int) wr hj hlen
      gi_wp2_with (gi_at_call 66; refine (bl27_tz _ x hx hx0 _ ht).mono ?_; rintro e w' ⟨rfl, rfl⟩)
      refine hR.mono ?_
      rintro e W3 ⟨rfl, hJ3, hk3⟩
      have hb3 : Boxed W3 bx 38 (.int .u64 x) := (hk3 bx hKb).trans hb
      have ht3 := bl27_tab_same ht (hk3 0 hKg)
      have hc3 := hb3.cell
      have hf3 := hb3.frozen
      have hand : bits BinOp.and IntKind.u64 (x : Int) ((x : Int) - 1) = ((x &&& (x - 1) : Nat) : Int) := by
        have e1 : (x : Int) - 1 = ((x - 1 : Nat) : Int) := by omega
        rw [e1, bits_and_u64_nat x _ hx (by omega)]
      gi_wp2_with (simp only [hand])
      go_roundw
      case rel =>
        refine ⟨pre ++ [(Lib.ctz 64 x : Int)], x &&& (x - 1), Nat.lt_trans (and_pred_lt x hx0) hx, hb3.set _, bl27_tab_same ht3 (Below.heap_setCell _ _ _ _ hne), ?_, ?_⟩
        · rw [he, hstep, List.append_assoc]; rfl
        · exact hJ _ _ _ (some bx) hJ3 (grownBy_setCell' W3 bx _) (Nat.le_refl _) (fun r e => by cases e; exact .inr rfl)
      case measure =>
        rw [bl27_boxN_eq (hb3.set _), bl27_boxN_eq hb]
        exact and_pred_lt x hx0

theorem bl27_low {W : World} {b b' : Nat} {e : TypeId} {size k : Nat} {v : Value} {xs : List Value} (hb : b' ≤ b) (h : W.ownsRow b e size v k xs) : W.ownsRow b' e size v k xs :=
  ⟨h.1, h.2.imp id fun ⟨g, cap, cur, e1, e2, r⟩ => ⟨g, cap, cur, e1, Nat.le_trans hb e2, r⟩⟩
theorem bl27_info : ∃ i, Tryd.prog.info? 3 = some i ∧ i.zero = some (.int .i64 0) ∧ i.size = 1 ∧ i.bytes = 8 := by
  have h : (Tryd.prog.info? 3).map (fun i => (i.zero, i.size, i.bytes)) = some (some (.int .i64 0), 1, 8) := by kernel_rfl
  obtain ⟨i, h1, h2⟩ := Option.map_eq_some_iff.1 h
  exact ⟨i, h1, congrArg (·.1) h2, congrArg (·.2.1) h2, congrArg (·.2.2) h2⟩
/-- Between two rounds: the box holds what has come so far. -/
def bl27_J (w : World) (pre : List Int) (W : World) : Prop :=
  (∃ v, Boxed W w.heap.size 79 v ∧ W.ownsRow (w.heap.size + 2) 3 1 v pre.length (pre.map fun x => Value.int .i64 x) ∧ (v = .slice none 0 0 ↔ pre = [])) ∧ Below w.heap.size w W ∧ w.drawn ≤ W.drawn ∧ w.heap.size + 2 ≤ W.heap.size
theorem bl27_J_own (w : World) (B : Nat) (hB : w.heap.size + 1 ≤ B) : OwnX B (w.heap.size + 1) (bl27_J w) := by
  rintro pre W W' row ⟨⟨v, hv, hrow, hG⟩, hbl, hd, hsz⟩ hg hdr hr
  refine ⟨⟨v, hv.kept hg (fun e' => ?_), hrow.kept hg ?_, hG⟩, hbl.grown hg hbl.size (fun k e => ?_), Nat.le_trans hd hdr, Nat.le_trans hsz hg.size⟩
  · rcases hr _ e'.symm with ⟨h, _⟩ | e <;> omega
  · rcases hrow.2 with ⟨rfl, _⟩ | ⟨g, cap, cur, rfl, hg2, hgb, _⟩
    · exact .inl rfl
    · refine .inr fun e' => ?_
      rcases hr g (by simpa [Value.ownBlock] using e'.symm) with ⟨_, o, ho, hc⟩ | e
      · rw [hgb] at ho; cases ho; cases hc
      · omega
  · rcases hr k e with ⟨h, _⟩ | h <;> omega
theorem bl27_list (n : Nat) (hn : 3 ≤ n) (s : Nat) (hs : s < 18446744073709551616) (w : World) (hT : bl27_Tab w) :
    CallsIn Fence.wide n Tryd.prog 27 #[.int .u64 s] w fun e w' => ∃ v, e = .returned v ∧ w'.ownsRow (w.heap.size + 2) 3 1 v (bitsL s).length ((bitsL s).map fun x => Value.int .i64 x) ∧ (v = .slice none 0 0 ↔ bitsL s = []) ∧ Below w.heap.size w w' ∧ w.drawn ≤ w'.drawn := by
  have h1 : 1 ≤ n := by omega
  have FALL : Fence.wide.fn 51 := trivial
  have hgs : 0 < w.heap.size := by
    have := hT 0 (by decide)
    unfold World.cell? at this
    rcases Nat.lt_or_ge 0 w.heap.size with h | h
    · exact h
    · rw [Array.getElem?_eq_none h] at this; cases this
  refine callsIn_of_wp_marks Tryd.func27 rfl trivial ?_ rfl
  simp only [Tryd.ntmps27, List.size_toArray, List.length_cons, List.length_nil, Nat.reduceAdd, Nat.reduceSub, Array.replicate_succ, Array.replicate_zero, List.push_toArray, List.append_toArray, List.nil_append, List.cons_append]
  gi_wp2_with (gi_at_call 51; refine (bl27_all (n - 1) s _).mono ?_; rintro e w' ⟨rfl, rfl⟩)
  obtain ⟨W0, hW0⟩ : ∃ W0, (w.alloc (.cells #[.slice none 0 0] 79)).alloc (.cells #[.int .u64 s] 38) = W0 := ⟨_, rfl⟩
  have hs0 : W0.heap.size = w.heap.size + 2 := by rw [← hW0]; simp
  have hb0 : Below w.heap.size w W0 := by rw [← hW0]; exact ((Below.refl _ w).alloc (Nat.le_refl _) _).alloc (by simp) _
  have hB0 : Boxed W0 w.heap.size 79 (.slice none 0 0) := by rw [← hW0]; exact (Boxed.new w _ _).alloc _
  have hB1 : Boxed W0 (w.heap.size + 1) 38 (.int .u64 s) := by
    rw [← hW0]
    have := Boxed.new (w.alloc (.cells #[.slice none 0 0] 79)) 38 (.int .u64 s)
    rwa [World.size_alloc] at this
  have hT0 : bl27_Tab W0 := bl27_tab_same hT (hb0.block 0 hgs)
  rw [hW0]
  have hseq : SeqX Fence.wide (n - 1) Tryd.prog 65 #[.pointer (some ⟨w.heap.size + 1, 0, none⟩)] (fun x : Int => Value.int .i64 x) (fun xs => xs = bitsL s) 64 (w.heap.size + 1) (fun b => b = w.heap.size + 1 ∨ b = 0) W0 := by
    intro l J W hW hJ hY h0
    refine (bl27_al1 (n - 1) (by omega) l (w.heap.size + 1) s hs _ (.inl rfl) (.inr rfl) (by omega) J W.heap.size hJ hY W ((hW.block _ (by omega)).trans hB1) (bl27_tab_same hT0 (hW.block _ (by omega))) h0).mono ?_
    rintro e W' ⟨hv, hj⟩
    exact ⟨hv, _, rfl, hj⟩
  refine rangeFunc_boxX rfl h1 (gf := 65) (lb := #[.pointer (some ⟨w.heap.size + 1, 0, none⟩)]) rfl trivial (Go.Proofs.enters_of Tryd.func65 (by kernel_rfl) rfl) (bx := w.heap.size + 1) (KB := fun b => b = w.heap.size + 1 ∨ b = 0) (by omega) (fun b hb => by rcases hb with rfl | rfl <;> omega) hseq (Below.refl _ _) rfl
    (bl27_J w) (by rw [hs0]; exact bl27_J_own w _ (by omega)) ⟨⟨_, hB0, World.ownsRow_nil _ _ _ _, by simp⟩, hb0, by rw [← hW0]; exact Nat.le_refl _, by omega⟩
    (fun pre x a1 W => bl27_J w pre W ∧ a1 = { tmps := #[.int .u64 s, undef, .slice none 0 0, .pointer (some ⟨w.heap.size, 0, none⟩), .int .i64 x, .int .u64 s, .func (.func 65) #[] #[.pointer (some ⟨w.heap.size + 1, 0, none⟩)], .int .i64 x, undef, undef, undef, undef, undef], defers := [] })
    (fun x a1 => OwnX.and (by rw [hs0]; exact bl27_J_own w _ (by omega)) (fun s X Y row hs hg _ hr => hs)) ?assign ?body ?done
  case assign =>
    intro l pre x W hI hlen
    gi_wp2_with (rw [Oper.semAt_eq _ _ _ (fun c h => by cases h)]; go_simp; try go_bits)
    refine ⟨⟨hI, ?_⟩, KeepsOthers.refl _, ?_⟩ <;> first | rfl | trivial | (intro _ _; first | rfl | trivial)
  case body =>
    rintro l pre x a1 W ⟨⟨⟨v, hv, hrow, hnil⟩, hB, hD0, hsz⟩, rfl⟩ hlen
    have hml : 64 ≤ maxLen := by unfold maxLen; omega
    obtain ⟨i0, hi, hz0, hz1, hz2⟩ := bl27_info
    have hc := hv.cell
    have hf := hv.frozen
    have hbs := hB.size
    gi_wp2_with (first
      | (gi_at_builtin; refine wpListIn_append_d _ rfl _ _ 79 rfl (w.heap.size + 2) 3 i0 _ 1 8 Tryd.underlying79 hi hz0 hz1 hz2 rfl (by decide) _ _ _ rfl (hrow.alloc _) ⟨W.heap.size, 0, none⟩ 1 1 [Value.int .i64 x] rfl rfl ?_ ?_ (by omega) (by omega) (by simp; omega) ?_)
      | (rw [Oper.semAt_eq _ _ _ (fun c h => by cases h)]; go_simp; try go_bits))
    · exact fun j u hj => cell_new W [Value.int .i64 x] 3 j u hj
    · intro u hu
      simp only [List.mem_cons, List.not_mem_nil, or_false] at hu
      subst hu; rfl
    · intro v' w3 hown' hg3 hd3 hnil3
      obtain ⟨hv3, hv4, hrow4, hko, hbe⟩ := hv.appended (by decide) (bl27_low (by omega) hrow) hbs (Nat.le_refl _) (bl27_low (b' := w.heap.size) (by omega) hown') hg3
      have hc3 := hv3.cell
      have hf3 := hv3.frozen
      have hrow5 : (w3.setCell ⟨w.heap.size, 0, none⟩ v').ownsRow (w.heap.size + 2) 3 1 v' (pre.length + 1) (pre.map (fun x => Value.int .i64 x) ++ [Value.int .i64 x]) :=
        hown'.kept (grownBy_setCell' w3 w.heap.size v') (.inr (hv3.not_row (by decide) (bl27_low (b' := w.heap.size) (by omega) hown')).symm)
      have hkb : ∀ b, (b = w.heap.size + 1 ∨ b = 0) → (w3.setCell ⟨w.heap.size, 0, none⟩ v').heap[b]? = W.heap[b]? := by
        intro b hb
        have hbl : b < W.heap.size := by rcases hb with rfl | rfl <;> omega
        have hne : b ≠ w.heap.size := by rcases hb with rfl | rfl <;> omega
        have h2 : w3.heap[b]? = (W.alloc (.cells [Value.int .i64 x].toArray 3)).heap[b]? := by
          refine hg3.block b (by simp; omega) (fun e => ?_)
          rcases hrow.2 with ⟨rfl, _⟩ | ⟨g, cap, cur, rfl, hg2, _, _⟩
          · simp [Value.ownBlock] at e
          · have : b = g := by simpa [Value.ownBlock] using e
            subst this
            rcases hb with rfl | rfl <;> omega
        rw [Below.heap_setCell _ _ _ _ hne, h2]
        exact Below.heap_alloc _ _ _ hbl
      have hsz3 : w.heap.size + 2 ≤ (w3.setCell ⟨w.heap.size, 0, none⟩ v').heap.size := Nat.le_trans hsz hko.size
      obtain ⟨g', cap', hv'⟩ := ownsRow_succ hown'
      subst hv'
      gi_wp2_with (rw [Oper.semAt_eq _ _ _ (fun c h => by cases h)]; go_simp; try go_bits)
      refine ⟨⟨_, hv4, ?_, by simp⟩, hB.trans hbe, Nat.le_trans hD0 hd3, hsz3⟩
      rw [List.length_append, List.map_append]
      exact hrow5
  case done =>
    rintro D ss W hD hS ⟨⟨v, hv, hrow, hnil⟩, hB, hD0, _⟩ hK
    subst hS
    have hc := hv.cell
    have hf := hv.frozen
    gi_wp2
    refine ⟨by simp, .inl ⟨_, _, rfl, run_takeDeferred hK, ?_⟩⟩
    exact ⟨_, results_tmp rfl _ _ _, v, rfl, ownsRow_putObj hrow _ hK rfl, hnil, hB.grown (grownBy_putObj' _ _ _) hB.size (fun k e => by cases e; omega), hD0⟩

/-- **bits.List** -/
theorem bl27_tri (hG : tabBlk = some 0) (t : Int) (h : 0 ≤ t ∧ t < 18446744073709551616) : FnTri Tryd.prog 27 [.int .u64 t] [] (.ds 1 (bitsL t).length (rowF (cInt .i64) default (bitsL t))) [] := by
  refine ⟨⟨Tryd.f27, Tryd.func27, by kernel_rfl, by kernel_rfl⟩, fun μ w vals hr hp _ => ?_⟩
  obtain ⟨x, r, rfl, hx, hr'⟩ := hr
  cases hr'
  simp only [Rel] at hx
  subst hx
  obtain ⟨s, rfl⟩ : ∃ s : Nat, t = (s : Int) := ⟨t.toNat, by omega⟩
  have hT : bl27_Tab w := by
    obtain ⟨cs, h1, h2⟩ := hp.tab 0 hG
    obtain ⟨E, fr, h3⟩ := hp.fro _ _ h1
    intro j hj
    simp only [World.cell?, h3, Option.isSome_none, Bool.false_eq_true, if_false]
    exact h2 j hj
  refine (callsIn_wide.1 (bl27_list 4 (by omega) s (by omega) w hT)).mono ?_
  rintro e w' ⟨v, rfl, hrow, hnil, hb, hd⟩
  have hrow' : w'.ownsRow w.heap.size 3 1 v (bitsL (s : Int)).length ((bitsL (s : Int)).flatMap fun x => [Value.int .i64 x]) := by
    have e : ∀ l : List Int, (l.flatMap fun x => [Value.int .i64 x]) = l.map fun x => Value.int .i64 x := fun l => by induction l with | nil => rfl | cons a l ih => simp [ih]
    rw [e]; exact bl27_low (by omega) hrow
  obtain ⟨μ', k1, k2⟩ := sorted_fin (α := Int) (enc := cInt .i64) (kc := fun x => [Value.int .i64 x]) (k := 1) (L := bitsL (s : Int)) (v := v) (fun φ x => ⟨_, _, rfl, rfl, rfl⟩) (fun _ => rfl) (fun x v hv => by simp at hv; subst hv; rfl) hp hb hd (sortedAt_owns (enc := fun x : Int => [Value.int .i64 x]) (k := 1) (fun _ => rfl) (Nat.le_refl w.heap.size) hrow')
  exact ⟨v, μ', rfl, k1, k2⟩

/-- parrel/bits.Has -/

def bits_Has_v (r : (Bool)) : LV := .bool r

def bits_Has (set : Int) (x_n : Int) : Option ((Bool)) :=
  (bits_bit x_n).bind fun y2 =>
  some ((IntKind.wrap .u64 ((BitVec.ofInt (IntKind.bits .u64) set &&& BitVec.ofInt (IntKind.bits .u64) y2).toNat : Int)) != 0)

theorem bits_Has_ok (set : Int) (x_n : Int) (r : (Bool)) (h : bits_Has set x_n = some r) : ∀ σ, Inj 0 σ → FnTri Tryd.prog 52 (renL σ [.int .u64 set, .int .i64 x_n]) (preOf σ 0 []) ((bits_Has_v r).ren σ) (upOf σ []) := by
  refine fn_of Tryd.func52 (by kernel_rfl) (by kernel_rfl) (by kernel_rfl) trivial (by kernel_rfl) trivial (by kernel_rfl) ?_
  intro w0 W μ0 hμ
  unfold bits_Has at h
  obtain ⟨y2, e1, h⟩ := bind_some h
  obtain rfl := Option.some.inj h
  exact run_ret mixed (L := []) (n := 15) (s := [.reg [], .reg [(2, { call := some (bits_bit_v y2, [], []) })]])
    (a_ (a_ (a_ (a_ tr tr) tr) (a_ (a_ (a_ tr tr) (a_ (a_ tr tr) (a_ (a_ (a_ (bits_bit_tri x_n y2 e1) tr) tr) (a_ (a_ tr tr) (a_ (a_ tr tr) (a_ (a_ tr tr) tr)))))) tr)) tr) (by kernel_rfl) rfl

theorem bits_Has_tri (set : Int) (x_n : Int) (r : (Bool)) (h : bits_Has set x_n = some r) : FnTri Tryd.prog 52 [.int .u64 set, .int .i64 x_n] [] (bits_Has_v r) [] := FnTri.none (bits_Has_ok set x_n r h) rfl rfl

/-- (*parrel/miss.plan).member -/

def miss_plan_member_v (r : (T_coord_Member)) : LV := v_T_coord_Member r

def miss_plan_member_up (Boot : A8 (T_api_Reg)) (writers : List (A8 (Int) × Int)) (x_n : Int) (writes : List (T_api_Write)) (r : (T_coord_Member)) : Upd := [(0, some (.var [.int .u32 Boot.a0.f_Boot, .int .u32 Boot.a0.f_N, .int .u32 Boot.a1.f_Boot, .int .u32 Boot.a1.f_N, .int .u32 Boot.a2.f_Boot, .int .u32 Boot.a2.f_N, .int .u32 Boot.a3.f_Boot, .int .u32 Boot.a3.f_N, .int .u32 Boot.a4.f_Boot, .int .u32 Boot.a4.f_N, .int .u32 Boot.a5.f_Boot, .int .u32 Boot.a5.f_N, .int .u32 Boot.a6.f_Boot, .int .u32 Boot.a6.f_N, .int .u32 Boot.a7.f_Boot, .int .u32 Boot.a7.f_N, .map 1])), (1, some (.map true [.int .u8, .int .u8, .int .u8, .int .u8, .int .u8, .int .u8, .int .u8, .int .u8] (encM (fun z_ : A8 (Int) => LV.agg [.int .u8 z_.a0, .int .u8 z_.a1, .int .u8 z_.a2, .int .u8 z_.a3, .int .u8 z_.a4, .int .u8 z_.a5, .int .u8 z_.a6, .int .u8 z_.a7]) (LV.int .u64) writers)))]

def miss_plan_member_objs (Boot : A8 (T_api_Reg)) (writers : List (A8 (Int) × Int)) (x_n : Int) (writes : List (T_api_Write)) : List LO := [.var [.int .u32 Boot.a0.f_Boot, .int .u32 Boot.a0.f_N, .int .u32 Boot.a1.f_Boot, .int .u32 Boot.a1.f_N, .int .u32 Boot.a2.f_Boot, .int .u32 Boot.a2.f_N, .int .u32 Boot.a3.f_Boot, .int .u32 Boot.a3.f_N, .int .u32 Boot.a4.f_Boot, .int .u32 Boot.a4.f_N, .int .u32 Boot.a5.f_Boot, .int .u32 Boot.a5.f_N, .int .u32 Boot.a6.f_Boot, .int .u32 Boot.a6.f_N, .int .u32 Boot.a7.f_Boot, .int .u32 Boot.a7.f_N, .map 1], .map true [.int .u8, .int .u8, .int .u8, .int .u8, .int .u8, .int .u8, .int .u8, .int .u8] (encM (fun z_ : A8 (Int) => LV.agg [.int .u8 z_.a0, .int .u8 z_.a1, .int .u8 z_.a2, .int .u8 z_.a3, .int .u8 z_.a4, .int .u8 z_.a5, .int .u8 z_.a6, .int .u8 z_.a7]) (LV.int .u64) writers)]

def miss_plan_member_T0 (Boot : A8 (T_api_Reg)) (writers : List (A8 (Int) × Int)) (x_n : Int) (writes : List (T_api_Write)) (t21 : Int) (l : List (T_api_Write)) : List LV := [.ptr 0 0 0, .int .i64 x_n, .any, .any, .any, .any, .ptr 2 0 0, .ptr 3 0 0, .any, .any, .any, .any, .any, .any, .any, .any, .any, .any, .any, .ds 21 (writes).length (rowF c_T_api_Write default writes), .int .i64 ((writes).length : Int), .int .i64 t21, .any, .any, .any, .any, .any, .any, .any, .any, .any, .any, .any, .any, .any, .any, .any, .any, .any, .any, .any, .any]

def miss_plan_member_H0 (Boot : A8 (T_api_Reg)) (writers : List (A8 (Int) × Int)) (x_n : Int) (writes : List (T_api_Write)) (t21 : Int) (l : List (T_api_Write)) : Heap := [some (.var [.int .u32 Boot.a0.f_Boot, .int .u32 Boot.a0.f_N, .int .u32 Boot.a1.f_Boot, .int .u32 Boot.a1.f_N, .int .u32 Boot.a2.f_Boot, .int .u32 Boot.a2.f_N, .int .u32 Boot.a3.f_Boot, .int .u32 Boot.a3.f_N, .int .u32 Boot.a4.f_Boot, .int .u32 Boot.a4.f_N, .int .u32 Boot.a5.f_Boot, .int .u32 Boot.a5.f_N, .int .u32 Boot.a6.f_Boot, .int .u32 Boot.a6.f_N, .int .u32 Boot.a7.f_Boot, .int .u32 Boot.a7.f_N, .map 1]), some (.map true [.int .u8, .int .u8, .int .u8, .int .u8, .int .u8, .int .u8, .int .u8, .int .u8] (encM (fun z_ : A8 (Int) => LV.agg [.int .u8 z_.a0, .int .u8 z_.a1, .int .u8 z_.a2, .int .u8 z_.a3, .int .u8 z_.a4, .int .u8 z_.a5, .int .u8 z_.a6, .int .u8 z_.a7]) (LV.int .u64) writers)), some (.var [.int .u8 0, .int .u32 0, .int .u32 0, .nilsl]), some (.var [.int .u8 (IntKind.wrap .u8 x_n), .int .u32 (A8.get Boot x_n.toNat).f_Boot, .int .u32 (A8.get Boot x_n.toNat).f_N, .gs 4 (l).length]), some (.gr 21 (l).length (rowF c_T_api_Write default l))]

def miss_plan_member_l0 (Boot : A8 (T_api_Reg)) (writers : List (A8 (Int) × Int)) (x_n : Int) (writes : List (T_api_Write))  : Nat → (Int) → (List (T_api_Write)) → Option ((T_coord_Member))
  | 0, _, _ => none
  | fuel + 1, t21, l =>
    if ((decide (t21 < ((writes).length : Int))) : Bool) then
      if 0 ≤ t21 ∧ t21 < (((writes).length : Nat) : Int) then
      (bits_Has ((mget writers (writes.getD t21.toNat default).f_Key).getD default) x_n).bind fun yL0_4 =>
      if (yL0_4 : Bool) then
        if ((l).length + (([(writes.getD t21.toNat default)] : List (T_api_Write))).length) * 48 ≤ 140737488351232 then
        miss_plan_member_l0 Boot writers x_n writes  fuel (IntKind.wrap .i64 (t21 + 1)) (l ++ ([(writes.getD t21.toNat default)] : List (T_api_Write)))
        else none
      else
        miss_plan_member_l0 Boot writers x_n writes  fuel (IntKind.wrap .i64 (t21 + 1)) l
      else none
    else
      some (T_coord_Member.mk (IntKind.wrap .u8 x_n) (A8.get Boot x_n.toNat) l)

def miss_plan_member (Boot : A8 (T_api_Reg)) (writers : List (A8 (Int) × Int)) (x_n : Int) (writes : List (T_api_Write)) : Option ((T_coord_Member)) :=
  if 0 ≤ x_n ∧ x_n < 8 then
  miss_plan_member_l0 Boot writers x_n writes  big 0 ([] : List (T_api_Write))
  else none

theorem miss_plan_member_l0_ok {w0 : World} {W : Nat → Prop} {μ0 : Emb} (hμ : ∀ c p, μ0 c = some p → c < 2) (Boot : A8 (T_api_Reg)) (writers : List (A8 (Int) × Int)) (x_n : Int) (writes : List (T_api_Write))  : ∀ (fuel : Nat) (t21 : Int) (l : List (T_api_Write)) (r : (T_coord_Member)), miss_plan_member_l0 Boot writers x_n writes  fuel t21 l = some r → kont Tryd.prog w0 W μ0 (FnPost Tryd.prog Tryd.f28 2 2 (miss_plan_member_v r) (miss_plan_member_up Boot writers x_n writes r)) (kAt (bodyOf Tryd.f28) 0) none (miss_plan_member_T0 Boot writers x_n writes t21 l) (miss_plan_member_H0 Boot writers x_n writes t21 l) := by
  intro fuel
  induction fuel with
  | zero => intro t21 l r h; rw [miss_plan_member_l0] at h; cases h
  | succ fuel ih =>
    intro t21 l r h
    rw [miss_plan_member_l0] at h
    rcases itb_some h with ⟨cL0_1, h⟩ | ⟨cL0_1, h⟩
    · skip
      obtain ⟨gL0_2, h⟩ := guard_some h
      obtain ⟨yL0_4, eL0_3, h⟩ := bind_some h
      rcases itb_some h with ⟨cL0_5, h⟩ | ⟨cL0_5, h⟩
      · skip
        obtain ⟨gL0_6, h⟩ := guard_some h
        exact run_to mixed hμ (L := [2, 3, 7]) (n := 30) (s := [.go, .reg [(0, { v := some (.bool true) })], .reg [], .reg [(6, { look := ((mget writers (writes.getD t21.toNat default).f_Key).map (LV.int .u64)), v := some (.int .u64 ((mget writers (writes.getD t21.toNat default).f_Key).getD default)) }), (8, { call := some (bits_Has_v yL0_4, [], []), v := some (.bool true) })], .reg [(3, { os := [(6, .gr 21 (([(writes.getD t21.toNat default)] : List (T_api_Write))).length (rowF c_T_api_Write default ([(writes.getD t21.toNat default)] : List (T_api_Write))))], v := some (.gs 6 (([(writes.getD t21.toNat default)] : List (T_api_Write))).length) }), (4, { app := 3, os := [(7, .gr 21 ((l ++ ([(writes.getD t21.toNat default)] : List (T_api_Write)))).length (rowF c_T_api_Write default (l ++ ([(writes.getD t21.toNat default)] : List (T_api_Write)))))], v := some (.gs 7 ((l ++ ([(writes.getD t21.toNat default)] : List (T_api_Write)))).length) })], .reg []])
          (a_ (a_ (a_ tr (a_ (leB cL0_1) tr)) tr) (a_ (a_ (a_ (a_ (Eq.refl 21) gL0_2) tr) (a_ (a_ (le_ 21 21 rfl) tr) (a_ (a_ tr tr) (a_ (a_ (a_ (Eq.refl 21) (a_ (le_ 21 21 rfl) (Eq.refl 0))) tr) tr)))) (a_ (a_ (a_ tr tr) (a_ (a_ tr tr) (a_ (a_ tr tr) (a_ (a_ (a_ tr (lt_ 16 17 rfl)) tr) (a_ (a_ tr tr) (a_ (a_ (a_ tr (le_ 8 21 rfl)) tr) (a_ (a_ (a_ (Eq.refl true) (findE_enc (fun z_ : A8 (Int) => LV.agg [.int .u8 z_.a0, .int .u8 z_.a1, .int .u8 z_.a2, .int .u8 z_.a3, .int .u8 z_.a4, .int .u8 z_.a5, .int .u8 z_.a6, .int .u8 z_.a7]) (LV.int .u64) (k_arr8 .u8) writers (writes.getD t21.toNat default).f_Key)) (a_ (le_look (LV.int .u64) (mget writers (writes.getD t21.toNat default).f_Key) default) tr)) (a_ (a_ tr tr) (a_ (a_ (a_ (bits_Has_tri ((mget writers (writes.getD t21.toNat default).f_Key).getD default) x_n yL0_4 eL0_3) tr) (a_ (leB cL0_5) tr)) tr))))))))) (a_ (a_ (a_ tr tr) (a_ (a_ (a_ tr (lt_ 3 4 rfl)) tr) (a_ (a_ (a_ tr (le_ 21 21 rfl)) tr) (a_ (a_ (a_ (Eq.refl true) (a_ (Eq.refl 21) (a_ (lt_ 0 21 rfl) (le_ 21 16777216 rfl)))) (a_ (le_sl_gs 6 1 (some 1) rfl) (a_ (sub_lit c_T_api_Write default 21 (fun _ => rfl) ([(writes.getD t21.toNat default)] : List (T_api_Write))) tr))) (a_ (a_ (a_ (a_ (Eq.refl 21) (Nat.le_refl (([(writes.getD t21.toNat default)] : List (T_api_Write))).length)) (a_ (a_ (lt_ 0 21 rfl) (a_ (lt_ 0 48 rfl) (a_ gL0_6 (a_ (Eq.refl 21) (Eq.refl true))))) (a_ (Eq.refl 21) (Nat.le_refl (l).length)))) (a_ (le_gs_app 7 l ([(writes.getD t21.toNat default)] : List (T_api_Write))) (a_ (sub_app c_T_api_Write default 21 l ([(writes.getD t21.toNat default)] : List (T_api_Write))) tr))) (a_ (a_ tr tr) (a_ (a_ (a_ (Eq.refl 1) (a_ (le_ 4 4 rfl) (Eq.refl 0))) tr) tr))))))) (a_ (a_ (a_ tr tr) (a_ (a_ tr tr) tr)) tr))))) (ih _ _ r h) (by kernel_rfl) ⟨rfl, trivial, rfl, rfl, fun _ _ => rfl, trivial⟩
      · skip
        exact run_to mixed hμ (L := [2, 3, 4]) (n := 29) (s := [.go, .reg [(0, { v := some (.bool true) })], .reg [], .reg [(6, { look := ((mget writers (writes.getD t21.toNat default).f_Key).map (LV.int .u64)), v := some (.int .u64 ((mget writers (writes.getD t21.toNat default).f_Key).getD default)) }), (8, { call := some (bits_Has_v yL0_4, [], []), v := some (.bool false) })], .reg []])
          (a_ (a_ (a_ tr (a_ (leB cL0_1) tr)) tr) (a_ (a_ (a_ (a_ (Eq.refl 21) gL0_2) tr) (a_ (a_ (le_ 21 21 rfl) tr) (a_ (a_ tr tr) (a_ (a_ (a_ (Eq.refl 21) (a_ (le_ 21 21 rfl) (Eq.refl 0))) tr) tr)))) (a_ (a_ (a_ tr tr) (a_ (a_ tr tr) (a_ (a_ tr tr) (a_ (a_ (a_ tr (lt_ 16 17 rfl)) tr) (a_ (a_ tr tr) (a_ (a_ (a_ tr (le_ 8 21 rfl)) tr) (a_ (a_ (a_ (Eq.refl true) (findE_enc (fun z_ : A8 (Int) => LV.agg [.int .u8 z_.a0, .int .u8 z_.a1, .int .u8 z_.a2, .int .u8 z_.a3, .int .u8 z_.a4, .int .u8 z_.a5, .int .u8 z_.a6, .int .u8 z_.a7]) (LV.int .u64) (k_arr8 .u8) writers (writes.getD t21.toNat default).f_Key)) (a_ (le_look (LV.int .u64) (mget writers (writes.getD t21.toNat default).f_Key) default) tr)) (a_ (a_ tr tr) (a_ (a_ (a_ (bits_Has_tri ((mget writers (writes.getD t21.toNat default).f_Key).getD default) x_n yL0_4 eL0_3) tr) (a_ (leB cL0_5) tr)) tr))))))))) (a_ (a_ (a_ tr tr) (a_ (a_ tr tr) tr)) tr)))) (ih _ _ r h) (by kernel_rfl) ⟨rfl, trivial, rfl, rfl, fun _ _ => rfl, trivial⟩
    · skip
      obtain rfl := Option.some.inj h
      exact run_ret mixed (L := []) (n := 20) (s := [.go, .reg [(0, { v := some (.bool false) })], .reg [], .frz 4])
        (a_ (a_ (a_ (a_ tr (a_ (leB cL0_1) tr)) tr) (a_ (a_ (a_ (a_ tr (le_ 4 4 rfl)) tr) (a_ (a_ (a_ (Eq.refl 4) (a_ (le_ 4 4 rfl) (Eq.refl 0))) tr) tr)) (a_ (a_ (fz_row (enc := c_T_api_Write) (d := default) (fun _ => rfl) l) (a_ (Nat.le_refl (l).length) (a_ (Nat.le_refl (l).length) (a_ (Nat.le_refl (l).length) tr)))) tr))) (a_ (a_ tr (le_ 4 4 rfl)) tr)) (by kernel_rfl) rfl

theorem miss_plan_member_ok (Boot : A8 (T_api_Reg)) (writers : List (A8 (Int) × Int)) (x_n : Int) (writes : List (T_api_Write)) (r : (T_coord_Member)) (h : miss_plan_member Boot writers x_n writes = some r) : ∀ σ, Inj 2 σ → FnTri Tryd.prog 28 (renL σ [.ptr 0 0 0, .int .i64 x_n, .ds 21 (writes).length (rowF c_T_api_Write default writes)]) (preOf σ 0 (miss_plan_member_objs Boot writers x_n writes)) ((miss_plan_member_v r).ren σ) (upOf σ (miss_plan_member_up Boot writers x_n writes r)) := by
  refine fn_of Tryd.func28 (by kernel_rfl) (by kernel_rfl) (by kernel_rfl) ⟨rfl, trivial, trivial⟩ (by kernel_rfl) ⟨rfl, trivial, trivial⟩ (by kernel_rfl) ?_
  intro w0 W μ0 hμ
  unfold miss_plan_member at h
  obtain ⟨g1, h⟩ := guard_some h
  exact run_to mixed hμ (L := [2, 5, 4]) (n := 23) (s := [.reg [], .void (.gr 21 (([] : List (T_api_Write))).length (rowF c_T_api_Write default ([] : List (T_api_Write)))), .void (.gr 21 (([] : List (T_api_Write))).length (rowF c_T_api_Write default ([] : List (T_api_Write)))), .reg [(7, { v := some (v_T_api_Reg (A8.get Boot x_n.toNat)) }), (9, { os := [(5, .var [.int .u8 0, .int .u32 0, .int .u32 0, .gs 3 (([] : List (T_api_Write))).length])] }), (10, { os := [(5, .var [.int .u8 (IntKind.wrap .u8 x_n), .int .u32 (A8.get Boot x_n.toNat).f_Boot, .int .u32 (A8.get Boot x_n.toNat).f_N, .gs 4 (([] : List (T_api_Write))).length])] })], .reg []])
    (a_ (a_ (a_ tr tr) tr) (a_ (Eq.refl 0) (a_ (Eq.refl 0) (a_ (a_ (a_ tr tr) (a_ (a_ tr tr) (a_ (a_ tr tr) (a_ (a_ tr tr) (a_ (a_ tr tr) (a_ (a_ tr tr) (a_ (a_ g1 tr) (a_ (a_ (a_ tr (arrLe (len := 8) g1 0 2 17 2 rfl rfl)) (a_ (ld8 c_T_api_Reg 2 (fun _ => rfl) Boot [] [.map 1] 0 rfl x_n.toNat 2 (lt8N g1) (le_ (0 + 2) 2 rfl)) tr)) (a_ (a_ (Eq.refl true) tr) (a_ (a_ tr (a_ (LO.Sub.var (a := [.int .u8 0, .int .u32 0, .int .u32 0, .nilsl]) (b := [.int .u8 0, .int .u32 0, .int .u32 0, .gs 3 (([] : List (T_api_Write))).length]) (a_ (LV.Le.refl (.int .u8 0)) (a_ (LV.Le.refl (.int .u32 0)) (a_ (LV.Le.refl (.int .u32 0)) (a_ (le_nil_gs 3) tr))))) tr)) (a_ (a_ (a_ (Eq.refl 4) (a_ (le_ 4 4 rfl) (Eq.refl 0))) (a_ (LO.Sub.var (a := [.int .u8 (IntKind.wrap .u8 x_n), .int .u32 (A8.get Boot x_n.toNat).f_Boot, .int .u32 (A8.get Boot x_n.toNat).f_N, .nilsl]) (b := [.int .u8 (IntKind.wrap .u8 x_n), .int .u32 (A8.get Boot x_n.toNat).f_Boot, .int .u32 (A8.get Boot x_n.toNat).f_N, .gs 4 (([] : List (T_api_Write))).length]) (a_ (LV.Le.refl (.int .u8 (IntKind.wrap .u8 x_n))) (a_ (LV.Le.refl (.int .u32 (A8.get Boot x_n.toNat).f_Boot)) (a_ (LV.Le.refl (.int .u32 (A8.get Boot x_n.toNat).f_N)) (a_ (le_nil_gs 4) tr))))) tr)) tr))))))))))) (a_ (a_ (a_ tr tr) (a_ (a_ tr tr) (a_ (a_ tr tr) tr))) tr))))) (miss_plan_member_l0_ok hμ Boot writers x_n writes  big _ _ r h) (by kernel_rfl) ⟨rfl, trivial, rfl, rfl, fun _ _ => rfl, trivial⟩

/-- parrel/miss.Plan -/

def miss_Plan_v (r : (List (T_coord_Member)) × (List (Int)) × (Int)) : LV := .tup [.ds 4 (r.1).length (rowF c_T_coord_Member default r.1), .ds 1 (r.2.1).length (rowF (cInt .u64) default r.2.1), .int .i64 r.2.2]

def miss_Plan_T2 (writes : List (T_api_Write)) (Boot : A8 (T_api_Reg)) (m : List (A8 (Int) × Int)) (l : List (Int)) (yL1_3 : (Int)) (t74 : Int) (l2 : List (T_coord_Member)) : List LV := [.any, .ds 21 (writes).length (rowF c_T_api_Write default writes), .any, .any, .any, .any, .any, .ptr 0 0 0, .any, .any, .gs 1 (l).length, .any, .any, .any, .gs 2 (l2).length, .any, .any, .any, .any, .any, .any, .any, .any, .any, .any, .any, .any, .any, .any, .any, .any, .any, .any, .any, .any, .any, .any, .any, .any, .any, .any, .any, .any, .any, .any, .any, .any, .any, .any, .any, .any, .any, .any, .any, .any, .any, .any, .any, .any, .any, .any, .any, .any, .any, .any, .any, .any, .any, .any, .any, .any, .any, .ds 1 ((bitsL yL1_3)).length (rowF (cInt .i64) default (bitsL yL1_3)), .int .i64 (((bitsL yL1_3)).length : Int), .int .i64 t74, .any, .any, .any, .any, .any, .any, .any, .any, .any, .any, .any, .any, .any]

def miss_Plan_H2 (writes : List (T_api_Write)) (Boot : A8 (T_api_Reg)) (m : List (A8 (Int) × Int)) (l : List (Int)) (yL1_3 : (Int)) (t74 : Int) (l2 : List (T_coord_Member)) : Heap := [some (.var [.ptr 3 0 0]), some (.gr 1 (l).length (rowF (cInt .u64) default l)), some (.gr 4 (l2).length (rowF c_T_coord_Member default l2)), some (.var [.int .u32 Boot.a0.f_Boot, .int .u32 Boot.a0.f_N, .int .u32 Boot.a1.f_Boot, .int .u32 Boot.a1.f_N, .int .u32 Boot.a2.f_Boot, .int .u32 Boot.a2.f_N, .int .u32 Boot.a3.f_Boot, .int .u32 Boot.a3.f_N, .int .u32 Boot.a4.f_Boot, .int .u32 Boot.a4.f_N, .int .u32 Boot.a5.f_Boot, .int .u32 Boot.a5.f_N, .int .u32 Boot.a6.f_Boot, .int .u32 Boot.a6.f_N, .int .u32 Boot.a7.f_Boot, .int .u32 Boot.a7.f_N, .map 4]), some (.map true [.int .u8, .int .u8, .int .u8, .int .u8, .int .u8, .int .u8, .int .u8, .int .u8] (encM (fun z_ : A8 (Int) => LV.agg [.int .u8 z_.a0, .int .u8 z_.a1, .int .u8 z_.a2, .int .u8 z_.a3, .int .u8 z_.a4, .int .u8 z_.a5, .int .u8 z_.a6, .int .u8 z_.a7]) (LV.int .u64) m))]

def miss_Plan_T1 (locks : List (T_miss_Lock)) (writes : List (T_api_Write)) (Boot : A8 (T_api_Reg)) (m : List (A8 (Int) × Int)) (t43 : Int) (l : List (Int)) : List LV := [.ds 10 (locks).length (rowF c_T_miss_Lock default locks), .ds 21 (writes).length (rowF c_T_api_Write default writes), .any, .any, .any, .any, .any, .ptr 0 0 0, .any, .any, .gs 1 (l).length, .any, .any, .any, .any, .any, .any, .any, .any, .any, .any, .any, .any, .any, .any, .any, .any, .any, .any, .any, .any, .any, .any, .any, .any, .any, .any, .any, .any, .any, .any, .ds 21 (writes).length (rowF c_T_api_Write default writes), .int .i64 ((writes).length : Int), .int .i64 t43, .any, .any, .any, .any, .any, .any, .any, .any, .any, .any, .any, .any, .any, .any, .any, .any, .any, .any, .any, .any, .any, .any, .any, .any, .any, .any, .any, .any, .any, .any, .any, .any, .any, .any, .any, .any, .any, .any, .any, .any, .any, .any, .any, .any]

def miss_Plan_H1 (locks : List (T_miss_Lock)) (writes : List (T_api_Write)) (Boot : A8 (T_api_Reg)) (m : List (A8 (Int) × Int)) (t43 : Int) (l : List (Int)) : Heap := [some (.var [.ptr 2 0 0]), some (.gr 1 (l).length (rowF (cInt .u64) default l)), some (.var [.int .u32 Boot.a0.f_Boot, .int .u32 Boot.a0.f_N, .int .u32 Boot.a1.f_Boot, .int .u32 Boot.a1.f_N, .int .u32 Boot.a2.f_Boot, .int .u32 Boot.a2.f_N, .int .u32 Boot.a3.f_Boot, .int .u32 Boot.a3.f_N, .int .u32 Boot.a4.f_Boot, .int .u32 Boot.a4.f_N, .int .u32 Boot.a5.f_Boot, .int .u32 Boot.a5.f_N, .int .u32 Boot.a6.f_Boot, .int .u32 Boot.a6.f_N, .int .u32 Boot.a7.f_Boot, .int .u32 Boot.a7.f_N, .map 3]), some (.map true [.int .u8, .int .u8, .int .u8, .int .u8, .int .u8, .int .u8, .int .u8, .int .u8] (encM (fun z_ : A8 (Int) => LV.agg [.int .u8 z_.a0, .int .u8 z_.a1, .int .u8 z_.a2, .int .u8 z_.a3, .int .u8 z_.a4, .int .u8 z_.a5, .int .u8 z_.a6, .int .u8 z_.a7]) (LV.int .u64) m))]

def miss_Plan_T0 (locks : List (T_miss_Lock)) (writes : List (T_api_Write)) (t29 : Int) (Boot : A8 (T_api_Reg)) (m : List (A8 (Int) × Int)) : List LV := [.ds 10 (locks).length (rowF c_T_miss_Lock default locks), .ds 21 (writes).length (rowF c_T_api_Write default writes), .any, .any, .any, .any, .any, .ptr 0 0 0, .any, .any, .any, .any, .any, .any, .any, .any, .any, .any, .any, .any, .any, .any, .any, .any, .any, .any, .any, .ds 10 (locks).length (rowF c_T_miss_Lock default locks), .int .i64 ((locks).length : Int), .int .i64 t29, .any, .any, .any, .any, .any, .any, .any, .any, .any, .any, .any, .any, .any, .any, .any, .any, .any, .any, .any, .any, .any, .any, .any, .any, .any, .any, .any, .any, .any, .any, .any, .any, .any, .any, .any, .any, .any, .any, .any, .any, .any, .any, .any, .any, .any, .any, .any, .any, .any, .any, .any, .any, .any, .any, .any, .any, .any, .any]

def miss_Plan_H0 (locks : List (T_miss_Lock)) (writes : List (T_api_Write)) (t29 : Int) (Boot : A8 (T_api_Reg)) (m : List (A8 (Int) × Int)) : Heap := [some (.var [.ptr 1 0 0]), some (.var [.int .u32 Boot.a0.f_Boot, .int .u32 Boot.a0.f_N, .int .u32 Boot.a1.f_Boot, .int .u32 Boot.a1.f_N, .int .u32 Boot.a2.f_Boot, .int .u32 Boot.a2.f_N, .int .u32 Boot.a3.f_Boot, .int .u32 Boot.a3.f_N, .int .u32 Boot.a4.f_Boot, .int .u32 Boot.a4.f_N, .int .u32 Boot.a5.f_Boot, .int .u32 Boot.a5.f_N, .int .u32 Boot.a6.f_Boot, .int .u32 Boot.a6.f_N, .int .u32 Boot.a7.f_Boot, .int .u32 Boot.a7.f_N, .map 2]), some (.map true [.int .u8, .int .u8, .int .u8, .int .u8, .int .u8, .int .u8, .int .u8, .int .u8] (encM (fun z_ : A8 (Int) => LV.agg [.int .u8 z_.a0, .int .u8 z_.a1, .int .u8 z_.a2, .int .u8 z_.a3, .int .u8 z_.a4, .int .u8 z_.a5, .int .u8 z_.a6, .int .u8 z_.a7]) (LV.int .u64) m))]

def miss_Plan_l2 (writes : List (T_api_Write)) (Boot : A8 (T_api_Reg)) (m : List (A8 (Int) × Int)) (l : List (Int)) (yL1_3 : (Int))  : Nat → (Int) → (List (T_coord_Member)) → Option ((List (T_coord_Member)) × (List (Int)) × (Int))
  | 0, _, _ => none
  | fuel + 1, t74, l2 =>
    if ((decide (t74 < (((bitsL yL1_3)).length : Int))) : Bool) then
      if 0 ≤ t74 ∧ t74 < ((((bitsL yL1_3)).length : Nat) : Int) then
      (miss_plan_member Boot m ((bitsL yL1_3).getD t74.toNat default) writes).bind fun yL2_4 =>
      if ((l2).length + (([yL2_4] : List (T_coord_Member))).length) * 40 ≤ 140737488351232 then
      miss_Plan_l2 writes Boot m l yL1_3  fuel (IntKind.wrap .i64 (t74 + 1)) (l2 ++ ([yL2_4] : List (T_coord_Member)))
      else none
      else none
    else
      some (l2, l, 0)

def miss_Plan_l1 (locks : List (T_miss_Lock)) (writes : List (T_api_Write)) (Boot : A8 (T_api_Reg)) (m : List (A8 (Int) × Int))  : Nat → (Int) → (List (Int)) → Option ((List (T_coord_Member)) × (List (Int)) × (Int))
  | 0, _, _ => none
  | fuel + 1, t43, l =>
    if ((decide (t43 < ((writes).length : Int))) : Bool) then
      if 0 ≤ t43 ∧ t43 < (((writes).length : Nat) : Int) then
      (votes_Writes (writes.getD t43.toNat default).f_Item.f_Conf ((mget m (writes.getD t43.toNat default).f_Key).getD default)).bind fun yL1_4 =>
      if ((!yL1_4) : Bool) then
        some (([] : List (T_coord_Member)), ([] : List (Int)), 16)
      else
        (votes_Voters (writes.getD t43.toNat default).f_Item.f_Conf).bind fun yL1_7 =>
        if ((l).length + (([(IntKind.wrap .u64 ((BitVec.ofInt (IntKind.bits .u64) yL1_7 &&& ~~~ BitVec.ofInt (IntKind.bits .u64) ((mget m (writes.getD t43.toNat default).f_Key).getD default)).toNat : Int))] : List (Int))).length) * 8 ≤ 140737488351232 then
        miss_Plan_l1 locks writes Boot m  fuel (IntKind.wrap .i64 (t43 + 1)) (l ++ ([(IntKind.wrap .u64 ((BitVec.ofInt (IntKind.bits .u64) yL1_7 &&& ~~~ BitVec.ofInt (IntKind.bits .u64) ((mget m (writes.getD t43.toNat default).f_Key).getD default)).toNat : Int))] : List (Int)))
        else none
      else none
    else
      (miss_Nodes locks).bind fun yL1_3 =>
      if 0 ≤ yL1_3 ∧ yL1_3 < 18446744073709551616 then
      miss_Plan_l2 writes Boot m l yL1_3  big 0 ([] : List (T_coord_Member))
      else none

def miss_Plan_l0 (locks : List (T_miss_Lock)) (writes : List (T_api_Write))  : Nat → (Int) → (A8 (T_api_Reg)) → (List (A8 (Int) × Int)) → Option ((List (T_coord_Member)) × (List (Int)) × (Int))
  | 0, _, _, _ => none
  | fuel + 1, t29, Boot, m =>
    if ((decide (t29 < ((locks).length : Int))) : Bool) then
      if 0 ≤ t29 ∧ t29 < (((locks).length : Nat) : Int) then
      (miss_plan_take Boot m (locks.getD t29.toNat default)).bind fun yL0_4 =>
      if ((!yL0_4.1) : Bool) then
        some (([] : List (T_coord_Member)), ([] : List (Int)), 14)
      else
        miss_Plan_l0 locks writes  fuel (IntKind.wrap .i64 (t29 + 1)) yL0_4.2.1 yL0_4.2.2
      else none
    else
      (slices_ContainsFunc_api_Write_api_Write writes Boot m).bind fun yL0_3 =>
      if (yL0_3 : Bool) then
        some (([] : List (T_coord_Member)), ([] : List (Int)), 6)
      else
        miss_Plan_l1 locks writes Boot m  big 0 ([] : List (Int))

def miss_Plan (locks : List (T_miss_Lock)) (writes : List (T_api_Write)) : Option ((List (T_coord_Member)) × (List (Int)) × (Int)) :=
  (slices_ContainsFunc_miss_Lock_miss_Lock locks).bind fun y2 =>
  if (y2 : Bool) then
    some (([] : List (T_coord_Member)), ([] : List (Int)), 1)
  else
    (msg_WritesMay writes).bind fun y5 =>
    if ((!y5) : Bool) then
      some (([] : List (T_coord_Member)), ([] : List (Int)), 1)
    else
      miss_Plan_l0 locks writes  big 0 (A8.mk (T_api_Reg.mk 0 0) (T_api_Reg.mk 0 0) (T_api_Reg.mk 0 0) (T_api_Reg.mk 0 0) (T_api_Reg.mk 0 0) (T_api_Reg.mk 0 0) (T_api_Reg.mk 0 0) (T_api_Reg.mk 0 0)) ([] : List (A8 (Int) × Int))

theorem miss_Plan_l2_ok {w0 : World} {W : Nat → Prop} {μ0 : Emb} (hμ : ∀ c p, μ0 c = some p → c < 0) (writes : List (T_api_Write)) (Boot : A8 (T_api_Reg)) (m : List (A8 (Int) × Int)) (l : List (Int)) (yL1_3 : (Int))  : ∀ (fuel : Nat) (t74 : Int) (l2 : List (T_coord_Member)) (r : (List (T_coord_Member)) × (List (Int)) × (Int)), miss_Plan_l2 writes Boot m l yL1_3  fuel t74 l2 = some r → kont Tryd.prog w0 W μ0 (FnPost Tryd.prog Tryd.f9 0 0 (miss_Plan_v r) []) (kAt (bodyOf Tryd.f9) 2) none (miss_Plan_T2 writes Boot m l yL1_3 t74 l2) (miss_Plan_H2 writes Boot m l yL1_3 t74 l2) := by
  intro fuel
  induction fuel with
  | zero => intro t74 l2 r h; rw [miss_Plan_l2] at h; cases h
  | succ fuel ih =>
    intro t74 l2 r h
    rw [miss_Plan_l2] at h
    rcases itb_some h with ⟨cL2_1, h⟩ | ⟨cL2_1, h⟩
    · skip
      obtain ⟨gL2_2, h⟩ := guard_some h
      obtain ⟨yL2_4, eL2_3, h⟩ := bind_some h
      obtain ⟨gL2_5, h⟩ := guard_some h
      exact run_to mixed hμ (L := [0, 1, 6, 3, 4]) (n := 26) (s := [.go, .reg [(0, { v := some (.bool true) })], .reg [], .reg [(4, { call := some ((miss_plan_member_v yL2_4).ren (sel [3, 4]), preOf (sel [3, 4]) 0 (miss_plan_member_objs Boot m ((bitsL yL1_3).getD t74.toNat default) writes), upOf (sel [3, 4]) (miss_plan_member_up Boot m ((bitsL yL1_3).getD t74.toNat default) writes yL2_4)) }), (5, { os := [(5, .gr 4 (([yL2_4] : List (T_coord_Member))).length (rowF c_T_coord_Member default ([yL2_4] : List (T_coord_Member))))], v := some (.gs 5 (([yL2_4] : List (T_coord_Member))).length) }), (6, { app := 3, os := [(6, .gr 4 ((l2 ++ ([yL2_4] : List (T_coord_Member)))).length (rowF c_T_coord_Member default (l2 ++ ([yL2_4] : List (T_coord_Member)))))], v := some (.gs 6 ((l2 ++ ([yL2_4] : List (T_coord_Member)))).length) })], .reg []])
        (a_ (a_ (a_ tr (a_ (leB cL2_1) tr)) tr) (a_ (a_ (a_ (a_ (Eq.refl 1) gL2_2) tr) (a_ (a_ (lt_ 0 1 rfl) tr) (a_ (a_ tr tr) tr))) (a_ (a_ (a_ tr tr) (a_ (a_ (a_ tr (lt_ 0 1 rfl)) tr) (a_ (a_ tr tr) (a_ (a_ tr tr) (a_ (a_ (a_ (miss_plan_member_ok Boot m ((bitsL yL1_3).getD t74.toNat default) writes yL2_4 eL2_3 (sel [3, 4]) (sel_inj rfl rfl)) (a_ (LO.Le.refl (.var [.int .u32 Boot.a0.f_Boot, .int .u32 Boot.a0.f_N, .int .u32 Boot.a1.f_Boot, .int .u32 Boot.a1.f_N, .int .u32 Boot.a2.f_Boot, .int .u32 Boot.a2.f_N, .int .u32 Boot.a3.f_Boot, .int .u32 Boot.a3.f_N, .int .u32 Boot.a4.f_Boot, .int .u32 Boot.a4.f_N, .int .u32 Boot.a5.f_Boot, .int .u32 Boot.a5.f_N, .int .u32 Boot.a6.f_Boot, .int .u32 Boot.a6.f_N, .int .u32 Boot.a7.f_Boot, .int .u32 Boot.a7.f_N, .map 4])) (a_ (LO.Le.refl (.map true [.int .u8, .int .u8, .int .u8, .int .u8, .int .u8, .int .u8, .int .u8, .int .u8] (encM (fun z_ : A8 (Int) => LV.agg [.int .u8 z_.a0, .int .u8 z_.a1, .int .u8 z_.a2, .int .u8 z_.a3, .int .u8 z_.a4, .int .u8 z_.a5, .int .u8 z_.a6, .int .u8 z_.a7]) (LV.int .u64) m))) tr))) tr) (a_ (a_ (a_ (Eq.refl true) (a_ (Eq.refl 4) (a_ (lt_ 0 4 rfl) (le_ 4 16777216 rfl)))) (a_ (le_sl_gs 5 1 (some 1) rfl) (a_ (sub_lit c_T_coord_Member default 4 (fun _ => rfl) ([yL2_4] : List (T_coord_Member))) tr))) (a_ (a_ (a_ (a_ (Eq.refl 4) (Nat.le_refl (([yL2_4] : List (T_coord_Member))).length)) (a_ (a_ (lt_ 0 4 rfl) (a_ (lt_ 0 40 rfl) (a_ gL2_5 (a_ (Eq.refl 4) (Eq.refl true))))) (a_ (Eq.refl 4) (Nat.le_refl (l2).length)))) (a_ (le_gs_app 6 l2 ([yL2_4] : List (T_coord_Member))) (a_ (sub_app c_T_coord_Member default 4 l2 ([yL2_4] : List (T_coord_Member))) tr))) (a_ (a_ tr tr) tr)))))))) (a_ (a_ (a_ tr tr) (a_ (a_ tr tr) tr)) tr)))) (ih _ _ r h) (by kernel_rfl) ⟨rfl, fun _ _ => rfl, fun _ _ => rfl, rfl, trivial, trivial⟩
    · skip
      obtain rfl := Option.some.inj h
      exact run_ret mixed (L := []) (n := 21) (s := [.go, .reg [(0, { v := some (.bool false) })], .reg [], .frz 2, .frz 1])
        (a_ (a_ (a_ (a_ tr (a_ (leB cL2_1) tr)) tr) (a_ (a_ (a_ tr tr) (a_ (a_ tr tr) (a_ (a_ tr tr) (a_ (a_ tr tr) (a_ (a_ tr tr) tr))))) (a_ (a_ (fz_row (enc := c_T_coord_Member) (d := default) (fun _ => rfl) l2) (a_ (Nat.le_refl (l2).length) (a_ (Nat.le_refl (l2).length) (a_ (Nat.le_refl (l2).length) tr)))) (a_ (a_ (fz_row (enc := (cInt .u64)) (d := default) (fun _ => rfl) l) (a_ (Nat.le_refl (l).length) (a_ (Nat.le_refl (l).length) (a_ (Nat.le_refl (l).length) tr)))) tr)))) tr) (by kernel_rfl) rfl

theorem miss_Plan_l1_ok {w0 : World} {W : Nat → Prop} {μ0 : Emb} (hμ : ∀ c p, μ0 c = some p → c < 0) (locks : List (T_miss_Lock)) (writes : List (T_api_Write)) (Boot : A8 (T_api_Reg)) (m : List (A8 (Int) × Int))  : ∀ (fuel : Nat) (t43 : Int) (l : List (Int)) (r : (List (T_coord_Member)) × (List (Int)) × (Int)), miss_Plan_l1 locks writes Boot m  fuel t43 l = some r → kont Tryd.prog w0 W μ0 (FnPost Tryd.prog Tryd.f9 0 0 (miss_Plan_v r) []) (kAt (bodyOf Tryd.f9) 1) none (miss_Plan_T1 locks writes Boot m t43 l) (miss_Plan_H1 locks writes Boot m t43 l) := by
  intro fuel
  induction fuel with
  | zero => intro t43 l r h; rw [miss_Plan_l1] at h; cases h
  | succ fuel ih =>
    intro t43 l r h
    rw [miss_Plan_l1] at h
    rcases itb_some h with ⟨cL1_1, h⟩ | ⟨cL1_1, h⟩
    · skip
      obtain ⟨gL1_2, h⟩ := guard_some h
      obtain ⟨yL1_4, eL1_3, h⟩ := bind_some h
      rcases itb_some h with ⟨cL1_5, h⟩ | ⟨cL1_5, h⟩
      · skip
        obtain rfl := Option.some.inj h
        exact run_ret mixed (L := []) (n := 32) (s := [.go, .reg [(0, { v := some (.bool true) })], .reg [], .reg [(6, { look := ((mget m (writes.getD t43.toNat default).f_Key).map (LV.int .u64)), v := some (.int .u64 ((mget m (writes.getD t43.toNat default).f_Key).getD default)) })], .reg [(4, { call := some (votes_Writes_v yL1_4, [], []) }), (5, { v := some (.bool true) })], .reg [(0, { v := some (.ds 4 (([] : List (T_coord_Member))).length (rowF c_T_coord_Member default ([] : List (T_coord_Member)))) }), (1, { v := some (.ds 1 (([] : List (Int))).length (rowF (cInt .u64) default ([] : List (Int)))) })]])
          (a_ (a_ (a_ (a_ tr (a_ (leB cL1_1) tr)) tr) (a_ (a_ (a_ (a_ (Eq.refl 21) gL1_2) tr) (a_ (a_ (le_ 21 21 rfl) tr) (a_ (a_ tr tr) (a_ (a_ (a_ (Eq.refl 21) (a_ (le_ 21 21 rfl) (Eq.refl 0))) tr) tr)))) (a_ (a_ (a_ (a_ tr (lt_ 0 1 rfl)) tr) (a_ (a_ tr tr) (a_ (a_ tr tr) (a_ (a_ (a_ tr (lt_ 16 17 rfl)) tr) (a_ (a_ tr tr) (a_ (a_ (a_ tr (le_ 8 21 rfl)) tr) (a_ (a_ (a_ (Eq.refl true) (findE_enc (fun z_ : A8 (Int) => LV.agg [.int .u8 z_.a0, .int .u8 z_.a1, .int .u8 z_.a2, .int .u8 z_.a3, .int .u8 z_.a4, .int .u8 z_.a5, .int .u8 z_.a6, .int .u8 z_.a7]) (LV.int .u64) (k_arr8 .u8) m (writes.getD t43.toNat default).f_Key)) (a_ (le_look (LV.int .u64) (mget m (writes.getD t43.toNat default).f_Key) default) tr)) (a_ (a_ tr tr) tr)))))))) (a_ (a_ (a_ tr tr) (a_ (a_ tr tr) (a_ (a_ (a_ tr (le_ 21 21 rfl)) tr) (a_ (a_ tr tr) (a_ (a_ (a_ (votes_Writes_tri (writes.getD t43.toNat default).f_Item.f_Conf ((mget m (writes.getD t43.toNat default).f_Key).getD default) yL1_4 eL1_3) tr) tr) (a_ (a_ tr (a_ (leB cL1_5) tr)) tr)))))) (a_ (a_ (a_ tr (a_ (le_nil_ds 4 (rowF c_T_coord_Member default [])) tr)) (a_ (a_ tr (a_ (le_nil_ds 1 (rowF (cInt .u64) default [])) tr)) (a_ (a_ tr tr) tr))) tr))))) tr) (by kernel_rfl) rfl
      · skip
        obtain ⟨yL1_7, eL1_6, h⟩ := bind_some h
        obtain ⟨gL1_8, h⟩ := guard_some h
        exact run_to mixed hμ (L := [0, 6, 2, 3]) (n := 35) (s := [.go, .reg [(0, { v := some (.bool true) })], .reg [], .reg [(6, { look := ((mget m (writes.getD t43.toNat default).f_Key).map (LV.int .u64)), v := some (.int .u64 ((mget m (writes.getD t43.toNat default).f_Key).getD default)) })], .reg [(4, { call := some (votes_Writes_v yL1_4, [], []) }), (5, { v := some (.bool false) })], .reg [(4, { call := some (votes_Voters_v yL1_7, [], []) }), (7, { os := [(5, .gr 1 (([(IntKind.wrap .u64 ((BitVec.ofInt (IntKind.bits .u64) yL1_7 &&& ~~~ BitVec.ofInt (IntKind.bits .u64) ((mget m (writes.getD t43.toNat default).f_Key).getD default)).toNat : Int))] : List (Int))).length (rowF (cInt .u64) default ([(IntKind.wrap .u64 ((BitVec.ofInt (IntKind.bits .u64) yL1_7 &&& ~~~ BitVec.ofInt (IntKind.bits .u64) ((mget m (writes.getD t43.toNat default).f_Key).getD default)).toNat : Int))] : List (Int))))], v := some (.gs 5 (([(IntKind.wrap .u64 ((BitVec.ofInt (IntKind.bits .u64) yL1_7 &&& ~~~ BitVec.ofInt (IntKind.bits .u64) ((mget m (writes.getD t43.toNat default).f_Key).getD default)).toNat : Int))] : List (Int))).length) }), (8, { app := 3, os := [(6, .gr 1 ((l ++ ([(IntKind.wrap .u64 ((BitVec.ofInt (IntKind.bits .u64) yL1_7 &&& ~~~ BitVec.ofInt (IntKind.bits .u64) ((mget m (writes.getD t43.toNat default).f_Key).getD default)).toNat : Int))] : List (Int)))).length (rowF (cInt .u64) default (l ++ ([(IntKind.wrap .u64 ((BitVec.ofInt (IntKind.bits .u64) yL1_7 &&& ~~~ BitVec.ofInt (IntKind.bits .u64) ((mget m (writes.getD t43.toNat default).f_Key).getD default)).toNat : Int))] : List (Int)))))], v := some (.gs 6 ((l ++ ([(IntKind.wrap .u64 ((BitVec.ofInt (IntKind.bits .u64) yL1_7 &&& ~~~ BitVec.ofInt (IntKind.bits .u64) ((mget m (writes.getD t43.toNat default).f_Key).getD default)).toNat : Int))] : List (Int)))).length) })], .reg []])
          (a_ (a_ (a_ tr (a_ (leB cL1_1) tr)) tr) (a_ (a_ (a_ (a_ (Eq.refl 21) gL1_2) tr) (a_ (a_ (le_ 21 21 rfl) tr) (a_ (a_ tr tr) (a_ (a_ (a_ (Eq.refl 21) (a_ (le_ 21 21 rfl) (Eq.refl 0))) tr) tr)))) (a_ (a_ (a_ (a_ tr (lt_ 0 1 rfl)) tr) (a_ (a_ tr tr) (a_ (a_ tr tr) (a_ (a_ (a_ tr (lt_ 16 17 rfl)) tr) (a_ (a_ tr tr) (a_ (a_ (a_ tr (le_ 8 21 rfl)) tr) (a_ (a_ (a_ (Eq.refl true) (findE_enc (fun z_ : A8 (Int) => LV.agg [.int .u8 z_.a0, .int .u8 z_.a1, .int .u8 z_.a2, .int .u8 z_.a3, .int .u8 z_.a4, .int .u8 z_.a5, .int .u8 z_.a6, .int .u8 z_.a7]) (LV.int .u64) (k_arr8 .u8) m (writes.getD t43.toNat default).f_Key)) (a_ (le_look (LV.int .u64) (mget m (writes.getD t43.toNat default).f_Key) default) tr)) (a_ (a_ tr tr) tr)))))))) (a_ (a_ (a_ tr tr) (a_ (a_ tr tr) (a_ (a_ (a_ tr (le_ 21 21 rfl)) tr) (a_ (a_ tr tr) (a_ (a_ (a_ (votes_Writes_tri (writes.getD t43.toNat default).f_Item.f_Conf ((mget m (writes.getD t43.toNat default).f_Key).getD default) yL1_4 eL1_3) tr) tr) (a_ (a_ tr (a_ (leB cL1_5) tr)) tr)))))) (a_ (a_ (a_ tr tr) (a_ (a_ tr tr) (a_ (a_ tr tr) (a_ (a_ (a_ tr (le_ 21 21 rfl)) tr) (a_ (a_ (a_ (votes_Voters_tri (writes.getD t43.toNat default).f_Item.f_Conf yL1_7 eL1_6) tr) tr) (a_ (a_ tr tr) (a_ (a_ tr tr) (a_ (a_ (a_ (Eq.refl true) (a_ (Eq.refl 1) (a_ (lt_ 0 1 rfl) (le_ 1 16777216 rfl)))) (a_ (le_sl_gs 5 1 (some 1) rfl) (a_ (sub_lit (cInt .u64) default 1 (fun _ => rfl) ([(IntKind.wrap .u64 ((BitVec.ofInt (IntKind.bits .u64) yL1_7 &&& ~~~ BitVec.ofInt (IntKind.bits .u64) ((mget m (writes.getD t43.toNat default).f_Key).getD default)).toNat : Int))] : List (Int))) tr))) (a_ (a_ (a_ (a_ (Eq.refl 1) (Nat.le_refl (([(IntKind.wrap .u64 ((BitVec.ofInt (IntKind.bits .u64) yL1_7 &&& ~~~ BitVec.ofInt (IntKind.bits .u64) ((mget m (writes.getD t43.toNat default).f_Key).getD default)).toNat : Int))] : List (Int))).length)) (a_ (a_ (lt_ 0 1 rfl) (a_ (lt_ 0 8 rfl) (a_ gL1_8 (a_ (Eq.refl 1) (Eq.refl true))))) (a_ (Eq.refl 1) (Nat.le_refl (l).length)))) (a_ (le_gs_app 6 l ([(IntKind.wrap .u64 ((BitVec.ofInt (IntKind.bits .u64) yL1_7 &&& ~~~ BitVec.ofInt (IntKind.bits .u64) ((mget m (writes.getD t43.toNat default).f_Key).getD default)).toNat : Int))] : List (Int))) (a_ (sub_app (cInt .u64) default 1 l ([(IntKind.wrap .u64 ((BitVec.ofInt (IntKind.bits .u64) yL1_7 &&& ~~~ BitVec.ofInt (IntKind.bits .u64) ((mget m (writes.getD t43.toNat default).f_Key).getD default)).toNat : Int))] : List (Int))) tr))) (a_ (a_ tr tr) tr)))))))))) (a_ (a_ (a_ tr tr) (a_ (a_ tr tr) tr)) tr)))))) (ih _ _ r h) (by kernel_rfl) ⟨rfl, fun _ _ => rfl, rfl, trivial, trivial⟩
    · skip
      obtain ⟨yL1_3, eL1_2, h⟩ := bind_some h
      obtain ⟨gL1_4, h⟩ := guard_some h
      exact run_to mixed hμ (L := [0, 1, 4, 2, 3]) (n := 26) (s := [.go, .reg [(0, { v := some (.bool false) })], .void (.gr 4 (([] : List (T_coord_Member))).length (rowF c_T_coord_Member default ([] : List (T_coord_Member)))), .reg [(0, { v := some (.gs 4 (([] : List (T_coord_Member))).length) })], .reg [(1, { call := some (miss_Nodes_v yL1_3, [], []) }), (2, { call := some (.ds 1 ((bitsL yL1_3)).length (rowF (cInt .i64) default (bitsL yL1_3)), [], []) })]])
        (a_ (a_ (a_ tr (a_ (leB cL1_1) tr)) tr) (a_ (Eq.refl 0) (a_ (a_ (a_ tr (a_ (le_nil_gs 4) tr)) tr) (a_ (a_ (a_ tr tr) (a_ (a_ (a_ (miss_Nodes_tri locks yL1_3 eL1_2) tr) tr) (a_ (a_ (a_ (bl27_tri rfl yL1_3 gL1_4) tr) tr) (a_ (a_ tr tr) (a_ (a_ tr tr) tr))))) tr)))) (miss_Plan_l2_ok hμ writes Boot m l yL1_3  big _ _ r h) (by kernel_rfl) ⟨rfl, fun _ _ => rfl, fun _ _ => rfl, rfl, trivial, trivial⟩

theorem miss_Plan_l0_ok {w0 : World} {W : Nat → Prop} {μ0 : Emb} (hμ : ∀ c p, μ0 c = some p → c < 0) (locks : List (T_miss_Lock)) (writes : List (T_api_Write))  : ∀ (fuel : Nat) (t29 : Int) (Boot : A8 (T_api_Reg)) (m : List (A8 (Int) × Int)) (r : (List (T_coord_Member)) × (List (Int)) × (Int)), miss_Plan_l0 locks writes  fuel t29 Boot m = some r → kont Tryd.prog w0 W μ0 (FnPost Tryd.prog Tryd.f9 0 0 (miss_Plan_v r) []) (kAt (bodyOf Tryd.f9) 0) none (miss_Plan_T0 locks writes t29 Boot m) (miss_Plan_H0 locks writes t29 Boot m) := by
  intro fuel
  induction fuel with
  | zero => intro t29 Boot m r h; rw [miss_Plan_l0] at h; cases h
  | succ fuel ih =>
    intro t29 Boot m r h
    rw [miss_Plan_l0] at h
    rcases itb_some h with ⟨cL0_1, h⟩ | ⟨cL0_1, h⟩
    · skip
      obtain ⟨gL0_2, h⟩ := guard_some h
      obtain ⟨yL0_4, eL0_3, h⟩ := bind_some h
      rcases itb_some h with ⟨cL0_5, h⟩ | ⟨cL0_5, h⟩
      · skip
        obtain rfl := Option.some.inj h
        exact run_ret mixed (L := []) (n := 28) (s := [.go, .reg [(0, { v := some (.bool true) })], .reg [], .reg [(2, { call := some ((miss_plan_take_v yL0_4).ren (sel [1, 2]), preOf (sel [1, 2]) 0 (miss_plan_take_objs Boot m (locks.getD t29.toNat default)), upOf (sel [1, 2]) (miss_plan_take_up Boot m (locks.getD t29.toNat default) yL0_4)) }), (3, { v := some (.bool true) })], .reg [(0, { v := some (.ds 4 (([] : List (T_coord_Member))).length (rowF c_T_coord_Member default ([] : List (T_coord_Member)))) }), (1, { v := some (.ds 1 (([] : List (Int))).length (rowF (cInt .u64) default ([] : List (Int)))) })]])
          (a_ (a_ (a_ (a_ tr (a_ (leB cL0_1) tr)) tr) (a_ (a_ (a_ (a_ (Eq.refl 10) gL0_2) tr) (a_ (a_ (le_ 10 10 rfl) tr) (a_ (a_ tr tr) (a_ (a_ (a_ (Eq.refl 10) (a_ (le_ 10 10 rfl) (Eq.refl 0))) tr) tr)))) (a_ (a_ (a_ (a_ tr (lt_ 0 1 rfl)) tr) (a_ (a_ (a_ tr (le_ 10 10 rfl)) tr) (a_ (a_ (a_ (miss_plan_take_ok Boot m (locks.getD t29.toNat default) yL0_4 eL0_3 (sel [1, 2]) (sel_inj rfl rfl)) (a_ (LO.Le.refl (.var [.int .u32 Boot.a0.f_Boot, .int .u32 Boot.a0.f_N, .int .u32 Boot.a1.f_Boot, .int .u32 Boot.a1.f_N, .int .u32 Boot.a2.f_Boot, .int .u32 Boot.a2.f_N, .int .u32 Boot.a3.f_Boot, .int .u32 Boot.a3.f_N, .int .u32 Boot.a4.f_Boot, .int .u32 Boot.a4.f_N, .int .u32 Boot.a5.f_Boot, .int .u32 Boot.a5.f_N, .int .u32 Boot.a6.f_Boot, .int .u32 Boot.a6.f_N, .int .u32 Boot.a7.f_Boot, .int .u32 Boot.a7.f_N, .map 2])) (a_ (LO.Le.refl (.map true [.int .u8, .int .u8, .int .u8, .int .u8, .int .u8, .int .u8, .int .u8, .int .u8] (encM (fun z_ : A8 (Int) => LV.agg [.int .u8 z_.a0, .int .u8 z_.a1, .int .u8 z_.a2, .int .u8 z_.a3, .int .u8 z_.a4, .int .u8 z_.a5, .int .u8 z_.a6, .int .u8 z_.a7]) (LV.int .u64) m))) tr))) tr) (a_ (a_ tr (a_ (leB cL0_5) tr)) tr)))) (a_ (a_ (a_ tr (a_ (le_nil_ds 4 (rowF c_T_coord_Member default [])) tr)) (a_ (a_ tr (a_ (le_nil_ds 1 (rowF (cInt .u64) default [])) tr)) (a_ (a_ tr tr) tr))) tr)))) tr) (by kernel_rfl) rfl
      · skip
        exact run_to mixed hμ (L := [0, 1, 2]) (n := 29) (s := [.go, .reg [(0, { v := some (.bool true) })], .reg [], .reg [(2, { call := some ((miss_plan_take_v yL0_4).ren (sel [1, 2]), preOf (sel [1, 2]) 0 (miss_plan_take_objs Boot m (locks.getD t29.toNat default)), upOf (sel [1, 2]) (miss_plan_take_up Boot m (locks.getD t29.toNat default) yL0_4)) }), (3, { v := some (.bool false) })], .reg []])
          (a_ (a_ (a_ tr (a_ (leB cL0_1) tr)) tr) (a_ (a_ (a_ (a_ (Eq.refl 10) gL0_2) tr) (a_ (a_ (le_ 10 10 rfl) tr) (a_ (a_ tr tr) (a_ (a_ (a_ (Eq.refl 10) (a_ (le_ 10 10 rfl) (Eq.refl 0))) tr) tr)))) (a_ (a_ (a_ (a_ tr (lt_ 0 1 rfl)) tr) (a_ (a_ (a_ tr (le_ 10 10 rfl)) tr) (a_ (a_ (a_ (miss_plan_take_ok Boot m (locks.getD t29.toNat default) yL0_4 eL0_3 (sel [1, 2]) (sel_inj rfl rfl)) (a_ (LO.Le.refl (.var [.int .u32 Boot.a0.f_Boot, .int .u32 Boot.a0.f_N, .int .u32 Boot.a1.f_Boot, .int .u32 Boot.a1.f_N, .int .u32 Boot.a2.f_Boot, .int .u32 Boot.a2.f_N, .int .u32 Boot.a3.f_Boot, .int .u32 Boot.a3.f_N, .int .u32 Boot.a4.f_Boot, .int .u32 Boot.a4.f_N, .int .u32 Boot.a5.f_Boot, .int .u32 Boot.a5.f_N, .int .u32 Boot.a6.f_Boot, .int .u32 Boot.a6.f_N, .int .u32 Boot.a7.f_Boot, .int .u32 Boot.a7.f_N, .map 2])) (a_ (LO.Le.refl (.map true [.int .u8, .int .u8, .int .u8, .int .u8, .int .u8, .int .u8, .int .u8, .int .u8] (encM (fun z_ : A8 (Int) => LV.agg [.int .u8 z_.a0, .int .u8 z_.a1, .int .u8 z_.a2, .int .u8 z_.a3, .int .u8 z_.a4, .int .u8 z_.a5, .int .u8 z_.a6, .int .u8 z_.a7]) (LV.int .u64) m))) tr))) tr) (a_ (a_ tr (a_ (leB cL0_5) tr)) tr)))) (a_ (a_ (a_ tr tr) (a_ (a_ tr tr) tr)) tr)))) (ih _ _ _ r h) (by kernel_rfl) ⟨rfl, rfl, trivial, trivial⟩
    · skip
      obtain ⟨yL0_3, eL0_2, h⟩ := bind_some h
      rcases itb_some h with ⟨cL0_4, h⟩ | ⟨cL0_4, h⟩
      · skip
        obtain rfl := Option.some.inj h
        exact run_ret mixed (L := []) (n := 24) (s := [.go, .reg [(0, { v := some (.bool false) })], .reg [(2, { call := some ((slices_ContainsFunc_api_Write_api_Write_v yL0_3).ren (sel [0, 1, 2]), preOf (sel [0, 1, 2]) 0 (slices_ContainsFunc_api_Write_api_Write_objs writes Boot m), upOf (sel [0, 1, 2]) (slices_ContainsFunc_api_Write_api_Write_up writes Boot m yL0_3)), v := some (.bool true) })], .reg [(0, { v := some (.ds 4 (([] : List (T_coord_Member))).length (rowF c_T_coord_Member default ([] : List (T_coord_Member)))) }), (1, { v := some (.ds 1 (([] : List (Int))).length (rowF (cInt .u64) default ([] : List (Int)))) })]])
          (a_ (a_ (a_ (a_ tr (a_ (leB cL0_1) tr)) tr) (a_ (a_ (a_ tr tr) (a_ (a_ tr tr) (a_ (a_ (a_ (slices_ContainsFunc_api_Write_api_Write_ok writes Boot m yL0_3 eL0_2 (sel [0, 1, 2]) (sel_inj rfl rfl)) (a_ (LO.Le.refl (.var [.ptr 1 0 0])) (a_ (LO.Le.refl (.var [.int .u32 Boot.a0.f_Boot, .int .u32 Boot.a0.f_N, .int .u32 Boot.a1.f_Boot, .int .u32 Boot.a1.f_N, .int .u32 Boot.a2.f_Boot, .int .u32 Boot.a2.f_N, .int .u32 Boot.a3.f_Boot, .int .u32 Boot.a3.f_N, .int .u32 Boot.a4.f_Boot, .int .u32 Boot.a4.f_N, .int .u32 Boot.a5.f_Boot, .int .u32 Boot.a5.f_N, .int .u32 Boot.a6.f_Boot, .int .u32 Boot.a6.f_N, .int .u32 Boot.a7.f_Boot, .int .u32 Boot.a7.f_N, .map 2])) (a_ (LO.Le.refl (.map true [.int .u8, .int .u8, .int .u8, .int .u8, .int .u8, .int .u8, .int .u8, .int .u8] (encM (fun z_ : A8 (Int) => LV.agg [.int .u8 z_.a0, .int .u8 z_.a1, .int .u8 z_.a2, .int .u8 z_.a3, .int .u8 z_.a4, .int .u8 z_.a5, .int .u8 z_.a6, .int .u8 z_.a7]) (LV.int .u64) m))) tr)))) (a_ (leB cL0_4) tr)) tr))) (a_ (a_ (a_ tr (a_ (le_nil_ds 4 (rowF c_T_coord_Member default [])) tr)) (a_ (a_ tr (a_ (le_nil_ds 1 (rowF (cInt .u64) default [])) tr)) (a_ (a_ tr tr) tr))) tr))) tr) (by kernel_rfl) rfl
      · skip
        exact run_to mixed hμ (L := [0, 3, 1, 2]) (n := 32) (s := [.go, .reg [(0, { v := some (.bool false) })], .reg [(2, { call := some ((slices_ContainsFunc_api_Write_api_Write_v yL0_3).ren (sel [0, 1, 2]), preOf (sel [0, 1, 2]) 0 (slices_ContainsFunc_api_Write_api_Write_objs writes Boot m), upOf (sel [0, 1, 2]) (slices_ContainsFunc_api_Write_api_Write_up writes Boot m yL0_3)), v := some (.bool false) })], .void (.gr 1 (([] : List (Int))).length (rowF (cInt .u64) default ([] : List (Int)))), .reg [(0, { v := some (.gs 3 (([] : List (Int))).length) })], .reg []])
          (a_ (a_ (a_ tr (a_ (leB cL0_1) tr)) tr) (a_ (a_ (a_ tr tr) (a_ (a_ tr tr) (a_ (a_ (a_ (slices_ContainsFunc_api_Write_api_Write_ok writes Boot m yL0_3 eL0_2 (sel [0, 1, 2]) (sel_inj rfl rfl)) (a_ (LO.Le.refl (.var [.ptr 1 0 0])) (a_ (LO.Le.refl (.var [.int .u32 Boot.a0.f_Boot, .int .u32 Boot.a0.f_N, .int .u32 Boot.a1.f_Boot, .int .u32 Boot.a1.f_N, .int .u32 Boot.a2.f_Boot, .int .u32 Boot.a2.f_N, .int .u32 Boot.a3.f_Boot, .int .u32 Boot.a3.f_N, .int .u32 Boot.a4.f_Boot, .int .u32 Boot.a4.f_N, .int .u32 Boot.a5.f_Boot, .int .u32 Boot.a5.f_N, .int .u32 Boot.a6.f_Boot, .int .u32 Boot.a6.f_N, .int .u32 Boot.a7.f_Boot, .int .u32 Boot.a7.f_N, .map 2])) (a_ (LO.Le.refl (.map true [.int .u8, .int .u8, .int .u8, .int .u8, .int .u8, .int .u8, .int .u8, .int .u8] (encM (fun z_ : A8 (Int) => LV.agg [.int .u8 z_.a0, .int .u8 z_.a1, .int .u8 z_.a2, .int .u8 z_.a3, .int .u8 z_.a4, .int .u8 z_.a5, .int .u8 z_.a6, .int .u8 z_.a7]) (LV.int .u64) m))) tr)))) (a_ (leB cL0_4) tr)) tr))) (a_ (Eq.refl 0) (a_ (a_ (a_ tr (a_ (le_nil_gs 3) tr)) tr) (a_ (a_ (a_ tr tr) (a_ (a_ tr tr) (a_ (a_ tr tr) tr))) tr))))) (miss_Plan_l1_ok hμ locks writes Boot m  big _ _ r h) (by kernel_rfl) ⟨rfl, fun _ _ => rfl, rfl, trivial, trivial⟩

theorem miss_Plan_ok (locks : List (T_miss_Lock)) (writes : List (T_api_Write)) (r : (List (T_coord_Member)) × (List (Int)) × (Int)) (h : miss_Plan locks writes = some r) : ∀ σ, Inj 0 σ → FnTri Tryd.prog 9 (renL σ [.ds 10 (locks).length (rowF c_T_miss_Lock default locks), .ds 21 (writes).length (rowF c_T_api_Write default writes)]) (preOf σ 0 []) ((miss_Plan_v r).ren σ) (upOf σ []) := by
  refine fn_of Tryd.func9 (by kernel_rfl) (by kernel_rfl) (by kernel_rfl) trivial (by kernel_rfl) trivial (by kernel_rfl) ?_
  intro w0 W μ0 hμ
  unfold miss_Plan at h
  obtain ⟨y2, e1, h⟩ := bind_some h
  rcases itb_some h with ⟨c3, h⟩ | ⟨c3, h⟩
  · skip
    obtain rfl := Option.some.inj h
    exact run_ret mixed (L := []) (n := 20) (s := [.reg [(0, { v := some (.ds 4 (([] : List (T_coord_Member))).length (rowF c_T_coord_Member default ([] : List (T_coord_Member)))) }), (1, { v := some (.ds 1 (([] : List (Int))).length (rowF (cInt .u64) default ([] : List (Int)))) })], .reg [(1, { call := some (slices_ContainsFunc_miss_Lock_miss_Lock_v y2, [], []) }), (2, { v := some (.bool true) })], .reg [(0, { v := some (.ds 4 (([] : List (T_coord_Member))).length (rowF c_T_coord_Member default ([] : List (T_coord_Member)))) }), (1, { v := some (.ds 1 (([] : List (Int))).length (rowF (cInt .u64) default ([] : List (Int)))) })]])
      (a_ (a_ (a_ (a_ tr (a_ (le_nil_ds 4 (rowF c_T_coord_Member default [])) tr)) (a_ (a_ tr (a_ (le_nil_ds 1 (rowF (cInt .u64) default [])) tr)) (a_ (a_ tr tr) tr))) (a_ (a_ (a_ tr tr) (a_ (a_ (a_ (slices_ContainsFunc_miss_Lock_miss_Lock_tri locks y2 e1) tr) tr) (a_ (a_ tr (a_ (leB c3) tr)) (a_ tr (a_ tr (a_ tr (a_ (a_ tr tr) tr))))))) (a_ (a_ (a_ tr (a_ (le_nil_ds 4 (rowF c_T_coord_Member default [])) tr)) (a_ (a_ tr (a_ (le_nil_ds 1 (rowF (cInt .u64) default [])) tr)) (a_ (a_ tr tr) tr))) tr))) tr) (by kernel_rfl) rfl
  · skip
    obtain ⟨y5, e4, h⟩ := bind_some h
    rcases itb_some h with ⟨c6, h⟩ | ⟨c6, h⟩
    · skip
      obtain rfl := Option.some.inj h
      exact run_ret mixed (L := []) (n := 20) (s := [.reg [(0, { v := some (.ds 4 (([] : List (T_coord_Member))).length (rowF c_T_coord_Member default ([] : List (T_coord_Member)))) }), (1, { v := some (.ds 1 (([] : List (Int))).length (rowF (cInt .u64) default ([] : List (Int)))) })], .reg [(1, { call := some (slices_ContainsFunc_miss_Lock_miss_Lock_v y2, [], []) }), (2, { v := some (.bool false) }), (4, { call := some (msg_WritesMay_v y5, [], []) }), (6, { v := some (.bool true) })], .reg [(0, { v := some (.ds 4 (([] : List (T_coord_Member))).length (rowF c_T_coord_Member default ([] : List (T_coord_Member)))) }), (1, { v := some (.ds 1 (([] : List (Int))).length (rowF (cInt .u64) default ([] : List (Int)))) })]])
        (a_ (a_ (a_ (a_ tr (a_ (le_nil_ds 4 (rowF c_T_coord_Member default [])) tr)) (a_ (a_ tr (a_ (le_nil_ds 1 (rowF (cInt .u64) default [])) tr)) (a_ (a_ tr tr) tr))) (a_ (a_ (a_ tr tr) (a_ (a_ (a_ (slices_ContainsFunc_miss_Lock_miss_Lock_tri locks y2 e1) tr) tr) (a_ (a_ tr (a_ (leB c3) tr)) (a_ (a_ tr tr) (a_ (a_ (a_ (msg_WritesMay_tri writes y5 e4) tr) tr) (a_ (a_ tr tr) (a_ (a_ tr (a_ (leB c6) tr)) tr))))))) (a_ (a_ (a_ tr (a_ (le_nil_ds 4 (rowF c_T_coord_Member default [])) tr)) (a_ (a_ tr (a_ (le_nil_ds 1 (rowF (cInt .u64) default [])) tr)) (a_ (a_ tr tr) tr))) tr))) tr) (by kernel_rfl) rfl
    · skip
      exact run_to mixed hμ (L := [2, 1, 0]) (n := 27) (s := [.reg [(0, { v := some (.ds 4 (([] : List (T_coord_Member))).length (rowF c_T_coord_Member default ([] : List (T_coord_Member)))) }), (1, { v := some (.ds 1 (([] : List (Int))).length (rowF (cInt .u64) default ([] : List (Int)))) })], .reg [(1, { call := some (slices_ContainsFunc_miss_Lock_miss_Lock_v y2, [], []) }), (2, { v := some (.bool false) }), (4, { call := some (msg_WritesMay_v y5, [], []) }), (6, { v := some (.bool false) })], .reg [], .reg []])
        (a_ (a_ (a_ tr (a_ (le_nil_ds 4 (rowF c_T_coord_Member default [])) tr)) (a_ (a_ tr (a_ (le_nil_ds 1 (rowF (cInt .u64) default [])) tr)) (a_ (a_ tr tr) tr))) (a_ (a_ (a_ tr tr) (a_ (a_ (a_ (slices_ContainsFunc_miss_Lock_miss_Lock_tri locks y2 e1) tr) tr) (a_ (a_ tr (a_ (leB c3) tr)) (a_ (a_ tr tr) (a_ (a_ (a_ (msg_WritesMay_tri writes y5 e4) tr) tr) (a_ (a_ tr tr) (a_ (a_ tr (a_ (leB c6) tr)) tr))))))) (a_ (a_ (a_ tr tr) (a_ (a_ (Eq.refl true) tr) (a_ (a_ tr tr) (a_ (a_ tr tr) (a_ (a_ (a_ (Eq.refl 1) (a_ (le_ 1 1 rfl) (Eq.refl 0))) tr) tr))))) (a_ (a_ (a_ tr tr) (a_ (a_ tr tr) (a_ (a_ tr tr) tr))) tr)))) (miss_Plan_l0_ok hμ locks writes  big _ _ _ r h) (by kernel_rfl) ⟨rfl, rfl, trivial, trivial⟩

theorem miss_Plan_tri (locks : List (T_miss_Lock)) (writes : List (T_api_Write)) (r : (List (T_coord_Member)) × (List (Int)) × (Int)) (h : miss_Plan locks writes = some r) : FnTri Tryd.prog 9 [.ds 10 (locks).length (rowF c_T_miss_Lock default locks), .ds 21 (writes).length (rowF c_T_api_Write default writes)] [] (miss_Plan_v r) [] := FnTri.none (miss_Plan_ok locks writes r h) rfl rfl

end
end Go.Proofs.YtdjmfgknonkojaaDoor.Wk
