/- Printed by tr.py: Go functions as Lean functions, with the proofs that they walk so. -/
import Derived.Test.YtffmmflapagkhaaDoorProg
import Derived.Test.YtffmmflapagkhaaDoorCnW
import Derived.Test.YtffmmflapagkhaaDoorCnZ
import Derived.WalkKit
import Derived.TacticsInMore
import Derived.RegionIn
import Derived.LoopNIn
import Derived.LoopIn
import Derived.ControlIn
import Derived.Lib.AppendZeros
import Derived.WalkKit
import Derived.Deep.LoopGhost
import Derived.Deep.Draws
import Derived.Shelf.Spec.TrailingZeros
namespace Go.Proofs.YtffmmflapagkhaaDoor.Wk
open Go Go.Cn Go.RowKit
set_option maxRecDepth 100000
set_option maxHeartbeats 4000000
set_option linter.unusedVariables false
set_option linter.unusedSimpArgs false
noncomputable section
theorem mixed : Tryd.prog.follows .mixedOrders = true := by kernel_rfl
structure T_api_Reg where
  f_Boot : Int
  f_N : Int
  deriving DecidableEq, Inhabited

def c_T_api_Reg (x : T_api_Reg) : List LV := [.int .u32 x.f_Boot, .int .u32 x.f_N]

def v_T_api_Reg (x : T_api_Reg) : LV := .agg (c_T_api_Reg x)

theorem x_T_api_Reg (a b : T_api_Reg) : a = b ↔ a.f_Boot = b.f_Boot ∧ a.f_N = b.f_N := by
  cases a; cases b; simp

theorem k_T_api_Reg (a b : T_api_Reg) : eqK (v_T_api_Reg a) (v_T_api_Reg b) = decide (a = b) := by
  rw [Bool.eq_iff_iff, decide_eq_true_eq]
  simp only [x_T_api_Reg, v_T_api_Reg, c_T_api_Reg, eqK, eqCs, eqC, Bool.and_eq_true, beq_iff_eq, and_assoc, and_true]

structure T_api_Config where
  f_Epoch : Int
  f_R : Int
  f_W : Int
  f_Votes : A8 (Int)
  deriving DecidableEq, Inhabited

def c_T_api_Config (x : T_api_Config) : List LV := [.int .u32 x.f_Epoch, .int .u8 x.f_R, .int .u8 x.f_W, .int .u8 x.f_Votes.a0, .int .u8 x.f_Votes.a1, .int .u8 x.f_Votes.a2, .int .u8 x.f_Votes.a3, .int .u8 x.f_Votes.a4, .int .u8 x.f_Votes.a5, .int .u8 x.f_Votes.a6, .int .u8 x.f_Votes.a7]

def v_T_api_Config (x : T_api_Config) : LV := .agg (c_T_api_Config x)

theorem x_T_api_Config (a b : T_api_Config) : a = b ↔ a.f_Epoch = b.f_Epoch ∧ a.f_R = b.f_R ∧ a.f_W = b.f_W ∧ a.f_Votes = b.f_Votes := by
  cases a; cases b; simp

theorem k_T_api_Config (a b : T_api_Config) : eqK (v_T_api_Config a) (v_T_api_Config b) = decide (a = b) := by
  rw [Bool.eq_iff_iff, decide_eq_true_eq]
  simp only [x_T_api_Config, A8.x, v_T_api_Config, c_T_api_Config, eqK, eqCs, eqC, Bool.and_eq_true, beq_iff_eq, and_assoc, and_true]

structure T_api_Item where
  f_Version : Int
  f_Value : List UInt8
  f_Conf : T_api_Config
  deriving DecidableEq, Inhabited

def c_T_api_Item (x : T_api_Item) : List LV := [.int .u32 x.f_Version, .str x.f_Value, .int .u32 x.f_Conf.f_Epoch, .int .u8 x.f_Conf.f_R, .int .u8 x.f_Conf.f_W, .int .u8 x.f_Conf.f_Votes.a0, .int .u8 x.f_Conf.f_Votes.a1, .int .u8 x.f_Conf.f_Votes.a2, .int .u8 x.f_Conf.f_Votes.a3, .int .u8 x.f_Conf.f_Votes.a4, .int .u8 x.f_Conf.f_Votes.a5, .int .u8 x.f_Conf.f_Votes.a6, .int .u8 x.f_Conf.f_Votes.a7]

def v_T_api_Item (x : T_api_Item) : LV := .agg (c_T_api_Item x)

theorem x_T_api_Item (a b : T_api_Item) : a = b ↔ a.f_Version = b.f_Version ∧ a.f_Value = b.f_Value ∧ a.f_Conf = b.f_Conf := by
  cases a; cases b; simp

theorem k_T_api_Item (a b : T_api_Item) : eqK (v_T_api_Item a) (v_T_api_Item b) = decide (a = b) := by
  rw [Bool.eq_iff_iff, decide_eq_true_eq]
  simp only [x_T_api_Item, x_T_api_Config, A8.x, v_T_api_Item, c_T_api_Item, eqK, eqCs, eqC, Bool.and_eq_true, beq_iff_eq, and_assoc, and_true]

structure T_parrelref19_Got where
  f_Node : Int
  f_Reg : T_api_Reg
  f_Item : T_api_Item
  deriving DecidableEq, Inhabited

def c_T_parrelref19_Got (x : T_parrelref19_Got) : List LV := [.int .u8 x.f_Node, .int .u32 x.f_Reg.f_Boot, .int .u32 x.f_Reg.f_N, .int .u32 x.f_Item.f_Version, .str x.f_Item.f_Value, .int .u32 x.f_Item.f_Conf.f_Epoch, .int .u8 x.f_Item.f_Conf.f_R, .int .u8 x.f_Item.f_Conf.f_W, .int .u8 x.f_Item.f_Conf.f_Votes.a0, .int .u8 x.f_Item.f_Conf.f_Votes.a1, .int .u8 x.f_Item.f_Conf.f_Votes.a2, .int .u8 x.f_Item.f_Conf.f_Votes.a3, .int .u8 x.f_Item.f_Conf.f_Votes.a4, .int .u8 x.f_Item.f_Conf.f_Votes.a5, .int .u8 x.f_Item.f_Conf.f_Votes.a6, .int .u8 x.f_Item.f_Conf.f_Votes.a7]

def v_T_parrelref19_Got (x : T_parrelref19_Got) : LV := .agg (c_T_parrelref19_Got x)

theorem x_T_parrelref19_Got (a b : T_parrelref19_Got) : a = b ↔ a.f_Node = b.f_Node ∧ a.f_Reg = b.f_Reg ∧ a.f_Item = b.f_Item := by
  cases a; cases b; simp

theorem k_T_parrelref19_Got (a b : T_parrelref19_Got) : eqK (v_T_parrelref19_Got a) (v_T_parrelref19_Got b) = decide (a = b) := by
  rw [Bool.eq_iff_iff, decide_eq_true_eq]
  simp only [x_T_parrelref19_Got, x_T_api_Reg, x_T_api_Item, x_T_api_Config, A8.x, v_T_parrelref19_Got, c_T_parrelref19_Got, eqK, eqCs, eqC, Bool.and_eq_true, beq_iff_eq, and_assoc, and_true]

structure T_gather_Got where
  f_Node : Int
  f_Reg : T_api_Reg
  f_Item : T_api_Item
  deriving DecidableEq, Inhabited

def c_T_gather_Got (x : T_gather_Got) : List LV := [.int .u8 x.f_Node, .int .u32 x.f_Reg.f_Boot, .int .u32 x.f_Reg.f_N, .int .u32 x.f_Item.f_Version, .str x.f_Item.f_Value, .int .u32 x.f_Item.f_Conf.f_Epoch, .int .u8 x.f_Item.f_Conf.f_R, .int .u8 x.f_Item.f_Conf.f_W, .int .u8 x.f_Item.f_Conf.f_Votes.a0, .int .u8 x.f_Item.f_Conf.f_Votes.a1, .int .u8 x.f_Item.f_Conf.f_Votes.a2, .int .u8 x.f_Item.f_Conf.f_Votes.a3, .int .u8 x.f_Item.f_Conf.f_Votes.a4, .int .u8 x.f_Item.f_Conf.f_Votes.a5, .int .u8 x.f_Item.f_Conf.f_Votes.a6, .int .u8 x.f_Item.f_Conf.f_Votes.a7]

def v_T_gather_Got (x : T_gather_Got) : LV := .agg (c_T_gather_Got x)

theorem x_T_gather_Got (a b : T_gather_Got) : a = b ↔ a.f_Node = b.f_Node ∧ a.f_Reg = b.f_Reg ∧ a.f_Item = b.f_Item := by
  cases a; cases b; simp

theorem k_T_gather_Got (a b : T_gather_Got) : eqK (v_T_gather_Got a) (v_T_gather_Got b) = decide (a = b) := by
  rw [Bool.eq_iff_iff, decide_eq_true_eq]
  simp only [x_T_gather_Got, x_T_api_Reg, x_T_api_Item, x_T_api_Config, A8.x, v_T_gather_Got, c_T_gather_Got, eqK, eqCs, eqC, Bool.and_eq_true, beq_iff_eq, and_assoc, and_true]

structure T_gather_Gather where
  f_mode : Int
  f_conf : T_api_Config
  f_more : List (T_api_Config)
  f_grants : A8 (T_gather_Got)
  f_nodes : Int
  deriving DecidableEq, Inhabited

def c_T_gather_Gather (x : T_gather_Gather) : List LV := [.int .u8 x.f_mode, .int .u32 x.f_conf.f_Epoch, .int .u8 x.f_conf.f_R, .int .u8 x.f_conf.f_W, .int .u8 x.f_conf.f_Votes.a0, .int .u8 x.f_conf.f_Votes.a1, .int .u8 x.f_conf.f_Votes.a2, .int .u8 x.f_conf.f_Votes.a3, .int .u8 x.f_conf.f_Votes.a4, .int .u8 x.f_conf.f_Votes.a5, .int .u8 x.f_conf.f_Votes.a6, .int .u8 x.f_conf.f_Votes.a7, .ds 11 (x.f_more).length (rowF c_T_api_Config default x.f_more), .int .u8 x.f_grants.a0.f_Node, .int .u32 x.f_grants.a0.f_Reg.f_Boot, .int .u32 x.f_grants.a0.f_Reg.f_N, .int .u32 x.f_grants.a0.f_Item.f_Version, .str x.f_grants.a0.f_Item.f_Value, .int .u32 x.f_grants.a0.f_Item.f_Conf.f_Epoch, .int .u8 x.f_grants.a0.f_Item.f_Conf.f_R, .int .u8 x.f_grants.a0.f_Item.f_Conf.f_W, .int .u8 x.f_grants.a0.f_Item.f_Conf.f_Votes.a0, .int .u8 x.f_grants.a0.f_Item.f_Conf.f_Votes.a1, .int .u8 x.f_grants.a0.f_Item.f_Conf.f_Votes.a2, .int .u8 x.f_grants.a0.f_Item.f_Conf.f_Votes.a3, .int .u8 x.f_grants.a0.f_Item.f_Conf.f_Votes.a4, .int .u8 x.f_grants.a0.f_Item.f_Conf.f_Votes.a5, .int .u8 x.f_grants.a0.f_Item.f_Conf.f_Votes.a6, .int .u8 x.f_grants.a0.f_Item.f_Conf.f_Votes.a7, .int .u8 x.f_grants.a1.f_Node, .int .u32 x.f_grants.a1.f_Reg.f_Boot, .int .u32 x.f_grants.a1.f_Reg.f_N, .int .u32 x.f_grants.a1.f_Item.f_Version, .str x.f_grants.a1.f_Item.f_Value, .int .u32 x.f_grants.a1.f_Item.f_Conf.f_Epoch, .int .u8 x.f_grants.a1.f_Item.f_Conf.f_R, .int .u8 x.f_grants.a1.f_Item.f_Conf.f_W, .int .u8 x.f_grants.a1.f_Item.f_Conf.f_Votes.a0, .int .u8 x.f_grants.a1.f_Item.f_Conf.f_Votes.a1, .int .u8 x.f_grants.a1.f_Item.f_Conf.f_Votes.a2, .int .u8 x.f_grants.a1.f_Item.f_Conf.f_Votes.a3, .int .u8 x.f_grants.a1.f_Item.f_Conf.f_Votes.a4, .int .u8 x.f_grants.a1.f_Item.f_Conf.f_Votes.a5, .int .u8 x.f_grants.a1.f_Item.f_Conf.f_Votes.a6, .int .u8 x.f_grants.a1.f_Item.f_Conf.f_Votes.a7, .int .u8 x.f_grants.a2.f_Node, .int .u32 x.f_grants.a2.f_Reg.f_Boot, .int .u32 x.f_grants.a2.f_Reg.f_N, .int .u32 x.f_grants.a2.f_Item.f_Version, .str x.f_grants.a2.f_Item.f_Value, .int .u32 x.f_grants.a2.f_Item.f_Conf.f_Epoch, .int .u8 x.f_grants.a2.f_Item.f_Conf.f_R, .int .u8 x.f_grants.a2.f_Item.f_Conf.f_W, .int .u8 x.f_grants.a2.f_Item.f_Conf.f_Votes.a0, .int .u8 x.f_grants.a2.f_Item.f_Conf.f_Votes.a1, .int .u8 x.f_grants.a2.f_Item.f_Conf.f_Votes.a2, .int .u8 x.f_grants.a2.f_Item.f_Conf.f_Votes.a3, .int .u8 x.f_grants.a2.f_Item.f_Conf.f_Votes.a4, .int .u8 x.f_grants.a2.f_Item.f_Conf.f_Votes.a5, .int .u8 x.f_grants.a2.f_Item.f_Conf.f_Votes.a6, .int .u8 x.f_grants.a2.f_Item.f_Conf.f_Votes.a7, .int .u8 x.f_grants.a3.f_Node, .int .u32 x.f_grants.a3.f_Reg.f_Boot, .int .u32 x.f_grants.a3.f_Reg.f_N, .int .u32 x.f_grants.a3.f_Item.f_Version, .str x.f_grants.a3.f_Item.f_Value, .int .u32 x.f_grants.a3.f_Item.f_Conf.f_Epoch, .int .u8 x.f_grants.a3.f_Item.f_Conf.f_R, .int .u8 x.f_grants.a3.f_Item.f_Conf.f_W, .int .u8 x.f_grants.a3.f_Item.f_Conf.f_Votes.a0, .int .u8 x.f_grants.a3.f_Item.f_Conf.f_Votes.a1, .int .u8 x.f_grants.a3.f_Item.f_Conf.f_Votes.a2, .int .u8 x.f_grants.a3.f_Item.f_Conf.f_Votes.a3, .int .u8 x.f_grants.a3.f_Item.f_Conf.f_Votes.a4, .int .u8 x.f_grants.a3.f_Item.f_Conf.f_Votes.a5, .int .u8 x.f_grants.a3.f_Item.f_Conf.f_Votes.a6, .int .u8 x.f_grants.a3.f_Item.f_Conf.f_Votes.a7, .int .u8 x.f_grants.a4.f_Node, .int .u32 x.f_grants.a4.f_Reg.f_Boot, .int .u32 x.f_grants.a4.f_Reg.f_N, .int .u32 x.f_grants.a4.f_Item.f_Version, .str x.f_grants.a4.f_Item.f_Value, .int .u32 x.f_grants.a4.f_Item.f_Conf.f_Epoch, .int .u8 x.f_grants.a4.f_Item.f_Conf.f_R, .int .u8 x.f_grants.a4.f_Item.f_Conf.f_W, .int .u8 x.f_grants.a4.f_Item.f_Conf.f_Votes.a0, .int .u8 x.f_grants.a4.f_Item.f_Conf.f_Votes.a1, .int .u8 x.f_grants.a4.f_Item.f_Conf.f_Votes.a2, .int .u8 x.f_grants.a4.f_Item.f_Conf.f_Votes.a3, .int .u8 x.f_grants.a4.f_Item.f_Conf.f_Votes.a4, .int .u8 x.f_grants.a4.f_Item.f_Conf.f_Votes.a5, .int .u8 x.f_grants.a4.f_Item.f_Conf.f_Votes.a6, .int .u8 x.f_grants.a4.f_Item.f_Conf.f_Votes.a7, .int .u8 x.f_grants.a5.f_Node, .int .u32 x.f_grants.a5.f_Reg.f_Boot, .int .u32 x.f_grants.a5.f_Reg.f_N, .int .u32 x.f_grants.a5.f_Item.f_Version, .str x.f_grants.a5.f_Item.f_Value, .int .u32 x.f_grants.a5.f_Item.f_Conf.f_Epoch, .int .u8 x.f_grants.a5.f_Item.f_Conf.f_R, .int .u8 x.f_grants.a5.f_Item.f_Conf.f_W, .int .u8 x.f_grants.a5.f_Item.f_Conf.f_Votes.a0, .int .u8 x.f_grants.a5.f_Item.f_Conf.f_Votes.a1, .int .u8 x.f_grants.a5.f_Item.f_Conf.f_Votes.a2, .int .u8 x.f_grants.a5.f_Item.f_Conf.f_Votes.a3, .int .u8 x.f_grants.a5.f_Item.f_Conf.f_Votes.a4, .int .u8 x.f_grants.a5.f_Item.f_Conf.f_Votes.a5, .int .u8 x.f_grants.a5.f_Item.f_Conf.f_Votes.a6, .int .u8 x.f_grants.a5.f_Item.f_Conf.f_Votes.a7, .int .u8 x.f_grants.a6.f_Node, .int .u32 x.f_grants.a6.f_Reg.f_Boot, .int .u32 x.f_grants.a6.f_Reg.f_N, .int .u32 x.f_grants.a6.f_Item.f_Version, .str x.f_grants.a6.f_Item.f_Value, .int .u32 x.f_grants.a6.f_Item.f_Conf.f_Epoch, .int .u8 x.f_grants.a6.f_Item.f_Conf.f_R, .int .u8 x.f_grants.a6.f_Item.f_Conf.f_W, .int .u8 x.f_grants.a6.f_Item.f_Conf.f_Votes.a0, .int .u8 x.f_grants.a6.f_Item.f_Conf.f_Votes.a1, .int .u8 x.f_grants.a6.f_Item.f_Conf.f_Votes.a2, .int .u8 x.f_grants.a6.f_Item.f_Conf.f_Votes.a3, .int .u8 x.f_grants.a6.f_Item.f_Conf.f_Votes.a4, .int .u8 x.f_grants.a6.f_Item.f_Conf.f_Votes.a5, .int .u8 x.f_grants.a6.f_Item.f_Conf.f_Votes.a6, .int .u8 x.f_grants.a6.f_Item.f_Conf.f_Votes.a7, .int .u8 x.f_grants.a7.f_Node, .int .u32 x.f_grants.a7.f_Reg.f_Boot, .int .u32 x.f_grants.a7.f_Reg.f_N, .int .u32 x.f_grants.a7.f_Item.f_Version, .str x.f_grants.a7.f_Item.f_Value, .int .u32 x.f_grants.a7.f_Item.f_Conf.f_Epoch, .int .u8 x.f_grants.a7.f_Item.f_Conf.f_R, .int .u8 x.f_grants.a7.f_Item.f_Conf.f_W, .int .u8 x.f_grants.a7.f_Item.f_Conf.f_Votes.a0, .int .u8 x.f_grants.a7.f_Item.f_Conf.f_Votes.a1, .int .u8 x.f_grants.a7.f_Item.f_Conf.f_Votes.a2, .int .u8 x.f_grants.a7.f_Item.f_Conf.f_Votes.a3, .int .u8 x.f_grants.a7.f_Item.f_Conf.f_Votes.a4, .int .u8 x.f_grants.a7.f_Item.f_Conf.f_Votes.a5, .int .u8 x.f_grants.a7.f_Item.f_Conf.f_Votes.a6, .int .u8 x.f_grants.a7.f_Item.f_Conf.f_Votes.a7, .int .u64 x.f_nodes]

def v_T_gather_Gather (x : T_gather_Gather) : LV := .agg (c_T_gather_Gather x)

theorem ext90 (l : List UInt8) (c : Int) : ExtTri Tryd.prog 90 [.str l, .int .u8 c] (.int .i64 (Lib.indexByte l c.toNat.toUInt8)) := ext_indexByte Tryd.func90 (by kernel_rfl) (by kernel_rfl) (by kernel_rfl) (by kernel_rfl) l c

/-- parrel/parrellaw19.three -/

def parrellaw19_three_v (r : (T_api_Config)) : LV := v_T_api_Config r

def parrellaw19_three  : Option ((T_api_Config)) :=
  some (T_api_Config.mk 1 2 2 (A8.mk 1 1 1 0 0 0 0 0))

theorem parrellaw19_three_ok  (r : (T_api_Config)) (h : parrellaw19_three  = some r) : ∀ σ, Inj 0 σ → FnTri Tryd.prog 35 (renL σ []) (preOf σ 0 []) ((parrellaw19_three_v r).ren σ) (upOf σ []) := by
  refine fn_of Tryd.func35 (by kernel_rfl) (by kernel_rfl) (by kernel_rfl) trivial (by kernel_rfl) trivial (by kernel_rfl) ?_
  intro w0 W μ0 hμ
  unfold parrellaw19_three at h
  obtain rfl := Option.some.inj h
  exact run_ret mixed (L := []) (n := 15) (s := [.reg [], .reg []])
    (a_ (a_ (r1_ tr) (a_ (a_ (a_ (Eq.refl true) tr) (a_ (a_ (Eq.refl true) tr) (a_ (a_ (a_ (Eq.refl 11) (a_ (le_ 11 11 rfl) (Eq.refl 0))) tr) tr))) tr)) (a_ (a_ tr (le_ 11 11 rfl)) tr)) (by kernel_rfl) rfl

theorem parrellaw19_three_tri  (r : (T_api_Config)) (h : parrellaw19_three  = some r) : FnTri Tryd.prog 35 [] [] (parrellaw19_three_v r) [] := FnTri.none (parrellaw19_three_ok  r h) rfl rfl

/-! slices.Concat: PRE -/
theorem cc46_info : ∃ i z, Tryd.prog.info? 25 = some i ∧ i.zero = some z ∧ i.size = 11 ∧ i.bytes = 16 ∧ z.cells.size = 11 := by
  have h : (Tryd.prog.info? 25).map (fun i => (i.zero.map (·.cells.size), i.size, i.bytes)) = some (some 11, 11, 16) := by kernel_rfl
  obtain ⟨i, h1, h2⟩ := Option.map_eq_some_iff.1 h
  simp only [Prod.mk.injEq] at h2
  obtain ⟨h3, h4, h5⟩ := h2
  obtain ⟨z, h6, h7⟩ := Option.map_eq_some_iff.1 h3
  exact ⟨i, z, h1, h6, h4, h5, h7⟩
theorem cc46_grow (m : Nat) (h0 : 0 < m) (hb : m * 16 ≤ 140737488355328) (w : World) :
    Calls Tryd.prog 65 #[.slice none 0 0, .int .i64 m] w fun e w' => ∃ G cs, m ≤ G ∧ G ≤ maxLen ∧ cs.size = G * 11 ∧ e = .returned (.slice (some ⟨w.heap.size, 0, none⟩) 0 G) ∧ w' = w.drew.alloc (.cells cs 25) := by
  obtain ⟨i, z, hi, hz, hs, hby, hzs⟩ := cc46_info
  have hr : ∀ ty, (Builtin.append_ #[58, 3] ty #[.slice none 0 0, .int .i64 (m : Int)]).run Tryd.prog w =
      .ok (.slice (some ⟨w.heap.size, 0, none⟩) m (grownCap w m 0 25)) (w.drew.alloc (.cells (Builtin.zeroCells z.cells m ++ Builtin.zeroCells z.cells (grownCap w m 0 25 - m)) 25)) := fun ty =>
    Lib.run_append_nil_zeros w 58 3 ty 25 i z .i64 .i64 Tryd.underlying58 Tryd.underlying3 hi hz m h0 (by omega) (by omega) (by rw [hby]; omega)
  have hge := grownCap_ge w m 0 25
  have hcm : grownCap w m 0 25 ≤ maxLen := grownCap_le_maxLen w m 0 25 (by unfold maxLen; omega)
  have hcs : (Builtin.zeroCells z.cells m ++ Builtin.zeroCells z.cells (grownCap w m 0 25 - m)).size = grownCap w m 0 25 * 11 := by
    rw [Array.size_append, size_zeroCells, size_zeroCells, hzs, ← Nat.add_mul]; congr 1; omega
  generalize hGd : grownCap w m 0 25 = G at *
  generalize Builtin.zeroCells z.cells m ++ Builtin.zeroCells z.cells (G - m) = cs at *
  have h1 : ¬ ((m : Int) < 0) := by omega
  have h2 : wrap64 (m : Int) = (m : Int) := by unfold wrap64; omega
  have h3 : (m : Int) > 0 := by omega
  have hm63 : (m : Int) ≤ 9223372036854775807 := by omega
  have hG63 : (G : Int) ≤ 9223372036854775807 := by unfold maxLen at hcm; omega
  go_enter Tryd.func65, Tryd.ntmps65
  go_wp2_with (at_builtin; refine Lib.wpList_append_run _ rfl _ _ _ _ rfl _ _ rfl rfl _ _ (hr _) ?_)
  all_goals (go_ret; first | exact ⟨G, cs, hge, hcm, hcs, rfl, rfl⟩ | exact ⟨G, hge, hcm, cs, hcs, rfl, rfl⟩)
/-- What a slice is read as. -/
structure cc46_Src (w : World) (v : Value) (n : Nat) (news : List Value) : Prop where
  v : ∃ base rc, v = .slice base n rc ∧ n ≤ rc ∧ ((base = none ∧ n = 0) ∨ ∃ a, base = some a ∧ ∀ j u, news[j]? = some u → w.cell? (a.add j) = some u)
  len : news.length = n * 11
  one : ∀ u ∈ news, u.oneCell' = true
theorem cc46_app_none {P : Program} (w : World) (t ty e : TypeId) (i : TypeInfo) (ht : P.underlying t = some (.slice e)) (hi : P.info? e = some i) (b : Option Addr) (k c : Nat) (hk : k ≤ c) (rc : Nat) :
    (Builtin.append_ #[t, t] ty #[.slice b k c, .slice none 0 rc]).run P w = .ok (.slice b k c) w := by
  cases b with
  | none => simp [Builtin.append_, run_underlying ht, sizeOf, typeInfo, hi, Builtin.lenOf, hk, Builtin.firstCells]
  | some a => simp [Builtin.append_, run_underlying ht, sizeOf, typeInfo, hi, Builtin.lenOf, hk, Builtin.firstCells, Addr.add, storeCells]
theorem cc46_app_src (w : World) {vs : Value} {m : Nat} {news : List Value} (h : cc46_Src w vs m news) (v : Value) (k : Nat) (xs : List Value) (base : Nat) (hown : w.ownsRow base 25 11 v k xs) (b1 : k + m ≤ maxLen) (b2 : (k + m) * 16 ≤ 140737488355328) (b3 : base ≤ w.heap.size) :
    ∃ v' w', (∀ ty, (Builtin.append_ #[58, 58] ty #[v, vs]).run Tryd.prog w = .ok v' w') ∧ w'.ownsRow base 25 11 v' (k + m) (xs ++ news) ∧ w.grownBy w' v.ownBlock ∧ w.drawn ≤ w'.drawn := by
  obtain ⟨i, z, hi, hz, hs, hby, hzs⟩ := cc46_info
  obtain ⟨bs, rc, rfl, hrc, hh⟩ := h.v
  rcases hh with ⟨rfl, rfl⟩ | ⟨a, rfl, hcell⟩
  · have hn : news = [] := List.eq_nil_of_length_eq_zero (by have := h.len; omega)
    have hv : ∃ b c, v = .slice b k c ∧ k ≤ c := by
      rcases hown.2 with ⟨rfl, rfl⟩ | ⟨g, cap, cur, rfl, _, _, h1, h2, _⟩
      · exact ⟨none, 0, rfl, Nat.le_refl _⟩
      · exact ⟨_, cap, rfl, h1⟩
    obtain ⟨b, c, rfl, hk⟩ := hv
    refine ⟨_, w, fun ty => cc46_app_none w 58 ty 25 i Tryd.underlying58 hi b k c hk rc, ?_, ⟨rfl, rfl, rfl, Nat.le_refl _, fun _ _ _ => rfl⟩, Nat.le_refl _⟩
    rw [hn, List.append_nil]; exact hown
  · obtain ⟨v', w', hrun, r1, r2, r3⟩ := run_append_own (P := Tryd.prog) w base 58 58 25 i z 11 16 Tryd.underlying58 hi hz hs hby hzs (by decide) v k xs hown a m rc news h.len hcell h.one b1 b2 b3
    refine ⟨v', w', fun ty => ?_, r1, r2, sem_draws _ _ _ _ hrun⟩
    have e : ∀ ty, Builtin.append_ #[58, 58] ty #[v, .slice (some a) m rc] = Builtin.append_ #[58, 58] 58 #[v, .slice (some a) m rc] := fun ty => rfl
    rw [e]; exact hrun
theorem cc46_Src.kept {w w' : World} {v : Value} {n : Nat} {news : List Value} (h : cc46_Src w v n news) (hb : ∀ b, b < w.heap.size → w'.heap[b]? = w.heap[b]?) : cc46_Src w' v n news := by
  refine ⟨?_, h.len, h.one⟩
  obtain ⟨base, rc, e, h1, h2⟩ := h.v
  refine ⟨base, rc, e, h1, h2.imp id fun ⟨a, e2, hc⟩ => ⟨a, e2, fun j u hj => ?_⟩⟩
  have h3 := hc j u hj
  rw [← h3]
  refine World.cell?_of_block (hb _ ?_)
  unfold World.cell? at h3
  rcases Nat.lt_or_ge (a.add j).block w.heap.size with h | h
  · exact h
  · rw [Array.getElem?_eq_none h] at h3; cases h3
def cc46_szk (n1 n2 k : Nat) : Nat := if k = 0 then 0 else if k = 1 then n1 else n1 + n2
def cc46_xsk (l1 l2 : List Value) (k : Nat) : List Value := if k = 0 then [] else if k = 1 then l1 else l1 ++ l2
theorem cc46_own_low {w : World} {B e k : Nat} {v : Value} {xs : List Value} {n : Nat} (h : w.ownsRow B e k v n xs) : ∀ b, v.ownBlock = some b → B ≤ b := by
  intro b hb
  rcases h.2 with ⟨rfl, _⟩ | ⟨g, cap, cur, rfl, hg, _⟩
  · simp [Value.ownBlock] at hb
  · simp [Value.ownBlock] at hb; omega
theorem cc46_calls (w : World) (rb off rc : Nat) (v1 v2 : Value) (n1 n2 : Nat) (l1 l2 : List Value) (hrc : 2 ≤ rc) (hc1 : w.cell? ⟨rb, off, none⟩ = some v1) (hc2 : w.cell? ⟨rb, off + 1, none⟩ = some v2) (hrb : rb < w.heap.size) (S1 : cc46_Src w v1 n1 l1) (S2 : cc46_Src w v2 n2 l2) (h0 : 0 < n1) (hb : (n1 + n2) * 16 ≤ 140737488351232) :
    Calls Tryd.prog 46 #[.slice (some ⟨rb, off, none⟩) 2 rc] w fun e w' => ∃ v, e = .returned v ∧ w'.ownsRow w.heap.size 25 11 v (n1 + n2) (l1 ++ l2) ∧ Below w.heap.size w w' ∧ w.drawn ≤ w'.drawn := by
  obtain ⟨b1, c1, e1, hk1, _⟩ := S1.v
  obtain ⟨b2, c2, e2, hk2, _⟩ := S2.v
  subst e1; subst e2
  have q1 : wrap64 ((0 : Int) + (n1 : Int)) = (n1 : Int) := by unfold wrap64; omega
  have q2 : wrap64 ((n1 : Int) + (n2 : Int)) = ((n1 + n2 : Nat) : Int) := by unfold wrap64; omega
  have q3 : ¬ ((n1 : Int) < 0) := by omega
  have q4 : ¬ (((n1 + n2 : Nat) : Int) < 0) := by omega
  have A1 : Aside (cc46_Src w (Value.slice b1 n1 c1) n1 l1) := S1
  have A2 : Aside (cc46_Src w (Value.slice b2 n2 c2) n2 l2) := S2
  clear S1 S2
  go_enter Tryd.func46, Tryd.ntmps46
  go_wp2
  go_loopg [3, 11] 2 (fun g s3 s11 wr => ∃ k : Nat, k ≤ 2 ∧ 2 - k ≤ g ∧ s3 = .int .i64 (cc46_szk n1 n2 k : Nat) ∧ s11 = .int .i64 (k : Nat) ∧ wr = w)
  case atStart => exact ⟨0, by omega, by omega, rfl, rfl, rfl⟩
  case round =>
    obtain ⟨k, hk, hg, rfl, rfl, hw⟩ := hrel
    obtain rfl : w = wr := hw.symm
    rcases (by omega : k = 0 ∨ k = 1 ∨ k = 2) with rfl | rfl | rfl
    · simp only [cc46_szk, if_true]
      go_wp2
      go_roundg 1
      case measure => omega
      case rel => exact ⟨1, by omega, by omega, by simp [cc46_szk], rfl, rfl⟩
    · simp only [cc46_szk, if_true, Nat.succ_ne_zero, if_false]
      go_wp2
      go_roundg 0
      case measure => omega
      case rel => exact ⟨2, by omega, by omega, by simp [cc46_szk], rfl, rfl⟩
    · have e2 : cc46_szk n1 n2 2 = n1 + n2 := rfl
      rw [e2]
      go_wp2_with (go_at_call 65; refine (cc46_grow (n1 + n2) (by omega) (by omega) _).mono ?_; rintro e w' ⟨G, cs, hG1, hG2, hcs, rfl, rfl⟩)
      have hrow0 : (w.drew.alloc (.cells cs 25)).ownsRow w.heap.size 25 11 (.slice (some ⟨w.heap.size, 0, none⟩) 0 G) 0 [] := by
        refine ⟨rfl, .inr ⟨w.heap.size, G, cs, rfl, Nat.le_refl _, ?_, Nat.zero_le _, hG2, hcs, by simp⟩⟩
        exact World.alloc_heap_new w.drew (.cells cs 25)
      have hbel0 : Below w.heap.size w (w.drew.alloc (.cells cs 25)) := ((Below.refl _ w).drew).alloc (Nat.le_refl _) _
      have hdr0 : w.drawn ≤ (w.drew.alloc (.cells cs 25)).drawn := Nat.le_succ _
      go_loopg [6, 27] 2 (fun g s6 s27 wr => ∃ k : Nat, k ≤ 2 ∧ 2 - k ≤ g ∧ s27 = .int .i64 (k : Nat) ∧ wr.ownsRow w.heap.size 25 11 s6 (cc46_szk n1 n2 k) (cc46_xsk l1 l2 k) ∧ Below w.heap.size w wr ∧ w.drawn ≤ wr.drawn)
      case atStart => exact ⟨0, by omega, by omega, rfl, hrow0, hbel0, hdr0⟩
      case round =>
        obtain ⟨k, hk2', hg2', rfl, hrow, hbx, hdx⟩ := hrel
        have hx1 : wr.cell? ⟨rb, off, none⟩ = some (Value.slice b1 n1 c1) := (hbx.cell (p := ⟨rb, off, none⟩) hrb).trans hc1
        have hx2 : wr.cell? ⟨rb, off + 1, none⟩ = some (Value.slice b2 n2 c2) := (hbx.cell (p := ⟨rb, off + 1, none⟩) hrb).trans hc2
        have hob : ∀ b, u6.ownBlock = some b → w.heap.size ≤ b := cc46_own_low hrow
        rcases (by omega : k = 0 ∨ k = 1 ∨ k = 2) with rfl | rfl | rfl
        · obtain ⟨v', w', hrun, r1, r2, r3⟩ := cc46_app_src wr (A1.out.kept hbx.block) u6 _ _ _ hrow (by simp only [cc46_szk, if_true]; unfold maxLen; omega) (by simp only [cc46_szk, if_true]; omega) hbx.size
          have F1 : Aside (w'.ownsRow w.heap.size 25 11 v' (cc46_szk n1 n2 0 + n1) (cc46_xsk l1 l2 0 ++ l1) ∧ Below w.heap.size w w' ∧ w.drawn ≤ w'.drawn) := ⟨r1, hbx.grown r2 hbx.size hob, Nat.le_trans hdx r3⟩
          clear r1 r2 r3 hrow hob hbx hdx
          go_wp2_with (at_builtin; refine Lib.wpList_append_run _ rfl _ _ _ _ rfl _ _ rfl rfl _ _ (hrun _) ?_)
          go_roundg 1
          case measure => omega
          case rel => exact ⟨1, by omega, by omega, rfl, by simpa [cc46_szk, cc46_xsk] using F1.out.1, F1.out.2⟩
        · obtain ⟨v', w', hrun, r1, r2, r3⟩ := cc46_app_src wr (A2.out.kept hbx.block) u6 _ _ _ hrow (by simp only [cc46_szk, if_true, Nat.succ_ne_zero, if_false]; unfold maxLen; omega) (by simp only [cc46_szk, if_true, Nat.succ_ne_zero, if_false]; omega) hbx.size
          have F1 : Aside (w'.ownsRow w.heap.size 25 11 v' (cc46_szk n1 n2 1 + n2) (cc46_xsk l1 l2 1 ++ l2) ∧ Below w.heap.size w w' ∧ w.drawn ≤ w'.drawn) := ⟨r1, hbx.grown r2 hbx.size hob, Nat.le_trans hdx r3⟩
          clear r1 r2 r3 hrow hob hbx hdx
          go_wp2_with (at_builtin; refine Lib.wpList_append_run _ rfl _ _ _ _ rfl _ _ rfl rfl _ _ (hrun _) ?_)
          go_roundg 0
          case measure => omega
          case rel => exact ⟨2, by omega, by omega, rfl, by simpa [cc46_szk, cc46_xsk] using F1.out.1, F1.out.2⟩
        · have F1 : Aside (wr.ownsRow w.heap.size 25 11 u6 (cc46_szk n1 n2 2) (cc46_xsk l1 l2 2) ∧ Below w.heap.size w wr ∧ w.drawn ≤ wr.drawn) := ⟨hrow, hbx, hdx⟩
          clear hrow hob hbx hdx
          go_wp2
          go_ret
          exact ⟨u6, rfl, by simpa [cc46_szk, cc46_xsk] using F1.out.1, F1.out.2⟩
theorem cc46_src_of {α : Type} [Inhabited α] {enc : α → List LV} {kc : α → List Value} (hdet : ∀ φ x vs, RelFL φ (enc x) vs → vs = kc x) (hk : ∀ x, (kc x).length = 11) (h1 : ∀ x, ∀ v ∈ kc x, v.oneCell' = true) {μ : Emb} {pre : Pre} {w : World} (hp : PreOK μ pre w) {l : List α} {v : Value}
    (h : Rel μ (.ds 11 l.length (rowF enc default l)) v) : cc46_Src w v l.length (l.flatMap kc) := by
  simp only [Rel, RelF] at h
  obtain ⟨base, rc, rfl, hn, hbn, hsp, hel⟩ := h
  have hlen : ∀ l : List α, (l.flatMap kc).length = l.length * 11 := by
    intro l
    induction l with
    | nil => rfl
    | cons a l ih => rw [List.flatMap_cons, List.length_append, ih, hk, List.length_cons]; omega
  refine ⟨⟨base, rc, rfl, hn, ?_⟩, hlen l, fun u hu => ?_⟩
  · cases base with
    | none =>
      refine .inl ⟨rfl, ?_⟩
      rcases Nat.eq_zero_or_pos l.length with h0 | h0
      · exact h0
      · obtain ⟨a, _, _, e, _⟩ := hel 0 h0; cases e
    | some a =>
      refine .inr ⟨a, rfl, fun j u hj => ?_⟩
      have hjl : j < l.length * 11 := by rw [← hlen l]; exact (List.getElem?_eq_some_iff.1 hj).1
      have hi : j / 11 < l.length := by omega
      have hr : j % 11 < 11 := Nat.mod_lt _ (by decide)
      have hd : j / 11 * 11 + j % 11 = j := by omega
      have hf := flat_at kc 11 hk l (j / 11) (j % 11) hi hr
      rw [hd, hj] at hf
      obtain ⟨a', cells, vs, e, hc, hv, hvl, hla, _⟩ := hel (j / 11) hi
      cases e
      obtain ⟨E, fr, hh⟩ := hp.fro _ _ hc
      have hvs : vs = kc (l.getD (j / 11) default) := hdet _ _ _ hv
      have h2 := hla (j % 11) u (by rw [hvs]; exact hf.symm)
      have hs := hsp a rfl (by omega)
      rw [add_off hs]
      unfold World.cell?
      simp only [hh]
      rw [show a.off + j = a.off + j / 11 * 11 + j % 11 by omega]
      simpa using h2
  · obtain ⟨x, _, hx⟩ := List.mem_flatMap.1 hu
    exact h1 x u hx
theorem cc46_tri {α : Type} [Inhabited α] {enc : α → List LV} {kc : α → List Value} (henc : ∀ φ x, RelFL φ (enc x) (kc x)) (hdet : ∀ φ x vs, RelFL φ (enc x) vs → vs = kc x) (hk : ∀ x, (kc x).length = 11) (h1 : ∀ x, ∀ v ∈ kc x, v.oneCell' = true)
    (enc2 : List α → List LV) (he : ∀ z, enc2 z = [.ds 11 z.length (rowF enc default z)]) (l m : List α) (h0 : 0 < l.length) (h : (l.length + m.length) * 16 ≤ 140737488351232) :
    FnTri Tryd.prog 46 [.ds 1 2 (rowF enc2 default [l, m])] [] (.ds 11 (l ++ m).length (rowF enc default (l ++ m))) [] := by
  refine ⟨⟨Tryd.f46, Tryd.func46, by kernel_rfl, by kernel_rfl⟩, fun μ w vals hr hp _ => ?_⟩
  obtain ⟨x, r, rfl, hx, hr'⟩ := hr
  cases hr'
  simp only [Rel, RelF] at hx
  obtain ⟨base, rc, rfl, hrc, hbn, hsp, hel⟩ := hx
  obtain ⟨a, cells, vs1, rfl, hc, r1, q1, z1, _⟩ := hel 0 (by omega)
  obtain ⟨a2, cells2, vs2, ea, hc', r2, q2, z2, _⟩ := hel 1 (by omega)
  cases ea
  obtain rfl := Option.some.inj (hc.symm.trans hc')
  have f0 : rowF enc2 default [l, m] 0 = [.ds 11 l.length (rowF enc default l)] := he l
  have f1 : rowF enc2 default [l, m] 1 = [.ds 11 m.length (rowF enc default m)] := he m
  rw [f0] at r1
  rw [f1] at r2
  obtain ⟨v1, t1, rfl, rel1, e1⟩ := r1
  cases e1
  obtain ⟨v2, t2, rfl, rel2, e2⟩ := r2
  cases e2
  obtain ⟨E, fr, hh⟩ := hp.fro _ _ hc
  have hs := hsp a rfl (by omega)
  obtain ⟨rb, off, sp⟩ := a
  simp only at hs
  subst hs
  have hc1 : w.cell? ⟨rb, off, none⟩ = some v1 := by
    unfold World.cell?
    simp only at hh
    simp only [hh]
    have := z1 0 v1 rfl
    simpa using this
  have hc2 : w.cell? ⟨rb, off + 1, none⟩ = some v2 := by
    unfold World.cell?
    simp only at hh
    simp only [hh]
    have := z2 0 v2 rfl
    simpa using this
  have hrb : rb < w.heap.size := (Array.getElem?_eq_some_iff.1 hh).1
  have hcalls := cc46_calls w rb off rc v1 v2 l.length m.length _ _ hrc hc1 hc2 hrb (cc46_src_of hdet hk h1 hp rel1) (cc46_src_of hdet hk h1 hp rel2) h0 h
  refine hcalls.mono ?_
  rintro e w' ⟨v, rfl, hrow, hb, hd⟩
  rw [← List.flatMap_append, ← List.length_append] at hrow
  obtain ⟨μ', k1, k2⟩ := sorted_fin (enc := enc) (kc := kc) (k := 11) (L := l ++ m) (v := v) henc hk h1 hp hb hd (sortedAt_owns (enc := kc) (k := 11) hk (Nat.le_refl w.heap.size) hrow)
  exact ⟨v, μ', rfl, k1, k2⟩
/-- Numbers and truths, as they lie. -/
def cc46_kv : LV → Value
  | .int k n => .int k n
  | .bool b => .bool b
  | _ => .int .i64 0
def cc46_ib : LV → Bool
  | .int _ _ => true
  | .bool _ => true
  | _ => false
theorem cc46_kv_rel (φ : Fro) : ∀ l : List LV, l.all cc46_ib = true → RelFL φ l (l.map cc46_kv)
  | [], _ => rfl
  | c :: l, h => by
    rw [List.all_cons, Bool.and_eq_true] at h
    refine ⟨_, _, rfl, ?_, cc46_kv_rel φ l h.2⟩
    cases c <;> first | rfl | (simp [cc46_ib] at h; done)
theorem cc46_kv_det (φ : Fro) : ∀ (l : List LV) (vs : List Value), l.all cc46_ib = true → RelFL φ l vs → vs = l.map cc46_kv
  | [], vs, _, h => h
  | c :: l, vs, h, ⟨v, r, e, h1, h2⟩ => by
    rw [List.all_cons, Bool.and_eq_true] at h
    subst e
    rw [List.map_cons, cc46_kv_det φ l r h.2 h2]
    congr 1
    cases c <;> first | exact h1 | (simp [cc46_ib] at h; done)
theorem cc46_kv_one (l : List LV) : ∀ v ∈ l.map cc46_kv, v.oneCell' = true := by
  intro v hv
  obtain ⟨c, _, rfl⟩ := List.mem_map.1 hv
  cases c <;> rfl
/-- **slices.Concat of two** -/
theorem cc46_con {α : Type} [Inhabited α] (enc : α → List LV) (hib : ∀ x, (enc x).all cc46_ib = true) (hk : ∀ x, (enc x).length = 11) (enc2 : List α → List LV) (he : ∀ z, enc2 z = [.ds 11 z.length (rowF enc default z)]) (l m : List α) (h0 : 0 < l.length) (h : (l.length + m.length) * 16 ≤ 140737488351232) :
    FnTri Tryd.prog 46 [.ds 1 2 (rowF enc2 default [l, m])] [] (.ds 11 (l ++ m).length (rowF enc default (l ++ m))) [] :=
  cc46_tri (kc := fun x => (enc x).map cc46_kv) (fun φ x => cc46_kv_rel φ _ (hib x)) (fun φ x vs => cc46_kv_det φ _ vs (hib x)) (fun x => by rw [List.length_map]; exact hk x) (fun x => cc46_kv_one _) enc2 he l m h0 h

/-- strings.trimRightByte -/

def strings_trimRightByte_v (r : (List UInt8)) : LV := .str r

def strings_trimRightByte_T0 (c : Int) (s2 : List UInt8) : List LV := [.str s2, .int .u8 c, .any, .any, .any, .any, .any, .any, .any, .any, .any, .any, .any, .any, .any, .any, .any, .any, .any, .any, .any, .any, .any]

def strings_trimRightByte_H0 (c : Int) (s2 : List UInt8) : Heap := []

def strings_trimRightByte_l0 (c : Int)  : Nat → (List UInt8) → Option ((List UInt8))
  | 0, _ => none
  | fuel + 1, s2 =>
    if ((decide (0 < ((s2).length : Int))) : Bool) then
      if 0 ≤ (IntKind.wrap .i64 (((s2).length : Int) - 1)) ∧ (IntKind.wrap .i64 (((s2).length : Int) - 1)) < (((s2).length : Nat) : Int) then
      if ((((s2.getD ((IntKind.wrap .i64 (((s2).length : Int) - 1))).toNat 0).toNat : Int) == c) : Bool) then
        if 0 ≤ (0 : Int) ∧ (0 : Int) ≤ (IntKind.wrap .i64 (((s2).length : Int) - 1)) ∧ (IntKind.wrap .i64 (((s2).length : Int) - 1)) ≤ (((s2).length : Nat) : Int) then
        strings_trimRightByte_l0 c  fuel ((s2.drop 0).take (((IntKind.wrap .i64 (((s2).length : Int) - 1))).toNat - 0))
        else none
      else
        some s2
      else none
    else
      some s2

def strings_trimRightByte (s : List UInt8) (c : Int) : Option ((List UInt8)) :=
  strings_trimRightByte_l0 c  big s

theorem strings_trimRightByte_l0_ok {w0 : World} {W : Nat → Prop} {μ0 : Emb} (hμ : ∀ c p, μ0 c = some p → c < 0) (c : Int)  : ∀ (fuel : Nat) (s2 : List UInt8) (r : (List UInt8)), strings_trimRightByte_l0 c  fuel s2 = some r → kont Tryd.prog w0 W μ0 (FnPost Tryd.prog Tryd.f78 0 0 (strings_trimRightByte_v r) []) (kAt (bodyOf Tryd.f78) 0) none (strings_trimRightByte_T0 c s2) (strings_trimRightByte_H0 c s2) := by
  intro fuel
  induction fuel with
  | zero => intro s2 r h; rw [strings_trimRightByte_l0] at h; cases h
  | succ fuel ih =>
    intro s2 r h
    rw [strings_trimRightByte_l0] at h
    rcases itb_some h with ⟨cL0_1, h⟩ | ⟨cL0_1, h⟩
    · skip
      obtain ⟨gL0_2, h⟩ := guard_some h
      rcases itb_some h with ⟨cL0_3, h⟩ | ⟨cL0_3, h⟩
      · skip
        obtain ⟨gL0_4, h⟩ := guard_some h
        exact run_to mixed hμ (L := []) (n := 20) (s := [.go, .reg [(3, { v := some (.bool true) }), (11, { v := some (.bool true) })], .reg []])
          (a_ (r1_ (r2_ (a_ (a_ tr (a_ (leB cL0_1) tr)) (r4_ (a_ (a_ gL0_2 tr) (r2_ (a_ (a_ tr (a_ (leB cL0_3) tr)) tr))))))) (a_ (r4_ (a_ (a_ gL0_4 tr) (r1_ tr))) tr)) (ih _ r h) (by kernel_rfl) trivial
      · skip
        obtain rfl := Option.some.inj h
        exact run_ret mixed (L := []) (n := 19) (s := [.go, .reg [(3, { v := some (.bool true) }), (11, { v := some (.bool false) })], .reg []])
          (a_ (a_ (r1_ (r2_ (a_ (a_ tr (a_ (leB cL0_1) tr)) (r4_ (a_ (a_ gL0_2 tr) (r2_ (a_ (a_ tr (a_ (leB cL0_3) tr)) tr))))))) (a_ (r2_ tr) tr)) tr) (by kernel_rfl) rfl
    · skip
      obtain rfl := Option.some.inj h
      exact run_ret mixed (L := []) (n := 19) (s := [.go, .reg [(3, { v := some (.bool false) })], .reg []])
        (a_ (a_ (r1_ (r2_ (a_ (a_ tr (a_ (leB cL0_1) tr)) (a_ tr (t2_ (t4_ (r1_ tr))))))) (a_ (r2_ tr) tr)) tr) (by kernel_rfl) rfl

theorem strings_trimRightByte_ok (s : List UInt8) (c : Int) (r : (List UInt8)) (h : strings_trimRightByte s c = some r) : ∀ σ, Inj 0 σ → FnTri Tryd.prog 78 (renL σ [.str s, .int .u8 c]) (preOf σ 0 []) ((strings_trimRightByte_v r).ren σ) (upOf σ []) := by
  refine fn_of Tryd.func78 (by kernel_rfl) (by kernel_rfl) (by kernel_rfl) trivial (by kernel_rfl) trivial (by kernel_rfl) ?_
  intro w0 W μ0 hμ
  unfold strings_trimRightByte at h
  exact run_to mixed hμ (L := []) (n := 15) (s := [.reg []])
    (a_ (r1_ tr) tr) (strings_trimRightByte_l0_ok hμ c  big _ r h) (by kernel_rfl) trivial

theorem strings_trimRightByte_tri (s : List UInt8) (c : Int) (r : (List UInt8)) (h : strings_trimRightByte s c = some r) : FnTri Tryd.prog 78 [.str s, .int .u8 c] [] (strings_trimRightByte_v r) [] := FnTri.none (strings_trimRightByte_ok s c r h) rfl rfl

/-- strings.TrimRight -/

def strings_TrimRight_v (r : (List UInt8)) : LV := .str r

def strings_TrimRight (s : List UInt8) : Option ((List UInt8)) :=
  if ((s == []) : Bool) then
    some s
  else
    (strings_trimRightByte s 0).bind fun y3 =>
    some y3

theorem strings_TrimRight_ok (s : List UInt8) (r : (List UInt8)) (h : strings_TrimRight s = some r) : ∀ σ, Inj 0 σ → FnTri Tryd.prog 71 (renL σ [.str s, .str ([0] : List UInt8)]) (preOf σ 0 []) ((strings_TrimRight_v r).ren σ) (upOf σ []) := by
  refine fn_of Tryd.func71 (by kernel_rfl) (by kernel_rfl) (by kernel_rfl) trivial (by kernel_rfl) trivial (by kernel_rfl) ?_
  intro w0 W μ0 hμ
  unfold strings_TrimRight at h
  rcases itb_some h with ⟨c1, h⟩ | ⟨c1, h⟩
  · skip
    obtain rfl := Option.some.inj h
    exact run_ret mixed (L := []) (n := 20) (s := [.reg [], .reg [(2, { v := some (.bool true) })], .reg []])
      (a_ (a_ (r1_ tr) (a_ (r2_ (a_ (a_ tr (a_ (leB c1) tr)) (t2_ (r1_ tr)))) (a_ (r2_ tr) tr))) tr) (by kernel_rfl) rfl
  · skip
    obtain ⟨y3, e2, h⟩ := bind_some h
    obtain rfl := Option.some.inj h
    exact run_ret mixed (L := []) (n := 26) (s := [.reg [], .reg [(2, { v := some (.bool false) })], .reg [], .reg [(3, { call := some (strings_trimRightByte_v y3, [], []) })]])
      (a_ (a_ (r1_ tr) (a_ (r2_ (a_ (a_ tr (a_ (leB c1) tr)) (r1_ (r2_ tr)))) (a_ (r1_ (r4_ (a_ (a_ (a_ (lei_ 0 0 rfl) (lti_ 0 1 rfl)) tr) (r2_ tr)))) (a_ (r2_ (a_ (a_ (a_ (lei_ 0 0 rfl) (lti_ 0 1 rfl)) tr) (a_ (a_ (a_ (strings_trimRightByte_tri s 0 y3 e2) tr) tr) (r1_ tr)))) tr)))) tr) (by kernel_rfl) rfl

theorem strings_TrimRight_tri (s : List UInt8) (r : (List UInt8)) (h : strings_TrimRight s = some r) : FnTri Tryd.prog 71 [.str s, .str ([0] : List UInt8)] [] (strings_TrimRight_v r) [] := FnTri.none (strings_TrimRight_ok s r h) rfl rfl

/-- internal/stringslite.IndexByte -/

def internal_stringslite_IndexByte_v (r : (Int)) : LV := .int .i64 r

def internal_stringslite_IndexByte (s : List UInt8) (c : Int) : Option ((Int)) :=
  some (Lib.indexByte s (c).toNat.toUInt8)

theorem internal_stringslite_IndexByte_ok (s : List UInt8) (c : Int) (r : (Int)) (h : internal_stringslite_IndexByte s c = some r) : ∀ σ, Inj 0 σ → FnTri Tryd.prog 86 (renL σ [.str s, .int .u8 c]) (preOf σ 0 []) ((internal_stringslite_IndexByte_v r).ren σ) (upOf σ []) := by
  refine fn_of Tryd.func86 (by kernel_rfl) (by kernel_rfl) (by kernel_rfl) trivial (by kernel_rfl) trivial (by kernel_rfl) ?_
  intro w0 W μ0 hμ
  unfold internal_stringslite_IndexByte at h
  obtain rfl := Option.some.inj h
  exact run_ret mixed (L := []) (n := 15) (s := [.reg [], .reg [(2, { ext := some (.int .i64 (Lib.indexByte s (c).toNat.toUInt8)) })]])
    (a_ (a_ (r1_ tr) (a_ (r2_ (a_ (a_ (ext90 s c) tr) (r1_ tr))) tr)) tr) (by kernel_rfl) rfl

theorem internal_stringslite_IndexByte_tri (s : List UInt8) (c : Int) (r : (Int)) (h : internal_stringslite_IndexByte s c = some r) : FnTri Tryd.prog 86 [.str s, .int .u8 c] [] (internal_stringslite_IndexByte_v r) [] := FnTri.none (internal_stringslite_IndexByte_ok s c r h) rfl rfl

/-- strings.IndexByte -/

def strings_IndexByte_v (r : (Int)) : LV := .int .i64 r

def strings_IndexByte (s : List UInt8) (c : Int) : Option ((Int)) :=
  (internal_stringslite_IndexByte s c).bind fun y2 =>
  some y2

theorem strings_IndexByte_ok (s : List UInt8) (c : Int) (r : (Int)) (h : strings_IndexByte s c = some r) : ∀ σ, Inj 0 σ → FnTri Tryd.prog 82 (renL σ [.str s, .int .u8 c]) (preOf σ 0 []) ((strings_IndexByte_v r).ren σ) (upOf σ []) := by
  refine fn_of Tryd.func82 (by kernel_rfl) (by kernel_rfl) (by kernel_rfl) trivial (by kernel_rfl) trivial (by kernel_rfl) ?_
  intro w0 W μ0 hμ
  unfold strings_IndexByte at h
  obtain ⟨y2, e1, h⟩ := bind_some h
  obtain rfl := Option.some.inj h
  exact run_ret mixed (L := []) (n := 15) (s := [.reg [], .reg [(2, { call := some (internal_stringslite_IndexByte_v y2, [], []) })]])
    (a_ (a_ (r1_ tr) (a_ (r2_ (a_ (a_ (a_ (internal_stringslite_IndexByte_tri s c y2 e1) tr) tr) (r1_ tr))) tr)) tr) (by kernel_rfl) rfl

theorem strings_IndexByte_tri (s : List UInt8) (c : Int) (r : (Int)) (h : strings_IndexByte s c = some r) : FnTri Tryd.prog 82 [.str s, .int .u8 c] [] (strings_IndexByte_v r) [] := FnTri.none (strings_IndexByte_ok s c r h) rfl rfl

/-- parrel/ids.KeyOf -/

def ids_KeyOf_v (r : (A8 (Int)) × (Int)) : LV := .tup [.agg [.int .u8 r.1.a0, .int .u8 r.1.a1, .int .u8 r.1.a2, .int .u8 r.1.a3, .int .u8 r.1.a4, .int .u8 r.1.a5, .int .u8 r.1.a6, .int .u8 r.1.a7], .int .i64 r.2]

def ids_KeyOf (s : List UInt8) : Option ((A8 (Int)) × (Int)) :=
  if ((s == []) : Bool) then
    some ((A8.mk 0 0 0 0 0 0 0 0), 1)
  else
    if ((decide (8 < ((s).length : Int))) : Bool) then
      some ((A8.mk 0 0 0 0 0 0 0 0), 1)
    else
      (strings_IndexByte s 0).bind fun y4 =>
      if ((decide (0 ≤ y4)) : Bool) then
        some ((A8.mk 0 0 0 0 0 0 0 0), 1)
      else
        some ((A8.mk (if 0 < (s).length then ((s.getD 0 0).toNat : Int) else 0) (if 1 < (s).length then ((s.getD 1 0).toNat : Int) else 0) (if 2 < (s).length then ((s.getD 2 0).toNat : Int) else 0) (if 3 < (s).length then ((s.getD 3 0).toNat : Int) else 0) (if 4 < (s).length then ((s.getD 4 0).toNat : Int) else 0) (if 5 < (s).length then ((s.getD 5 0).toNat : Int) else 0) (if 6 < (s).length then ((s.getD 6 0).toNat : Int) else 0) (if 7 < (s).length then ((s.getD 7 0).toNat : Int) else 0)), 0)

theorem ids_KeyOf_ok (s : List UInt8) (r : (A8 (Int)) × (Int)) (h : ids_KeyOf s = some r) : ∀ σ, Inj 0 σ → FnTri Tryd.prog 72 (renL σ [.str s]) (preOf σ 0 []) ((ids_KeyOf_v r).ren σ) (upOf σ []) := by
  refine fn_of Tryd.func72 (by kernel_rfl) (by kernel_rfl) (by kernel_rfl) trivial (by kernel_rfl) trivial (by kernel_rfl) ?_
  intro w0 W μ0 hμ
  unfold ids_KeyOf at h
  rcases itb_some h with ⟨c1, h⟩ | ⟨c1, h⟩
  · skip
    obtain rfl := Option.some.inj h
    exact run_ret mixed (L := []) (n := 23) (s := [.reg [], .reg [], .reg [(2, { v := some (.bool true) })], .reg []])
      (a_ (a_ (r2_ tr) (a_ (r1_ tr) (a_ (r2_ (a_ (a_ tr (a_ (leB c1) tr)) (a_ tr (t2_ (r2_ (a_ tr (t2_ (r1_ tr)))))))) (a_ (a_ (a_ (a_ tr (le_ 8 8 rfl)) tr) (a_ (a_ (a_ (Eq.refl 8) (a_ (le_ 8 8 rfl) (Eq.refl 0))) tr) (r1_ tr))) tr)))) (a_ (a_ tr (le_ 8 8 rfl)) tr)) (by kernel_rfl) rfl
  · skip
    rcases itb_some h with ⟨c2, h⟩ | ⟨c2, h⟩
    · skip
      obtain rfl := Option.some.inj h
      exact run_ret mixed (L := []) (n := 23) (s := [.reg [], .reg [], .reg [(2, { v := some (.bool false) }), (7, { v := some (.bool true) })], .reg []])
        (a_ (a_ (r2_ tr) (a_ (r1_ tr) (a_ (r2_ (a_ (a_ tr (a_ (leB c1) tr)) (r4_ (a_ (a_ tr (a_ (leB c2) tr)) (a_ tr (t2_ (r1_ tr))))))) (a_ (a_ (a_ (a_ tr (le_ 8 8 rfl)) tr) (a_ (a_ (a_ (Eq.refl 8) (a_ (le_ 8 8 rfl) (Eq.refl 0))) tr) (r1_ tr))) tr)))) (a_ (a_ tr (le_ 8 8 rfl)) tr)) (by kernel_rfl) rfl
    · skip
      obtain ⟨y4, e3, h⟩ := bind_some h
      rcases itb_some h with ⟨c5, h⟩ | ⟨c5, h⟩
      · skip
        obtain rfl := Option.some.inj h
        exact run_ret mixed (L := []) (n := 23) (s := [.reg [], .reg [], .reg [(2, { v := some (.bool false) }), (7, { v := some (.bool false) }), (9, { call := some (strings_IndexByte_v y4, [], []) }), (11, { v := some (.bool true) })], .reg []])
          (a_ (a_ (r2_ tr) (a_ (r1_ tr) (a_ (r2_ (a_ (a_ tr (a_ (leB c1) tr)) (r4_ (a_ (a_ tr (a_ (leB c2) tr)) (r1_ (a_ (a_ (a_ (strings_IndexByte_tri s 0 y4 e3) tr) tr) (r1_ (a_ (a_ tr (a_ (leB c5) tr)) tr)))))))) (a_ (a_ (a_ (a_ tr (le_ 8 8 rfl)) tr) (a_ (a_ (a_ (Eq.refl 8) (a_ (le_ 8 8 rfl) (Eq.refl 0))) tr) (r1_ tr))) tr)))) (a_ (a_ tr (le_ 8 8 rfl)) tr)) (by kernel_rfl) rfl
      · skip
        obtain rfl := Option.some.inj h
        exact run_ret mixed (L := []) (n := 27) (s := [.reg [], .reg [], .reg [(2, { v := some (.bool false) }), (7, { v := some (.bool false) }), (9, { call := some (strings_IndexByte_v y4, [], []) }), (11, { v := some (.bool false) })], .reg [], .reg []])
          (a_ (a_ (r2_ tr) (a_ (r1_ tr) (a_ (r2_ (a_ (a_ tr (a_ (leB c1) tr)) (r4_ (a_ (a_ tr (a_ (leB c2) tr)) (r1_ (a_ (a_ (a_ (strings_IndexByte_tri s 0 y4 e3) tr) tr) (r1_ (a_ (a_ tr (a_ (leB c5) tr)) tr)))))))) (a_ (a_ (a_ (a_ (lei_ 0 0 rfl) (a_ (lei_ 0 8 rfl) (lei_ 8 8 rfl))) tr) (r1_ (a_ (a_ (a_ (Eq.refl 1) (a_ (Eq.refl 0) (a_ (le_ 8 8 rfl) (Eq.refl true)))) tr) tr))) (a_ (a_ (a_ (a_ tr (le_ 8 8 rfl)) tr) (a_ (a_ (a_ (Eq.refl 8) (a_ (le_ 8 8 rfl) (Eq.refl 0))) tr) (r1_ tr))) tr))))) (a_ (a_ tr (le_ 8 8 rfl)) tr)) (by kernel_rfl) rfl

theorem ids_KeyOf_tri (s : List UInt8) (r : (A8 (Int)) × (Int)) (h : ids_KeyOf s = some r) : FnTri Tryd.prog 72 [.str s] [] (ids_KeyOf_v r) [] := FnTri.none (ids_KeyOf_ok s r h) rfl rfl

/-- parrel/ids.Name -/

def ids_Name_v (r : (List UInt8) × (Bool)) : LV := .tup [.str r.1, .bool r.2]

def ids_Name (x_k : A8 (Int)) : Option ((List UInt8) × (Bool)) :=
  (strings_TrimRight (strI (([x_k.a0, x_k.a1, x_k.a2, x_k.a3, x_k.a4, x_k.a5, x_k.a6, x_k.a7] : List Int).take 8))).bind fun y2 =>
  (ids_KeyOf y2).bind fun y4 =>
  if ((y4.2 != 0) : Bool) then
    some ([], false)
  else
    if ((!decide (y4.1 = x_k)) : Bool) then
      some ([], false)
    else
      some (y2, true)

theorem ids_Name_ok (x_k : A8 (Int)) (r : (List UInt8) × (Bool)) (h : ids_Name x_k = some r) : ∀ σ, Inj 0 σ → FnTri Tryd.prog 62 (renL σ [.agg [.int .u8 x_k.a0, .int .u8 x_k.a1, .int .u8 x_k.a2, .int .u8 x_k.a3, .int .u8 x_k.a4, .int .u8 x_k.a5, .int .u8 x_k.a6, .int .u8 x_k.a7]]) (preOf σ 0 []) ((ids_Name_v r).ren σ) (upOf σ []) := by
  refine fn_of Tryd.func62 (by kernel_rfl) (by kernel_rfl) (by kernel_rfl) trivial (by kernel_rfl) trivial (by kernel_rfl) ?_
  intro w0 W μ0 hμ
  unfold ids_Name at h
  obtain ⟨y2, e1, h⟩ := bind_some h
  obtain ⟨y4, e3, h⟩ := bind_some h
  rcases itb_some h with ⟨c5, h⟩ | ⟨c5, h⟩
  · skip
    obtain rfl := Option.some.inj h
    exact run_ret mixed (L := []) (n := 26) (s := [.reg [], .reg [(1, { v := some (.str (strI (([x_k.a0, x_k.a1, x_k.a2, x_k.a3, x_k.a4, x_k.a5, x_k.a6, x_k.a7] : List Int).take 8))) }), (2, { call := some (strings_TrimRight_v y2, [], []) })], .reg [(1, { call := some (ids_KeyOf_v y4, [], []) })], .reg [(2, { v := some (.bool true) })], .reg []])
      (a_ (a_ (r1_ (r2_ tr)) (a_ (a_ (a_ (a_ (lei_ 0 0 rfl) (a_ (lei_ 0 8 rfl) (lei_ 8 8 rfl))) tr) (a_ (a_ (arr_ob [x_k.a0, x_k.a1, x_k.a2, x_k.a3, x_k.a4, x_k.a5, x_k.a6, x_k.a7] 8 8 (le_ 8 8 rfl) rfl) (a_ (le_arr [x_k.a0, x_k.a1, x_k.a2, x_k.a3, x_k.a4, x_k.a5, x_k.a6, x_k.a7] 8 8 (le_ 8 8 rfl) rfl) tr)) (a_ (a_ (a_ (strings_TrimRight_tri (strI (([x_k.a0, x_k.a1, x_k.a2, x_k.a3, x_k.a4, x_k.a5, x_k.a6, x_k.a7] : List Int).take 8)) y2 e1) tr) tr) (r1_ tr)))) (a_ (r1_ (a_ (a_ (a_ (ids_KeyOf_tri y2 y4 e3) tr) tr) (r4_ (a_ (a_ (a_ (Eq.refl 8) (a_ (le_ 8 8 rfl) (Eq.refl 0))) tr) (r1_ tr))))) (a_ (r2_ (a_ (a_ tr (a_ (leB c5) tr)) (a_ tr (t2_ (r1_ tr))))) (a_ (r2_ tr) tr))))) tr) (by kernel_rfl) rfl
  · skip
    rcases itb_some h with ⟨c6, h⟩ | ⟨c6, h⟩
    · skip
      obtain rfl := Option.some.inj h
      exact run_ret mixed (L := []) (n := 26) (s := [.reg [], .reg [(1, { v := some (.str (strI (([x_k.a0, x_k.a1, x_k.a2, x_k.a3, x_k.a4, x_k.a5, x_k.a6, x_k.a7] : List Int).take 8))) }), (2, { call := some (strings_TrimRight_v y2, [], []) })], .reg [(1, { call := some (ids_KeyOf_v y4, [], []) })], .reg [(2, { v := some (.bool false) }), (5, { v := some (.bool (!decide (y4.1 = x_k))) }), (6, { v := some (.bool true) })], .reg []])
        (a_ (a_ (r1_ (r2_ tr)) (a_ (a_ (a_ (a_ (lei_ 0 0 rfl) (a_ (lei_ 0 8 rfl) (lei_ 8 8 rfl))) tr) (a_ (a_ (arr_ob [x_k.a0, x_k.a1, x_k.a2, x_k.a3, x_k.a4, x_k.a5, x_k.a6, x_k.a7] 8 8 (le_ 8 8 rfl) rfl) (a_ (le_arr [x_k.a0, x_k.a1, x_k.a2, x_k.a3, x_k.a4, x_k.a5, x_k.a6, x_k.a7] 8 8 (le_ 8 8 rfl) rfl) tr)) (a_ (a_ (a_ (strings_TrimRight_tri (strI (([x_k.a0, x_k.a1, x_k.a2, x_k.a3, x_k.a4, x_k.a5, x_k.a6, x_k.a7] : List Int).take 8)) y2 e1) tr) tr) (r1_ tr)))) (a_ (r1_ (a_ (a_ (a_ (ids_KeyOf_tri y2 y4 e3) tr) tr) (r4_ (a_ (a_ (a_ (Eq.refl 8) (a_ (le_ 8 8 rfl) (Eq.refl 0))) tr) (r1_ tr))))) (a_ (r2_ (a_ (a_ tr (a_ (leB c5) tr)) (a_ (a_ (a_ tr (le_ 8 8 rfl)) tr) (a_ (a_ (a_ tr (le_ 8 8 rfl)) tr) (a_ (a_ tr (a_ (leB (congrArg not ((k_arr8 .u8) y4.1 x_k))) tr)) (a_ (a_ tr (a_ (leB c6) tr)) tr)))))) (a_ (r2_ tr) tr))))) tr) (by kernel_rfl) rfl
    · skip
      obtain rfl := Option.some.inj h
      exact run_ret mixed (L := []) (n := 27) (s := [.reg [], .reg [(1, { v := some (.str (strI (([x_k.a0, x_k.a1, x_k.a2, x_k.a3, x_k.a4, x_k.a5, x_k.a6, x_k.a7] : List Int).take 8))) }), (2, { call := some (strings_TrimRight_v y2, [], []) })], .reg [(1, { call := some (ids_KeyOf_v y4, [], []) })], .reg [(2, { v := some (.bool false) }), (5, { v := some (.bool (!decide (y4.1 = x_k))) }), (6, { v := some (.bool false) })], .reg []])
        (a_ (a_ (r1_ (r2_ tr)) (a_ (a_ (a_ (a_ (lei_ 0 0 rfl) (a_ (lei_ 0 8 rfl) (lei_ 8 8 rfl))) tr) (a_ (a_ (arr_ob [x_k.a0, x_k.a1, x_k.a2, x_k.a3, x_k.a4, x_k.a5, x_k.a6, x_k.a7] 8 8 (le_ 8 8 rfl) rfl) (a_ (le_arr [x_k.a0, x_k.a1, x_k.a2, x_k.a3, x_k.a4, x_k.a5, x_k.a6, x_k.a7] 8 8 (le_ 8 8 rfl) rfl) tr)) (a_ (a_ (a_ (strings_TrimRight_tri (strI (([x_k.a0, x_k.a1, x_k.a2, x_k.a3, x_k.a4, x_k.a5, x_k.a6, x_k.a7] : List Int).take 8)) y2 e1) tr) tr) (r1_ tr)))) (a_ (r1_ (a_ (a_ (a_ (ids_KeyOf_tri y2 y4 e3) tr) tr) (r4_ (a_ (a_ (a_ (Eq.refl 8) (a_ (le_ 8 8 rfl) (Eq.refl 0))) tr) (r1_ tr))))) (a_ (r2_ (a_ (a_ tr (a_ (leB c5) tr)) (a_ (a_ (a_ tr (le_ 8 8 rfl)) tr) (a_ (a_ (a_ tr (le_ 8 8 rfl)) tr) (a_ (a_ tr (a_ (leB (congrArg not ((k_arr8 .u8) y4.1 x_k))) tr)) (a_ (a_ tr (a_ (leB c6) tr)) tr)))))) (a_ (r1_ (r2_ tr)) tr))))) tr) (by kernel_rfl) rfl

theorem ids_Name_tri (x_k : A8 (Int)) (r : (List UInt8) × (Bool)) (h : ids_Name x_k = some r) : FnTri Tryd.prog 62 [.agg [.int .u8 x_k.a0, .int .u8 x_k.a1, .int .u8 x_k.a2, .int .u8 x_k.a3, .int .u8 x_k.a4, .int .u8 x_k.a5, .int .u8 x_k.a6, .int .u8 x_k.a7]] [] (ids_Name_v r) [] := FnTri.none (ids_Name_ok x_k r h) rfl rfl

/-- parrel/votes.Of -/

def votes_Of_v (r : (Int)) : LV := .int .i64 r

def votes_Of_T0 (c : T_api_Config) (set : Int) (x_n : Int) (t10 : Int) : List LV := [.any, .int .u64 set, .any, .any, .any, .int .i64 x_n, .any, .any, .any, .agg [.int .u8 c.f_Votes.a0, .int .u8 c.f_Votes.a1, .int .u8 c.f_Votes.a2, .int .u8 c.f_Votes.a3, .int .u8 c.f_Votes.a4, .int .u8 c.f_Votes.a5, .int .u8 c.f_Votes.a6, .int .u8 c.f_Votes.a7], .int .i64 t10, .any, .any, .any, .any, .any, .any, .any, .any, .any, .any, .any, .any, .any, .any, .any]

def votes_Of_H0 (c : T_api_Config) (set : Int) (x_n : Int) (t10 : Int) : Heap := []

def votes_Of_l0 (c : T_api_Config) (set : Int)  : Nat → (Int) → (Int) → Option ((Int))
  | 0, _, _ => none
  | fuel + 1, x_n, t10 =>
    if ((decide (t10 < 8)) : Bool) then
      if 0 ≤ t10 ∧ t10 < 8 then
      if 0 ≤ t10 then
      votes_Of_l0 c set  fuel (IntKind.wrap .i64 (x_n + (IntKind.wrap .i64 ((IntKind.wrap .i64 (A8.get c.f_Votes t10.toNat)) * (IntKind.wrap .i64 (IntKind.wrap .u64 ((BitVec.ofInt (IntKind.bits .u64) (Int.fdiv set (2 ^ (min (Int.toNat t10) (IntKind.bits .u64)))) &&& BitVec.ofInt (IntKind.bits .u64) 1).toNat : Int))))))) (IntKind.wrap .i64 (t10 + 1))
      else none
      else none
    else
      some x_n

def votes_Of (c : T_api_Config) (set : Int) : Option ((Int)) :=
  votes_Of_l0 c set  big 0 0

theorem votes_Of_l0_ok {w0 : World} {W : Nat → Prop} {μ0 : Emb} (hμ : ∀ c p, μ0 c = some p → c < 0) (c : T_api_Config) (set : Int)  : ∀ (fuel : Nat) (x_n : Int) (t10 : Int) (r : (Int)), votes_Of_l0 c set  fuel x_n t10 = some r → kont Tryd.prog w0 W μ0 (FnPost Tryd.prog Tryd.f59 0 0 (votes_Of_v r) []) (kAt (bodyOf Tryd.f59) 0) none (votes_Of_T0 c set x_n t10) (votes_Of_H0 c set x_n t10) := by
  intro fuel
  induction fuel with
  | zero => intro x_n t10 r h; rw [votes_Of_l0] at h; cases h
  | succ fuel ih =>
    intro x_n t10 r h
    rw [votes_Of_l0] at h
    rcases itb_some h with ⟨cL0_1, h⟩ | ⟨cL0_1, h⟩
    · skip
      obtain ⟨gL0_2, h⟩ := guard_some h
      obtain ⟨gL0_3, h⟩ := guard_some h
      exact run_to mixed hμ (L := []) (n := 26) (s := [.go, .reg [(0, { v := some (.bool true) })], .reg [(1, { v := some (.int .u8 (A8.get c.f_Votes t10.toNat)) })], .reg [], .reg []])
        (a_ (a_ (a_ tr (a_ (leB cL0_1) tr)) tr) (a_ (r1_ (a_ (a_ (a_ gL0_2 (ix8lt gL0_2 1 8 rfl rfl)) (a_ (ix8s (cInt .u8) 1 (fun _ => rfl) c.f_Votes t10.toNat (lt8N gL0_2) (le_ 1 1 rfl)) tr)) (r2_ tr))) (a_ (r1_ (r4_ (a_ (a_ gL0_3 tr) (r1_ (r4_ tr))))) (a_ (r2_ tr) tr)))) (ih _ _ r h) (by kernel_rfl) trivial
    · skip
      obtain rfl := Option.some.inj h
      exact run_ret mixed (L := []) (n := 19) (s := [.go, .reg [(0, { v := some (.bool false) })], .reg []])
        (a_ (a_ (a_ (a_ tr (a_ (leB cL0_1) tr)) tr) (a_ (r2_ tr) tr)) tr) (by kernel_rfl) rfl

theorem votes_Of_ok (c : T_api_Config) (set : Int) (r : (Int)) (h : votes_Of c set = some r) : ∀ σ, Inj 0 σ → FnTri Tryd.prog 59 (renL σ [v_T_api_Config c, .int .u64 set]) (preOf σ 0 []) ((votes_Of_v r).ren σ) (upOf σ []) := by
  refine fn_of Tryd.func59 (by kernel_rfl) (by kernel_rfl) (by kernel_rfl) trivial (by kernel_rfl) trivial (by kernel_rfl) ?_
  intro w0 W μ0 hμ
  unfold votes_Of at h
  exact run_to mixed hμ (L := []) (n := 21) (s := [.reg [], .reg [], .reg []])
    (a_ (r2_ tr) (a_ (r1_ tr) (a_ (r1_ (a_ (a_ (a_ tr (le_ 11 11 rfl)) tr) (r1_ tr))) tr))) (votes_Of_l0_ok hμ c set  big _ _ r h) (by kernel_rfl) trivial

theorem votes_Of_tri (c : T_api_Config) (set : Int) (r : (Int)) (h : votes_Of c set = some r) : FnTri Tryd.prog 59 [v_T_api_Config c, .int .u64 set] [] (votes_Of_v r) [] := FnTri.none (votes_Of_ok c set r h) rfl rfl

/-- parrel/votes.Total -/

def votes_Total_v (r : (Int)) : LV := .int .i64 r

def votes_Total (c : T_api_Config) : Option ((Int)) :=
  (votes_Of c 255).bind fun y2 =>
  some y2

theorem votes_Total_ok (c : T_api_Config) (r : (Int)) (h : votes_Total c = some r) : ∀ σ, Inj 0 σ → FnTri Tryd.prog 73 (renL σ [v_T_api_Config c]) (preOf σ 0 []) ((votes_Total_v r).ren σ) (upOf σ []) := by
  refine fn_of Tryd.func73 (by kernel_rfl) (by kernel_rfl) (by kernel_rfl) trivial (by kernel_rfl) trivial (by kernel_rfl) ?_
  intro w0 W μ0 hμ
  unfold votes_Total at h
  obtain ⟨y2, e1, h⟩ := bind_some h
  obtain rfl := Option.some.inj h
  exact run_ret mixed (L := []) (n := 15) (s := [.reg [], .reg [(1, { call := some (votes_Of_v y2, [], []) })]])
    (a_ (a_ (r2_ tr) (a_ (a_ (a_ (a_ tr (le_ 11 11 rfl)) tr) (a_ (a_ (a_ (votes_Of_tri c 255 y2 e1) tr) tr) (r1_ tr))) tr)) tr) (by kernel_rfl) rfl

theorem votes_Total_tri (c : T_api_Config) (r : (Int)) (h : votes_Total c = some r) : FnTri Tryd.prog 73 [v_T_api_Config c] [] (votes_Total_v r) [] := FnTri.none (votes_Total_ok c r h) rfl rfl

/-- slices.Max[[]uint8,uint8] -/

def slices_Max_uint8_uint8_v (r : (Int)) : LV := .int .u8 r

def slices_Max_uint8_uint8_up (x : T_api_Config) (r : (Int)) : Upd := [(0, some (.var (c_T_api_Config x)))]

def slices_Max_uint8_uint8_objs (x : T_api_Config) : List LO := [.var (c_T_api_Config x)]

def slices_Max_uint8_uint8_T0 (x : T_api_Config) (m : Int) (i : Int) : List LV := [.sl 0 0 3 true 8 (some 8), .any, .any, .int .u8 m, .int .i64 i, .any, .any, .any, .any, .any, .any, .any, .any, .any, .any, .any, .any, .any, .any, .any, .any, .any, .any, .any, .any]

def slices_Max_uint8_uint8_H0 (x : T_api_Config) (m : Int) (i : Int) : Heap := [some (.var (c_T_api_Config x))]

def slices_Max_uint8_uint8_l0 (x : T_api_Config)  : Nat → (Int) → (Int) → Option ((Int))
  | 0, _, _ => none
  | fuel + 1, m, i =>
    if ((decide (i < 8)) : Bool) then
      if 0 ≤ i ∧ i < 8 then
      slices_Max_uint8_uint8_l0 x  fuel (if (A8.get x.f_Votes i.toNat) > m then (A8.get x.f_Votes i.toNat) else m) (IntKind.wrap .i64 (i + 1))
      else none
    else
      some m

def slices_Max_uint8_uint8 (x : T_api_Config) : Option ((Int)) :=
  slices_Max_uint8_uint8_l0 x  big x.f_Votes.a0 1

theorem slices_Max_uint8_uint8_l0_ok {w0 : World} {W : Nat → Prop} {μ0 : Emb} (hμ : ∀ c p, μ0 c = some p → c < 1) (x : T_api_Config)  : ∀ (fuel : Nat) (m : Int) (i : Int) (r : (Int)), slices_Max_uint8_uint8_l0 x  fuel m i = some r → kont Tryd.prog w0 W μ0 (FnPost Tryd.prog Tryd.f75 1 1 (slices_Max_uint8_uint8_v r) (slices_Max_uint8_uint8_up x r)) (kAt (bodyOf Tryd.f75) 0) none (slices_Max_uint8_uint8_T0 x m i) (slices_Max_uint8_uint8_H0 x m i) := by
  intro fuel
  induction fuel with
  | zero => intro m i r h; rw [slices_Max_uint8_uint8_l0] at h; cases h
  | succ fuel ih =>
    intro m i r h
    rw [slices_Max_uint8_uint8_l0] at h
    rcases itb_some h with ⟨cL0_1, h⟩ | ⟨cL0_1, h⟩
    · skip
      obtain ⟨gL0_2, h⟩ := guard_some h
      exact run_to mixed hμ (L := []) (n := 23) (s := [.go, .reg [(3, { v := some (.bool true) })], .reg [(4, { v := some (.int .u8 (A8.get x.f_Votes i.toNat)) })], .reg []])
        (a_ (r1_ (r2_ (a_ (a_ tr (a_ (leB cL0_1) tr)) tr))) (a_ (r1_ (r2_ (a_ (a_ gL0_2 tr) (a_ (a_ (a_ tr (arrLt (len := 8) gL0_2 3 1 11 rfl rfl)) (a_ (ld8s (cInt .u8) 1 (fun _ => rfl) x.f_Votes [.int .u32 x.f_Epoch, .int .u8 x.f_R, .int .u8 x.f_W] [] 3 rfl i.toNat (lt8N gL0_2) (le_ (0 + 1) 1 rfl)) tr)) (r2_ tr))))) (a_ (r1_ (r2_ tr)) tr))) (ih _ _ r h) (by kernel_rfl) ⟨rfl, trivial⟩
    · skip
      obtain rfl := Option.some.inj h
      exact run_ret mixed (L := []) (n := 19) (s := [.go, .reg [(3, { v := some (.bool false) })], .reg []])
        (a_ (a_ (r1_ (r2_ (a_ (a_ tr (a_ (leB cL0_1) tr)) tr))) (a_ (r2_ tr) tr)) tr) (by kernel_rfl) rfl

theorem slices_Max_uint8_uint8_ok (x : T_api_Config) (r : (Int)) (h : slices_Max_uint8_uint8 x = some r) : ∀ σ, Inj 1 σ → FnTri Tryd.prog 75 (renL σ [.sl 0 0 3 true 8 (some 8)]) (preOf σ 0 (slices_Max_uint8_uint8_objs x)) ((slices_Max_uint8_uint8_v r).ren σ) (upOf σ (slices_Max_uint8_uint8_up x r)) := by
  refine fn_of Tryd.func75 (by kernel_rfl) (by kernel_rfl) (by kernel_rfl) ⟨rfl, trivial⟩ (by kernel_rfl) ⟨rfl, trivial⟩ (by kernel_rfl) ?_
  intro w0 W μ0 hμ
  unfold slices_Max_uint8_uint8 at h
  exact run_to mixed hμ (L := []) (n := 27) (s := [.reg [], .reg [], .reg [], .reg []])
    (a_ (r1_ tr) (a_ (r1_ (r2_ tr)) (a_ (r1_ (a_ (a_ (a_ (lei_ 0 0 rfl) (lti_ 0 8 rfl)) tr) (a_ (a_ (a_ tr (lt_ 3 11 rfl)) tr) (r1_ tr)))) (a_ (r1_ tr) tr)))) (slices_Max_uint8_uint8_l0_ok hμ x  big _ _ r h) (by kernel_rfl) ⟨rfl, trivial⟩

/-- parrel/votes.May$1 -/

def votes_May_L1_v (r : (Bool)) : LV := .bool r

def votes_May_L1_up (x_n : Int) (x1 : Int) (r : (Bool)) : Upd := [(0, some (.var [.int .i64 x1]))]

def votes_May_L1_objs (x_n : Int) (x1 : Int) : List LO := [.var [.int .i64 x1]]

def votes_May_L1 (x_n : Int) (x1 : Int) : Option ((Bool)) :=
  if ((decide (1 ≤ x_n)) : Bool) then
    some (decide ((IntKind.wrap .i64 x_n) ≤ x1))
  else
    some false

theorem votes_May_L1_ok (x_n : Int) (x1 : Int) (r : (Bool)) (h : votes_May_L1 x_n x1 = some r) : ∀ σ, Inj 1 σ → FnTri Tryd.prog 74 (renL σ [.int .u8 x_n, .ptr 0 0 0]) (preOf σ 0 (votes_May_L1_objs x_n x1)) ((votes_May_L1_v r).ren σ) (upOf σ (votes_May_L1_up x_n x1 r)) := by
  refine fn_of Tryd.func74 (by kernel_rfl) (by kernel_rfl) (by kernel_rfl) ⟨rfl, trivial⟩ (by kernel_rfl) ⟨rfl, trivial⟩ (by kernel_rfl) ?_
  intro w0 W μ0 hμ
  unfold votes_May_L1 at h
  rcases itb_some h with ⟨c1, h⟩ | ⟨c1, h⟩
  · skip
    obtain rfl := Option.some.inj h
    exact run_ret mixed (L := []) (n := 15) (s := [.reg [], .reg [(2, { v := some (.bool true) })]])
      (a_ (a_ (r1_ tr) (a_ (r2_ (a_ (a_ tr (a_ (leB c1) tr)) (r2_ (a_ (a_ (a_ tr (lt_ 0 1 rfl)) tr) (r1_ (r2_ tr)))))) tr)) tr) (by kernel_rfl) rfl
  · skip
    obtain rfl := Option.some.inj h
    exact run_ret mixed (L := []) (n := 15) (s := [.reg [], .reg [(2, { v := some (.bool false) })]])
      (a_ (a_ (r1_ tr) (a_ (r2_ (a_ (a_ tr (a_ (leB c1) tr)) (t4_ (r2_ tr)))) tr)) tr) (by kernel_rfl) rfl

/-- parrel/votes.May -/

def votes_May_v (r : (Bool)) : LV := .bool r

def votes_May (c : T_api_Config) : Option ((Bool)) :=
  (votes_Total c).bind fun y2 =>
  if ((decide ((IntKind.wrap .u32 (c.f_Epoch - 1)) < 2147483647)) : Bool) then
    (slices_Max_uint8_uint8 c).bind fun y5 =>
    if ((decide (y5 ≤ 15)) : Bool) then
      (votes_May_L1 c.f_R y2).bind fun y8 =>
      if (y8 : Bool) then
        (votes_May_L1 c.f_W y2).bind fun y11 =>
        if (y11 : Bool) then
          if ((decide (y2 < (IntKind.wrap .i64 ((IntKind.wrap .i64 c.f_R) + (IntKind.wrap .i64 c.f_W))))) : Bool) then
            some (decide (y2 < (IntKind.wrap .i64 (2 * (IntKind.wrap .i64 c.f_W)))))
          else
            some false
        else
          some false
      else
        some false
    else
      some false
  else
    some false

theorem votes_May_ok (c : T_api_Config) (r : (Bool)) (h : votes_May c = some r) : ∀ σ, Inj 0 σ → FnTri Tryd.prog 64 (renL σ [v_T_api_Config c]) (preOf σ 0 []) ((votes_May_v r).ren σ) (upOf σ []) := by
  refine fn_of Tryd.func64 (by kernel_rfl) (by kernel_rfl) (by kernel_rfl) trivial (by kernel_rfl) trivial (by kernel_rfl) ?_
  intro w0 W μ0 hμ
  unfold votes_May at h
  obtain ⟨y2, e1, h⟩ := bind_some h
  rcases itb_some h with ⟨c3, h⟩ | ⟨c3, h⟩
  · skip
    obtain ⟨y5, e4, h⟩ := bind_some h
    rcases itb_some h with ⟨c6, h⟩ | ⟨c6, h⟩
    · skip
      obtain ⟨y8, e7, h⟩ := bind_some h
      rcases itb_some h with ⟨c9, h⟩ | ⟨c9, h⟩
      · skip
        obtain ⟨y11, e10, h⟩ := bind_some h
        rcases itb_some h with ⟨c12, h⟩ | ⟨c12, h⟩
        · skip
          rcases itb_some h with ⟨c13, h⟩ | ⟨c13, h⟩
          · skip
            obtain rfl := Option.some.inj h
            exact run_ret mixed (L := []) (n := 21) (s := [.reg [], .reg [(1, { call := some (votes_Total_v y2, [], []) })], .reg [], .reg [(4, { v := some (.bool true) }), (7, { call := some ((slices_Max_uint8_uint8_v y5).ren (sel [0]), preOf (sel [0]) 0 (slices_Max_uint8_uint8_objs c), upOf (sel [0]) (slices_Max_uint8_uint8_up c y5)) }), (10, { v := some (.bool true) }), (14, { call := some ((votes_May_L1_v y8).ren (sel [1]), preOf (sel [1]) 0 (votes_May_L1_objs c.f_R y2), upOf (sel [1]) (votes_May_L1_up c.f_R y2 y8)) }), (16, { v := some (.bool true) }), (20, { call := some ((votes_May_L1_v y11).ren (sel [1]), preOf (sel [1]) 0 (votes_May_L1_objs c.f_W y2), upOf (sel [1]) (votes_May_L1_up c.f_W y2 y11)) }), (22, { v := some (.bool true) }), (33, { v := some (.bool true) })]])
              (a_ (a_ (r2_ tr) (a_ (a_ (a_ (a_ tr (le_ 11 11 rfl)) tr) (a_ (a_ (a_ (votes_Total_tri c y2 e1) tr) tr) (r1_ (a_ (a_ (a_ (Eq.refl 1) (a_ (le_ 1 1 rfl) (Eq.refl 0))) tr) tr)))) (a_ (r2_ tr) (a_ (r1_ (a_ (a_ (a_ tr (lt_ 0 11 rfl)) tr) (r2_ (a_ (a_ tr (a_ (leB c3) tr)) (r1_ (a_ (a_ (a_ (lei_ 0 0 rfl) (a_ (lei_ 0 8 rfl) (lei_ 8 8 rfl))) tr) (a_ (a_ (a_ (slices_Max_uint8_uint8_ok c y5 e4 (sel [0]) (sel_inj rfl rfl)) (a_ (LO.Le.refl (.var (c_T_api_Config c))) tr)) tr) (r2_ (a_ (a_ tr (a_ (leB c6) tr)) (r2_ (a_ (a_ (a_ tr (lt_ 1 11 rfl)) tr) (a_ (a_ (a_ (votes_May_L1_ok c.f_R y2 y8 e7 (sel [1]) (sel_inj rfl rfl)) (a_ (LO.Le.refl (.var [.int .i64 y2])) tr)) tr) (r1_ (a_ (a_ tr (a_ (leB c9) tr)) (r2_ (a_ (a_ (a_ tr (lt_ 2 11 rfl)) tr) (a_ (a_ (a_ (votes_May_L1_ok c.f_W y2 y11 e10 (sel [1]) (sel_inj rfl rfl)) (a_ (LO.Le.refl (.var [.int .i64 y2])) tr)) tr) (r1_ (a_ (a_ tr (a_ (leB c12) tr)) (r1_ (a_ (a_ (a_ tr (lt_ 1 11 rfl)) tr) (r2_ (a_ (a_ (a_ tr (lt_ 2 11 rfl)) tr) (r2_ (a_ (a_ (a_ tr (lt_ 0 1 rfl)) tr) (r2_ (a_ (a_ tr (a_ (leB c13) tr)) (r1_ (a_ (a_ (a_ tr (lt_ 2 11 rfl)) tr) (r2_ (a_ (a_ (a_ tr (lt_ 0 1 rfl)) tr) (r1_ (r2_ tr))))))))))))))))))))))))))))))))) tr)))) tr) (by kernel_rfl) rfl
          · skip
            obtain rfl := Option.some.inj h
            exact run_ret mixed (L := []) (n := 21) (s := [.reg [], .reg [(1, { call := some (votes_Total_v y2, [], []) })], .reg [], .reg [(4, { v := some (.bool true) }), (7, { call := some ((slices_Max_uint8_uint8_v y5).ren (sel [0]), preOf (sel [0]) 0 (slices_Max_uint8_uint8_objs c), upOf (sel [0]) (slices_Max_uint8_uint8_up c y5)) }), (10, { v := some (.bool true) }), (14, { call := some ((votes_May_L1_v y8).ren (sel [1]), preOf (sel [1]) 0 (votes_May_L1_objs c.f_R y2), upOf (sel [1]) (votes_May_L1_up c.f_R y2 y8)) }), (16, { v := some (.bool true) }), (20, { call := some ((votes_May_L1_v y11).ren (sel [1]), preOf (sel [1]) 0 (votes_May_L1_objs c.f_W y2), upOf (sel [1]) (votes_May_L1_up c.f_W y2 y11)) }), (22, { v := some (.bool true) }), (33, { v := some (.bool false) })]])
              (a_ (a_ (r2_ tr) (a_ (a_ (a_ (a_ tr (le_ 11 11 rfl)) tr) (a_ (a_ (a_ (votes_Total_tri c y2 e1) tr) tr) (r1_ (a_ (a_ (a_ (Eq.refl 1) (a_ (le_ 1 1 rfl) (Eq.refl 0))) tr) tr)))) (a_ (r2_ tr) (a_ (r1_ (a_ (a_ (a_ tr (lt_ 0 11 rfl)) tr) (r2_ (a_ (a_ tr (a_ (leB c3) tr)) (r1_ (a_ (a_ (a_ (lei_ 0 0 rfl) (a_ (lei_ 0 8 rfl) (lei_ 8 8 rfl))) tr) (a_ (a_ (a_ (slices_Max_uint8_uint8_ok c y5 e4 (sel [0]) (sel_inj rfl rfl)) (a_ (LO.Le.refl (.var (c_T_api_Config c))) tr)) tr) (r2_ (a_ (a_ tr (a_ (leB c6) tr)) (r2_ (a_ (a_ (a_ tr (lt_ 1 11 rfl)) tr) (a_ (a_ (a_ (votes_May_L1_ok c.f_R y2 y8 e7 (sel [1]) (sel_inj rfl rfl)) (a_ (LO.Le.refl (.var [.int .i64 y2])) tr)) tr) (r1_ (a_ (a_ tr (a_ (leB c9) tr)) (r2_ (a_ (a_ (a_ tr (lt_ 2 11 rfl)) tr) (a_ (a_ (a_ (votes_May_L1_ok c.f_W y2 y11 e10 (sel [1]) (sel_inj rfl rfl)) (a_ (LO.Le.refl (.var [.int .i64 y2])) tr)) tr) (r1_ (a_ (a_ tr (a_ (leB c12) tr)) (r1_ (a_ (a_ (a_ tr (lt_ 1 11 rfl)) tr) (r2_ (a_ (a_ (a_ tr (lt_ 2 11 rfl)) tr) (r2_ (a_ (a_ (a_ tr (lt_ 0 1 rfl)) tr) (r2_ (a_ (a_ tr (a_ (leB c13) tr)) (t2_ (t4_ (r2_ tr)))))))))))))))))))))))))))))) tr)))) tr) (by kernel_rfl) rfl
        · skip
          obtain rfl := Option.some.inj h
          exact run_ret mixed (L := []) (n := 21) (s := [.reg [], .reg [(1, { call := some (votes_Total_v y2, [], []) })], .reg [], .reg [(4, { v := some (.bool true) }), (7, { call := some ((slices_Max_uint8_uint8_v y5).ren (sel [0]), preOf (sel [0]) 0 (slices_Max_uint8_uint8_objs c), upOf (sel [0]) (slices_Max_uint8_uint8_up c y5)) }), (10, { v := some (.bool true) }), (14, { call := some ((votes_May_L1_v y8).ren (sel [1]), preOf (sel [1]) 0 (votes_May_L1_objs c.f_R y2), upOf (sel [1]) (votes_May_L1_up c.f_R y2 y8)) }), (16, { v := some (.bool true) }), (20, { call := some ((votes_May_L1_v y11).ren (sel [1]), preOf (sel [1]) 0 (votes_May_L1_objs c.f_W y2), upOf (sel [1]) (votes_May_L1_up c.f_W y2 y11)) }), (22, { v := some (.bool false) })]])
            (a_ (a_ (r2_ tr) (a_ (a_ (a_ (a_ tr (le_ 11 11 rfl)) tr) (a_ (a_ (a_ (votes_Total_tri c y2 e1) tr) tr) (r1_ (a_ (a_ (a_ (Eq.refl 1) (a_ (le_ 1 1 rfl) (Eq.refl 0))) tr) tr)))) (a_ (r2_ tr) (a_ (r1_ (a_ (a_ (a_ tr (lt_ 0 11 rfl)) tr) (r2_ (a_ (a_ tr (a_ (leB c3) tr)) (r1_ (a_ (a_ (a_ (lei_ 0 0 rfl) (a_ (lei_ 0 8 rfl) (lei_ 8 8 rfl))) tr) (a_ (a_ (a_ (slices_Max_uint8_uint8_ok c y5 e4 (sel [0]) (sel_inj rfl rfl)) (a_ (LO.Le.refl (.var (c_T_api_Config c))) tr)) tr) (r2_ (a_ (a_ tr (a_ (leB c6) tr)) (r2_ (a_ (a_ (a_ tr (lt_ 1 11 rfl)) tr) (a_ (a_ (a_ (votes_May_L1_ok c.f_R y2 y8 e7 (sel [1]) (sel_inj rfl rfl)) (a_ (LO.Le.refl (.var [.int .i64 y2])) tr)) tr) (r1_ (a_ (a_ tr (a_ (leB c9) tr)) (r2_ (a_ (a_ (a_ tr (lt_ 2 11 rfl)) tr) (a_ (a_ (a_ (votes_May_L1_ok c.f_W y2 y11 e10 (sel [1]) (sel_inj rfl rfl)) (a_ (LO.Le.refl (.var [.int .i64 y2])) tr)) tr) (r1_ (a_ (a_ tr (a_ (leB c12) tr)) (a_ tr (t8_ (r2_ (t2_ (t4_ (r2_ tr))))))))))))))))))))))))) tr)))) tr) (by kernel_rfl) rfl
      · skip
        obtain rfl := Option.some.inj h
        exact run_ret mixed (L := []) (n := 21) (s := [.reg [], .reg [(1, { call := some (votes_Total_v y2, [], []) })], .reg [], .reg [(4, { v := some (.bool true) }), (7, { call := some ((slices_Max_uint8_uint8_v y5).ren (sel [0]), preOf (sel [0]) 0 (slices_Max_uint8_uint8_objs c), upOf (sel [0]) (slices_Max_uint8_uint8_up c y5)) }), (10, { v := some (.bool true) }), (14, { call := some ((votes_May_L1_v y8).ren (sel [1]), preOf (sel [1]) 0 (votes_May_L1_objs c.f_R y2), upOf (sel [1]) (votes_May_L1_up c.f_R y2 y8)) }), (16, { v := some (.bool false) })]])
          (a_ (a_ (r2_ tr) (a_ (a_ (a_ (a_ tr (le_ 11 11 rfl)) tr) (a_ (a_ (a_ (votes_Total_tri c y2 e1) tr) tr) (r1_ (a_ (a_ (a_ (Eq.refl 1) (a_ (le_ 1 1 rfl) (Eq.refl 0))) tr) tr)))) (a_ (r2_ tr) (a_ (r1_ (a_ (a_ (a_ tr (lt_ 0 11 rfl)) tr) (r2_ (a_ (a_ tr (a_ (leB c3) tr)) (r1_ (a_ (a_ (a_ (lei_ 0 0 rfl) (a_ (lei_ 0 8 rfl) (lei_ 8 8 rfl))) tr) (a_ (a_ (a_ (slices_Max_uint8_uint8_ok c y5 e4 (sel [0]) (sel_inj rfl rfl)) (a_ (LO.Le.refl (.var (c_T_api_Config c))) tr)) tr) (r2_ (a_ (a_ tr (a_ (leB c6) tr)) (r2_ (a_ (a_ (a_ tr (lt_ 1 11 rfl)) tr) (a_ (a_ (a_ (votes_May_L1_ok c.f_R y2 y8 e7 (sel [1]) (sel_inj rfl rfl)) (a_ (LO.Le.refl (.var [.int .i64 y2])) tr)) tr) (r1_ (a_ (a_ tr (a_ (leB c9) tr)) (t4_ (r2_ (a_ tr (t8_ (r2_ (t2_ (t4_ (r2_ tr)))))))))))))))))))))) tr)))) tr) (by kernel_rfl) rfl
    · skip
      obtain rfl := Option.some.inj h
      exact run_ret mixed (L := []) (n := 21) (s := [.reg [], .reg [(1, { call := some (votes_Total_v y2, [], []) })], .reg [], .reg [(4, { v := some (.bool true) }), (7, { call := some ((slices_Max_uint8_uint8_v y5).ren (sel [0]), preOf (sel [0]) 0 (slices_Max_uint8_uint8_objs c), upOf (sel [0]) (slices_Max_uint8_uint8_up c y5)) }), (10, { v := some (.bool false) })]])
        (a_ (a_ (r2_ tr) (a_ (a_ (a_ (a_ tr (le_ 11 11 rfl)) tr) (a_ (a_ (a_ (votes_Total_tri c y2 e1) tr) tr) (r1_ (a_ (a_ (a_ (Eq.refl 1) (a_ (le_ 1 1 rfl) (Eq.refl 0))) tr) tr)))) (a_ (r2_ tr) (a_ (r1_ (a_ (a_ (a_ tr (lt_ 0 11 rfl)) tr) (r2_ (a_ (a_ tr (a_ (leB c3) tr)) (r1_ (a_ (a_ (a_ (lei_ 0 0 rfl) (a_ (lei_ 0 8 rfl) (lei_ 8 8 rfl))) tr) (a_ (a_ (a_ (slices_Max_uint8_uint8_ok c y5 e4 (sel [0]) (sel_inj rfl rfl)) (a_ (LO.Le.refl (.var (c_T_api_Config c))) tr)) tr) (r2_ (a_ (a_ tr (a_ (leB c6) tr)) (t4_ (r2_ (t4_ (r2_ (a_ tr (t8_ (r2_ (t2_ (t4_ (r2_ tr))))))))))))))))))) tr)))) tr) (by kernel_rfl) rfl
  · skip
    obtain rfl := Option.some.inj h
    exact run_ret mixed (L := []) (n := 21) (s := [.reg [], .reg [(1, { call := some (votes_Total_v y2, [], []) })], .reg [], .reg [(4, { v := some (.bool false) })]])
      (a_ (a_ (r2_ tr) (a_ (a_ (a_ (a_ tr (le_ 11 11 rfl)) tr) (a_ (a_ (a_ (votes_Total_tri c y2 e1) tr) tr) (r1_ (a_ (a_ (a_ (Eq.refl 1) (a_ (le_ 1 1 rfl) (Eq.refl 0))) tr) tr)))) (a_ (r2_ tr) (a_ (r1_ (a_ (a_ (a_ tr (lt_ 0 11 rfl)) tr) (r2_ (a_ (a_ tr (a_ (leB c3) tr)) (t4_ (r2_ (t4_ (r2_ (t4_ (r2_ (a_ tr (t8_ (r2_ (t2_ (t4_ (r2_ tr)))))))))))))))) tr)))) tr) (by kernel_rfl) rfl

theorem votes_May_tri (c : T_api_Config) (r : (Bool)) (h : votes_May c = some r) : FnTri Tryd.prog 64 [v_T_api_Config c] [] (votes_May_v r) [] := FnTri.none (votes_May_ok c r h) rfl rfl

/-- parrel/gather.may$1 -/

def gather_may_L1_v (r : (Bool)) : LV := .bool r

def gather_may_L1 (c : T_api_Config) : Option ((Bool)) :=
  (votes_May c).bind fun y2 =>
  some (!y2)

theorem gather_may_L1_ok (c : T_api_Config) (r : (Bool)) (h : gather_may_L1 c = some r) : ∀ σ, Inj 0 σ → FnTri Tryd.prog 63 (renL σ [v_T_api_Config c]) (preOf σ 0 []) ((gather_may_L1_v r).ren σ) (upOf σ []) := by
  refine fn_of Tryd.func63 (by kernel_rfl) (by kernel_rfl) (by kernel_rfl) trivial (by kernel_rfl) trivial (by kernel_rfl) ?_
  intro w0 W μ0 hμ
  unfold gather_may_L1 at h
  obtain ⟨y2, e1, h⟩ := bind_some h
  obtain rfl := Option.some.inj h
  exact run_ret mixed (L := []) (n := 15) (s := [.reg [], .reg [(1, { call := some (votes_May_v y2, [], []) })]])
    (a_ (a_ (r2_ tr) (a_ (a_ (a_ (a_ tr (le_ 11 11 rfl)) tr) (a_ (a_ (a_ (votes_May_tri c y2 e1) tr) tr) (r2_ tr))) tr)) tr) (by kernel_rfl) rfl

theorem gather_may_L1_tri (c : T_api_Config) (r : (Bool)) (h : gather_may_L1 c = some r) : FnTri Tryd.prog 63 [v_T_api_Config c] [] (gather_may_L1_v r) [] := FnTri.none (gather_may_L1_ok c r h) rfl rfl

/-- slices.IndexFunc[[]parrel/api.Config,parrel/api.Config] -/

def slices_IndexFunc_api_Config_api_Config_v (r : (Int)) : LV := .int .i64 r

def slices_IndexFunc_api_Config_api_Config_T0 (s : List (T_api_Config)) (t8 : Int) : List LV := [.ds 11 (s).length (rowF c_T_api_Config default s), .fn 63 [] [], .any, .any, .any, .any, .any, .int .i64 ((s).length : Int), .int .i64 t8, .any, .any, .any, .any, .any, .any, .any, .any, .any, .any]

def slices_IndexFunc_api_Config_api_Config_H0 (s : List (T_api_Config)) (t8 : Int) : Heap := []

def slices_IndexFunc_api_Config_api_Config_l0 (s : List (T_api_Config))  : Nat → (Int) → Option ((Int))
  | 0, _ => none
  | fuel + 1, t8 =>
    if ((decide (t8 < ((s).length : Int))) : Bool) then
      if 0 ≤ t8 ∧ t8 < (((s).length : Nat) : Int) then
      (gather_may_L1 (s.getD t8.toNat default)).bind fun yL0_4 =>
      if (yL0_4 : Bool) then
        some t8
      else
        slices_IndexFunc_api_Config_api_Config_l0 s  fuel (IntKind.wrap .i64 (t8 + 1))
      else none
    else
      some (-1)

def slices_IndexFunc_api_Config_api_Config (s : List (T_api_Config)) : Option ((Int)) :=
  slices_IndexFunc_api_Config_api_Config_l0 s  big 0

theorem slices_IndexFunc_api_Config_api_Config_l0_ok {w0 : World} {W : Nat → Prop} {μ0 : Emb} (hμ : ∀ c p, μ0 c = some p → c < 0) (s : List (T_api_Config))  : ∀ (fuel : Nat) (t8 : Int) (r : (Int)), slices_IndexFunc_api_Config_api_Config_l0 s  fuel t8 = some r → kont Tryd.prog w0 W μ0 (FnPost Tryd.prog Tryd.f60 0 0 (slices_IndexFunc_api_Config_api_Config_v r) []) (kAt (bodyOf Tryd.f60) 0) none (slices_IndexFunc_api_Config_api_Config_T0 s t8) (slices_IndexFunc_api_Config_api_Config_H0 s t8) := by
  intro fuel
  induction fuel with
  | zero => intro t8 r h; rw [slices_IndexFunc_api_Config_api_Config_l0] at h; cases h
  | succ fuel ih =>
    intro t8 r h
    rw [slices_IndexFunc_api_Config_api_Config_l0] at h
    rcases itb_some h with ⟨cL0_1, h⟩ | ⟨cL0_1, h⟩
    · skip
      obtain ⟨gL0_2, h⟩ := guard_some h
      obtain ⟨yL0_4, eL0_3, h⟩ := bind_some h
      rcases itb_some h with ⟨cL0_5, h⟩ | ⟨cL0_5, h⟩
      · skip
        obtain rfl := Option.some.inj h
        exact run_ret mixed (L := []) (n := 28) (s := [.go, .reg [(0, { v := some (.bool true) })], .reg [], .reg [(5, { call := some (gather_may_L1_v yL0_4, [], []), v := some (.bool true) })], .reg []])
          (a_ (a_ (a_ (a_ tr (a_ (leB cL0_1) tr)) tr) (a_ (r2_ tr) (a_ (r1_ (r2_ (a_ (a_ (a_ (Eq.refl 11) gL0_2) tr) (a_ (a_ (le_ 11 11 rfl) tr) (a_ (a_ (a_ (gather_may_L1_tri (s.getD t8.toNat default) yL0_4 eL0_3) tr) (a_ (leB cL0_5) tr)) tr))))) (a_ (r2_ tr) tr)))) tr) (by kernel_rfl) rfl
      · skip
        exact run_to mixed hμ (L := []) (n := 29) (s := [.go, .reg [(0, { v := some (.bool true) })], .reg [], .reg [(5, { call := some (gather_may_L1_v yL0_4, [], []), v := some (.bool false) })], .reg []])
          (a_ (a_ (a_ tr (a_ (leB cL0_1) tr)) tr) (a_ (r2_ tr) (a_ (r1_ (r2_ (a_ (a_ (a_ (Eq.refl 11) gL0_2) tr) (a_ (a_ (le_ 11 11 rfl) tr) (a_ (a_ (a_ (gather_may_L1_tri (s.getD t8.toNat default) yL0_4 eL0_3) tr) (a_ (leB cL0_5) tr)) tr))))) (a_ (r2_ tr) tr)))) (ih _ r h) (by kernel_rfl) trivial
    · skip
      obtain rfl := Option.some.inj h
      exact run_ret mixed (L := []) (n := 19) (s := [.go, .reg [(0, { v := some (.bool false) })], .reg []])
        (a_ (a_ (a_ (a_ tr (a_ (leB cL0_1) tr)) tr) (a_ (r1_ tr) tr)) tr) (by kernel_rfl) rfl

theorem slices_IndexFunc_api_Config_api_Config_ok (s : List (T_api_Config)) (r : (Int)) (h : slices_IndexFunc_api_Config_api_Config s = some r) : ∀ σ, Inj 0 σ → FnTri Tryd.prog 60 (renL σ [.ds 11 (s).length (rowF c_T_api_Config default s), .fn 63 [] []]) (preOf σ 0 []) ((slices_IndexFunc_api_Config_api_Config_v r).ren σ) (upOf σ []) := by
  refine fn_of Tryd.func60 (by kernel_rfl) (by kernel_rfl) (by kernel_rfl) trivial (by kernel_rfl) trivial (by kernel_rfl) ?_
  intro w0 W μ0 hμ
  unfold slices_IndexFunc_api_Config_api_Config at h
  exact run_to mixed hμ (L := []) (n := 18) (s := [.reg [], .reg []])
    (a_ (r1_ tr) (a_ (r1_ (r2_ tr)) tr)) (slices_IndexFunc_api_Config_api_Config_l0_ok hμ s  big _ r h) (by kernel_rfl) trivial

theorem slices_IndexFunc_api_Config_api_Config_tri (s : List (T_api_Config)) (r : (Int)) (h : slices_IndexFunc_api_Config_api_Config s = some r) : FnTri Tryd.prog 60 [.ds 11 (s).length (rowF c_T_api_Config default s), .fn 63 [] []] [] (slices_IndexFunc_api_Config_api_Config_v r) [] := FnTri.none (slices_IndexFunc_api_Config_api_Config_ok s r h) rfl rfl

/-- slices.ContainsFunc[[]parrel/api.Config,parrel/api.Config] -/

def slices_ContainsFunc_api_Config_api_Config_v (r : (Bool)) : LV := .bool r

def slices_ContainsFunc_api_Config_api_Config (s : List (T_api_Config)) : Option ((Bool)) :=
  (slices_IndexFunc_api_Config_api_Config s).bind fun y2 =>
  some (decide (0 ≤ y2))

theorem slices_ContainsFunc_api_Config_api_Config_ok (s : List (T_api_Config)) (r : (Bool)) (h : slices_ContainsFunc_api_Config_api_Config s = some r) : ∀ σ, Inj 0 σ → FnTri Tryd.prog 42 (renL σ [.ds 11 (s).length (rowF c_T_api_Config default s), .fn 63 [] []]) (preOf σ 0 []) ((slices_ContainsFunc_api_Config_api_Config_v r).ren σ) (upOf σ []) := by
  refine fn_of Tryd.func42 (by kernel_rfl) (by kernel_rfl) (by kernel_rfl) trivial (by kernel_rfl) trivial (by kernel_rfl) ?_
  intro w0 W μ0 hμ
  unfold slices_ContainsFunc_api_Config_api_Config at h
  obtain ⟨y2, e1, h⟩ := bind_some h
  obtain rfl := Option.some.inj h
  exact run_ret mixed (L := []) (n := 15) (s := [.reg [], .reg [(2, { call := some (slices_IndexFunc_api_Config_api_Config_v y2, [], []) })]])
    (a_ (a_ (r1_ tr) (a_ (r2_ (a_ (a_ (a_ (slices_IndexFunc_api_Config_api_Config_tri s y2 e1) tr) tr) (r2_ tr))) tr)) tr) (by kernel_rfl) rfl

theorem slices_ContainsFunc_api_Config_api_Config_tri (s : List (T_api_Config)) (r : (Bool)) (h : slices_ContainsFunc_api_Config_api_Config s = some r) : FnTri Tryd.prog 42 [.ds 11 (s).length (rowF c_T_api_Config default s), .fn 63 [] []] [] (slices_ContainsFunc_api_Config_api_Config_v r) [] := FnTri.none (slices_ContainsFunc_api_Config_api_Config_ok s r h) rfl rfl

/-- parrel/gather.may -/

def gather_may_v (r : (Bool)) : LV := .bool r

def gather_may (x_k : A8 (Int)) (mode : Int) (confs : List (T_api_Config)) : Option ((Bool)) :=
  (ids_Name x_k).bind fun y2 =>
  if (y2.2 : Bool) then
    if ((mode == 1) : Bool) then
      (slices_ContainsFunc_api_Config_api_Config confs).bind fun y6 =>
      some (!y6)
    else
      if ((mode == 2) : Bool) then
        (slices_ContainsFunc_api_Config_api_Config confs).bind fun y7 =>
        some (!y7)
      else
        some false
  else
    some false

theorem gather_may_ok (x_k : A8 (Int)) (mode : Int) (confs : List (T_api_Config)) (r : (Bool)) (h : gather_may x_k mode confs = some r) : ∀ σ, Inj 0 σ → FnTri Tryd.prog 45 (renL σ [.agg [.int .u8 x_k.a0, .int .u8 x_k.a1, .int .u8 x_k.a2, .int .u8 x_k.a3, .int .u8 x_k.a4, .int .u8 x_k.a5, .int .u8 x_k.a6, .int .u8 x_k.a7], .int .u8 mode, .ds 11 (confs).length (rowF c_T_api_Config default confs)]) (preOf σ 0 []) ((gather_may_v r).ren σ) (upOf σ []) := by
  refine fn_of Tryd.func45 (by kernel_rfl) (by kernel_rfl) (by kernel_rfl) trivial (by kernel_rfl) trivial (by kernel_rfl) ?_
  intro w0 W μ0 hμ
  unfold gather_may at h
  obtain ⟨y2, e1, h⟩ := bind_some h
  rcases itb_some h with ⟨c3, h⟩ | ⟨c3, h⟩
  · skip
    rcases itb_some h with ⟨c4, h⟩ | ⟨c4, h⟩
    · skip
      obtain ⟨y6, e5, h⟩ := bind_some h
      obtain rfl := Option.some.inj h
      exact run_ret mixed (L := []) (n := 18) (s := [.reg [], .reg [(1, { call := some (ids_Name_v y2, [], []) })], .reg [(1, { v := some (.bool true) }), (4, { v := some (.bool true) }), (11, { call := some (slices_ContainsFunc_api_Config_api_Config_v y6, [], []) })]])
        (a_ (a_ (r2_ tr) (a_ (a_ (a_ (a_ tr (le_ 8 8 rfl)) tr) (a_ (a_ (a_ (ids_Name_tri x_k y2 e1) tr) tr) (r1_ (r4_ tr)))) (a_ (r1_ (a_ (a_ tr (a_ (leB c3) tr)) (r2_ (a_ (a_ tr (a_ (leB c4) tr)) (t2_ (r4_ (a_ (a_ (a_ (slices_ContainsFunc_api_Config_api_Config_tri confs y6 e5) tr) tr) (r1_ (r2_ tr))))))))) tr))) tr) (by kernel_rfl) rfl
    · skip
      rcases itb_some h with ⟨c5, h⟩ | ⟨c5, h⟩
      · skip
        obtain ⟨y7, e6, h⟩ := bind_some h
        obtain rfl := Option.some.inj h
        exact run_ret mixed (L := []) (n := 18) (s := [.reg [], .reg [(1, { call := some (ids_Name_v y2, [], []) })], .reg [(1, { v := some (.bool true) }), (4, { v := some (.bool false) }), (9, { v := some (.bool true) }), (11, { call := some (slices_ContainsFunc_api_Config_api_Config_v y7, [], []) })]])
          (a_ (a_ (r2_ tr) (a_ (a_ (a_ (a_ tr (le_ 8 8 rfl)) tr) (a_ (a_ (a_ (ids_Name_tri x_k y2 e1) tr) tr) (r1_ (r4_ tr)))) (a_ (r1_ (a_ (a_ tr (a_ (leB c3) tr)) (r2_ (a_ (a_ tr (a_ (leB c4) tr)) (r4_ (a_ (a_ tr (a_ (leB c5) tr)) (r1_ (a_ (a_ (a_ (slices_ContainsFunc_api_Config_api_Config_tri confs y7 e6) tr) tr) (r1_ (r2_ tr)))))))))) tr))) tr) (by kernel_rfl) rfl
      · skip
        obtain rfl := Option.some.inj h
        exact run_ret mixed (L := []) (n := 18) (s := [.reg [], .reg [(1, { call := some (ids_Name_v y2, [], []) })], .reg [(1, { v := some (.bool true) }), (4, { v := some (.bool false) }), (9, { v := some (.bool false) })]])
          (a_ (a_ (r2_ tr) (a_ (a_ (a_ (a_ tr (le_ 8 8 rfl)) tr) (a_ (a_ (a_ (ids_Name_tri x_k y2 e1) tr) tr) (r1_ (r4_ tr)))) (a_ (r1_ (a_ (a_ tr (a_ (leB c3) tr)) (r2_ (a_ (a_ tr (a_ (leB c4) tr)) (r4_ (a_ (a_ tr (a_ (leB c5) tr)) (a_ tr (t2_ (r2_ tr))))))))) tr))) tr) (by kernel_rfl) rfl
  · skip
    obtain rfl := Option.some.inj h
    exact run_ret mixed (L := []) (n := 18) (s := [.reg [], .reg [(1, { call := some (ids_Name_v y2, [], []) })], .reg [(1, { v := some (.bool false) })]])
      (a_ (a_ (r2_ tr) (a_ (a_ (a_ (a_ tr (le_ 8 8 rfl)) tr) (a_ (a_ (a_ (ids_Name_tri x_k y2 e1) tr) tr) (r1_ (r4_ tr)))) (a_ (r1_ (a_ (a_ tr (a_ (leB c3) tr)) (t2_ (t4_ (r2_ (a_ tr (t2_ (r2_ tr)))))))) tr))) tr) (by kernel_rfl) rfl

theorem gather_may_tri (x_k : A8 (Int)) (mode : Int) (confs : List (T_api_Config)) (r : (Bool)) (h : gather_may x_k mode confs = some r) : FnTri Tryd.prog 45 [.agg [.int .u8 x_k.a0, .int .u8 x_k.a1, .int .u8 x_k.a2, .int .u8 x_k.a3, .int .u8 x_k.a4, .int .u8 x_k.a5, .int .u8 x_k.a6, .int .u8 x_k.a7], .int .u8 mode, .ds 11 (confs).length (rowF c_T_api_Config default confs)] [] (gather_may_v r) [] := FnTri.none (gather_may_ok x_k mode confs r h) rfl rfl

/-- slices.Clone[[]parrel/api.Config,parrel/api.Config] -/

def slices_Clone_api_Config_api_Config_v (r : Unit) : LV := .nilsl

def slices_Clone_api_Config_api_Config  : Option (Unit) :=
  some ()

theorem slices_Clone_api_Config_api_Config_ok  (r : Unit) (h : slices_Clone_api_Config_api_Config  = some r) : ∀ σ, Inj 0 σ → FnTri Tryd.prog 47 (renL σ [.nilsl]) (preOf σ 0 []) ((slices_Clone_api_Config_api_Config_v r).ren σ) (upOf σ []) := by
  refine fn_of Tryd.func47 (by kernel_rfl) (by kernel_rfl) (by kernel_rfl) trivial (by kernel_rfl) trivial (by kernel_rfl) ?_
  intro w0 W μ0 hμ
  unfold slices_Clone_api_Config_api_Config at h
  obtain rfl := Option.some.inj h
  exact run_ret mixed (L := []) (n := 20) (s := [.reg [], .reg [], .reg []])
    (a_ (a_ (r1_ tr) (a_ (r2_ tr) (a_ (r1_ tr) tr))) tr) (by kernel_rfl) rfl

theorem slices_Clone_api_Config_api_Config_tri  (r : Unit) (h : slices_Clone_api_Config_api_Config  = some r) : FnTri Tryd.prog 47 [.nilsl] [] (slices_Clone_api_Config_api_Config_v r) [] := FnTri.none (slices_Clone_api_Config_api_Config_ok  r h) rfl rfl

/-- slices.Clone[[]parrel/api.Config,parrel/api.Config] -/

def slices_Clone_api_Config_api_Config_2_v (r : (List (T_api_Config))) : LV := .ds 11 (r).length (rowF c_T_api_Config default r)

def slices_Clone_api_Config_api_Config_2 (s : List (T_api_Config)) : Option ((List (T_api_Config))) :=
  if (0 + (s).length) * 16 ≤ 140737488351232 then
  some s
  else none

theorem slices_Clone_api_Config_api_Config_2_ok (s : List (T_api_Config)) (r : (List (T_api_Config))) (h : slices_Clone_api_Config_api_Config_2 s = some r) : ∀ σ, Inj 0 σ → FnTri Tryd.prog 47 (renL σ [.dn 11 (s).length (rowF c_T_api_Config default s)]) (preOf σ 0 []) ((slices_Clone_api_Config_api_Config_2_v r).ren σ) (upOf σ []) := by
  refine fn_of Tryd.func47 (by kernel_rfl) (by kernel_rfl) (by kernel_rfl) trivial (by kernel_rfl) trivial (by kernel_rfl) ?_
  intro w0 W μ0 hμ
  unfold slices_Clone_api_Config_api_Config_2 at h
  obtain ⟨g1, h⟩ := guard_some h
  obtain rfl := Option.some.inj h
  exact run_ret mixed (L := []) (n := 21) (s := [.reg [(0, { v := some (.ds 11 (([] : List (T_api_Config))).length (rowF c_T_api_Config default ([] : List (T_api_Config)))) })], .reg [], .reg [(0, { os := [(0, .row 11 ([] : List (T_api_Config)).length (rowF c_T_api_Config default []) true)] }), (2, { app := 4 })]])
    (a_ (a_ (a_ (a_ tr (a_ (le_nil_ds 11 (rowF c_T_api_Config default [])) tr)) tr) (a_ (r2_ tr) (a_ (a_ (a_ (a_ (Eq.refl true) (a_ (Eq.refl 11) (a_ (lt_ 0 11 rfl) (le_ 0 16777216 rfl)))) (a_ (sub_litr c_T_api_Config default 11 (fun _ => rfl) []) tr)) (r1_ (a_ (a_ (a_ (a_ (Eq.refl 11) (a_ (lt_ 0 11 rfl) (a_ (lt_ 0 16 rfl) (a_ g1 (a_ (Eq.refl 11) (Eq.refl true)))))) (fz_row (enc := c_T_api_Config) (d := default) (fun _ => rfl) s)) tr) (r1_ tr)))) tr))) tr) (by kernel_rfl) rfl

theorem slices_Clone_api_Config_api_Config_2_tri (s : List (T_api_Config)) (r : (List (T_api_Config))) (h : slices_Clone_api_Config_api_Config_2 s = some r) : FnTri Tryd.prog 47 [.dn 11 (s).length (rowF c_T_api_Config default s)] [] (slices_Clone_api_Config_api_Config_2_v r) [] := FnTri.none (slices_Clone_api_Config_api_Config_2_ok s r h) rfl rfl

theorem slices_Clone_api_Config_api_Config_nilc : FnTri Tryd.prog 47 [.nilsl] [] .nilsl [] := slices_Clone_api_Config_api_Config_tri () rfl

theorem slices_Clone_api_Config_api_Config_c (l : List (T_api_Config)) (h : (0 + l.length) * 16 ≤ 140737488351232) : FnTri Tryd.prog 47 [(.ds 11 l.length (rowF c_T_api_Config default l))] [] (.ds 11 l.length (rowF c_T_api_Config default l)) [] :=
  tri_clone (fun h => by obtain rfl := List.eq_nil_of_length_eq_zero h; exact tri_nil_ds slices_Clone_api_Config_api_Config_nilc) (slices_Clone_api_Config_api_Config_2_tri l l (by unfold slices_Clone_api_Config_api_Config_2; exact if_pos h))

/-- parrel/gather.New -/

def gather_New_vA (r : Unit) : LV := .tup [.nilptr, .int .i64 1]

def gather_New_vB (r : (Int) × (T_api_Config) × (List (T_api_Config)) × (A8 (T_gather_Got))) : LV := .tup [.ptr 0 0 0, .int .i64 0]

def gather_New_upB (x_k : A8 (Int)) (mode : Int) (c : T_api_Config) (more : List (T_api_Config)) (r : (Int) × (T_api_Config) × (List (T_api_Config)) × (A8 (T_gather_Got))) : Upd := [(0, some (.var (c_T_gather_Gather (T_gather_Gather.mk r.1 r.2.1 r.2.2.1 r.2.2.2 0))))]

def gather_New (x_k : A8 (Int)) (mode : Int) (c : T_api_Config) (more : List (T_api_Config)) : Option (Bool × (Unit) × ((Int) × (T_api_Config) × (List (T_api_Config)) × (A8 (T_gather_Got)))) :=
  if 0 < (([c] : List (T_api_Config))).length then
  if ((([c] : List (T_api_Config))).length + (more).length) * 16 ≤ 140737488351232 then
  (gather_may x_k mode (([c] : List (T_api_Config)) ++ more)).bind fun y4 =>
  if ((!y4) : Bool) then
    some (true, (), default)
  else
    if (0 + (more).length) * 16 ≤ 140737488351232 then
    some (false, default, (mode, c, more, (A8.mk (T_gather_Got.mk 0 (T_api_Reg.mk 0 0) (T_api_Item.mk 0 [] (T_api_Config.mk 0 0 0 (A8.mk 0 0 0 0 0 0 0 0)))) (T_gather_Got.mk 0 (T_api_Reg.mk 0 0) (T_api_Item.mk 0 [] (T_api_Config.mk 0 0 0 (A8.mk 0 0 0 0 0 0 0 0)))) (T_gather_Got.mk 0 (T_api_Reg.mk 0 0) (T_api_Item.mk 0 [] (T_api_Config.mk 0 0 0 (A8.mk 0 0 0 0 0 0 0 0)))) (T_gather_Got.mk 0 (T_api_Reg.mk 0 0) (T_api_Item.mk 0 [] (T_api_Config.mk 0 0 0 (A8.mk 0 0 0 0 0 0 0 0)))) (T_gather_Got.mk 0 (T_api_Reg.mk 0 0) (T_api_Item.mk 0 [] (T_api_Config.mk 0 0 0 (A8.mk 0 0 0 0 0 0 0 0)))) (T_gather_Got.mk 0 (T_api_Reg.mk 0 0) (T_api_Item.mk 0 [] (T_api_Config.mk 0 0 0 (A8.mk 0 0 0 0 0 0 0 0)))) (T_gather_Got.mk 0 (T_api_Reg.mk 0 0) (T_api_Item.mk 0 [] (T_api_Config.mk 0 0 0 (A8.mk 0 0 0 0 0 0 0 0)))) (T_gather_Got.mk 0 (T_api_Reg.mk 0 0) (T_api_Item.mk 0 [] (T_api_Config.mk 0 0 0 (A8.mk 0 0 0 0 0 0 0 0)))))))
    else none
  else none
  else none

theorem gather_New_okA (x_k : A8 (Int)) (mode : Int) (c : T_api_Config) (more : List (T_api_Config)) (r : Unit) (r_ : (Int) × (T_api_Config) × (List (T_api_Config)) × (A8 (T_gather_Got))) (h : gather_New x_k mode c more = some (true, r, r_)) : ∀ σ, Inj 0 σ → FnTri Tryd.prog 18 (renL σ [.agg [.int .u8 x_k.a0, .int .u8 x_k.a1, .int .u8 x_k.a2, .int .u8 x_k.a3, .int .u8 x_k.a4, .int .u8 x_k.a5, .int .u8 x_k.a6, .int .u8 x_k.a7], .int .u8 mode, v_T_api_Config c, .ds 11 (more).length (rowF c_T_api_Config default more)]) (preOf σ 0 []) ((gather_New_vA r).ren σ) (upOf σ []) := by
  refine fn_of Tryd.func18 (by kernel_rfl) (by kernel_rfl) (by kernel_rfl) trivial (by kernel_rfl) trivial (by kernel_rfl) ?_
  intro w0 W μ0 hμ
  unfold gather_New at h
  obtain ⟨g1, h⟩ := guard_some h
  obtain ⟨g2, h⟩ := guard_some h
  obtain ⟨y4, e3, h⟩ := bind_some h
  rcases itb_some h with ⟨c5, h⟩ | ⟨c5, h⟩
  · skip
    have h := congrArg (fun z => z.2.1) (Option.some.inj h)
    dsimp only at h
    subst h
    exact run_ret mixed (L := []) (n := 20) (s := [.reg [], .reg [(3, { os := [(2, .gr 11 (([c] : List (T_api_Config))).length (rowF c_T_api_Config default ([c] : List (T_api_Config))))], v := some (.gs 2 (([c] : List (T_api_Config))).length), fz := true }), (5, { os := [(3, .gr 1 (([([c] : List (T_api_Config)), more] : List (List (T_api_Config)))).length (rowF (fun z_ : List (T_api_Config) => [.ds 11 (z_).length (rowF c_T_api_Config default z_)]) default ([([c] : List (T_api_Config)), more] : List (List (T_api_Config)))))], v := some (.gs 3 (([([c] : List (T_api_Config)), more] : List (List (T_api_Config)))).length), fz := true }), (6, { call := some (.ds 11 ((([c] : List (T_api_Config)) ++ more)).length (rowF c_T_api_Config default (([c] : List (T_api_Config)) ++ more)), [], []) }), (7, { call := some (gather_may_v y4, [], []) }), (8, { v := some (.bool true) })], .reg []])
      (a_ (a_ (r4_ tr) (a_ (a_ (a_ (a_ tr (le_ 8 8 rfl)) tr) (r1_ (a_ (a_ (a_ tr (le_ 11 11 rfl)) tr) (a_ (a_ (a_ (a_ (Eq.refl true) (a_ (Eq.refl 11) (a_ (lt_ 0 11 rfl) (le_ 11 16777216 rfl)))) (a_ (le_sl_gs 2 1 (some 1) rfl) (a_ (sub_lit c_T_api_Config default 11 (fun _ => rfl) ([c] : List (T_api_Config))) tr))) (a_ (Nat.le_refl (([c] : List (T_api_Config))).length) (fz_row (enc := c_T_api_Config) (d := default) (fun _ => rfl) ([c] : List (T_api_Config))))) (r1_ (a_ (a_ (a_ (a_ (Eq.refl true) (a_ (Eq.refl 1) (a_ (lt_ 0 1 rfl) (le_ 2 16777216 rfl)))) (a_ (le_sl_gs 3 2 (some 2) rfl) (a_ (sub_lit (fun z_ : List (T_api_Config) => [.ds 11 (z_).length (rowF c_T_api_Config default z_)]) default 1 (fun _ => rfl) ([([c] : List (T_api_Config)), more] : List (List (T_api_Config)))) tr))) (a_ (Nat.le_refl (([([c] : List (T_api_Config)), more] : List (List (T_api_Config)))).length) (fz_row (enc := (fun z_ : List (T_api_Config) => [.ds 11 (z_).length (rowF c_T_api_Config default z_)])) (d := default) (fun _ => rfl) ([([c] : List (T_api_Config)), more] : List (List (T_api_Config)))))) (a_ (a_ (a_ (cc46_con c_T_api_Config (fun _ => rfl) (fun _ => rfl) (fun z_ : List (T_api_Config) => [.ds 11 (z_).length (rowF c_T_api_Config default z_)]) (fun _ => rfl) ([c] : List (T_api_Config)) more g1 g2) tr) tr) (a_ (a_ (a_ (gather_may_tri x_k mode (([c] : List (T_api_Config)) ++ more) y4 e3) tr) tr) (a_ (a_ tr (a_ (leB c5) tr)) tr))))))))) (a_ (r2_ tr) tr))) tr) (by kernel_rfl) rfl
  · skip
    obtain ⟨g6, h⟩ := guard_some h
    cases h

theorem gather_New_triA (x_k : A8 (Int)) (mode : Int) (c : T_api_Config) (more : List (T_api_Config)) (r : Unit) (r_ : (Int) × (T_api_Config) × (List (T_api_Config)) × (A8 (T_gather_Got))) (h : gather_New x_k mode c more = some (true, r, r_)) : FnTri Tryd.prog 18 [.agg [.int .u8 x_k.a0, .int .u8 x_k.a1, .int .u8 x_k.a2, .int .u8 x_k.a3, .int .u8 x_k.a4, .int .u8 x_k.a5, .int .u8 x_k.a6, .int .u8 x_k.a7], .int .u8 mode, v_T_api_Config c, .ds 11 (more).length (rowF c_T_api_Config default more)] [] (gather_New_vA r) [] := FnTri.none (gather_New_okA x_k mode c more r r_ h) rfl rfl

theorem gather_New_okB (x_k : A8 (Int)) (mode : Int) (c : T_api_Config) (more : List (T_api_Config)) (r : (Int) × (T_api_Config) × (List (T_api_Config)) × (A8 (T_gather_Got))) (r_ : Unit) (h : gather_New x_k mode c more = some (false, r_, r)) : ∀ σ, Inj 1 σ → FnTri Tryd.prog 18 (renL σ [.agg [.int .u8 x_k.a0, .int .u8 x_k.a1, .int .u8 x_k.a2, .int .u8 x_k.a3, .int .u8 x_k.a4, .int .u8 x_k.a5, .int .u8 x_k.a6, .int .u8 x_k.a7], .int .u8 mode, v_T_api_Config c, .ds 11 (more).length (rowF c_T_api_Config default more)]) (preOf σ 0 []) ((gather_New_vB r).ren σ) (upOf σ (gather_New_upB x_k mode c more r)) := by
  refine fn_of Tryd.func18 (by kernel_rfl) (by kernel_rfl) (by kernel_rfl) trivial (by kernel_rfl) ⟨rfl, trivial⟩ (by kernel_rfl) ?_
  intro w0 W μ0 hμ
  unfold gather_New at h
  obtain ⟨g1, h⟩ := guard_some h
  obtain ⟨g2, h⟩ := guard_some h
  obtain ⟨y4, e3, h⟩ := bind_some h
  rcases itb_some h with ⟨c5, h⟩ | ⟨c5, h⟩
  · skip
    cases h
  · skip
    obtain ⟨g6, h⟩ := guard_some h
    have h := congrArg (fun z => z.2.2) (Option.some.inj h)
    dsimp only at h
    subst h
    exact run_ret mixed (L := [4]) (n := 21) (s := [.reg [], .reg [(3, { os := [(2, .gr 11 (([c] : List (T_api_Config))).length (rowF c_T_api_Config default ([c] : List (T_api_Config))))], v := some (.gs 2 (([c] : List (T_api_Config))).length), fz := true }), (5, { os := [(3, .gr 1 (([([c] : List (T_api_Config)), more] : List (List (T_api_Config)))).length (rowF (fun z_ : List (T_api_Config) => [.ds 11 (z_).length (rowF c_T_api_Config default z_)]) default ([([c] : List (T_api_Config)), more] : List (List (T_api_Config)))))], v := some (.gs 3 (([([c] : List (T_api_Config)), more] : List (List (T_api_Config)))).length), fz := true }), (6, { call := some (.ds 11 ((([c] : List (T_api_Config)) ++ more)).length (rowF c_T_api_Config default (([c] : List (T_api_Config)) ++ more)), [], []) }), (7, { call := some (gather_may_v y4, [], []) }), (8, { v := some (.bool false) })], .reg [(3, { call := some (.ds 11 (more).length (rowF c_T_api_Config default more), [], []) })]])
      (a_ (a_ (r4_ tr) (a_ (a_ (a_ (a_ tr (le_ 8 8 rfl)) tr) (r1_ (a_ (a_ (a_ tr (le_ 11 11 rfl)) tr) (a_ (a_ (a_ (a_ (Eq.refl true) (a_ (Eq.refl 11) (a_ (lt_ 0 11 rfl) (le_ 11 16777216 rfl)))) (a_ (le_sl_gs 2 1 (some 1) rfl) (a_ (sub_lit c_T_api_Config default 11 (fun _ => rfl) ([c] : List (T_api_Config))) tr))) (a_ (Nat.le_refl (([c] : List (T_api_Config))).length) (fz_row (enc := c_T_api_Config) (d := default) (fun _ => rfl) ([c] : List (T_api_Config))))) (r1_ (a_ (a_ (a_ (a_ (Eq.refl true) (a_ (Eq.refl 1) (a_ (lt_ 0 1 rfl) (le_ 2 16777216 rfl)))) (a_ (le_sl_gs 3 2 (some 2) rfl) (a_ (sub_lit (fun z_ : List (T_api_Config) => [.ds 11 (z_).length (rowF c_T_api_Config default z_)]) default 1 (fun _ => rfl) ([([c] : List (T_api_Config)), more] : List (List (T_api_Config)))) tr))) (a_ (Nat.le_refl (([([c] : List (T_api_Config)), more] : List (List (T_api_Config)))).length) (fz_row (enc := (fun z_ : List (T_api_Config) => [.ds 11 (z_).length (rowF c_T_api_Config default z_)])) (d := default) (fun _ => rfl) ([([c] : List (T_api_Config)), more] : List (List (T_api_Config)))))) (a_ (a_ (a_ (cc46_con c_T_api_Config (fun _ => rfl) (fun _ => rfl) (fun z_ : List (T_api_Config) => [.ds 11 (z_).length (rowF c_T_api_Config default z_)]) (fun _ => rfl) ([c] : List (T_api_Config)) more g1 g2) tr) tr) (a_ (a_ (a_ (gather_may_tri x_k mode (([c] : List (T_api_Config)) ++ more) y4 e3) tr) tr) (a_ (a_ tr (a_ (leB c5) tr)) tr))))))))) (a_ (r1_ (a_ (a_ (a_ tr (le_ 11 11 rfl)) tr) (r1_ (a_ (a_ (a_ (slices_Clone_api_Config_api_Config_c more g6) tr) tr) (a_ (a_ (Eq.refl true) tr) (r1_ (r2_ tr))))))) tr))) tr) (by kernel_rfl) rfl

/-- parrel/parrellaw19.one -/

def parrellaw19_one_v (r : (T_gather_Got)) : LV := v_T_gather_Got r

def parrellaw19_one (x_n : Int) (version : Int) (c : T_api_Config) : Option ((T_gather_Got)) :=
  some (T_gather_Got.mk x_n (T_api_Reg.mk 1 1) (T_api_Item.mk version [] c))

theorem parrellaw19_one_ok (x_n : Int) (version : Int) (c : T_api_Config) (r : (T_gather_Got)) (h : parrellaw19_one x_n version c = some r) : ∀ σ, Inj 0 σ → FnTri Tryd.prog 36 (renL σ [.int .u8 x_n, .int .u32 version, v_T_api_Config c]) (preOf σ 0 []) ((parrellaw19_one_v r).ren σ) (upOf σ []) := by
  refine fn_of Tryd.func36 (by kernel_rfl) (by kernel_rfl) (by kernel_rfl) trivial (by kernel_rfl) trivial (by kernel_rfl) ?_
  intro w0 W μ0 hμ
  unfold parrellaw19_one at h
  obtain rfl := Option.some.inj h
  exact run_ret mixed (L := []) (n := 15) (s := [.reg [], .reg []])
    (a_ (a_ (r2_ tr) (a_ (r1_ (a_ (a_ (Eq.refl true) tr) (r1_ (a_ (a_ (a_ tr (le_ 11 11 rfl)) tr) (a_ (a_ (Eq.refl true) tr) (a_ (a_ (Eq.refl true) tr) (a_ (a_ (a_ (Eq.refl 16) (a_ (le_ 16 16 rfl) (Eq.refl 0))) tr) tr))))))) tr)) (a_ (a_ tr (le_ 16 16 rfl)) tr)) (by kernel_rfl) rfl

theorem parrellaw19_one_tri (x_n : Int) (version : Int) (c : T_api_Config) (r : (T_gather_Got)) (h : parrellaw19_one x_n version c = some r) : FnTri Tryd.prog 36 [.int .u8 x_n, .int .u32 version, v_T_api_Config c] [] (parrellaw19_one_v r) [] := FnTri.none (parrellaw19_one_ok x_n version c r h) rfl rfl

/-- (*parrel/gather.Gather).ok -/

def gather_Gather_ok_v (r : (Bool)) : LV := .bool r

def gather_Gather_ok_up (g : T_gather_Gather) (r : (Bool)) : Upd := []

def gather_Gather_ok_objs (g : T_gather_Gather) : List LO := [.row 142 1 (fun _ => c_T_gather_Gather g) false]

def gather_Gather_ok (g : T_gather_Gather) : Option ((Bool)) :=
  some (g.f_mode != 0)

theorem gather_Gather_ok_ok (g : T_gather_Gather) (r : (Bool)) (h : gather_Gather_ok g = some r) : ∀ σ, Inj 1 σ → FnTri Tryd.prog 38 (renL σ [.ptr 0 0 0]) (preOf σ 0 (gather_Gather_ok_objs g)) ((gather_Gather_ok_v r).ren σ) (upOf σ (gather_Gather_ok_up g r)) := by
  refine fn_of Tryd.func38 (by kernel_rfl) (by kernel_rfl) (by kernel_rfl) ⟨fun _ _ => rfl, trivial⟩ (by kernel_rfl) trivial (by kernel_rfl) ?_
  intro w0 W μ0 hμ
  unfold gather_Gather_ok at h
  obtain rfl := Option.some.inj h
  exact run_ret mixed (L := []) (n := 15) (s := [.reg [], .reg []])
    (a_ (a_ (r1_ tr) (a_ (r2_ (r4_ (a_ (a_ (a_ (lt_ 0 1 rfl) (lt_ 0 142 rfl)) tr) (r1_ (r2_ tr))))) tr)) tr) (by kernel_rfl) rfl

/-- parrel/ids.isCount -/

def ids_isCount_v (r : (Bool)) : LV := .bool r

def ids_isCount (x_n : Int) : Option ((Bool)) :=
  some (decide ((IntKind.wrap .u32 (x_n - 1)) < 2147483647))

theorem ids_isCount_ok (x_n : Int) (r : (Bool)) (h : ids_isCount x_n = some r) : ∀ σ, Inj 0 σ → FnTri Tryd.prog 67 (renL σ [.int .u32 x_n]) (preOf σ 0 []) ((ids_isCount_v r).ren σ) (upOf σ []) := by
  refine fn_of Tryd.func67 (by kernel_rfl) (by kernel_rfl) (by kernel_rfl) trivial (by kernel_rfl) trivial (by kernel_rfl) ?_
  intro w0 W μ0 hμ
  unfold ids_isCount at h
  obtain rfl := Option.some.inj h
  exact run_ret mixed (L := []) (n := 15) (s := [.reg [], .reg []])
    (a_ (a_ (r1_ tr) (a_ (r4_ tr) tr)) tr) (by kernel_rfl) rfl

theorem ids_isCount_tri (x_n : Int) (r : (Bool)) (h : ids_isCount x_n = some r) : FnTri Tryd.prog 67 [.int .u32 x_n] [] (ids_isCount_v r) [] := FnTri.none (ids_isCount_ok x_n r h) rfl rfl

/-- parrel/ids.RegMay -/

def ids_RegMay_v (r : (Bool)) : LV := .bool r

def ids_RegMay (g : T_api_Reg) : Option ((Bool)) :=
  (ids_isCount g.f_Boot).bind fun y2 =>
  if (y2 : Bool) then
    (ids_isCount g.f_N).bind fun y5 =>
    some y5
  else
    some false

theorem ids_RegMay_ok (g : T_api_Reg) (r : (Bool)) (h : ids_RegMay g = some r) : ∀ σ, Inj 0 σ → FnTri Tryd.prog 50 (renL σ [v_T_api_Reg g]) (preOf σ 0 []) ((ids_RegMay_v r).ren σ) (upOf σ []) := by
  refine fn_of Tryd.func50 (by kernel_rfl) (by kernel_rfl) (by kernel_rfl) trivial (by kernel_rfl) trivial (by kernel_rfl) ?_
  intro w0 W μ0 hμ
  unfold ids_RegMay at h
  obtain ⟨y2, e1, h⟩ := bind_some h
  rcases itb_some h with ⟨c3, h⟩ | ⟨c3, h⟩
  · skip
    obtain ⟨y5, e4, h⟩ := bind_some h
    obtain rfl := Option.some.inj h
    exact run_ret mixed (L := []) (n := 15) (s := [.reg [], .reg [(2, { call := some (ids_isCount_v y2, [], []) }), (3, { v := some (.bool true) }), (6, { call := some (ids_isCount_v y5, [], []) })]])
      (a_ (a_ (r2_ tr) (a_ (r1_ (a_ (a_ (a_ tr (lt_ 0 2 rfl)) tr) (a_ (a_ (a_ (ids_isCount_tri g.f_Boot y2 e1) tr) tr) (a_ (a_ tr (a_ (leB c3) tr)) (r1_ (a_ (a_ (a_ tr (lt_ 1 2 rfl)) tr) (a_ (a_ (a_ (ids_isCount_tri g.f_N y5 e4) tr) tr) (r2_ tr)))))))) tr)) tr) (by kernel_rfl) rfl
  · skip
    obtain rfl := Option.some.inj h
    exact run_ret mixed (L := []) (n := 15) (s := [.reg [], .reg [(2, { call := some (ids_isCount_v y2, [], []) }), (3, { v := some (.bool false) })]])
      (a_ (a_ (r2_ tr) (a_ (r1_ (a_ (a_ (a_ tr (lt_ 0 2 rfl)) tr) (a_ (a_ (a_ (ids_isCount_tri g.f_Boot y2 e1) tr) tr) (a_ (a_ tr (a_ (leB c3) tr)) (a_ tr (t2_ (r2_ tr))))))) tr)) tr) (by kernel_rfl) rfl

theorem ids_RegMay_tri (g : T_api_Reg) (r : (Bool)) (h : ids_RegMay g = some r) : FnTri Tryd.prog 50 [v_T_api_Reg g] [] (ids_RegMay_v r) [] := FnTri.none (ids_RegMay_ok g r h) rfl rfl

/-- parrel/msg.ItemMay -/

def msg_ItemMay_v (r : (Bool)) : LV := .bool r

def msg_ItemMay (i : T_api_Item) : Option ((Bool)) :=
  if ((decide (i.f_Version ≤ 2147483647)) : Bool) then
    if ((decide (((i.f_Value).length : Int) ≤ 64)) : Bool) then
      (votes_May i.f_Conf).bind fun y4 =>
      some y4
    else
      some false
  else
    some false

theorem msg_ItemMay_ok (i : T_api_Item) (r : (Bool)) (h : msg_ItemMay i = some r) : ∀ σ, Inj 0 σ → FnTri Tryd.prog 51 (renL σ [v_T_api_Item i]) (preOf σ 0 []) ((msg_ItemMay_v r).ren σ) (upOf σ []) := by
  refine fn_of Tryd.func51 (by kernel_rfl) (by kernel_rfl) (by kernel_rfl) trivial (by kernel_rfl) trivial (by kernel_rfl) ?_
  intro w0 W μ0 hμ
  unfold msg_ItemMay at h
  rcases itb_some h with ⟨c1, h⟩ | ⟨c1, h⟩
  · skip
    rcases itb_some h with ⟨c2, h⟩ | ⟨c2, h⟩
    · skip
      obtain ⟨y4, e3, h⟩ := bind_some h
      obtain rfl := Option.some.inj h
      exact run_ret mixed (L := []) (n := 15) (s := [.reg [], .reg [(3, { v := some (.bool true) }), (9, { v := some (.bool true) }), (12, { call := some (votes_May_v y4, [], []) })]])
        (a_ (a_ (r2_ tr) (a_ (r1_ (a_ (a_ (a_ tr (lt_ 0 13 rfl)) tr) (r1_ (a_ (a_ tr (a_ (leB c1) tr)) (r1_ (a_ (a_ (a_ tr (lt_ 1 13 rfl)) tr) (r1_ (r2_ (a_ (a_ tr (a_ (leB c2) tr)) (r1_ (a_ (a_ (a_ tr (le_ 13 13 rfl)) tr) (a_ (a_ (a_ (votes_May_tri i.f_Conf y4 e3) tr) tr) (r2_ tr))))))))))))) tr)) tr) (by kernel_rfl) rfl
    · skip
      obtain rfl := Option.some.inj h
      exact run_ret mixed (L := []) (n := 15) (s := [.reg [], .reg [(3, { v := some (.bool true) }), (9, { v := some (.bool false) })]])
        (a_ (a_ (r2_ tr) (a_ (r1_ (a_ (a_ (a_ tr (lt_ 0 13 rfl)) tr) (r1_ (a_ (a_ tr (a_ (leB c1) tr)) (r1_ (a_ (a_ (a_ tr (lt_ 1 13 rfl)) tr) (r1_ (r2_ (a_ (a_ tr (a_ (leB c2) tr)) (a_ tr (t2_ (r2_ tr)))))))))))) tr)) tr) (by kernel_rfl) rfl
  · skip
    obtain rfl := Option.some.inj h
    exact run_ret mixed (L := []) (n := 15) (s := [.reg [], .reg [(3, { v := some (.bool false) })]])
      (a_ (a_ (r2_ tr) (a_ (r1_ (a_ (a_ (a_ tr (lt_ 0 13 rfl)) tr) (r1_ (a_ (a_ tr (a_ (leB c1) tr)) (t4_ (r2_ (a_ tr (t2_ (r2_ tr))))))))) tr)) tr) (by kernel_rfl) rfl

theorem msg_ItemMay_tri (i : T_api_Item) (r : (Bool)) (h : msg_ItemMay i = some r) : FnTri Tryd.prog 51 [v_T_api_Item i] [] (msg_ItemMay_v r) [] := FnTri.none (msg_ItemMay_ok i r h) rfl rfl

/-- parrel/bits.bit -/

def bits_bit_v (r : (Int)) : LV := .int .u64 r

def bits_bit (x_n : Int) : Option ((Int)) :=
  if ((decide (x_n < 0)) : Bool) then
    some 0
  else
    if ((decide (64 ≤ x_n)) : Bool) then
      some 0
    else
      if 0 ≤ x_n then
      some (IntKind.wrap .u64 (1 * 2 ^ (min (Int.toNat x_n) (IntKind.bits .u64))))
      else none

theorem bits_bit_ok (x_n : Int) (r : (Int)) (h : bits_bit x_n = some r) : ∀ σ, Inj 0 σ → FnTri Tryd.prog 68 (renL σ [.int .i64 x_n]) (preOf σ 0 []) ((bits_bit_v r).ren σ) (upOf σ []) := by
  refine fn_of Tryd.func68 (by kernel_rfl) (by kernel_rfl) (by kernel_rfl) trivial (by kernel_rfl) trivial (by kernel_rfl) ?_
  intro w0 W μ0 hμ
  unfold bits_bit at h
  rcases itb_some h with ⟨c1, h⟩ | ⟨c1, h⟩
  · skip
    obtain rfl := Option.some.inj h
    exact run_ret mixed (L := []) (n := 20) (s := [.reg [], .reg [(2, { v := some (.bool true) })], .reg []])
      (a_ (a_ (r1_ tr) (a_ (r2_ (a_ (a_ tr (a_ (leB c1) tr)) (t2_ (r1_ tr)))) (a_ (r1_ tr) tr))) tr) (by kernel_rfl) rfl
  · skip
    rcases itb_some h with ⟨c2, h⟩ | ⟨c2, h⟩
    · skip
      obtain rfl := Option.some.inj h
      exact run_ret mixed (L := []) (n := 20) (s := [.reg [], .reg [(2, { v := some (.bool false) }), (5, { v := some (.bool true) })], .reg []])
        (a_ (a_ (r1_ tr) (a_ (r2_ (a_ (a_ tr (a_ (leB c1) tr)) (r2_ (a_ (a_ tr (a_ (leB c2) tr)) tr)))) (a_ (r1_ tr) tr))) tr) (by kernel_rfl) rfl
    · skip
      obtain ⟨g3, h⟩ := guard_some h
      obtain rfl := Option.some.inj h
      exact run_ret mixed (L := []) (n := 21) (s := [.reg [], .reg [(2, { v := some (.bool false) }), (5, { v := some (.bool false) })], .reg []])
        (a_ (a_ (r1_ tr) (a_ (r2_ (a_ (a_ tr (a_ (leB c1) tr)) (r2_ (a_ (a_ tr (a_ (leB c2) tr)) tr)))) (a_ (r1_ (a_ (a_ g3 tr) (r1_ tr))) tr))) tr) (by kernel_rfl) rfl

theorem bits_bit_tri (x_n : Int) (r : (Int)) (h : bits_bit x_n = some r) : FnTri Tryd.prog 68 [.int .i64 x_n] [] (bits_bit_v r) [] := FnTri.none (bits_bit_ok x_n r h) rfl rfl

/-- parrel/bits.Has -/

def bits_Has_v (r : (Bool)) : LV := .bool r

def bits_Has (set : Int) (x_n : Int) : Option ((Bool)) :=
  (bits_bit x_n).bind fun y2 =>
  some ((IntKind.wrap .u64 ((BitVec.ofInt (IntKind.bits .u64) set &&& BitVec.ofInt (IntKind.bits .u64) y2).toNat : Int)) != 0)

theorem bits_Has_ok (set : Int) (x_n : Int) (r : (Bool)) (h : bits_Has set x_n = some r) : ∀ σ, Inj 0 σ → FnTri Tryd.prog 52 (renL σ [.int .u64 set, .int .i64 x_n]) (preOf σ 0 []) ((bits_Has_v r).ren σ) (upOf σ []) := by
  refine fn_of Tryd.func52 (by kernel_rfl) (by kernel_rfl) (by kernel_rfl) trivial (by kernel_rfl) trivial (by kernel_rfl) ?_
  intro w0 W μ0 hμ
  unfold bits_Has at h
  obtain ⟨y2, e1, h⟩ := bind_some h
  obtain rfl := Option.some.inj h
  exact run_ret mixed (L := []) (n := 15) (s := [.reg [], .reg [(2, { call := some (bits_bit_v y2, [], []) })]])
    (a_ (a_ (r1_ tr) (a_ (r2_ (a_ (a_ (a_ (bits_bit_tri x_n y2 e1) tr) tr) (r1_ (r2_ tr)))) tr)) tr) (by kernel_rfl) rfl

theorem bits_Has_tri (set : Int) (x_n : Int) (r : (Bool)) (h : bits_Has set x_n = some r) : FnTri Tryd.prog 52 [.int .u64 set, .int .i64 x_n] [] (bits_Has_v r) [] := FnTri.none (bits_Has_ok set x_n r h) rfl rfl

/-- parrel/bits.With -/

def bits_With_v (r : (Int)) : LV := .int .u64 r

def bits_With (set : Int) (x_n : Int) : Option ((Int)) :=
  (bits_bit x_n).bind fun y2 =>
  some (IntKind.wrap .u64 ((BitVec.ofInt (IntKind.bits .u64) set ||| BitVec.ofInt (IntKind.bits .u64) y2).toNat : Int))

theorem bits_With_ok (set : Int) (x_n : Int) (r : (Int)) (h : bits_With set x_n = some r) : ∀ σ, Inj 0 σ → FnTri Tryd.prog 53 (renL σ [.int .u64 set, .int .i64 x_n]) (preOf σ 0 []) ((bits_With_v r).ren σ) (upOf σ []) := by
  refine fn_of Tryd.func53 (by kernel_rfl) (by kernel_rfl) (by kernel_rfl) trivial (by kernel_rfl) trivial (by kernel_rfl) ?_
  intro w0 W μ0 hμ
  unfold bits_With at h
  obtain ⟨y2, e1, h⟩ := bind_some h
  obtain rfl := Option.some.inj h
  exact run_ret mixed (L := []) (n := 15) (s := [.reg [], .reg [(2, { call := some (bits_bit_v y2, [], []) })]])
    (a_ (a_ (r1_ tr) (a_ (r2_ (a_ (a_ (a_ (bits_bit_tri x_n y2 e1) tr) tr) (r2_ tr))) tr)) tr) (by kernel_rfl) rfl

theorem bits_With_tri (set : Int) (x_n : Int) (r : (Int)) (h : bits_With set x_n = some r) : FnTri Tryd.prog 53 [.int .u64 set, .int .i64 x_n] [] (bits_With_v r) [] := FnTri.none (bits_With_ok set x_n r h) rfl rfl

/-- (*parrel/gather.Gather).Grant -/

def gather_Gather_Grant_v (r : (Int) × (Int) × (T_api_Config) × (List (T_api_Config)) × (A8 (T_gather_Got)) × (Int)) : LV := .int .i64 r.1

def gather_Gather_Grant_up (g : T_gather_Gather) (x : T_gather_Got) (r : (Int) × (Int) × (T_api_Config) × (List (T_api_Config)) × (A8 (T_gather_Got)) × (Int)) : Upd := [(0, some (.var (c_T_gather_Gather (T_gather_Gather.mk r.2.1 r.2.2.1 r.2.2.2.1 r.2.2.2.2.1 r.2.2.2.2.2))))]

def gather_Gather_Grant_objs (g : T_gather_Gather) (x : T_gather_Got) : List LO := [.var (c_T_gather_Gather g)]

def gather_Gather_Grant (g : T_gather_Gather) (x : T_gather_Got) : Option ((Int) × (Int) × (T_api_Config) × (List (T_api_Config)) × (A8 (T_gather_Got)) × (Int)) :=
  (gather_Gather_ok g).bind fun y2 =>
  if ((!y2) : Bool) then
    some (2, g.f_mode, g.f_conf, g.f_more, g.f_grants, g.f_nodes)
  else
    if ((decide (8 ≤ x.f_Node)) : Bool) then
      some (1, g.f_mode, g.f_conf, g.f_more, g.f_grants, g.f_nodes)
    else
      (ids_RegMay x.f_Reg).bind fun y6 =>
      if ((!y6) : Bool) then
        some (1, g.f_mode, g.f_conf, g.f_more, g.f_grants, g.f_nodes)
      else
        (msg_ItemMay x.f_Item).bind fun y9 =>
        if ((!y9) : Bool) then
          some (1, g.f_mode, g.f_conf, g.f_more, g.f_grants, g.f_nodes)
        else
          (bits_Has g.f_nodes (IntKind.wrap .i64 x.f_Node)).bind fun y12 =>
          if (y12 : Bool) then
            if 0 ≤ x.f_Node ∧ x.f_Node < 8 then
            if ((decide ((A8.get g.f_grants (x.f_Node).toNat).f_Reg = x.f_Reg)) : Bool) then
              some (7, g.f_mode, g.f_conf, g.f_more, g.f_grants, g.f_nodes)
            else
              some (14, g.f_mode, g.f_conf, g.f_more, g.f_grants, g.f_nodes)
            else none
          else
            if 0 ≤ x.f_Node ∧ x.f_Node < 8 then
            (bits_With g.f_nodes (IntKind.wrap .i64 x.f_Node)).bind fun y16 =>
            if ((decide (g.f_conf.f_Epoch < x.f_Item.f_Conf.f_Epoch)) : Bool) then
              some (0, g.f_mode, x.f_Item.f_Conf, g.f_more, (A8.set g.f_grants x (x.f_Node).toNat), y16)
            else
              some (0, g.f_mode, g.f_conf, g.f_more, (A8.set g.f_grants x (x.f_Node).toNat), y16)
            else none

theorem gather_Gather_Grant_ok (g : T_gather_Gather) (x : T_gather_Got) (r : (Int) × (Int) × (T_api_Config) × (List (T_api_Config)) × (A8 (T_gather_Got)) × (Int)) (h : gather_Gather_Grant g x = some r) : ∀ σ, Inj 1 σ → FnTri Tryd.prog 20 (renL σ [.ptr 0 0 0, v_T_gather_Got x]) (preOf σ 0 (gather_Gather_Grant_objs g x)) ((gather_Gather_Grant_v r).ren σ) (upOf σ (gather_Gather_Grant_up g x r)) := by
  refine fn_of Tryd.func20 (by kernel_rfl) (by kernel_rfl) (by kernel_rfl) ⟨rfl, trivial⟩ (by kernel_rfl) ⟨rfl, trivial⟩ (by kernel_rfl) ?_
  intro w0 W μ0 hμ
  unfold gather_Gather_Grant at h
  obtain ⟨y2, e1, h⟩ := bind_some h
  rcases itb_some h with ⟨c3, h⟩ | ⟨c3, h⟩
  · skip
    obtain rfl := Option.some.inj h
    exact run_ret mixed (L := []) (n := 21) (s := [.reg [], .reg [(1, { call := some ((gather_Gather_ok_v y2).ren (sel [0]), preOf (sel [0]) 0 (gather_Gather_ok_objs g), upOf (sel [0]) (gather_Gather_ok_up g y2)) }), (3, { v := some (.bool true) })], .reg []])
      (a_ (a_ (r2_ tr) (a_ (r1_ (a_ (a_ (a_ (gather_Gather_ok_ok g y2 e1 (sel [0]) (sel_inj rfl rfl)) (a_ (LO.Le.ofVar (c_T_gather_Gather g)) tr)) tr) (r1_ (a_ (a_ tr (a_ (leB c3) tr)) tr)))) (a_ (r1_ tr) tr))) tr) (by kernel_rfl) rfl
  · skip
    rcases itb_some h with ⟨c4, h⟩ | ⟨c4, h⟩
    · skip
      obtain rfl := Option.some.inj h
      exact run_ret mixed (L := []) (n := 25) (s := [.reg [], .reg [(1, { call := some ((gather_Gather_ok_v y2).ren (sel [0]), preOf (sel [0]) 0 (gather_Gather_ok_objs g), upOf (sel [0]) (gather_Gather_ok_up g y2)) }), (3, { v := some (.bool false) })], .reg [(3, { v := some (.bool true) })], .reg []])
        (a_ (a_ (r2_ tr) (a_ (r1_ (a_ (a_ (a_ (gather_Gather_ok_ok g y2 e1 (sel [0]) (sel_inj rfl rfl)) (a_ (LO.Le.ofVar (c_T_gather_Gather g)) tr)) tr) (r1_ (a_ (a_ tr (a_ (leB c3) tr)) tr)))) (a_ (r1_ (a_ (a_ (a_ tr (lt_ 0 16 rfl)) tr) (r1_ (a_ (a_ tr (a_ (leB c4) tr)) (t4_ (r2_ (t4_ (r2_ tr)))))))) (a_ (r1_ tr) tr)))) tr) (by kernel_rfl) rfl
    · skip
      obtain ⟨y6, e5, h⟩ := bind_some h
      rcases itb_some h with ⟨c7, h⟩ | ⟨c7, h⟩
      · skip
        obtain rfl := Option.some.inj h
        exact run_ret mixed (L := []) (n := 25) (s := [.reg [], .reg [(1, { call := some ((gather_Gather_ok_v y2).ren (sel [0]), preOf (sel [0]) 0 (gather_Gather_ok_objs g), upOf (sel [0]) (gather_Gather_ok_up g y2)) }), (3, { v := some (.bool false) })], .reg [(3, { v := some (.bool false) }), (6, { call := some (ids_RegMay_v y6, [], []) }), (9, { v := some (.bool true) })], .reg []])
          (a_ (a_ (r2_ tr) (a_ (r1_ (a_ (a_ (a_ (gather_Gather_ok_ok g y2 e1 (sel [0]) (sel_inj rfl rfl)) (a_ (LO.Le.ofVar (c_T_gather_Gather g)) tr)) tr) (r1_ (a_ (a_ tr (a_ (leB c3) tr)) tr)))) (a_ (r1_ (a_ (a_ (a_ tr (lt_ 0 16 rfl)) tr) (r1_ (a_ (a_ tr (a_ (leB c4) tr)) (r1_ (a_ (a_ (a_ tr (le_ 3 16 rfl)) tr) (a_ (a_ (a_ (ids_RegMay_tri x.f_Reg y6 e5) tr) tr) (r2_ (a_ (a_ tr (a_ (leB c7) tr)) (t4_ (r2_ tr))))))))))) (a_ (r1_ tr) tr)))) tr) (by kernel_rfl) rfl
      · skip
        obtain ⟨y9, e8, h⟩ := bind_some h
        rcases itb_some h with ⟨c10, h⟩ | ⟨c10, h⟩
        · skip
          obtain rfl := Option.some.inj h
          exact run_ret mixed (L := []) (n := 25) (s := [.reg [], .reg [(1, { call := some ((gather_Gather_ok_v y2).ren (sel [0]), preOf (sel [0]) 0 (gather_Gather_ok_objs g), upOf (sel [0]) (gather_Gather_ok_up g y2)) }), (3, { v := some (.bool false) })], .reg [(3, { v := some (.bool false) }), (6, { call := some (ids_RegMay_v y6, [], []) }), (9, { v := some (.bool false) }), (12, { call := some (msg_ItemMay_v y9, [], []) }), (15, { v := some (.bool true) })], .reg []])
            (a_ (a_ (r2_ tr) (a_ (r1_ (a_ (a_ (a_ (gather_Gather_ok_ok g y2 e1 (sel [0]) (sel_inj rfl rfl)) (a_ (LO.Le.ofVar (c_T_gather_Gather g)) tr)) tr) (r1_ (a_ (a_ tr (a_ (leB c3) tr)) tr)))) (a_ (r1_ (a_ (a_ (a_ tr (lt_ 0 16 rfl)) tr) (r1_ (a_ (a_ tr (a_ (leB c4) tr)) (r1_ (a_ (a_ (a_ tr (le_ 3 16 rfl)) tr) (a_ (a_ (a_ (ids_RegMay_tri x.f_Reg y6 e5) tr) tr) (r2_ (a_ (a_ tr (a_ (leB c7) tr)) (r1_ (a_ (a_ (a_ tr (le_ 16 16 rfl)) tr) (a_ (a_ (a_ (msg_ItemMay_tri x.f_Item y9 e8) tr) tr) (r2_ (a_ (a_ tr (a_ (leB c10) tr)) tr)))))))))))))) (a_ (r1_ tr) tr)))) tr) (by kernel_rfl) rfl
        · skip
          obtain ⟨y12, e11, h⟩ := bind_some h
          rcases itb_some h with ⟨c13, h⟩ | ⟨c13, h⟩
          · skip
            obtain ⟨g14, h⟩ := guard_some h
            rcases itb_some h with ⟨c15, h⟩ | ⟨c15, h⟩
            · skip
              obtain rfl := Option.some.inj h
              exact run_ret mixed (L := []) (n := 37) (s := [.reg [], .reg [(1, { call := some ((gather_Gather_ok_v y2).ren (sel [0]), preOf (sel [0]) 0 (gather_Gather_ok_objs g), upOf (sel [0]) (gather_Gather_ok_up g y2)) }), (3, { v := some (.bool false) })], .reg [(3, { v := some (.bool false) }), (6, { call := some (ids_RegMay_v y6, [], []) }), (9, { v := some (.bool false) }), (12, { call := some (msg_ItemMay_v y9, [], []) }), (15, { v := some (.bool false) })], .reg [(7, { call := some (bits_Has_v y12, [], []), v := some (.bool true) })], .reg [(7, { v := some (v_T_api_Reg (A8.get g.f_grants (x.f_Node).toNat).f_Reg) }), (10, { v := some (.bool true) })], .reg []])
                (a_ (a_ (r2_ tr) (a_ (r1_ (a_ (a_ (a_ (gather_Gather_ok_ok g y2 e1 (sel [0]) (sel_inj rfl rfl)) (a_ (LO.Le.ofVar (c_T_gather_Gather g)) tr)) tr) (r1_ (a_ (a_ tr (a_ (leB c3) tr)) tr)))) (a_ (r1_ (a_ (a_ (a_ tr (lt_ 0 16 rfl)) tr) (r1_ (a_ (a_ tr (a_ (leB c4) tr)) (r1_ (a_ (a_ (a_ tr (le_ 3 16 rfl)) tr) (a_ (a_ (a_ (ids_RegMay_tri x.f_Reg y6 e5) tr) tr) (r2_ (a_ (a_ tr (a_ (leB c7) tr)) (r1_ (a_ (a_ (a_ tr (le_ 16 16 rfl)) tr) (a_ (a_ (a_ (msg_ItemMay_tri x.f_Item y9 e8) tr) tr) (r2_ (a_ (a_ tr (a_ (leB c10) tr)) tr)))))))))))))) (a_ (r1_ (r2_ (a_ (a_ (a_ tr (lt_ 141 142 rfl)) tr) (r1_ (a_ (a_ (a_ tr (lt_ 0 16 rfl)) tr) (r1_ (a_ (a_ (a_ (bits_Has_tri g.f_nodes (IntKind.wrap .i64 x.f_Node) y12 e11) tr) (a_ (leB c13) tr)) tr))))))) (a_ (r2_ (a_ (a_ (a_ tr (lt_ 0 16 rfl)) tr) (r2_ (a_ (a_ g14 tr) (r1_ (a_ (a_ (a_ tr (arrLea (len := 8) g14 13 16 142 1 2 rfl rfl)) (a_ (ld8a c_T_gather_Got 16 (fun _ => rfl) g.f_grants [.int .u8 g.f_mode, .int .u32 g.f_conf.f_Epoch, .int .u8 g.f_conf.f_R, .int .u8 g.f_conf.f_W, .int .u8 g.f_conf.f_Votes.a0, .int .u8 g.f_conf.f_Votes.a1, .int .u8 g.f_conf.f_Votes.a2, .int .u8 g.f_conf.f_Votes.a3, .int .u8 g.f_conf.f_Votes.a4, .int .u8 g.f_conf.f_Votes.a5, .int .u8 g.f_conf.f_Votes.a6, .int .u8 g.f_conf.f_Votes.a7, .ds 11 (g.f_more).length (rowF c_T_api_Config default g.f_more)] [.int .u64 g.f_nodes] 13 rfl (x.f_Node).toNat 1 2 (lt8N g14) (le_ (1 + 2) 16 rfl)) tr)) (r1_ (a_ (a_ (a_ tr (le_ 3 16 rfl)) tr) (a_ (a_ tr (a_ (LV.Le.trans (leB (k_T_api_Reg (A8.get g.f_grants (x.f_Node).toNat).f_Reg x.f_Reg)) (leB c15)) tr)) tr))))))))) (a_ (r1_ tr) tr)))))) tr) (by kernel_rfl) rfl
            · skip
              obtain rfl := Option.some.inj h
              exact run_ret mixed (L := []) (n := 38) (s := [.reg [], .reg [(1, { call := some ((gather_Gather_ok_v y2).ren (sel [0]), preOf (sel [0]) 0 (gather_Gather_ok_objs g), upOf (sel [0]) (gather_Gather_ok_up g y2)) }), (3, { v := some (.bool false) })], .reg [(3, { v := some (.bool false) }), (6, { call := some (ids_RegMay_v y6, [], []) }), (9, { v := some (.bool false) }), (12, { call := some (msg_ItemMay_v y9, [], []) }), (15, { v := some (.bool false) })], .reg [(7, { call := some (bits_Has_v y12, [], []), v := some (.bool true) })], .reg [(7, { v := some (v_T_api_Reg (A8.get g.f_grants (x.f_Node).toNat).f_Reg) }), (10, { v := some (.bool false) })], .reg []])
                (a_ (a_ (r2_ tr) (a_ (r1_ (a_ (a_ (a_ (gather_Gather_ok_ok g y2 e1 (sel [0]) (sel_inj rfl rfl)) (a_ (LO.Le.ofVar (c_T_gather_Gather g)) tr)) tr) (r1_ (a_ (a_ tr (a_ (leB c3) tr)) tr)))) (a_ (r1_ (a_ (a_ (a_ tr (lt_ 0 16 rfl)) tr) (r1_ (a_ (a_ tr (a_ (leB c4) tr)) (r1_ (a_ (a_ (a_ tr (le_ 3 16 rfl)) tr) (a_ (a_ (a_ (ids_RegMay_tri x.f_Reg y6 e5) tr) tr) (r2_ (a_ (a_ tr (a_ (leB c7) tr)) (r1_ (a_ (a_ (a_ tr (le_ 16 16 rfl)) tr) (a_ (a_ (a_ (msg_ItemMay_tri x.f_Item y9 e8) tr) tr) (r2_ (a_ (a_ tr (a_ (leB c10) tr)) tr)))))))))))))) (a_ (r1_ (r2_ (a_ (a_ (a_ tr (lt_ 141 142 rfl)) tr) (r1_ (a_ (a_ (a_ tr (lt_ 0 16 rfl)) tr) (r1_ (a_ (a_ (a_ (bits_Has_tri g.f_nodes (IntKind.wrap .i64 x.f_Node) y12 e11) tr) (a_ (leB c13) tr)) tr))))))) (a_ (r2_ (a_ (a_ (a_ tr (lt_ 0 16 rfl)) tr) (r2_ (a_ (a_ g14 tr) (r1_ (a_ (a_ (a_ tr (arrLea (len := 8) g14 13 16 142 1 2 rfl rfl)) (a_ (ld8a c_T_gather_Got 16 (fun _ => rfl) g.f_grants [.int .u8 g.f_mode, .int .u32 g.f_conf.f_Epoch, .int .u8 g.f_conf.f_R, .int .u8 g.f_conf.f_W, .int .u8 g.f_conf.f_Votes.a0, .int .u8 g.f_conf.f_Votes.a1, .int .u8 g.f_conf.f_Votes.a2, .int .u8 g.f_conf.f_Votes.a3, .int .u8 g.f_conf.f_Votes.a4, .int .u8 g.f_conf.f_Votes.a5, .int .u8 g.f_conf.f_Votes.a6, .int .u8 g.f_conf.f_Votes.a7, .ds 11 (g.f_more).length (rowF c_T_api_Config default g.f_more)] [.int .u64 g.f_nodes] 13 rfl (x.f_Node).toNat 1 2 (lt8N g14) (le_ (1 + 2) 16 rfl)) tr)) (r1_ (a_ (a_ (a_ tr (le_ 3 16 rfl)) tr) (a_ (a_ tr (a_ (LV.Le.trans (leB (k_T_api_Reg (A8.get g.f_grants (x.f_Node).toNat).f_Reg x.f_Reg)) (leB c15)) tr)) tr))))))))) (a_ (r1_ tr) tr)))))) tr) (by kernel_rfl) rfl
          · skip
            obtain ⟨g14, h⟩ := guard_some h
            obtain ⟨y16, e15, h⟩ := bind_some h
            rcases itb_some h with ⟨c17, h⟩ | ⟨c17, h⟩
            · skip
              obtain rfl := Option.some.inj h
              exact run_ret mixed (L := []) (n := 46) (s := [.reg [], .reg [(1, { call := some ((gather_Gather_ok_v y2).ren (sel [0]), preOf (sel [0]) 0 (gather_Gather_ok_objs g), upOf (sel [0]) (gather_Gather_ok_up g y2)) }), (3, { v := some (.bool false) })], .reg [(3, { v := some (.bool false) }), (6, { call := some (ids_RegMay_v y6, [], []) }), (9, { v := some (.bool false) }), (12, { call := some (msg_ItemMay_v y9, [], []) }), (15, { v := some (.bool false) })], .reg [(7, { call := some (bits_Has_v y12, [], []), v := some (.bool false) })], .reg [(7, { os := [(0, .var (c_T_gather_Gather (T_gather_Gather.mk g.f_mode g.f_conf g.f_more (A8.set g.f_grants x (x.f_Node).toNat) g.f_nodes)))] })], .reg [(8, { call := some (bits_With_v y16, [], []) })], .reg [(9, { v := some (.bool true) })], .reg [], .reg []])
                (a_ (a_ (r2_ tr) (a_ (r1_ (a_ (a_ (a_ (gather_Gather_ok_ok g y2 e1 (sel [0]) (sel_inj rfl rfl)) (a_ (LO.Le.ofVar (c_T_gather_Gather g)) tr)) tr) (r1_ (a_ (a_ tr (a_ (leB c3) tr)) tr)))) (a_ (r1_ (a_ (a_ (a_ tr (lt_ 0 16 rfl)) tr) (r1_ (a_ (a_ tr (a_ (leB c4) tr)) (r1_ (a_ (a_ (a_ tr (le_ 3 16 rfl)) tr) (a_ (a_ (a_ (ids_RegMay_tri x.f_Reg y6 e5) tr) tr) (r2_ (a_ (a_ tr (a_ (leB c7) tr)) (r1_ (a_ (a_ (a_ tr (le_ 16 16 rfl)) tr) (a_ (a_ (a_ (msg_ItemMay_tri x.f_Item y9 e8) tr) tr) (r2_ (a_ (a_ tr (a_ (leB c10) tr)) tr)))))))))))))) (a_ (r1_ (r2_ (a_ (a_ (a_ tr (lt_ 141 142 rfl)) tr) (r1_ (a_ (a_ (a_ tr (lt_ 0 16 rfl)) tr) (r1_ (a_ (a_ (a_ (bits_Has_tri g.f_nodes (IntKind.wrap .i64 x.f_Node) y12 e11) tr) (a_ (leB c13) tr)) tr))))))) (a_ (r2_ (a_ (a_ (a_ tr (lt_ 0 16 rfl)) tr) (a_ (a_ (a_ tr (le_ 16 16 rfl)) tr) (r2_ (a_ (a_ g14 tr) (a_ (a_ (a_ (Eq.refl 16) (a_ (arrLe (len := 8) g14 13 16 142 16 rfl rfl) (Eq.refl 0))) (a_ (st8 c_T_gather_Got 16 (fun _ => rfl) g.f_grants [.int .u8 g.f_mode, .int .u32 g.f_conf.f_Epoch, .int .u8 g.f_conf.f_R, .int .u8 g.f_conf.f_W, .int .u8 g.f_conf.f_Votes.a0, .int .u8 g.f_conf.f_Votes.a1, .int .u8 g.f_conf.f_Votes.a2, .int .u8 g.f_conf.f_Votes.a3, .int .u8 g.f_conf.f_Votes.a4, .int .u8 g.f_conf.f_Votes.a5, .int .u8 g.f_conf.f_Votes.a6, .int .u8 g.f_conf.f_Votes.a7, .ds 11 (g.f_more).length (rowF c_T_api_Config default g.f_more)] [.int .u64 g.f_nodes] 13 rfl (x.f_Node).toNat (lt8N g14) x) tr)) tr)))))) (a_ (r4_ (a_ (a_ (a_ tr (lt_ 141 142 rfl)) tr) (r1_ (a_ (a_ (a_ tr (lt_ 0 16 rfl)) tr) (r1_ (a_ (a_ (a_ (bits_With_tri g.f_nodes (IntKind.wrap .i64 x.f_Node) y16 e15) tr) tr) (r2_ (a_ (a_ (a_ (Eq.refl 1) (a_ (le_ 142 142 rfl) (Eq.refl 0))) tr) tr)))))))) (a_ (r1_ (r2_ (a_ (a_ (a_ tr (lt_ 5 16 rfl)) tr) (r4_ (a_ (a_ (a_ tr (lt_ 1 142 rfl)) tr) (a_ (a_ tr (a_ (leB c17) tr)) tr)))))) (a_ (r1_ (r2_ (a_ (a_ (a_ tr (le_ 16 16 rfl)) tr) (r2_ (a_ (a_ (a_ (Eq.refl 11) (a_ (le_ 12 142 rfl) (Eq.refl 0))) tr) tr))))) (a_ (r1_ tr) tr))))))))) tr) (by kernel_rfl) rfl
            · skip
              obtain rfl := Option.some.inj h
              exact run_ret mixed (L := []) (n := 45) (s := [.reg [], .reg [(1, { call := some ((gather_Gather_ok_v y2).ren (sel [0]), preOf (sel [0]) 0 (gather_Gather_ok_objs g), upOf (sel [0]) (gather_Gather_ok_up g y2)) }), (3, { v := some (.bool false) })], .reg [(3, { v := some (.bool false) }), (6, { call := some (ids_RegMay_v y6, [], []) }), (9, { v := some (.bool false) }), (12, { call := some (msg_ItemMay_v y9, [], []) }), (15, { v := some (.bool false) })], .reg [(7, { call := some (bits_Has_v y12, [], []), v := some (.bool false) })], .reg [(7, { os := [(0, .var (c_T_gather_Gather (T_gather_Gather.mk g.f_mode g.f_conf g.f_more (A8.set g.f_grants x (x.f_Node).toNat) g.f_nodes)))] })], .reg [(8, { call := some (bits_With_v y16, [], []) })], .reg [(9, { v := some (.bool false) })], .reg []])
                (a_ (a_ (r2_ tr) (a_ (r1_ (a_ (a_ (a_ (gather_Gather_ok_ok g y2 e1 (sel [0]) (sel_inj rfl rfl)) (a_ (LO.Le.ofVar (c_T_gather_Gather g)) tr)) tr) (r1_ (a_ (a_ tr (a_ (leB c3) tr)) tr)))) (a_ (r1_ (a_ (a_ (a_ tr (lt_ 0 16 rfl)) tr) (r1_ (a_ (a_ tr (a_ (leB c4) tr)) (r1_ (a_ (a_ (a_ tr (le_ 3 16 rfl)) tr) (a_ (a_ (a_ (ids_RegMay_tri x.f_Reg y6 e5) tr) tr) (r2_ (a_ (a_ tr (a_ (leB c7) tr)) (r1_ (a_ (a_ (a_ tr (le_ 16 16 rfl)) tr) (a_ (a_ (a_ (msg_ItemMay_tri x.f_Item y9 e8) tr) tr) (r2_ (a_ (a_ tr (a_ (leB c10) tr)) tr)))))))))))))) (a_ (r1_ (r2_ (a_ (a_ (a_ tr (lt_ 141 142 rfl)) tr) (r1_ (a_ (a_ (a_ tr (lt_ 0 16 rfl)) tr) (r1_ (a_ (a_ (a_ (bits_Has_tri g.f_nodes (IntKind.wrap .i64 x.f_Node) y12 e11) tr) (a_ (leB c13) tr)) tr))))))) (a_ (r2_ (a_ (a_ (a_ tr (lt_ 0 16 rfl)) tr) (a_ (a_ (a_ tr (le_ 16 16 rfl)) tr) (r2_ (a_ (a_ g14 tr) (a_ (a_ (a_ (Eq.refl 16) (a_ (arrLe (len := 8) g14 13 16 142 16 rfl rfl) (Eq.refl 0))) (a_ (st8 c_T_gather_Got 16 (fun _ => rfl) g.f_grants [.int .u8 g.f_mode, .int .u32 g.f_conf.f_Epoch, .int .u8 g.f_conf.f_R, .int .u8 g.f_conf.f_W, .int .u8 g.f_conf.f_Votes.a0, .int .u8 g.f_conf.f_Votes.a1, .int .u8 g.f_conf.f_Votes.a2, .int .u8 g.f_conf.f_Votes.a3, .int .u8 g.f_conf.f_Votes.a4, .int .u8 g.f_conf.f_Votes.a5, .int .u8 g.f_conf.f_Votes.a6, .int .u8 g.f_conf.f_Votes.a7, .ds 11 (g.f_more).length (rowF c_T_api_Config default g.f_more)] [.int .u64 g.f_nodes] 13 rfl (x.f_Node).toNat (lt8N g14) x) tr)) tr)))))) (a_ (r4_ (a_ (a_ (a_ tr (lt_ 141 142 rfl)) tr) (r1_ (a_ (a_ (a_ tr (lt_ 0 16 rfl)) tr) (r1_ (a_ (a_ (a_ (bits_With_tri g.f_nodes (IntKind.wrap .i64 x.f_Node) y16 e15) tr) tr) (r2_ (a_ (a_ (a_ (Eq.refl 1) (a_ (le_ 142 142 rfl) (Eq.refl 0))) tr) tr)))))))) (a_ (r1_ (r2_ (a_ (a_ (a_ tr (lt_ 5 16 rfl)) tr) (r4_ (a_ (a_ (a_ tr (lt_ 1 142 rfl)) tr) (a_ (a_ tr (a_ (leB c17) tr)) tr)))))) (a_ (r1_ tr) tr)))))))) tr) (by kernel_rfl) rfl

/-- parrel/votes.Writes -/

def votes_Writes_v (r : (Bool)) : LV := .bool r

def votes_Writes (c : T_api_Config) (set : Int) : Option ((Bool)) :=
  (votes_Of c set).bind fun y2 =>
  some (decide ((IntKind.wrap .i64 c.f_W) ≤ y2))

theorem votes_Writes_ok (c : T_api_Config) (set : Int) (r : (Bool)) (h : votes_Writes c set = some r) : ∀ σ, Inj 0 σ → FnTri Tryd.prog 40 (renL σ [v_T_api_Config c, .int .u64 set]) (preOf σ 0 []) ((votes_Writes_v r).ren σ) (upOf σ []) := by
  refine fn_of Tryd.func40 (by kernel_rfl) (by kernel_rfl) (by kernel_rfl) trivial (by kernel_rfl) trivial (by kernel_rfl) ?_
  intro w0 W μ0 hμ
  unfold votes_Writes at h
  obtain ⟨y2, e1, h⟩ := bind_some h
  obtain rfl := Option.some.inj h
  exact run_ret mixed (L := []) (n := 15) (s := [.reg [], .reg [(2, { call := some (votes_Of_v y2, [], []) })]])
    (a_ (a_ (r2_ tr) (a_ (a_ (a_ (a_ tr (le_ 11 11 rfl)) tr) (r1_ (a_ (a_ (a_ (votes_Of_tri c set y2 e1) tr) tr) (r1_ (a_ (a_ (a_ tr (lt_ 2 11 rfl)) tr) (r1_ (r2_ tr))))))) tr)) tr) (by kernel_rfl) rfl

theorem votes_Writes_tri (c : T_api_Config) (set : Int) (r : (Bool)) (h : votes_Writes c set = some r) : FnTri Tryd.prog 40 [v_T_api_Config c, .int .u64 set] [] (votes_Writes_v r) [] := FnTri.none (votes_Writes_ok c set r h) rfl rfl

/-- (*parrel/gather.Gather).Enough$1 -/

def gather_Gather_Enough_L1_v (r : (Bool)) : LV := .bool r

def gather_Gather_Enough_L1_up (c : T_api_Config) (x : T_gather_Gather) (r : (Bool)) : Upd := [(0, some (.var [.ptr 1 0 0]))]

def gather_Gather_Enough_L1_objs (c : T_api_Config) (x : T_gather_Gather) : List LO := [.var [.ptr 1 0 0], .row 142 1 (fun _ => c_T_gather_Gather x) false]

def gather_Gather_Enough_L1 (c : T_api_Config) (x : T_gather_Gather) : Option ((Bool)) :=
  (votes_Writes c x.f_nodes).bind fun y2 =>
  some (!y2)

theorem gather_Gather_Enough_L1_ok (c : T_api_Config) (x : T_gather_Gather) (r : (Bool)) (h : gather_Gather_Enough_L1 c x = some r) : ∀ σ, Inj 2 σ → FnTri Tryd.prog 41 (renL σ [v_T_api_Config c, .ptr 0 0 0]) (preOf σ 0 (gather_Gather_Enough_L1_objs c x)) ((gather_Gather_Enough_L1_v r).ren σ) (upOf σ (gather_Gather_Enough_L1_up c x r)) := by
  refine fn_of Tryd.func41 (by kernel_rfl) (by kernel_rfl) (by kernel_rfl) ⟨rfl, fun _ _ => rfl, trivial⟩ (by kernel_rfl) ⟨rfl, trivial⟩ (by kernel_rfl) ?_
  intro w0 W μ0 hμ
  unfold gather_Gather_Enough_L1 at h
  obtain ⟨y2, e1, h⟩ := bind_some h
  obtain rfl := Option.some.inj h
  exact run_ret mixed (L := []) (n := 15) (s := [.reg [], .reg [(5, { call := some (votes_Writes_v y2, [], []) })]])
    (a_ (a_ (r2_ tr) (a_ (a_ (a_ (a_ tr (le_ 11 11 rfl)) tr) (a_ (a_ (a_ tr (lt_ 0 1 rfl)) tr) (r2_ (a_ (a_ (a_ (lt_ 0 1 rfl) (lt_ 141 142 rfl)) tr) (a_ (a_ (a_ (votes_Writes_tri c x.f_nodes y2 e1) tr) tr) (r2_ tr)))))) tr)) tr) (by kernel_rfl) rfl

/-- slices.IndexFunc[[]parrel/api.Config,parrel/api.Config] -/

def slices_IndexFunc_api_Config_api_Config_2_v (r : (Int)) : LV := .int .i64 r

def slices_IndexFunc_api_Config_api_Config_2_up (s : List (T_api_Config)) (x : T_gather_Gather) (r : (Int)) : Upd := [(0, some (.var [.ptr 1 0 0]))]

def slices_IndexFunc_api_Config_api_Config_2_objs (s : List (T_api_Config)) (x : T_gather_Gather) : List LO := [.var [.ptr 1 0 0], .row 142 1 (fun _ => c_T_gather_Gather x) false]

def slices_IndexFunc_api_Config_api_Config_2_T0 (s : List (T_api_Config)) (x : T_gather_Gather) (t8 : Int) : List LV := [.ds 11 (s).length (rowF c_T_api_Config default s), .fn 41 [] [.ptr 0 0 0], .any, .any, .any, .any, .any, .int .i64 ((s).length : Int), .int .i64 t8, .any, .any, .any, .any, .any, .any, .any, .any, .any, .any]

def slices_IndexFunc_api_Config_api_Config_2_H0 (s : List (T_api_Config)) (x : T_gather_Gather) (t8 : Int) : Heap := [some (.var [.ptr 1 0 0]), some (.row 142 1 (fun _ => c_T_gather_Gather x) false)]

def slices_IndexFunc_api_Config_api_Config_2_l0 (s : List (T_api_Config)) (x : T_gather_Gather)  : Nat → (Int) → Option ((Int))
  | 0, _ => none
  | fuel + 1, t8 =>
    if ((decide (t8 < ((s).length : Int))) : Bool) then
      if 0 ≤ t8 ∧ t8 < (((s).length : Nat) : Int) then
      (gather_Gather_Enough_L1 (s.getD t8.toNat default) x).bind fun yL0_4 =>
      if (yL0_4 : Bool) then
        some t8
      else
        slices_IndexFunc_api_Config_api_Config_2_l0 s x  fuel (IntKind.wrap .i64 (t8 + 1))
      else none
    else
      some (-1)

def slices_IndexFunc_api_Config_api_Config_2 (s : List (T_api_Config)) (x : T_gather_Gather) : Option ((Int)) :=
  slices_IndexFunc_api_Config_api_Config_2_l0 s x  big 0

theorem slices_IndexFunc_api_Config_api_Config_2_l0_ok {w0 : World} {W : Nat → Prop} {μ0 : Emb} (hμ : ∀ c p, μ0 c = some p → c < 2) (s : List (T_api_Config)) (x : T_gather_Gather)  : ∀ (fuel : Nat) (t8 : Int) (r : (Int)), slices_IndexFunc_api_Config_api_Config_2_l0 s x  fuel t8 = some r → kont Tryd.prog w0 W μ0 (FnPost Tryd.prog Tryd.f60 2 2 (slices_IndexFunc_api_Config_api_Config_2_v r) (slices_IndexFunc_api_Config_api_Config_2_up s x r)) (kAt (bodyOf Tryd.f60) 0) none (slices_IndexFunc_api_Config_api_Config_2_T0 s x t8) (slices_IndexFunc_api_Config_api_Config_2_H0 s x t8) := by
  intro fuel
  induction fuel with
  | zero => intro t8 r h; rw [slices_IndexFunc_api_Config_api_Config_2_l0] at h; cases h
  | succ fuel ih =>
    intro t8 r h
    rw [slices_IndexFunc_api_Config_api_Config_2_l0] at h
    rcases itb_some h with ⟨cL0_1, h⟩ | ⟨cL0_1, h⟩
    · skip
      obtain ⟨gL0_2, h⟩ := guard_some h
      obtain ⟨yL0_4, eL0_3, h⟩ := bind_some h
      rcases itb_some h with ⟨cL0_5, h⟩ | ⟨cL0_5, h⟩
      · skip
        obtain rfl := Option.some.inj h
        exact run_ret mixed (L := []) (n := 28) (s := [.go, .reg [(0, { v := some (.bool true) })], .reg [], .reg [(5, { call := some ((gather_Gather_Enough_L1_v yL0_4).ren (sel [0, 1]), preOf (sel [0, 1]) 0 (gather_Gather_Enough_L1_objs (s.getD t8.toNat default) x), upOf (sel [0, 1]) (gather_Gather_Enough_L1_up (s.getD t8.toNat default) x yL0_4)), v := some (.bool true) })], .reg []])
          (a_ (a_ (a_ (a_ tr (a_ (leB cL0_1) tr)) tr) (a_ (r2_ tr) (a_ (r1_ (r2_ (a_ (a_ (a_ (Eq.refl 11) gL0_2) tr) (a_ (a_ (le_ 11 11 rfl) tr) (a_ (a_ (a_ (gather_Gather_Enough_L1_ok (s.getD t8.toNat default) x yL0_4 eL0_3 (sel [0, 1]) (sel_inj rfl rfl)) (a_ (LO.Le.refl (.var [.ptr 1 0 0])) (a_ (LO.Le.refl (.row 142 1 (fun _ => c_T_gather_Gather x) false)) tr))) (a_ (leB cL0_5) tr)) tr))))) (a_ (r2_ tr) tr)))) tr) (by kernel_rfl) rfl
      · skip
        exact run_to mixed hμ (L := []) (n := 29) (s := [.go, .reg [(0, { v := some (.bool true) })], .reg [], .reg [(5, { call := some ((gather_Gather_Enough_L1_v yL0_4).ren (sel [0, 1]), preOf (sel [0, 1]) 0 (gather_Gather_Enough_L1_objs (s.getD t8.toNat default) x), upOf (sel [0, 1]) (gather_Gather_Enough_L1_up (s.getD t8.toNat default) x yL0_4)), v := some (.bool false) })], .reg []])
          (a_ (a_ (a_ tr (a_ (leB cL0_1) tr)) tr) (a_ (r2_ tr) (a_ (r1_ (r2_ (a_ (a_ (a_ (Eq.refl 11) gL0_2) tr) (a_ (a_ (le_ 11 11 rfl) tr) (a_ (a_ (a_ (gather_Gather_Enough_L1_ok (s.getD t8.toNat default) x yL0_4 eL0_3 (sel [0, 1]) (sel_inj rfl rfl)) (a_ (LO.Le.refl (.var [.ptr 1 0 0])) (a_ (LO.Le.refl (.row 142 1 (fun _ => c_T_gather_Gather x) false)) tr))) (a_ (leB cL0_5) tr)) tr))))) (a_ (r2_ tr) tr)))) (ih _ r h) (by kernel_rfl) ⟨rfl, fun _ _ => rfl, trivial⟩
    · skip
      obtain rfl := Option.some.inj h
      exact run_ret mixed (L := []) (n := 19) (s := [.go, .reg [(0, { v := some (.bool false) })], .reg []])
        (a_ (a_ (a_ (a_ tr (a_ (leB cL0_1) tr)) tr) (a_ (r1_ tr) tr)) tr) (by kernel_rfl) rfl

theorem slices_IndexFunc_api_Config_api_Config_2_ok (s : List (T_api_Config)) (x : T_gather_Gather) (r : (Int)) (h : slices_IndexFunc_api_Config_api_Config_2 s x = some r) : ∀ σ, Inj 2 σ → FnTri Tryd.prog 60 (renL σ [.ds 11 (s).length (rowF c_T_api_Config default s), .fn 41 [] [.ptr 0 0 0]]) (preOf σ 0 (slices_IndexFunc_api_Config_api_Config_2_objs s x)) ((slices_IndexFunc_api_Config_api_Config_2_v r).ren σ) (upOf σ (slices_IndexFunc_api_Config_api_Config_2_up s x r)) := by
  refine fn_of Tryd.func60 (by kernel_rfl) (by kernel_rfl) (by kernel_rfl) ⟨rfl, fun _ _ => rfl, trivial⟩ (by kernel_rfl) ⟨rfl, trivial⟩ (by kernel_rfl) ?_
  intro w0 W μ0 hμ
  unfold slices_IndexFunc_api_Config_api_Config_2 at h
  exact run_to mixed hμ (L := []) (n := 18) (s := [.reg [], .reg []])
    (a_ (r1_ tr) (a_ (r1_ (r2_ tr)) tr)) (slices_IndexFunc_api_Config_api_Config_2_l0_ok hμ s x  big _ r h) (by kernel_rfl) ⟨rfl, fun _ _ => rfl, trivial⟩

/-- slices.ContainsFunc[[]parrel/api.Config,parrel/api.Config] -/

def slices_ContainsFunc_api_Config_api_Config_2_v (r : (Bool)) : LV := .bool r

def slices_ContainsFunc_api_Config_api_Config_2_up (s : List (T_api_Config)) (x : T_gather_Gather) (r : (Bool)) : Upd := [(0, some (.var [.ptr 1 0 0]))]

def slices_ContainsFunc_api_Config_api_Config_2_objs (s : List (T_api_Config)) (x : T_gather_Gather) : List LO := [.var [.ptr 1 0 0], .row 142 1 (fun _ => c_T_gather_Gather x) false]

def slices_ContainsFunc_api_Config_api_Config_2 (s : List (T_api_Config)) (x : T_gather_Gather) : Option ((Bool)) :=
  (slices_IndexFunc_api_Config_api_Config_2 s x).bind fun y2 =>
  some (decide (0 ≤ y2))

theorem slices_ContainsFunc_api_Config_api_Config_2_ok (s : List (T_api_Config)) (x : T_gather_Gather) (r : (Bool)) (h : slices_ContainsFunc_api_Config_api_Config_2 s x = some r) : ∀ σ, Inj 2 σ → FnTri Tryd.prog 42 (renL σ [.ds 11 (s).length (rowF c_T_api_Config default s), .fn 41 [] [.ptr 0 0 0]]) (preOf σ 0 (slices_ContainsFunc_api_Config_api_Config_2_objs s x)) ((slices_ContainsFunc_api_Config_api_Config_2_v r).ren σ) (upOf σ (slices_ContainsFunc_api_Config_api_Config_2_up s x r)) := by
  refine fn_of Tryd.func42 (by kernel_rfl) (by kernel_rfl) (by kernel_rfl) ⟨rfl, fun _ _ => rfl, trivial⟩ (by kernel_rfl) ⟨rfl, trivial⟩ (by kernel_rfl) ?_
  intro w0 W μ0 hμ
  unfold slices_ContainsFunc_api_Config_api_Config_2 at h
  obtain ⟨y2, e1, h⟩ := bind_some h
  obtain rfl := Option.some.inj h
  exact run_ret mixed (L := []) (n := 15) (s := [.reg [], .reg [(2, { call := some ((slices_IndexFunc_api_Config_api_Config_2_v y2).ren (sel [0, 1]), preOf (sel [0, 1]) 0 (slices_IndexFunc_api_Config_api_Config_2_objs s x), upOf (sel [0, 1]) (slices_IndexFunc_api_Config_api_Config_2_up s x y2)) })]])
    (a_ (a_ (r1_ tr) (a_ (r2_ (a_ (a_ (a_ (slices_IndexFunc_api_Config_api_Config_2_ok s x y2 e1 (sel [0, 1]) (sel_inj rfl rfl)) (a_ (LO.Le.refl (.var [.ptr 1 0 0])) (a_ (LO.Le.refl (.row 142 1 (fun _ => c_T_gather_Gather x) false)) tr))) tr) (r2_ tr))) tr)) tr) (by kernel_rfl) rfl

/-- parrel/votes.Reads -/

def votes_Reads_v (r : (Bool)) : LV := .bool r

def votes_Reads (c : T_api_Config) (set : Int) : Option ((Bool)) :=
  (votes_Of c set).bind fun y2 =>
  some (decide ((IntKind.wrap .i64 c.f_R) ≤ y2))

theorem votes_Reads_ok (c : T_api_Config) (set : Int) (r : (Bool)) (h : votes_Reads c set = some r) : ∀ σ, Inj 0 σ → FnTri Tryd.prog 39 (renL σ [v_T_api_Config c, .int .u64 set]) (preOf σ 0 []) ((votes_Reads_v r).ren σ) (upOf σ []) := by
  refine fn_of Tryd.func39 (by kernel_rfl) (by kernel_rfl) (by kernel_rfl) trivial (by kernel_rfl) trivial (by kernel_rfl) ?_
  intro w0 W μ0 hμ
  unfold votes_Reads at h
  obtain ⟨y2, e1, h⟩ := bind_some h
  obtain rfl := Option.some.inj h
  exact run_ret mixed (L := []) (n := 15) (s := [.reg [], .reg [(2, { call := some (votes_Of_v y2, [], []) })]])
    (a_ (a_ (r2_ tr) (a_ (a_ (a_ (a_ tr (le_ 11 11 rfl)) tr) (r1_ (a_ (a_ (a_ (votes_Of_tri c set y2 e1) tr) tr) (r1_ (a_ (a_ (a_ tr (lt_ 1 11 rfl)) tr) (r1_ (r2_ tr))))))) tr)) tr) (by kernel_rfl) rfl

theorem votes_Reads_tri (c : T_api_Config) (set : Int) (r : (Bool)) (h : votes_Reads c set = some r) : FnTri Tryd.prog 39 [v_T_api_Config c, .int .u64 set] [] (votes_Reads_v r) [] := FnTri.none (votes_Reads_ok c set r h) rfl rfl

/-- (*parrel/gather.Gather).Enough -/

def gather_Gather_Enough_v (r : (Bool)) : LV := .bool r

def gather_Gather_Enough_up (g : T_gather_Gather) (r : (Bool)) : Upd := []

def gather_Gather_Enough_objs (g : T_gather_Gather) : List LO := [.row 142 1 (fun _ => c_T_gather_Gather g) false]

def gather_Gather_Enough (g : T_gather_Gather) : Option ((Bool)) :=
  (gather_Gather_ok g).bind fun y2 =>
  if ((!y2) : Bool) then
    some false
  else
    if ((g.f_mode == 2) : Bool) then
      (votes_Writes g.f_conf g.f_nodes).bind fun y6 =>
      if (y6 : Bool) then
        (slices_ContainsFunc_api_Config_api_Config_2 g.f_more g).bind fun y9 =>
        some (!y9)
      else
        some false
    else
      (votes_Reads g.f_conf g.f_nodes).bind fun y6 =>
      if (y6 : Bool) then
        (slices_ContainsFunc_api_Config_api_Config_2 g.f_more g).bind fun y9 =>
        some (!y9)
      else
        some false

theorem gather_Gather_Enough_ok (g : T_gather_Gather) (r : (Bool)) (h : gather_Gather_Enough g = some r) : ∀ σ, Inj 1 σ → FnTri Tryd.prog 14 (renL σ [.ptr 0 0 0]) (preOf σ 0 (gather_Gather_Enough_objs g)) ((gather_Gather_Enough_v r).ren σ) (upOf σ (gather_Gather_Enough_up g r)) := by
  refine fn_of Tryd.func14 (by kernel_rfl) (by kernel_rfl) (by kernel_rfl) ⟨fun _ _ => rfl, trivial⟩ (by kernel_rfl) trivial (by kernel_rfl) ?_
  intro w0 W μ0 hμ
  unfold gather_Gather_Enough at h
  obtain ⟨y2, e1, h⟩ := bind_some h
  rcases itb_some h with ⟨c3, h⟩ | ⟨c3, h⟩
  · skip
    obtain rfl := Option.some.inj h
    exact run_ret mixed (L := []) (n := 20) (s := [.reg [], .reg [(1, { call := some ((gather_Gather_ok_v y2).ren (sel [0]), preOf (sel [0]) 0 (gather_Gather_ok_objs g), upOf (sel [0]) (gather_Gather_ok_up g y2)) }), (2, { v := some (.bool true) })], .reg []])
      (a_ (a_ (r2_ tr) (a_ (a_ (a_ (a_ tr (lt_ 0 1 rfl)) tr) (a_ (a_ (a_ (gather_Gather_ok_ok g y2 e1 (sel [0]) (sel_inj rfl rfl)) (a_ (LO.Le.refl (.row 142 1 (fun _ => c_T_gather_Gather g) false)) tr)) tr) (a_ (a_ tr (a_ (leB c3) tr)) tr))) (a_ (r1_ tr) tr))) tr) (by kernel_rfl) rfl
  · skip
    rcases itb_some h with ⟨c4, h⟩ | ⟨c4, h⟩
    · skip
      obtain ⟨y6, e5, h⟩ := bind_some h
      rcases itb_some h with ⟨c7, h⟩ | ⟨c7, h⟩
      · skip
        obtain ⟨y9, e8, h⟩ := bind_some h
        obtain rfl := Option.some.inj h
        exact run_ret mixed (L := []) (n := 34) (s := [.reg [], .reg [(1, { call := some ((gather_Gather_ok_v y2).ren (sel [0]), preOf (sel [0]) 0 (gather_Gather_ok_objs g), upOf (sel [0]) (gather_Gather_ok_up g y2)) }), (2, { v := some (.bool false) })], .reg [], .reg [(4, { v := some (.bool true) })], .reg [], .reg [], .reg [(9, { call := some (votes_Writes_v y6, [], []) }), (10, { v := some (.bool true) }), (16, { call := some ((slices_ContainsFunc_api_Config_api_Config_2_v y9).ren (sel [1, 0]), preOf (sel [1, 0]) 0 (slices_ContainsFunc_api_Config_api_Config_2_objs g.f_more g), upOf (sel [1, 0]) (slices_ContainsFunc_api_Config_api_Config_2_up g.f_more g y9)) })]])
          (a_ (a_ (r2_ tr) (a_ (a_ (a_ (a_ tr (lt_ 0 1 rfl)) tr) (a_ (a_ (a_ (gather_Gather_ok_ok g y2 e1 (sel [0]) (sel_inj rfl rfl)) (a_ (LO.Le.refl (.row 142 1 (fun _ => c_T_gather_Gather g) false)) tr)) tr) (a_ (a_ tr (a_ (leB c3) tr)) tr))) (a_ (r1_ tr) (a_ (a_ (a_ (a_ tr (lt_ 0 1 rfl)) tr) (r2_ (a_ (a_ (a_ (lt_ 0 1 rfl) (lt_ 0 142 rfl)) tr) (a_ (a_ tr (a_ (leB c4) tr)) tr)))) (a_ (r1_ tr) (a_ (r2_ tr) (a_ (r1_ (a_ (a_ (a_ tr (lt_ 0 1 rfl)) tr) (r2_ (a_ (a_ (a_ (lt_ 0 1 rfl) (le_ 12 142 rfl)) tr) (a_ (a_ (a_ tr (lt_ 0 1 rfl)) tr) (r2_ (a_ (a_ (a_ (lt_ 0 1 rfl) (lt_ 141 142 rfl)) tr) (a_ (a_ (a_ (votes_Writes_tri g.f_conf g.f_nodes y6 e5) tr) tr) (a_ (a_ tr (a_ (leB c7) tr)) (a_ (a_ (a_ tr (lt_ 0 1 rfl)) tr) (r2_ (a_ (a_ (a_ (lt_ 0 1 rfl) (lt_ 12 142 rfl)) tr) (r1_ (a_ (a_ (a_ (slices_ContainsFunc_api_Config_api_Config_2_ok g.f_more g y9 e8 (sel [1, 0]) (sel_inj rfl rfl)) (a_ (LO.Le.refl (.var [.ptr 0 0 0])) (a_ (LO.Le.refl (.row 142 1 (fun _ => c_T_gather_Gather g) false)) tr))) tr) (r1_ (r2_ tr)))))))))))))))) tr))))))) tr) (by kernel_rfl) rfl
      · skip
        obtain rfl := Option.some.inj h
        exact run_ret mixed (L := []) (n := 34) (s := [.reg [], .reg [(1, { call := some ((gather_Gather_ok_v y2).ren (sel [0]), preOf (sel [0]) 0 (gather_Gather_ok_objs g), upOf (sel [0]) (gather_Gather_ok_up g y2)) }), (2, { v := some (.bool false) })], .reg [], .reg [(4, { v := some (.bool true) })], .reg [], .reg [], .reg [(9, { call := some (votes_Writes_v y6, [], []) }), (10, { v := some (.bool false) })]])
          (a_ (a_ (r2_ tr) (a_ (a_ (a_ (a_ tr (lt_ 0 1 rfl)) tr) (a_ (a_ (a_ (gather_Gather_ok_ok g y2 e1 (sel [0]) (sel_inj rfl rfl)) (a_ (LO.Le.refl (.row 142 1 (fun _ => c_T_gather_Gather g) false)) tr)) tr) (a_ (a_ tr (a_ (leB c3) tr)) tr))) (a_ (r1_ tr) (a_ (a_ (a_ (a_ tr (lt_ 0 1 rfl)) tr) (r2_ (a_ (a_ (a_ (lt_ 0 1 rfl) (lt_ 0 142 rfl)) tr) (a_ (a_ tr (a_ (leB c4) tr)) tr)))) (a_ (r1_ tr) (a_ (r2_ tr) (a_ (r1_ (a_ (a_ (a_ tr (lt_ 0 1 rfl)) tr) (r2_ (a_ (a_ (a_ (lt_ 0 1 rfl) (le_ 12 142 rfl)) tr) (a_ (a_ (a_ tr (lt_ 0 1 rfl)) tr) (r2_ (a_ (a_ (a_ (lt_ 0 1 rfl) (lt_ 141 142 rfl)) tr) (a_ (a_ (a_ (votes_Writes_tri g.f_conf g.f_nodes y6 e5) tr) tr) (a_ (a_ tr (a_ (leB c7) tr)) (a_ tr (t2_ (t4_ (r2_ tr))))))))))))) tr))))))) tr) (by kernel_rfl) rfl
    · skip
      obtain ⟨y6, e5, h⟩ := bind_some h
      rcases itb_some h with ⟨c7, h⟩ | ⟨c7, h⟩
      · skip
        obtain ⟨y9, e8, h⟩ := bind_some h
        obtain rfl := Option.some.inj h
        exact run_ret mixed (L := []) (n := 33) (s := [.reg [], .reg [(1, { call := some ((gather_Gather_ok_v y2).ren (sel [0]), preOf (sel [0]) 0 (gather_Gather_ok_objs g), upOf (sel [0]) (gather_Gather_ok_up g y2)) }), (2, { v := some (.bool false) })], .reg [], .reg [(4, { v := some (.bool false) })], .reg [], .reg [(9, { call := some (votes_Reads_v y6, [], []) }), (10, { v := some (.bool true) }), (16, { call := some ((slices_ContainsFunc_api_Config_api_Config_2_v y9).ren (sel [1, 0]), preOf (sel [1, 0]) 0 (slices_ContainsFunc_api_Config_api_Config_2_objs g.f_more g), upOf (sel [1, 0]) (slices_ContainsFunc_api_Config_api_Config_2_up g.f_more g y9)) })]])
          (a_ (a_ (r2_ tr) (a_ (a_ (a_ (a_ tr (lt_ 0 1 rfl)) tr) (a_ (a_ (a_ (gather_Gather_ok_ok g y2 e1 (sel [0]) (sel_inj rfl rfl)) (a_ (LO.Le.refl (.row 142 1 (fun _ => c_T_gather_Gather g) false)) tr)) tr) (a_ (a_ tr (a_ (leB c3) tr)) tr))) (a_ (r1_ tr) (a_ (a_ (a_ (a_ tr (lt_ 0 1 rfl)) tr) (r2_ (a_ (a_ (a_ (lt_ 0 1 rfl) (lt_ 0 142 rfl)) tr) (a_ (a_ tr (a_ (leB c4) tr)) tr)))) (a_ (r2_ tr) (a_ (r1_ (a_ (a_ (a_ tr (lt_ 0 1 rfl)) tr) (r2_ (a_ (a_ (a_ (lt_ 0 1 rfl) (le_ 12 142 rfl)) tr) (a_ (a_ (a_ tr (lt_ 0 1 rfl)) tr) (r2_ (a_ (a_ (a_ (lt_ 0 1 rfl) (lt_ 141 142 rfl)) tr) (a_ (a_ (a_ (votes_Reads_tri g.f_conf g.f_nodes y6 e5) tr) tr) (a_ (a_ tr (a_ (leB c7) tr)) (a_ (a_ (a_ tr (lt_ 0 1 rfl)) tr) (r2_ (a_ (a_ (a_ (lt_ 0 1 rfl) (lt_ 12 142 rfl)) tr) (r1_ (a_ (a_ (a_ (slices_ContainsFunc_api_Config_api_Config_2_ok g.f_more g y9 e8 (sel [1, 0]) (sel_inj rfl rfl)) (a_ (LO.Le.refl (.var [.ptr 0 0 0])) (a_ (LO.Le.refl (.row 142 1 (fun _ => c_T_gather_Gather g) false)) tr))) tr) (r1_ (r2_ tr)))))))))))))))) tr)))))) tr) (by kernel_rfl) rfl
      · skip
        obtain rfl := Option.some.inj h
        exact run_ret mixed (L := []) (n := 33) (s := [.reg [], .reg [(1, { call := some ((gather_Gather_ok_v y2).ren (sel [0]), preOf (sel [0]) 0 (gather_Gather_ok_objs g), upOf (sel [0]) (gather_Gather_ok_up g y2)) }), (2, { v := some (.bool false) })], .reg [], .reg [(4, { v := some (.bool false) })], .reg [], .reg [(9, { call := some (votes_Reads_v y6, [], []) }), (10, { v := some (.bool false) })]])
          (a_ (a_ (r2_ tr) (a_ (a_ (a_ (a_ tr (lt_ 0 1 rfl)) tr) (a_ (a_ (a_ (gather_Gather_ok_ok g y2 e1 (sel [0]) (sel_inj rfl rfl)) (a_ (LO.Le.refl (.row 142 1 (fun _ => c_T_gather_Gather g) false)) tr)) tr) (a_ (a_ tr (a_ (leB c3) tr)) tr))) (a_ (r1_ tr) (a_ (a_ (a_ (a_ tr (lt_ 0 1 rfl)) tr) (r2_ (a_ (a_ (a_ (lt_ 0 1 rfl) (lt_ 0 142 rfl)) tr) (a_ (a_ tr (a_ (leB c4) tr)) tr)))) (a_ (r2_ tr) (a_ (r1_ (a_ (a_ (a_ tr (lt_ 0 1 rfl)) tr) (r2_ (a_ (a_ (a_ (lt_ 0 1 rfl) (le_ 12 142 rfl)) tr) (a_ (a_ (a_ tr (lt_ 0 1 rfl)) tr) (r2_ (a_ (a_ (a_ (lt_ 0 1 rfl) (lt_ 141 142 rfl)) tr) (a_ (a_ (a_ (votes_Reads_tri g.f_conf g.f_nodes y6 e5) tr) tr) (a_ (a_ tr (a_ (leB c7) tr)) (a_ tr (t2_ (t4_ (r2_ tr))))))))))))) tr)))))) tr) (by kernel_rfl) rfl

/-! bits.List: PRE -/
def bl49_Tab (w : World) : Prop := ∀ j, j < 64 → w.cell? ⟨0, j, none⟩ = some (.int .u8 ((Lib.deBruijn64tab.getD j 0 : Nat) : Int))
theorem bl49_tz_core (n : Nat) (x k idx : Nat) (w : World) (hx0 : ((x : Int) == 0) = false)
    (key : IntKind.u64.wrap (bits BinOp.and IntKind.u64 (x : Int) (IntKind.u64.wrap (-(x : Int))) * 285870213051353865) / 288230376151711744 = (idx : Int))
    (hi : idx < 64) (hk : k < 64) (hcell : w.cell? ⟨0, idx, none⟩ = some (.int .u8 k)) :
    CallsIn Fence.wide n Tryd.prog 77 #[.int .u64 x] w fun e w' => e = .returned (.int .i64 k) ∧ w' = w := by
  refine callsIn_of_wp Tryd.func77 rfl trivial ?_ rfl
  simp only [Tryd.ntmps77, List.size_toArray, List.length_cons, List.length_nil, Nat.reduceAdd, Nat.reduceSub, Array.replicate_succ, Array.replicate_zero, List.push_toArray, List.append_toArray, List.nil_append, List.cons_append]
  gi_wp2_with (simp only [key])
  go_ret
  exact ⟨rfl, rfl⟩
theorem bl49_tz (n : Nat) (x : Nat) (hx : x < 18446744073709551616) (hx0 : x ≠ 0) (w : World) (hT : bl49_Tab w) :
    CallsIn Fence.wide n Tryd.prog 77 #[.int .u64 x] w fun e w' => e = .returned (.int .i64 (Lib.ctz 64 x)) ∧ w' = w := by
  obtain ⟨hlow, hk⟩ := Lib.lowest_bit 64 x hx0 hx
  obtain ⟨hi, htab⟩ := Lib.deBruijn64_at _ hk
  have hcell := hT _ hi
  rw [htab] at hcell
  exact bl49_tz_core n x _ _ w (by simp; omega) (Go.Proofs.tz64_key x _ hx hx0 hlow) hi hk hcell
theorem bl49_all (n : Nat) (s : Int) (w : World) :
    CallsIn Fence.wide n Tryd.prog 66 #[.int .u64 s] w fun e w' => e = .returned (.func (.func 76) #[] #[.pointer (some ⟨w.heap.size, 0, none⟩)]) ∧ w' = w.alloc (.cells #[.int .u64 s] 26) := by
  refine callsIn_of_wp Tryd.func66 rfl trivial ?_ rfl
  simp only [Tryd.ntmps66, List.size_toArray, List.length_cons, List.length_nil, Nat.reduceAdd, Nat.reduceSub, Array.replicate_succ, Array.replicate_zero, List.push_toArray, List.append_toArray, List.nil_append, List.cons_append]
  gi_wp2
  go_ret
  exact ⟨rfl, rfl⟩
def bl49_boxN (bx : Nat) (w : World) : Nat :=
  match w.cell? ⟨bx, 0, none⟩ with
  | some (.int _ x) => x.toNat
  | _ => 0
theorem bl49_boxN_eq {bx : Nat} {w : World} {t : TypeId} {x : Nat} (h : Boxed w bx t (.int .u64 x)) : bl49_boxN bx w = x := by
  unfold bl49_boxN; rw [h.cell]; simp
theorem bl49_tab_same {w w' : World} (h : bl49_Tab w) (e : w'.heap[0]? = w.heap[0]?) : bl49_Tab w' := fun j hj => by
  rw [← h j hj]; exact World.cell?_of_block (a := ⟨0, j, none⟩) e
theorem bl49_al1 (n : Nat) (hn : 1 ≤ n) (l bx : Nat) (s : Nat) (hs : s < 18446744073709551616) (KB : Nat → Prop) (hKb : KB bx) (hKg : KB 0) (hne : 0 ≠ bx) (J : List Int → World → Prop) (B : Nat) (hJ : AbidesX B bx J)
    (hY : ∀ pre x W1, J pre W1 → pre.length < 64 → YieldAt Fence.wide (n - 1) Tryd.prog l #[.int .i64 x] W1 fun e W' => e = .returned (.bool true) ∧ J (pre ++ [x]) W' ∧ ∀ b, KB b → W'.heap[b]? = W1.heap[b]?)
    (W : World) (hB : Boxed W bx 26 (.int .u64 s)) (hT : bl49_Tab W) (h0 : J [] W) :
    CallsIn Fence.wide n Tryd.prog 76 #[.func (.yield l) #[] #[], .pointer (some ⟨bx, 0, none⟩)] W fun e W' => (∃ v, e = .returned v) ∧ J (bitsL s) W' := by
  have FTZ : Fence.wide.fn 77 := trivial
  refine callsIn_of_wp Tryd.func76 rfl trivial ?_ rfl
  simp only [Tryd.ntmps76, List.size_toArray, List.length_cons, List.length_nil, Nat.reduceAdd, Nat.reduceSub, Array.replicate_succ, Array.replicate_zero, List.push_toArray, List.append_toArray, List.nil_append, List.cons_append]
  gi_wp2
  gi_loopw [] (fun wr => ∃ (pre : List Int) (x : Nat), x < 18446744073709551616 ∧ Boxed wr bx 26 (.int .u64 x) ∧ bl49_Tab wr ∧ bitsL s = pre ++ bitsL x ∧ J pre wr) (fun wr => bl49_boxN bx wr)
  case atStart => exact ⟨[], s, hs, hB, hT, rfl, h0⟩
  case round =>
    obtain ⟨pre, x, hx, hb, ht, he, hj⟩ := hrel
    have hc := hb.cell
    by_cases hx0 : x = 0
    · subst hx0
      gi_wp2
      go_end0
      refine ⟨⟨_, rfl⟩, ?_⟩
      have e0 : bitsL ((0 : Nat) : Int) = [] := bitsL_zero
      rw [e0, List.append_nil] at he
      rw [he]; exact hj
    · have hxi : ((x : Int) != 0) = true := by simp; omega
      have hstep := bitsL_step x hx0 (by omega)
      have hlen : pre.length < 64 := by
        have := bitsL_len (s : Int)
        rw [he, hstep, List.length_append, List.length_cons] at this
        omega
      obtain ⟨fn, tmps, assign, body, hy, hR⟩ := hY pre (Lib.ctz 64 x : Int) wr hj hlen
      gi_wp2_with (gi_at_call 77; refine (bl49_tz _ x hx hx0 _ ht).mono ?_; rintro e w' ⟨rfl, rfl⟩)
      refine hR.mono ?_
      rintro e W3 ⟨rfl, hJ3, hk3⟩
      have hb3 : Boxed W3 bx 26 (.int .u64 x) := (hk3 bx hKb).trans hb
      have ht3 := bl49_tab_same ht (hk3 0 hKg)
      have hc3 := hb3.cell
      have hf3 := hb3.frozen
      have hand : bits BinOp.and IntKind.u64 (x : Int) ((x : Int) - 1) = ((x &&& (x - 1) : Nat) : Int) := by
        have e1 : (x : Int) - 1 = ((x - 1 : Nat) : Int) := by omega
        rw [e1, bits_and_u64_nat x _ hx (by omega)]
      gi_wp2_with (simp only [hand])
      go_roundw
      case rel =>
        refine ⟨pre ++ [(Lib.ctz 64 x : Int)], x &&& (x - 1), Nat.lt_trans (and_pred_lt x hx0) hx, hb3.set _, bl49_tab_same ht3 (Below.heap_setCell _ _ _ _ hne), ?_, ?_⟩
        · rw [he, hstep, List.append_assoc]; rfl
        · exact hJ _ _ _ (some bx) hJ3 (grownBy_setCell' W3 bx _) (Nat.le_refl _) (fun r e => by cases e; exact .inr rfl)
      case measure =>
        rw [bl49_boxN_eq (hb3.set _), bl49_boxN_eq hb]
        exact and_pred_lt x hx0

theorem bl49_low {W : World} {b b' : Nat} {e : TypeId} {size k : Nat} {v : Value} {xs : List Value} (hb : b' ≤ b) (h : W.ownsRow b e size v k xs) : W.ownsRow b' e size v k xs :=
  ⟨h.1, h.2.imp id fun ⟨g, cap, cur, e1, e2, r⟩ => ⟨g, cap, cur, e1, Nat.le_trans hb e2, r⟩⟩
theorem bl49_info : ∃ i, Tryd.prog.info? 3 = some i ∧ i.zero = some (.int .i64 0) ∧ i.size = 1 ∧ i.bytes = 8 := by
  have h : (Tryd.prog.info? 3).map (fun i => (i.zero, i.size, i.bytes)) = some (some (.int .i64 0), 1, 8) := by kernel_rfl
  obtain ⟨i, h1, h2⟩ := Option.map_eq_some_iff.1 h
  exact ⟨i, h1, congrArg (·.1) h2, congrArg (·.2.1) h2, congrArg (·.2.2) h2⟩
/-- Between two rounds: the box holds what has come so far. -/
def bl49_J (w : World) (pre : List Int) (W : World) : Prop :=
  (∃ v, Boxed W w.heap.size 90 v ∧ W.ownsRow (w.heap.size + 2) 3 1 v pre.length (pre.map fun x => Value.int .i64 x) ∧ (v = .slice none 0 0 ↔ pre = [])) ∧ Below w.heap.size w W ∧ w.drawn ≤ W.drawn ∧ w.heap.size + 2 ≤ W.heap.size
theorem bl49_J_own (w : World) (B : Nat) (hB : w.heap.size + 1 ≤ B) : OwnX B (w.heap.size + 1) (bl49_J w) := by
  rintro pre W W' row ⟨⟨v, hv, hrow, hG⟩, hbl, hd, hsz⟩ hg hdr hr
  refine ⟨⟨v, hv.kept hg (fun e' => ?_), hrow.kept hg ?_, hG⟩, hbl.grown hg hbl.size (fun k e => ?_), Nat.le_trans hd hdr, Nat.le_trans hsz hg.size⟩
  · rcases hr _ e'.symm with ⟨h, _⟩ | e <;> omega
  · rcases hrow.2 with ⟨rfl, _⟩ | ⟨g, cap, cur, rfl, hg2, hgb, _⟩
    · exact .inl rfl
    · refine .inr fun e' => ?_
      rcases hr g (by simpa [Value.ownBlock] using e'.symm) with ⟨_, o, ho, hc⟩ | e
      · rw [hgb] at ho; cases ho; cases hc
      · omega
  · rcases hr k e with ⟨h, _⟩ | h <;> omega
theorem bl49_list (n : Nat) (hn : 3 ≤ n) (s : Nat) (hs : s < 18446744073709551616) (w : World) (hT : bl49_Tab w) :
    CallsIn Fence.wide n Tryd.prog 49 #[.int .u64 s] w fun e w' => ∃ v, e = .returned v ∧ w'.ownsRow (w.heap.size + 2) 3 1 v (bitsL s).length ((bitsL s).map fun x => Value.int .i64 x) ∧ (v = .slice none 0 0 ↔ bitsL s = []) ∧ Below w.heap.size w w' ∧ w.drawn ≤ w'.drawn := by
  have h1 : 1 ≤ n := by omega
  have FALL : Fence.wide.fn 66 := trivial
  have hgs : 0 < w.heap.size := by
    have := hT 0 (by decide)
    unfold World.cell? at this
    rcases Nat.lt_or_ge 0 w.heap.size with h | h
    · exact h
    · rw [Array.getElem?_eq_none h] at this; cases this
  refine callsIn_of_wp_marks Tryd.func49 rfl trivial ?_ rfl
  simp only [Tryd.ntmps49, List.size_toArray, List.length_cons, List.length_nil, Nat.reduceAdd, Nat.reduceSub, Array.replicate_succ, Array.replicate_zero, List.push_toArray, List.append_toArray, List.nil_append, List.cons_append]
  gi_wp2_with (gi_at_call 66; refine (bl49_all (n - 1) s _).mono ?_; rintro e w' ⟨rfl, rfl⟩)
  obtain ⟨W0, hW0⟩ : ∃ W0, (w.alloc (.cells #[.slice none 0 0] 90)).alloc (.cells #[.int .u64 s] 26) = W0 := ⟨_, rfl⟩
  have hs0 : W0.heap.size = w.heap.size + 2 := by rw [← hW0]; simp
  have hb0 : Below w.heap.size w W0 := by rw [← hW0]; exact ((Below.refl _ w).alloc (Nat.le_refl _) _).alloc (by simp) _
  have hB0 : Boxed W0 w.heap.size 90 (.slice none 0 0) := by rw [← hW0]; exact (Boxed.new w _ _).alloc _
  have hB1 : Boxed W0 (w.heap.size + 1) 26 (.int .u64 s) := by
    rw [← hW0]
    have := Boxed.new (w.alloc (.cells #[.slice none 0 0] 90)) 26 (.int .u64 s)
    rwa [World.size_alloc] at this
  have hT0 : bl49_Tab W0 := bl49_tab_same hT (hb0.block 0 hgs)
  rw [hW0]
  have hseq : SeqX Fence.wide (n - 1) Tryd.prog 76 #[.pointer (some ⟨w.heap.size + 1, 0, none⟩)] (fun x : Int => Value.int .i64 x) (fun xs => xs = bitsL s) 64 (w.heap.size + 1) (fun b => b = w.heap.size + 1 ∨ b = 0) W0 := by
    intro l J W hW hJ hY h0
    refine (bl49_al1 (n - 1) (by omega) l (w.heap.size + 1) s hs _ (.inl rfl) (.inr rfl) (by omega) J W.heap.size hJ hY W ((hW.block _ (by omega)).trans hB1) (bl49_tab_same hT0 (hW.block _ (by omega))) h0).mono ?_
    rintro e W' ⟨hv, hj⟩
    exact ⟨hv, _, rfl, hj⟩
  refine rangeFunc_boxX rfl h1 (gf := 76) (lb := #[.pointer (some ⟨w.heap.size + 1, 0, none⟩)]) rfl trivial (Go.Proofs.enters_of Tryd.func76 (by kernel_rfl) rfl) (bx := w.heap.size + 1) (KB := fun b => b = w.heap.size + 1 ∨ b = 0) (by omega) (fun b hb => by rcases hb with rfl | rfl <;> omega) hseq (Below.refl _ _) rfl
    (bl49_J w) (by rw [hs0]; exact bl49_J_own w _ (by omega)) ⟨⟨_, hB0, World.ownsRow_nil _ _ _ _, by simp⟩, hb0, by rw [← hW0]; exact Nat.le_refl _, by omega⟩
    (fun pre x a1 W => bl49_J w pre W ∧ a1 = { tmps := #[.int .u64 s, undef, .slice none 0 0, .pointer (some ⟨w.heap.size, 0, none⟩), .int .i64 x, .int .u64 s, .func (.func 76) #[] #[.pointer (some ⟨w.heap.size + 1, 0, none⟩)], .int .i64 x, undef, undef, undef, undef, undef], defers := [] })
    (fun x a1 => OwnX.and (by rw [hs0]; exact bl49_J_own w _ (by omega)) (fun s X Y row hs hg _ hr => hs)) ?assign ?body ?done
  case assign =>
    intro l pre x W hI hlen
    gi_wp2_with (rw [Oper.semAt_eq _ _ _ (fun c h => by cases h)]; go_simp; try go_bits)
    refine ⟨⟨hI, ?_⟩, KeepsOthers.refl _, ?_⟩ <;> first | rfl | trivial | (intro _ _; first | rfl | trivial)
  case body =>
    rintro l pre x a1 W ⟨⟨⟨v, hv, hrow, hnil⟩, hB, hD0, hsz⟩, rfl⟩ hlen
    have hml : 64 ≤ maxLen := by unfold maxLen; omega
    obtain ⟨i0, hi, hz0, hz1, hz2⟩ := bl49_info
    have hc := hv.cell
    have hf := hv.frozen
    have hbs := hB.size
    gi_wp2_with (first
      | (gi_at_builtin; refine wpListIn_append_d _ rfl _ _ 90 rfl (w.heap.size + 2) 3 i0 _ 1 8 Tryd.underlying90 hi hz0 hz1 hz2 rfl (by decide) _ _ _ rfl (hrow.alloc _) ⟨W.heap.size, 0, none⟩ 1 1 [Value.int .i64 x] rfl rfl ?_ ?_ (by omega) (by omega) (by simp; omega) ?_)
      | (rw [Oper.semAt_eq _ _ _ (fun c h => by cases h)]; go_simp; try go_bits))
    · exact fun j u hj => cell_new W [Value.int .i64 x] 3 j u hj
    · intro u hu
      simp only [List.mem_cons, List.not_mem_nil, or_false] at hu
      subst hu; rfl
    · intro v' w3 hown' hg3 hd3 hnil3
      obtain ⟨hv3, hv4, hrow4, hko, hbe⟩ := hv.appended (by decide) (bl49_low (by omega) hrow) hbs (Nat.le_refl _) (bl49_low (b' := w.heap.size) (by omega) hown') hg3
      have hc3 := hv3.cell
      have hf3 := hv3.frozen
      have hrow5 : (w3.setCell ⟨w.heap.size, 0, none⟩ v').ownsRow (w.heap.size + 2) 3 1 v' (pre.length + 1) (pre.map (fun x => Value.int .i64 x) ++ [Value.int .i64 x]) :=
        hown'.kept (grownBy_setCell' w3 w.heap.size v') (.inr (hv3.not_row (by decide) (bl49_low (b' := w.heap.size) (by omega) hown')).symm)
      have hkb : ∀ b, (b = w.heap.size + 1 ∨ b = 0) → (w3.setCell ⟨w.heap.size, 0, none⟩ v').heap[b]? = W.heap[b]? := by
        intro b hb
        have hbl : b < W.heap.size := by rcases hb with rfl | rfl <;> omega
        have hne : b ≠ w.heap.size := by rcases hb with rfl | rfl <;> omega
        have h2 : w3.heap[b]? = (W.alloc (.cells [Value.int .i64 x].toArray 3)).heap[b]? := by
          refine hg3.block b (by simp; omega) (fun e => ?_)
          rcases hrow.2 with ⟨rfl, _⟩ | ⟨g, cap, cur, rfl, hg2, _, _⟩
          · simp [Value.ownBlock] at e
          · have : b = g := by simpa [Value.ownBlock] using e
            subst this
            rcases hb with rfl | rfl <;> omega
        rw [Below.heap_setCell _ _ _ _ hne, h2]
        exact Below.heap_alloc _ _ _ hbl
      have hsz3 : w.heap.size + 2 ≤ (w3.setCell ⟨w.heap.size, 0, none⟩ v').heap.size := Nat.le_trans hsz hko.size
      obtain ⟨g', cap', hv'⟩ := ownsRow_succ hown'
      subst hv'
      gi_wp2_with (rw [Oper.semAt_eq _ _ _ (fun c h => by cases h)]; go_simp; try go_bits)
      refine ⟨⟨_, hv4, ?_, by simp⟩, hB.trans hbe, Nat.le_trans hD0 hd3, hsz3⟩
      rw [List.length_append, List.map_append]
      exact hrow5
  case done =>
    rintro D ss W hD hS ⟨⟨v, hv, hrow, hnil⟩, hB, hD0, _⟩ hK
    subst hS
    have hc := hv.cell
    have hf := hv.frozen
    gi_wp2
    refine ⟨by simp, .inl ⟨_, _, rfl, run_takeDeferred hK, ?_⟩⟩
    exact ⟨_, results_tmp rfl _ _ _, v, rfl, ownsRow_putObj hrow _ hK rfl, hnil, hB.grown (grownBy_putObj' _ _ _) hB.size (fun k e => by cases e; omega), hD0⟩

/-- **bits.List** -/
theorem bl49_tri (hG : tabBlk = some 0) (t : Int) (h : 0 ≤ t ∧ t < 18446744073709551616) : FnTri Tryd.prog 49 [.int .u64 t] [] (.ds 1 (bitsL t).length (rowF (cInt .i64) default (bitsL t))) [] := by
  refine ⟨⟨Tryd.f49, Tryd.func49, by kernel_rfl, by kernel_rfl⟩, fun μ w vals hr hp _ => ?_⟩
  obtain ⟨x, r, rfl, hx, hr'⟩ := hr
  cases hr'
  simp only [Rel] at hx
  subst hx
  obtain ⟨s, rfl⟩ : ∃ s : Nat, t = (s : Int) := ⟨t.toNat, by omega⟩
  have hT : bl49_Tab w := by
    obtain ⟨cs, h1, h2⟩ := hp.tab 0 hG
    obtain ⟨E, fr, h3⟩ := hp.fro _ _ h1
    intro j hj
    simp only [World.cell?, h3, Option.isSome_none, Bool.false_eq_true, if_false]
    exact h2 j hj
  refine (callsIn_wide.1 (bl49_list 4 (by omega) s (by omega) w hT)).mono ?_
  rintro e w' ⟨v, rfl, hrow, hnil, hb, hd⟩
  have hrow' : w'.ownsRow w.heap.size 3 1 v (bitsL (s : Int)).length ((bitsL (s : Int)).flatMap fun x => [Value.int .i64 x]) := by
    have e : ∀ l : List Int, (l.flatMap fun x => [Value.int .i64 x]) = l.map fun x => Value.int .i64 x := fun l => by induction l with | nil => rfl | cons a l ih => simp [ih]
    rw [e]; exact bl49_low (by omega) hrow
  obtain ⟨μ', k1, k2⟩ := sorted_fin (α := Int) (enc := cInt .i64) (kc := fun x => [Value.int .i64 x]) (k := 1) (L := bitsL (s : Int)) (v := v) (fun φ x => ⟨_, _, rfl, rfl, rfl⟩) (fun _ => rfl) (fun x v hv => by simp at hv; subst hv; rfl) hp hb hd (sortedAt_owns (enc := fun x : Int => [Value.int .i64 x]) (k := 1) (fun _ => rfl) (Nat.le_refl w.heap.size) hrow')
  exact ⟨v, μ', rfl, k1, k2⟩

/-- (*parrel/gather.Gather).All -/

def gather_Gather_All_vA (r : Unit) : LV := .ds 16 (([] : List (T_gather_Got))).length (rowF c_T_gather_Got default ([] : List (T_gather_Got)))

def gather_Gather_All_upA (g : T_gather_Gather) (r : Unit) : Upd := []

def gather_Gather_All_vB (r : (List (T_gather_Got))) : LV := .gs 1 (r).length

def gather_Gather_All_upB (g : T_gather_Gather) (r : (List (T_gather_Got))) : Upd := [(1, some (.gr 16 (r).length (rowF c_T_gather_Got default r)))]

def gather_Gather_All_objs (g : T_gather_Gather) : List LO := [.row 142 1 (fun _ => c_T_gather_Gather g) false]

def gather_Gather_All_T0 (g : T_gather_Gather) (t15 : Int) (l : List (T_gather_Got)) : List LV := [.ptr 0 0 0, .any, .any, .gs 1 (l).length, .any, .any, .any, .any, .any, .any, .any, .any, .any, .ds 1 ((bitsL g.f_nodes)).length (rowF (cInt .i64) default (bitsL g.f_nodes)), .int .i64 (((bitsL g.f_nodes)).length : Int), .int .i64 t15, .any, .any, .any, .any, .any, .any, .any, .any, .any, .any, .any, .any, .any, .any]

def gather_Gather_All_H0 (g : T_gather_Gather) (t15 : Int) (l : List (T_gather_Got)) : Heap := [some (.row 142 1 (fun _ => c_T_gather_Gather g) false), some (.gr 16 (l).length (rowF c_T_gather_Got default l))]

def gather_Gather_All_l0 (g : T_gather_Gather)  : Nat → (Int) → (List (T_gather_Got)) → Option (Bool × (Unit) × ((List (T_gather_Got))))
  | 0, _, _ => none
  | fuel + 1, t15, l =>
    if ((decide (t15 < (((bitsL g.f_nodes)).length : Int))) : Bool) then
      if 0 ≤ t15 ∧ t15 < ((((bitsL g.f_nodes)).length : Nat) : Int) then
      if 0 ≤ ((bitsL g.f_nodes).getD t15.toNat default) ∧ ((bitsL g.f_nodes).getD t15.toNat default) < 8 then
      if ((l).length + (([(A8.get g.f_grants (((bitsL g.f_nodes).getD t15.toNat default)).toNat)] : List (T_gather_Got))).length) * 56 ≤ 140737488351232 then
      gather_Gather_All_l0 g  fuel (IntKind.wrap .i64 (t15 + 1)) (l ++ ([(A8.get g.f_grants (((bitsL g.f_nodes).getD t15.toNat default)).toNat)] : List (T_gather_Got)))
      else none
      else none
      else none
    else
      some (false, default, l)

def gather_Gather_All (g : T_gather_Gather) : Option (Bool × (Unit) × ((List (T_gather_Got)))) :=
  (gather_Gather_ok g).bind fun y2 =>
  if ((!y2) : Bool) then
    some (true, (), default)
  else
    if 0 ≤ g.f_nodes ∧ g.f_nodes < 18446744073709551616 then
    gather_Gather_All_l0 g  big 0 ([] : List (T_gather_Got))
    else none

theorem gather_Gather_All_l0_okA {w0 : World} {W : Nat → Prop} {μ0 : Emb} (hμ : ∀ c p, μ0 c = some p → c < 1) (g : T_gather_Gather)  : ∀ (fuel : Nat) (t15 : Int) (l : List (T_gather_Got)) (r : Unit) (r_ : (List (T_gather_Got))), gather_Gather_All_l0 g  fuel t15 l = some (true, r, r_) → kont Tryd.prog w0 W μ0 (FnPost Tryd.prog Tryd.f32 1 1 (gather_Gather_All_vA r) (gather_Gather_All_upA g r)) (kAt (bodyOf Tryd.f32) 0) none (gather_Gather_All_T0 g t15 l) (gather_Gather_All_H0 g t15 l) := by
  intro fuel
  induction fuel with
  | zero => intro t15 l r r_ h; rw [gather_Gather_All_l0] at h; cases h
  | succ fuel ih =>
    intro t15 l r r_ h
    rw [gather_Gather_All_l0] at h
    rcases itb_some h with ⟨cL0_1, h⟩ | ⟨cL0_1, h⟩
    · skip
      obtain ⟨gL0_2, h⟩ := guard_some h
      obtain ⟨gL0_3, h⟩ := guard_some h
      obtain ⟨gL0_4, h⟩ := guard_some h
      exact run_to mixed hμ (L := [3]) (n := 26) (s := [.go, .reg [(0, { v := some (.bool true) })], .reg [], .reg [(6, { v := some (v_T_gather_Got (A8.get g.f_grants (((bitsL g.f_nodes).getD t15.toNat default)).toNat)) }), (7, { os := [(2, .gr 16 (([(A8.get g.f_grants (((bitsL g.f_nodes).getD t15.toNat default)).toNat)] : List (T_gather_Got))).length (rowF c_T_gather_Got default ([(A8.get g.f_grants (((bitsL g.f_nodes).getD t15.toNat default)).toNat)] : List (T_gather_Got))))], v := some (.gs 2 (([(A8.get g.f_grants (((bitsL g.f_nodes).getD t15.toNat default)).toNat)] : List (T_gather_Got))).length) }), (8, { app := 3, os := [(3, .gr 16 ((l ++ ([(A8.get g.f_grants (((bitsL g.f_nodes).getD t15.toNat default)).toNat)] : List (T_gather_Got)))).length (rowF c_T_gather_Got default (l ++ ([(A8.get g.f_grants (((bitsL g.f_nodes).getD t15.toNat default)).toNat)] : List (T_gather_Got)))))], v := some (.gs 3 ((l ++ ([(A8.get g.f_grants (((bitsL g.f_nodes).getD t15.toNat default)).toNat)] : List (T_gather_Got)))).length) })], .reg []])
        (a_ (a_ (a_ tr (a_ (leB cL0_1) tr)) tr) (a_ (a_ (a_ (a_ (Eq.refl 1) gL0_2) tr) (a_ (a_ (lt_ 0 1 rfl) tr) (r1_ tr))) (a_ (r1_ (r4_ (a_ (a_ gL0_3 tr) (a_ (a_ (a_ (lt_ 0 1 rfl) (arrLe (len := 8) gL0_3 13 16 142 16 rfl rfl)) (a_ (ld8 c_T_gather_Got 16 (fun _ => rfl) g.f_grants [.int .u8 g.f_mode, .int .u32 g.f_conf.f_Epoch, .int .u8 g.f_conf.f_R, .int .u8 g.f_conf.f_W, .int .u8 g.f_conf.f_Votes.a0, .int .u8 g.f_conf.f_Votes.a1, .int .u8 g.f_conf.f_Votes.a2, .int .u8 g.f_conf.f_Votes.a3, .int .u8 g.f_conf.f_Votes.a4, .int .u8 g.f_conf.f_Votes.a5, .int .u8 g.f_conf.f_Votes.a6, .int .u8 g.f_conf.f_Votes.a7, .ds 11 (g.f_more).length (rowF c_T_api_Config default g.f_more)] [.int .u64 g.f_nodes] 13 rfl (((bitsL g.f_nodes).getD t15.toNat default)).toNat 16 (lt8N gL0_3) (le_ (0 + 16) 16 rfl)) tr)) (a_ (a_ (a_ (Eq.refl true) (a_ (Eq.refl 16) (a_ (lt_ 0 16 rfl) (le_ 16 16777216 rfl)))) (a_ (le_sl_gs 2 1 (some 1) rfl) (a_ (sub_lit c_T_gather_Got default 16 (fun _ => rfl) ([(A8.get g.f_grants (((bitsL g.f_nodes).getD t15.toNat default)).toNat)] : List (T_gather_Got))) tr))) (a_ (a_ (a_ (a_ (Eq.refl 16) (Nat.le_refl (([(A8.get g.f_grants (((bitsL g.f_nodes).getD t15.toNat default)).toNat)] : List (T_gather_Got))).length)) (a_ (a_ (lt_ 0 16 rfl) (a_ (lt_ 0 56 rfl) (a_ gL0_4 (a_ (Eq.refl 16) (Eq.refl true))))) (a_ (Eq.refl 16) (Nat.le_refl (l).length)))) (a_ (le_gs_app 3 l ([(A8.get g.f_grants (((bitsL g.f_nodes).getD t15.toNat default)).toNat)] : List (T_gather_Got))) (a_ (sub_app c_T_gather_Got default 16 l ([(A8.get g.f_grants (((bitsL g.f_nodes).getD t15.toNat default)).toNat)] : List (T_gather_Got))) tr))) (r1_ tr))))))) (a_ (r2_ tr) tr)))) (ih _ _ r r_ h) (by kernel_rfl) ⟨fun _ _ => rfl, fun _ _ => rfl, trivial⟩
    · skip
      cases h

theorem gather_Gather_All_okA (g : T_gather_Gather) (r : Unit) (r_ : (List (T_gather_Got))) (h : gather_Gather_All g = some (true, r, r_)) : ∀ σ, Inj 1 σ → FnTri Tryd.prog 32 (renL σ [.ptr 0 0 0]) (preOf σ 0 (gather_Gather_All_objs g)) ((gather_Gather_All_vA r).ren σ) (upOf σ (gather_Gather_All_upA g r)) := by
  refine fn_of Tryd.func32 (by kernel_rfl) (by kernel_rfl) (by kernel_rfl) ⟨fun _ _ => rfl, trivial⟩ (by kernel_rfl) trivial (by kernel_rfl) ?_
  intro w0 W μ0 hμ
  unfold gather_Gather_All at h
  obtain ⟨y2, e1, h⟩ := bind_some h
  rcases itb_some h with ⟨c3, h⟩ | ⟨c3, h⟩
  · skip
    have h := congrArg (fun z => z.2.1) (Option.some.inj h)
    dsimp only at h
    subst h
    exact run_ret mixed (L := []) (n := 20) (s := [.reg [(0, { v := some (.ds 16 (([] : List (T_gather_Got))).length (rowF c_T_gather_Got default ([] : List (T_gather_Got)))) })], .reg [(1, { call := some ((gather_Gather_ok_v y2).ren (sel [0]), preOf (sel [0]) 0 (gather_Gather_ok_objs g), upOf (sel [0]) (gather_Gather_ok_up g y2)) }), (2, { v := some (.bool true) })], .reg [(0, { v := some (.ds 16 (([] : List (T_gather_Got))).length (rowF c_T_gather_Got default ([] : List (T_gather_Got)))) })]])
      (a_ (a_ (a_ (a_ tr (a_ (le_nil_ds 16 (rowF c_T_gather_Got default [])) tr)) tr) (a_ (r1_ (a_ (a_ (a_ (gather_Gather_ok_ok g y2 e1 (sel [0]) (sel_inj rfl rfl)) (a_ (LO.Le.refl (.row 142 1 (fun _ => c_T_gather_Gather g) false)) tr)) tr) (a_ (a_ tr (a_ (leB c3) tr)) tr))) (a_ (a_ (a_ tr (a_ (le_nil_ds 16 (rowF c_T_gather_Got default [])) tr)) tr) tr))) tr) (by kernel_rfl) rfl
  · skip
    obtain ⟨g4, h⟩ := guard_some h
    exact run_to mixed hμ (L := [1]) (n := 28) (s := [.reg [(0, { v := some (.ds 16 (([] : List (T_gather_Got))).length (rowF c_T_gather_Got default ([] : List (T_gather_Got)))) })], .reg [(1, { call := some ((gather_Gather_ok_v y2).ren (sel [0]), preOf (sel [0]) 0 (gather_Gather_ok_objs g), upOf (sel [0]) (gather_Gather_ok_up g y2)) }), (2, { v := some (.bool false) })], .void (.gr 16 (([] : List (T_gather_Got))).length (rowF c_T_gather_Got default ([] : List (T_gather_Got)))), .reg [(0, { v := some (.gs 1 (([] : List (T_gather_Got))).length) })], .reg [(4, { call := some (.ds 1 ((bitsL g.f_nodes)).length (rowF (cInt .i64) default (bitsL g.f_nodes)), [], []) })]])
      (a_ (a_ (a_ tr (a_ (le_nil_ds 16 (rowF c_T_gather_Got default [])) tr)) tr) (a_ (r1_ (a_ (a_ (a_ (gather_Gather_ok_ok g y2 e1 (sel [0]) (sel_inj rfl rfl)) (a_ (LO.Le.refl (.row 142 1 (fun _ => c_T_gather_Gather g) false)) tr)) tr) (a_ (a_ tr (a_ (leB c3) tr)) tr))) (a_ (Eq.refl 0) (a_ (a_ (a_ tr (a_ (le_nil_gs 1) tr)) tr) (a_ (r1_ (r2_ (a_ (a_ (a_ (lt_ 0 1 rfl) (lt_ 141 142 rfl)) tr) (a_ (a_ (a_ (bl49_tri rfl g.f_nodes g4) tr) tr) (r2_ tr))))) tr))))) (gather_Gather_All_l0_okA hμ g  big _ _ r r_ h) (by kernel_rfl) ⟨fun _ _ => rfl, fun _ _ => rfl, trivial⟩

theorem gather_Gather_All_l0_okB {w0 : World} {W : Nat → Prop} {μ0 : Emb} (hμ : ∀ c p, μ0 c = some p → c < 1) (g : T_gather_Gather)  : ∀ (fuel : Nat) (t15 : Int) (l : List (T_gather_Got)) (r : (List (T_gather_Got))) (r_ : Unit), gather_Gather_All_l0 g  fuel t15 l = some (false, r_, r) → kont Tryd.prog w0 W μ0 (FnPost Tryd.prog Tryd.f32 1 2 (gather_Gather_All_vB r) (gather_Gather_All_upB g r)) (kAt (bodyOf Tryd.f32) 0) none (gather_Gather_All_T0 g t15 l) (gather_Gather_All_H0 g t15 l) := by
  intro fuel
  induction fuel with
  | zero => intro t15 l r r_ h; rw [gather_Gather_All_l0] at h; cases h
  | succ fuel ih =>
    intro t15 l r r_ h
    rw [gather_Gather_All_l0] at h
    rcases itb_some h with ⟨cL0_1, h⟩ | ⟨cL0_1, h⟩
    · skip
      obtain ⟨gL0_2, h⟩ := guard_some h
      obtain ⟨gL0_3, h⟩ := guard_some h
      obtain ⟨gL0_4, h⟩ := guard_some h
      exact run_to mixed hμ (L := [3]) (n := 26) (s := [.go, .reg [(0, { v := some (.bool true) })], .reg [], .reg [(6, { v := some (v_T_gather_Got (A8.get g.f_grants (((bitsL g.f_nodes).getD t15.toNat default)).toNat)) }), (7, { os := [(2, .gr 16 (([(A8.get g.f_grants (((bitsL g.f_nodes).getD t15.toNat default)).toNat)] : List (T_gather_Got))).length (rowF c_T_gather_Got default ([(A8.get g.f_grants (((bitsL g.f_nodes).getD t15.toNat default)).toNat)] : List (T_gather_Got))))], v := some (.gs 2 (([(A8.get g.f_grants (((bitsL g.f_nodes).getD t15.toNat default)).toNat)] : List (T_gather_Got))).length) }), (8, { app := 3, os := [(3, .gr 16 ((l ++ ([(A8.get g.f_grants (((bitsL g.f_nodes).getD t15.toNat default)).toNat)] : List (T_gather_Got)))).length (rowF c_T_gather_Got default (l ++ ([(A8.get g.f_grants (((bitsL g.f_nodes).getD t15.toNat default)).toNat)] : List (T_gather_Got)))))], v := some (.gs 3 ((l ++ ([(A8.get g.f_grants (((bitsL g.f_nodes).getD t15.toNat default)).toNat)] : List (T_gather_Got)))).length) })], .reg []])
        (a_ (a_ (a_ tr (a_ (leB cL0_1) tr)) tr) (a_ (a_ (a_ (a_ (Eq.refl 1) gL0_2) tr) (a_ (a_ (lt_ 0 1 rfl) tr) (r1_ tr))) (a_ (r1_ (r4_ (a_ (a_ gL0_3 tr) (a_ (a_ (a_ (lt_ 0 1 rfl) (arrLe (len := 8) gL0_3 13 16 142 16 rfl rfl)) (a_ (ld8 c_T_gather_Got 16 (fun _ => rfl) g.f_grants [.int .u8 g.f_mode, .int .u32 g.f_conf.f_Epoch, .int .u8 g.f_conf.f_R, .int .u8 g.f_conf.f_W, .int .u8 g.f_conf.f_Votes.a0, .int .u8 g.f_conf.f_Votes.a1, .int .u8 g.f_conf.f_Votes.a2, .int .u8 g.f_conf.f_Votes.a3, .int .u8 g.f_conf.f_Votes.a4, .int .u8 g.f_conf.f_Votes.a5, .int .u8 g.f_conf.f_Votes.a6, .int .u8 g.f_conf.f_Votes.a7, .ds 11 (g.f_more).length (rowF c_T_api_Config default g.f_more)] [.int .u64 g.f_nodes] 13 rfl (((bitsL g.f_nodes).getD t15.toNat default)).toNat 16 (lt8N gL0_3) (le_ (0 + 16) 16 rfl)) tr)) (a_ (a_ (a_ (Eq.refl true) (a_ (Eq.refl 16) (a_ (lt_ 0 16 rfl) (le_ 16 16777216 rfl)))) (a_ (le_sl_gs 2 1 (some 1) rfl) (a_ (sub_lit c_T_gather_Got default 16 (fun _ => rfl) ([(A8.get g.f_grants (((bitsL g.f_nodes).getD t15.toNat default)).toNat)] : List (T_gather_Got))) tr))) (a_ (a_ (a_ (a_ (Eq.refl 16) (Nat.le_refl (([(A8.get g.f_grants (((bitsL g.f_nodes).getD t15.toNat default)).toNat)] : List (T_gather_Got))).length)) (a_ (a_ (lt_ 0 16 rfl) (a_ (lt_ 0 56 rfl) (a_ gL0_4 (a_ (Eq.refl 16) (Eq.refl true))))) (a_ (Eq.refl 16) (Nat.le_refl (l).length)))) (a_ (le_gs_app 3 l ([(A8.get g.f_grants (((bitsL g.f_nodes).getD t15.toNat default)).toNat)] : List (T_gather_Got))) (a_ (sub_app c_T_gather_Got default 16 l ([(A8.get g.f_grants (((bitsL g.f_nodes).getD t15.toNat default)).toNat)] : List (T_gather_Got))) tr))) (r1_ tr))))))) (a_ (r2_ tr) tr)))) (ih _ _ r r_ h) (by kernel_rfl) ⟨fun _ _ => rfl, fun _ _ => rfl, trivial⟩
    · skip
      have h := congrArg (fun z => z.2.2) (Option.some.inj h)
      dsimp only at h
      subst h
      exact run_ret mixed (L := [1]) (n := 19) (s := [.go, .reg [(0, { v := some (.bool false) })], .reg []])
        (a_ (a_ (a_ (a_ tr (a_ (leB cL0_1) tr)) tr) (a_ (r2_ tr) tr)) tr) (by kernel_rfl) rfl

theorem gather_Gather_All_okB (g : T_gather_Gather) (r : (List (T_gather_Got))) (r_ : Unit) (h : gather_Gather_All g = some (false, r_, r)) : ∀ σ, Inj 2 σ → FnTri Tryd.prog 32 (renL σ [.ptr 0 0 0]) (preOf σ 0 (gather_Gather_All_objs g)) ((gather_Gather_All_vB r).ren σ) (upOf σ (gather_Gather_All_upB g r)) := by
  refine fn_of Tryd.func32 (by kernel_rfl) (by kernel_rfl) (by kernel_rfl) ⟨fun _ _ => rfl, trivial⟩ (by kernel_rfl) ⟨fun _ _ => rfl, trivial⟩ (by kernel_rfl) ?_
  intro w0 W μ0 hμ
  unfold gather_Gather_All at h
  obtain ⟨y2, e1, h⟩ := bind_some h
  rcases itb_some h with ⟨c3, h⟩ | ⟨c3, h⟩
  · skip
    cases h
  · skip
    obtain ⟨g4, h⟩ := guard_some h
    exact run_to mixed hμ (L := [1]) (n := 28) (s := [.reg [(0, { v := some (.ds 16 (([] : List (T_gather_Got))).length (rowF c_T_gather_Got default ([] : List (T_gather_Got)))) })], .reg [(1, { call := some ((gather_Gather_ok_v y2).ren (sel [0]), preOf (sel [0]) 0 (gather_Gather_ok_objs g), upOf (sel [0]) (gather_Gather_ok_up g y2)) }), (2, { v := some (.bool false) })], .void (.gr 16 (([] : List (T_gather_Got))).length (rowF c_T_gather_Got default ([] : List (T_gather_Got)))), .reg [(0, { v := some (.gs 1 (([] : List (T_gather_Got))).length) })], .reg [(4, { call := some (.ds 1 ((bitsL g.f_nodes)).length (rowF (cInt .i64) default (bitsL g.f_nodes)), [], []) })]])
      (a_ (a_ (a_ tr (a_ (le_nil_ds 16 (rowF c_T_gather_Got default [])) tr)) tr) (a_ (r1_ (a_ (a_ (a_ (gather_Gather_ok_ok g y2 e1 (sel [0]) (sel_inj rfl rfl)) (a_ (LO.Le.refl (.row 142 1 (fun _ => c_T_gather_Gather g) false)) tr)) tr) (a_ (a_ tr (a_ (leB c3) tr)) tr))) (a_ (Eq.refl 0) (a_ (a_ (a_ tr (a_ (le_nil_gs 1) tr)) tr) (a_ (r1_ (r2_ (a_ (a_ (a_ (lt_ 0 1 rfl) (lt_ 141 142 rfl)) tr) (a_ (a_ (a_ (bl49_tri rfl g.f_nodes g4) tr) tr) (r2_ tr))))) tr))))) (gather_Gather_All_l0_okB hμ g  big _ _ r r_ h) (by kernel_rfl) ⟨fun _ _ => rfl, fun _ _ => rfl, trivial⟩

/-- parrel/item.Newest -/

def item_Newest_v (r : (T_api_Item) × (Bool)) : LV := .tup [v_T_api_Item r.1, .bool r.2]

def item_Newest_T0 (l : List (T_api_Item)) (t17 : Int) (Version : Int) (Value : List UInt8) (Epoch : T_api_Config) : List LV := [.any, .any, .ptr 0 0 0, .any, .ptr 1 0 0, .any, .any, .any, .any, .any, .any, .any, .any, .any, .any, .ds 13 ((l.drop 1)).length (rowF c_T_api_Item default (l.drop 1)), .int .i64 (((l.drop 1)).length : Int), .int .i64 t17, .any, .any, .any, .any, .any, .any, .any, .any, .any, .any, .any]

def item_Newest_H0 (l : List (T_api_Item)) (t17 : Int) (Version : Int) (Value : List UInt8) (Epoch : T_api_Config) : Heap := [some (.var (c_T_api_Item (T_api_Item.mk 0 [] (T_api_Config.mk 0 0 0 (A8.mk 0 0 0 0 0 0 0 0))))), some (.var (c_T_api_Item (T_api_Item.mk Version Value Epoch)))]

def item_Newest_l0 (l : List (T_api_Item))  : Nat → (Int) → (Int) → (List UInt8) → (T_api_Config) → Option ((T_api_Item) × (Bool))
  | 0, _, _, _, _ => none
  | fuel + 1, t17, Version, Value, Epoch =>
    if ((decide (t17 < (((l.drop 1)).length : Int))) : Bool) then
      if 0 ≤ t17 ∧ t17 < ((((l.drop 1)).length : Nat) : Int) then
      if ((decide (Version < ((l.drop 1).getD t17.toNat default).f_Version)) : Bool) then
        item_Newest_l0 l  fuel (IntKind.wrap .i64 (t17 + 1)) ((l.drop 1).getD t17.toNat default).f_Version ((l.drop 1).getD t17.toNat default).f_Value ((l.drop 1).getD t17.toNat default).f_Conf
      else
        item_Newest_l0 l  fuel (IntKind.wrap .i64 (t17 + 1)) Version Value Epoch
      else none
    else
      some ((T_api_Item.mk Version Value Epoch), true)

def item_Newest (l : List (T_api_Item)) : Option ((T_api_Item) × (Bool)) :=
  if ((((l).length : Int) == 0) : Bool) then
    some ((T_api_Item.mk 0 [] (T_api_Config.mk 0 0 0 (A8.mk 0 0 0 0 0 0 0 0))), false)
  else
    if 0 ≤ (0 : Int) ∧ (0 : Int) < (((l).length : Nat) : Int) then
    if 0 ≤ (1 : Int) ∧ (1 : Int) ≤ (((l).length : Nat) : Int) ∧ (((l).length : Nat) : Int) ≤ (((l).length : Nat) : Int) then
    item_Newest_l0 l  big 0 (l.getD 0 default).f_Version (l.getD 0 default).f_Value (l.getD 0 default).f_Conf
    else none
    else none

theorem item_Newest_l0_ok {w0 : World} {W : Nat → Prop} {μ0 : Emb} (hμ : ∀ c p, μ0 c = some p → c < 0) (l : List (T_api_Item))  : ∀ (fuel : Nat) (t17 : Int) (Version : Int) (Value : List UInt8) (Epoch : T_api_Config) (r : (T_api_Item) × (Bool)), item_Newest_l0 l  fuel t17 Version Value Epoch = some r → kont Tryd.prog w0 W μ0 (FnPost Tryd.prog Tryd.f43 0 0 (item_Newest_v r) []) (kAt (bodyOf Tryd.f43) 0) none (item_Newest_T0 l t17 Version Value Epoch) (item_Newest_H0 l t17 Version Value Epoch) := by
  intro fuel
  induction fuel with
  | zero => intro t17 Version Value Epoch r h; rw [item_Newest_l0] at h; cases h
  | succ fuel ih =>
    intro t17 Version Value Epoch r h
    rw [item_Newest_l0] at h
    rcases itb_some h with ⟨cL0_1, h⟩ | ⟨cL0_1, h⟩
    · skip
      obtain ⟨gL0_2, h⟩ := guard_some h
      rcases itb_some h with ⟨cL0_3, h⟩ | ⟨cL0_3, h⟩
      · skip
        exact run_to mixed hμ (L := [0, 1]) (n := 30) (s := [.go, .reg [(0, { v := some (.bool true) })], .reg [], .reg [(4, { v := some (.bool true) })], .reg [], .reg []])
          (a_ (a_ (a_ tr (a_ (leB cL0_1) tr)) tr) (a_ (a_ (a_ (a_ (Eq.refl 13) gL0_2) tr) (a_ (a_ (le_ 13 13 rfl) tr) (r1_ (a_ (a_ (a_ (Eq.refl 13) (a_ (le_ 13 13 rfl) (Eq.refl 0))) tr) tr)))) (a_ (r1_ (a_ (a_ (a_ tr (lt_ 0 13 rfl)) tr) (r1_ (a_ (a_ (a_ tr (lt_ 0 13 rfl)) tr) (a_ (a_ tr (a_ (leB cL0_3) tr)) tr))))) (a_ (a_ (a_ (a_ tr (le_ 13 13 rfl)) tr) (a_ (a_ (a_ (Eq.refl 13) (a_ (le_ 13 13 rfl) (Eq.refl 0))) tr) tr)) (a_ (r2_ tr) tr))))) (ih _ _ _ _ r h) (by kernel_rfl) ⟨rfl, rfl, trivial⟩
      · skip
        exact run_to mixed hμ (L := [0, 1]) (n := 29) (s := [.go, .reg [(0, { v := some (.bool true) })], .reg [], .reg [(4, { v := some (.bool false) })], .reg []])
          (a_ (a_ (a_ tr (a_ (leB cL0_1) tr)) tr) (a_ (a_ (a_ (a_ (Eq.refl 13) gL0_2) tr) (a_ (a_ (le_ 13 13 rfl) tr) (r1_ (a_ (a_ (a_ (Eq.refl 13) (a_ (le_ 13 13 rfl) (Eq.refl 0))) tr) tr)))) (a_ (r1_ (a_ (a_ (a_ tr (lt_ 0 13 rfl)) tr) (r1_ (a_ (a_ (a_ tr (lt_ 0 13 rfl)) tr) (a_ (a_ tr (a_ (leB cL0_3) tr)) tr))))) (a_ (r2_ tr) tr)))) (ih _ _ _ _ r h) (by kernel_rfl) ⟨rfl, rfl, trivial⟩
    · skip
      obtain rfl := Option.some.inj h
      exact run_ret mixed (L := []) (n := 19) (s := [.go, .reg [(0, { v := some (.bool false) })], .reg []])
        (a_ (a_ (a_ (a_ tr (a_ (leB cL0_1) tr)) tr) (a_ (a_ (a_ (a_ tr (le_ 13 13 rfl)) tr) (a_ (a_ (a_ (Eq.refl 13) (a_ (le_ 13 13 rfl) (Eq.refl 0))) tr) (r1_ tr))) tr)) (a_ (a_ tr (le_ 13 13 rfl)) tr)) (by kernel_rfl) rfl

theorem item_Newest_ok (l : List (T_api_Item)) (r : (T_api_Item) × (Bool)) (h : item_Newest l = some r) : ∀ σ, Inj 0 σ → FnTri Tryd.prog 43 (renL σ [.ds 13 (l).length (rowF c_T_api_Item default l)]) (preOf σ 0 []) ((item_Newest_v r).ren σ) (upOf σ []) := by
  refine fn_of Tryd.func43 (by kernel_rfl) (by kernel_rfl) (by kernel_rfl) trivial (by kernel_rfl) trivial (by kernel_rfl) ?_
  intro w0 W μ0 hμ
  unfold item_Newest at h
  rcases itb_some h with ⟨c1, h⟩ | ⟨c1, h⟩
  · skip
    obtain rfl := Option.some.inj h
    exact run_ret mixed (L := []) (n := 20) (s := [.reg [], .reg [(2, { v := some (.bool true) })], .reg []])
      (a_ (a_ (r2_ tr) (a_ (r2_ (a_ (a_ tr (a_ (leB c1) tr)) tr)) (a_ (a_ (a_ (Eq.refl true) tr) (a_ (a_ (a_ (Eq.refl 13) (a_ (le_ 13 13 rfl) (Eq.refl 0))) tr) (r1_ tr))) tr))) (a_ (a_ tr (le_ 13 13 rfl)) tr)) (by kernel_rfl) rfl
  · skip
    obtain ⟨g2, h⟩ := guard_some h
    obtain ⟨g3, h⟩ := guard_some h
    exact run_to mixed hμ (L := [0, 1]) (n := 27) (s := [.reg [], .reg [(2, { v := some (.bool false) })], .reg [], .reg [(1, { v := some (.ds 13 ((l.drop 1)).length (rowF c_T_api_Item default (l.drop 1))) })]])
      (a_ (r2_ tr) (a_ (r2_ (a_ (a_ tr (a_ (leB c1) tr)) tr)) (a_ (r1_ (a_ (a_ (a_ (Eq.refl 13) g2) tr) (a_ (a_ (le_ 13 13 rfl) tr) (r1_ (a_ (a_ (a_ (Eq.refl 13) (a_ (le_ 13 13 rfl) (Eq.refl 0))) tr) tr))))) (a_ (r1_ (a_ (a_ (a_ (Eq.refl 13) g3) (a_ (le_drop c_T_api_Item default 13 l 1 (toN_le g3.2.1)) tr)) (r2_ tr))) tr)))) (item_Newest_l0_ok hμ l  big _ _ _ _ r h) (by kernel_rfl) ⟨rfl, rfl, trivial⟩

theorem item_Newest_tri (l : List (T_api_Item)) (r : (T_api_Item) × (Bool)) (h : item_Newest l = some r) : FnTri Tryd.prog 43 [.ds 13 (l).length (rowF c_T_api_Item default l)] [] (item_Newest_v r) [] := FnTri.none (item_Newest_ok l r h) rfl rfl

/-- (*parrel/gather.Gather).Newest -/

def gather_Gather_Newest_v (r : (T_api_Item) × (Bool)) : LV := .tup [v_T_api_Item r.1, .bool r.2]

def gather_Gather_Newest_up (g : T_gather_Gather) (r : (T_api_Item) × (Bool)) : Upd := []

def gather_Gather_Newest_objs (g : T_gather_Gather) : List LO := [.row 142 1 (fun _ => c_T_gather_Gather g) false]

def gather_Gather_Newest_T0 (g : T_gather_Gather) (t8 : List (T_gather_Got)) (t9 : Int) (t10 : Int) (l : List (T_api_Item)) : List LV := [.any, .any, .ptr 1 0 0, .any, .gs 2 (l).length, .any, .any, .any, .ds 16 (t8).length (rowF c_T_gather_Got default t8), .int .i64 t9, .int .i64 t10, .any, .any, .any, .any, .any, .any, .any, .any, .any, .any, .any, .any, .any]

def gather_Gather_Newest_H0 (g : T_gather_Gather) (t8 : List (T_gather_Got)) (t9 : Int) (t10 : Int) (l : List (T_api_Item)) : Heap := [some (.row 142 1 (fun _ => c_T_gather_Gather g) false), some (.var (c_T_api_Item (T_api_Item.mk 0 [] (T_api_Config.mk 0 0 0 (A8.mk 0 0 0 0 0 0 0 0))))), some (.gr 13 (l).length (rowF c_T_api_Item default l))]

def gather_Gather_Newest_l0 (g : T_gather_Gather)  : Nat → (List (T_gather_Got)) → (Int) → (Int) → (List (T_api_Item)) → Option ((T_api_Item) × (Bool))
  | 0, _, _, _, _ => none
  | fuel + 1, t8, t9, t10, l =>
    if ((decide (t10 < t9)) : Bool) then
      if 0 ≤ t10 ∧ t10 < (((t8).length : Nat) : Int) then
      if ((l).length + (([(t8.getD t10.toNat default).f_Item] : List (T_api_Item))).length) * 40 ≤ 140737488351232 then
      gather_Gather_Newest_l0 g  fuel t8 t9 (IntKind.wrap .i64 (t10 + 1)) (l ++ ([(t8.getD t10.toNat default).f_Item] : List (T_api_Item)))
      else none
      else none
    else
      (item_Newest l).bind fun yL0_3 =>
      some (yL0_3.1, yL0_3.2)

def gather_Gather_Newest (g : T_gather_Gather) : Option ((T_api_Item) × (Bool)) :=
  (gather_Gather_All g).bind fun y2 =>
  if (y2.1 : Bool) then
    gather_Gather_Newest_l0 g  big ([] : List (T_gather_Got)) ((([] : List (T_gather_Got))).length : Int) 0 ([] : List (T_api_Item))
  else
    gather_Gather_Newest_l0 g  big y2.2.2 ((y2.2.2).length : Int) 0 ([] : List (T_api_Item))

theorem gather_Gather_Newest_l0_ok {w0 : World} {W : Nat → Prop} {μ0 : Emb} (hμ : ∀ c p, μ0 c = some p → c < 1) (g : T_gather_Gather)  : ∀ (fuel : Nat) (t8 : List (T_gather_Got)) (t9 : Int) (t10 : Int) (l : List (T_api_Item)) (r : (T_api_Item) × (Bool)), gather_Gather_Newest_l0 g  fuel t8 t9 t10 l = some r → kont Tryd.prog w0 W μ0 (FnPost Tryd.prog Tryd.f16 1 1 (gather_Gather_Newest_v r) (gather_Gather_Newest_up g r)) (kAt (bodyOf Tryd.f16) 0) none (gather_Gather_Newest_T0 g t8 t9 t10 l) (gather_Gather_Newest_H0 g t8 t9 t10 l) := by
  intro fuel
  induction fuel with
  | zero => intro t8 t9 t10 l r h; rw [gather_Gather_Newest_l0] at h; cases h
  | succ fuel ih =>
    intro t8 t9 t10 l r h
    rw [gather_Gather_Newest_l0] at h
    rcases itb_some h with ⟨cL0_1, h⟩ | ⟨cL0_1, h⟩
    · skip
      obtain ⟨gL0_2, h⟩ := guard_some h
      obtain ⟨gL0_3, h⟩ := guard_some h
      exact run_to mixed hμ (L := [1, 5]) (n := 26) (s := [.go, .reg [(0, { v := some (.bool true) })], .reg [], .reg [(3, { os := [(4, .gr 13 (([(t8.getD t10.toNat default).f_Item] : List (T_api_Item))).length (rowF c_T_api_Item default ([(t8.getD t10.toNat default).f_Item] : List (T_api_Item))))], v := some (.gs 4 (([(t8.getD t10.toNat default).f_Item] : List (T_api_Item))).length) }), (4, { app := 3, os := [(5, .gr 13 ((l ++ ([(t8.getD t10.toNat default).f_Item] : List (T_api_Item)))).length (rowF c_T_api_Item default (l ++ ([(t8.getD t10.toNat default).f_Item] : List (T_api_Item)))))], v := some (.gs 5 ((l ++ ([(t8.getD t10.toNat default).f_Item] : List (T_api_Item)))).length) })], .reg []])
        (a_ (a_ (a_ tr (a_ (leB cL0_1) tr)) tr) (a_ (a_ (a_ (a_ (Eq.refl 16) gL0_2) tr) (a_ (a_ (le_ 16 16 rfl) tr) (r1_ (a_ (a_ (a_ (Eq.refl 16) (a_ (le_ 16 16 rfl) (Eq.refl 0))) tr) tr)))) (a_ (r2_ (a_ (a_ (a_ tr (le_ 16 16 rfl)) tr) (a_ (a_ (a_ (Eq.refl true) (a_ (Eq.refl 13) (a_ (lt_ 0 13 rfl) (le_ 13 16777216 rfl)))) (a_ (le_sl_gs 4 1 (some 1) rfl) (a_ (sub_lit c_T_api_Item default 13 (fun _ => rfl) ([(t8.getD t10.toNat default).f_Item] : List (T_api_Item))) tr))) (a_ (a_ (a_ (a_ (Eq.refl 13) (Nat.le_refl (([(t8.getD t10.toNat default).f_Item] : List (T_api_Item))).length)) (a_ (a_ (lt_ 0 13 rfl) (a_ (lt_ 0 40 rfl) (a_ gL0_3 (a_ (Eq.refl 13) (Eq.refl true))))) (a_ (Eq.refl 13) (Nat.le_refl (l).length)))) (a_ (le_gs_app 5 l ([(t8.getD t10.toNat default).f_Item] : List (T_api_Item))) (a_ (sub_app c_T_api_Item default 13 l ([(t8.getD t10.toNat default).f_Item] : List (T_api_Item))) tr))) (r1_ tr))))) (a_ (r2_ tr) tr)))) (ih _ _ _ _ r h) (by kernel_rfl) ⟨fun _ _ => rfl, rfl, fun _ _ => rfl, trivial⟩
    · skip
      obtain ⟨yL0_3, eL0_2, h⟩ := bind_some h
      obtain rfl := Option.some.inj h
      exact run_ret mixed (L := []) (n := 20) (s := [.go, .reg [(0, { v := some (.bool false) })], .frz 2, .reg [(1, { call := some (item_Newest_v yL0_3, [], []) })]])
        (a_ (a_ (a_ (a_ tr (a_ (leB cL0_1) tr)) tr) (a_ (a_ (fz_row (enc := c_T_api_Item) (d := default) (fun _ => rfl) l) (a_ (Nat.le_refl (l).length) (a_ (ob_rov (c_T_gather_Gather g) 2 13 (l).length (rowF c_T_api_Item default l) rfl) tr))) (a_ (r1_ (a_ (a_ (a_ (item_Newest_tri l yL0_3 eL0_2) tr) tr) (r2_ (a_ (a_ (a_ (Eq.refl 13) (a_ (le_ 13 13 rfl) (Eq.refl 0))) tr) (r1_ tr))))) tr))) (a_ (a_ tr (le_ 13 13 rfl)) tr)) (by kernel_rfl) rfl

theorem gather_Gather_Newest_ok (g : T_gather_Gather) (r : (T_api_Item) × (Bool)) (h : gather_Gather_Newest g = some r) : ∀ σ, Inj 1 σ → FnTri Tryd.prog 16 (renL σ [.ptr 0 0 0]) (preOf σ 0 (gather_Gather_Newest_objs g)) ((gather_Gather_Newest_v r).ren σ) (upOf σ (gather_Gather_Newest_up g r)) := by
  refine fn_of Tryd.func16 (by kernel_rfl) (by kernel_rfl) (by kernel_rfl) ⟨fun _ _ => rfl, trivial⟩ (by kernel_rfl) trivial (by kernel_rfl) ?_
  intro w0 W μ0 hμ
  unfold gather_Gather_Newest at h
  obtain ⟨y2, e1, h⟩ := bind_some h
  rcases itb_some h with ⟨c3, h⟩ | ⟨c3, h⟩
  · skip
    exact run_to mixed hμ (L := [1, 2]) (n := 22) (s := [.reg [], .void (.gr 13 (([] : List (T_api_Item))).length (rowF c_T_api_Item default ([] : List (T_api_Item)))), .reg [(0, { v := some (.gs 2 (([] : List (T_api_Item))).length) })], .reg [(1, { call := some ((gather_Gather_All_vA y2.2.1).ren (sel [0]), preOf (sel [0]) 0 (gather_Gather_All_objs g), upOf (sel [0]) (gather_Gather_All_upA g y2.2.1)) })]])
      (a_ (r2_ tr) (a_ (Eq.refl 0) (a_ (a_ (a_ tr (a_ (le_nil_gs 2) tr)) tr) (a_ (r1_ (a_ (a_ (a_ (gather_Gather_All_okA g y2.2.1 y2.2.2 (altA e1 c3) (sel [0]) (sel_inj rfl rfl)) (a_ (LO.Le.refl (.row 142 1 (fun _ => c_T_gather_Gather g) false)) tr)) tr) (r2_ tr))) tr)))) (gather_Gather_Newest_l0_ok hμ g  big _ _ _ _ r h) (by kernel_rfl) ⟨fun _ _ => rfl, rfl, fun _ _ => rfl, trivial⟩
  · skip
    exact run_to mixed hμ (L := [1, 2]) (n := 23) (s := [.reg [], .void (.gr 13 (([] : List (T_api_Item))).length (rowF c_T_api_Item default ([] : List (T_api_Item)))), .reg [(0, { v := some (.gs 2 (([] : List (T_api_Item))).length) })], .reg [(1, { call := some ((gather_Gather_All_vB y2.2.2).ren (sel [0, 3]), preOf (sel [0, 3]) 0 (gather_Gather_All_objs g), upOf (sel [0, 3]) (gather_Gather_All_upB g y2.2.2)) })], .frz 3])
      (a_ (r2_ tr) (a_ (Eq.refl 0) (a_ (a_ (a_ tr (a_ (le_nil_gs 2) tr)) tr) (a_ (r1_ (a_ (a_ (a_ (gather_Gather_All_okB g y2.2.2 y2.2.1 (altB e1 c3) (sel [0, 3]) (sel_inj rfl rfl)) (a_ (LO.Le.refl (.row 142 1 (fun _ => c_T_gather_Gather g) false)) tr)) tr) (r2_ tr))) (a_ (a_ (fz_row (enc := c_T_gather_Got) (d := default) (fun _ => rfl) y2.2.2) (a_ (Nat.le_refl (y2.2.2).length) (a_ (ob_rov (c_T_gather_Gather g) 3 16 (y2.2.2).length (rowF c_T_gather_Got default y2.2.2) rfl) tr))) tr))))) (gather_Gather_Newest_l0_ok hμ g  big _ _ _ _ r h) (by kernel_rfl) ⟨fun _ _ => rfl, rfl, fun _ _ => rfl, trivial⟩

/-- (*parrel/gather.Gather).Nodes -/

def gather_Gather_Nodes_v (r : (Int)) : LV := .int .u64 r

def gather_Gather_Nodes_up (g : T_gather_Gather) (r : (Int)) : Upd := []

def gather_Gather_Nodes_objs (g : T_gather_Gather) : List LO := [.row 142 1 (fun _ => c_T_gather_Gather g) false]

def gather_Gather_Nodes (g : T_gather_Gather) : Option ((Int)) :=
  (gather_Gather_ok g).bind fun y2 =>
  if ((!y2) : Bool) then
    some 0
  else
    some g.f_nodes

theorem gather_Gather_Nodes_ok (g : T_gather_Gather) (r : (Int)) (h : gather_Gather_Nodes g = some r) : ∀ σ, Inj 1 σ → FnTri Tryd.prog 13 (renL σ [.ptr 0 0 0]) (preOf σ 0 (gather_Gather_Nodes_objs g)) ((gather_Gather_Nodes_v r).ren σ) (upOf σ (gather_Gather_Nodes_up g r)) := by
  refine fn_of Tryd.func13 (by kernel_rfl) (by kernel_rfl) (by kernel_rfl) ⟨fun _ _ => rfl, trivial⟩ (by kernel_rfl) trivial (by kernel_rfl) ?_
  intro w0 W μ0 hμ
  unfold gather_Gather_Nodes at h
  obtain ⟨y2, e1, h⟩ := bind_some h
  rcases itb_some h with ⟨c3, h⟩ | ⟨c3, h⟩
  · skip
    obtain rfl := Option.some.inj h
    exact run_ret mixed (L := []) (n := 20) (s := [.reg [], .reg [(1, { call := some ((gather_Gather_ok_v y2).ren (sel [0]), preOf (sel [0]) 0 (gather_Gather_ok_objs g), upOf (sel [0]) (gather_Gather_ok_up g y2)) }), (2, { v := some (.bool true) })], .reg []])
      (a_ (a_ (r1_ tr) (a_ (r1_ (a_ (a_ (a_ (gather_Gather_ok_ok g y2 e1 (sel [0]) (sel_inj rfl rfl)) (a_ (LO.Le.refl (.row 142 1 (fun _ => c_T_gather_Gather g) false)) tr)) tr) (a_ (a_ tr (a_ (leB c3) tr)) tr))) (a_ (r1_ tr) tr))) tr) (by kernel_rfl) rfl
  · skip
    obtain rfl := Option.some.inj h
    exact run_ret mixed (L := []) (n := 21) (s := [.reg [], .reg [(1, { call := some ((gather_Gather_ok_v y2).ren (sel [0]), preOf (sel [0]) 0 (gather_Gather_ok_objs g), upOf (sel [0]) (gather_Gather_ok_up g y2)) }), (2, { v := some (.bool false) })], .reg []])
      (a_ (a_ (r1_ tr) (a_ (r1_ (a_ (a_ (a_ (gather_Gather_ok_ok g y2 e1 (sel [0]) (sel_inj rfl rfl)) (a_ (LO.Le.refl (.row 142 1 (fun _ => c_T_gather_Gather g) false)) tr)) tr) (a_ (a_ tr (a_ (leB c3) tr)) tr))) (a_ (r1_ (r2_ (a_ (a_ (a_ (lt_ 0 1 rfl) (lt_ 141 142 rfl)) tr) (r1_ tr)))) tr))) tr) (by kernel_rfl) rfl

/-- parrel/votes.Voters -/

def votes_Voters_v (r : (Int)) : LV := .int .u64 r

def votes_Voters_T0 (c : T_api_Config) (set : Int) (t8 : Int) : List LV := [.any, .any, .any, .int .u64 set, .any, .any, .any, .agg [.int .u8 c.f_Votes.a0, .int .u8 c.f_Votes.a1, .int .u8 c.f_Votes.a2, .int .u8 c.f_Votes.a3, .int .u8 c.f_Votes.a4, .int .u8 c.f_Votes.a5, .int .u8 c.f_Votes.a6, .int .u8 c.f_Votes.a7], .int .i64 t8, .any, .any, .any, .any, .any, .any, .any, .any, .any, .any, .any]

def votes_Voters_H0 (c : T_api_Config) (set : Int) (t8 : Int) : Heap := []

def votes_Voters_l0 (c : T_api_Config)  : Nat → (Int) → (Int) → Option ((Int))
  | 0, _, _ => none
  | fuel + 1, set, t8 =>
    if ((decide (t8 < 8)) : Bool) then
      if 0 ≤ t8 ∧ t8 < 8 then
      if ((decide (0 < (A8.get c.f_Votes t8.toNat))) : Bool) then
        if 0 ≤ t8 then
        votes_Voters_l0 c  fuel (IntKind.wrap .u64 ((BitVec.ofInt (IntKind.bits .u64) set ||| BitVec.ofInt (IntKind.bits .u64) (IntKind.wrap .u64 (1 * 2 ^ (min (Int.toNat t8) (IntKind.bits .u64))))).toNat : Int)) (IntKind.wrap .i64 (t8 + 1))
        else none
      else
        votes_Voters_l0 c  fuel set (IntKind.wrap .i64 (t8 + 1))
      else none
    else
      some set

def votes_Voters (c : T_api_Config) : Option ((Int)) :=
  votes_Voters_l0 c  big 0 0

theorem votes_Voters_l0_ok {w0 : World} {W : Nat → Prop} {μ0 : Emb} (hμ : ∀ c p, μ0 c = some p → c < 0) (c : T_api_Config)  : ∀ (fuel : Nat) (set : Int) (t8 : Int) (r : (Int)), votes_Voters_l0 c  fuel set t8 = some r → kont Tryd.prog w0 W μ0 (FnPost Tryd.prog Tryd.f48 0 0 (votes_Voters_v r) []) (kAt (bodyOf Tryd.f48) 0) none (votes_Voters_T0 c set t8) (votes_Voters_H0 c set t8) := by
  intro fuel
  induction fuel with
  | zero => intro set t8 r h; rw [votes_Voters_l0] at h; cases h
  | succ fuel ih =>
    intro set t8 r h
    rw [votes_Voters_l0] at h
    rcases itb_some h with ⟨cL0_1, h⟩ | ⟨cL0_1, h⟩
    · skip
      obtain ⟨gL0_2, h⟩ := guard_some h
      rcases itb_some h with ⟨cL0_3, h⟩ | ⟨cL0_3, h⟩
      · skip
        obtain ⟨gL0_4, h⟩ := guard_some h
        exact run_to mixed hμ (L := []) (n := 30) (s := [.go, .reg [(0, { v := some (.bool true) })], .reg [(1, { v := some (.int .u8 (A8.get c.f_Votes t8.toNat)) })], .reg [(1, { v := some (.bool true) })], .reg [], .reg []])
          (a_ (a_ (a_ tr (a_ (leB cL0_1) tr)) tr) (a_ (r1_ (a_ (a_ (a_ gL0_2 (ix8lt gL0_2 1 8 rfl rfl)) (a_ (ix8s (cInt .u8) 1 (fun _ => rfl) c.f_Votes t8.toNat (lt8N gL0_2) (le_ 1 1 rfl)) tr)) (r2_ tr))) (a_ (r1_ (a_ (a_ tr (a_ (leB cL0_3) tr)) tr)) (a_ (r2_ (a_ (a_ gL0_4 tr) (r2_ tr))) (a_ (r2_ tr) tr))))) (ih _ _ r h) (by kernel_rfl) trivial
      · skip
        exact run_to mixed hμ (L := []) (n := 29) (s := [.go, .reg [(0, { v := some (.bool true) })], .reg [(1, { v := some (.int .u8 (A8.get c.f_Votes t8.toNat)) })], .reg [(1, { v := some (.bool false) })], .reg []])
          (a_ (a_ (a_ tr (a_ (leB cL0_1) tr)) tr) (a_ (r1_ (a_ (a_ (a_ gL0_2 (ix8lt gL0_2 1 8 rfl rfl)) (a_ (ix8s (cInt .u8) 1 (fun _ => rfl) c.f_Votes t8.toNat (lt8N gL0_2) (le_ 1 1 rfl)) tr)) (r2_ tr))) (a_ (r1_ (a_ (a_ tr (a_ (leB cL0_3) tr)) tr)) (a_ (r2_ tr) tr)))) (ih _ _ r h) (by kernel_rfl) trivial
    · skip
      obtain rfl := Option.some.inj h
      exact run_ret mixed (L := []) (n := 19) (s := [.go, .reg [(0, { v := some (.bool false) })], .reg []])
        (a_ (a_ (a_ (a_ tr (a_ (leB cL0_1) tr)) tr) (a_ (r2_ tr) tr)) tr) (by kernel_rfl) rfl

theorem votes_Voters_ok (c : T_api_Config) (r : (Int)) (h : votes_Voters c = some r) : ∀ σ, Inj 0 σ → FnTri Tryd.prog 48 (renL σ [v_T_api_Config c]) (preOf σ 0 []) ((votes_Voters_v r).ren σ) (upOf σ []) := by
  refine fn_of Tryd.func48 (by kernel_rfl) (by kernel_rfl) (by kernel_rfl) trivial (by kernel_rfl) trivial (by kernel_rfl) ?_
  intro w0 W μ0 hμ
  unfold votes_Voters at h
  exact run_to mixed hμ (L := []) (n := 21) (s := [.reg [], .reg [], .reg []])
    (a_ (r2_ tr) (a_ (r1_ tr) (a_ (r1_ (a_ (a_ (a_ tr (le_ 11 11 rfl)) tr) (r1_ tr))) tr))) (votes_Voters_l0_ok hμ c  big _ _ r h) (by kernel_rfl) trivial

theorem votes_Voters_tri (c : T_api_Config) (r : (Int)) (h : votes_Voters c = some r) : FnTri Tryd.prog 48 [v_T_api_Config c] [] (votes_Voters_v r) [] := FnTri.none (votes_Voters_ok c r h) rfl rfl

/-- (*parrel/gather.Gather).Ask -/

def gather_Gather_Ask_v (r : (List (Int))) : LV := .ds 1 (r).length (rowF (cInt .u8) default r)

def gather_Gather_Ask_up (g : T_gather_Gather) (r : (List (Int))) : Upd := []

def gather_Gather_Ask_objs (g : T_gather_Gather) : List LO := [.row 142 1 (fun _ => c_T_gather_Gather g) false]

def gather_Gather_Ask_T1 (g : T_gather_Gather) (set : Int) (t39 : Int) (l : List (Int)) : List LV := [.any, .any, .any, .any, .any, .any, .gs 1 (l).length, .any, .any, .any, .any, .any, .any, .any, .any, .any, .any, .any, .any, .any, .any, .any, .any, .any, .any, .any, .any, .any, .any, .any, .any, .any, .any, .any, .any, .any, .any, .ds 1 ((bitsL (IntKind.wrap .u64 ((BitVec.ofInt (IntKind.bits .u64) set &&& ~~~ BitVec.ofInt (IntKind.bits .u64) g.f_nodes).toNat : Int)))).length (rowF (cInt .i64) default (bitsL (IntKind.wrap .u64 ((BitVec.ofInt (IntKind.bits .u64) set &&& ~~~ BitVec.ofInt (IntKind.bits .u64) g.f_nodes).toNat : Int)))), .int .i64 (((bitsL (IntKind.wrap .u64 ((BitVec.ofInt (IntKind.bits .u64) set &&& ~~~ BitVec.ofInt (IntKind.bits .u64) g.f_nodes).toNat : Int)))).length : Int), .int .i64 t39, .any, .any, .any, .any, .any, .any, .any, .any, .any, .any]

def gather_Gather_Ask_H1 (g : T_gather_Gather) (set : Int) (t39 : Int) (l : List (Int)) : Heap := [some (.row 142 1 (fun _ => c_T_gather_Gather g) false), some (.gr 1 (l).length (rowF (cInt .u8) default l))]

def gather_Gather_Ask_T0 (g : T_gather_Gather) (set : Int) (t22 : Int) : List LV := [.ptr 0 0 0, .any, .any, .int .u64 set, .any, .any, .any, .any, .any, .any, .any, .any, .any, .any, .any, .any, .any, .any, .any, .any, .ds 11 (g.f_more).length (rowF c_T_api_Config default g.f_more), .int .i64 ((g.f_more).length : Int), .int .i64 t22, .any, .any, .any, .any, .any, .any, .any, .any, .any, .any, .any, .any, .any, .any, .any, .any, .any, .any, .any, .any, .any, .any, .any, .any, .any, .any, .any]

def gather_Gather_Ask_H0 (g : T_gather_Gather) (set : Int) (t22 : Int) : Heap := [some (.row 142 1 (fun _ => c_T_gather_Gather g) false)]

def gather_Gather_Ask_l1 (g : T_gather_Gather) (set : Int)  : Nat → (Int) → (List (Int)) → Option ((List (Int)))
  | 0, _, _ => none
  | fuel + 1, t39, l =>
    if ((decide (t39 < (((bitsL (IntKind.wrap .u64 ((BitVec.ofInt (IntKind.bits .u64) set &&& ~~~ BitVec.ofInt (IntKind.bits .u64) g.f_nodes).toNat : Int)))).length : Int))) : Bool) then
      if 0 ≤ t39 ∧ t39 < ((((bitsL (IntKind.wrap .u64 ((BitVec.ofInt (IntKind.bits .u64) set &&& ~~~ BitVec.ofInt (IntKind.bits .u64) g.f_nodes).toNat : Int)))).length : Nat) : Int) then
      if ((l).length + (([(IntKind.wrap .u8 ((bitsL (IntKind.wrap .u64 ((BitVec.ofInt (IntKind.bits .u64) set &&& ~~~ BitVec.ofInt (IntKind.bits .u64) g.f_nodes).toNat : Int))).getD t39.toNat default))] : List (Int))).length) * 1 ≤ 140737488351232 then
      gather_Gather_Ask_l1 g set  fuel (IntKind.wrap .i64 (t39 + 1)) (l ++ ([(IntKind.wrap .u8 ((bitsL (IntKind.wrap .u64 ((BitVec.ofInt (IntKind.bits .u64) set &&& ~~~ BitVec.ofInt (IntKind.bits .u64) g.f_nodes).toNat : Int))).getD t39.toNat default))] : List (Int)))
      else none
      else none
    else
      some l

def gather_Gather_Ask_l0 (g : T_gather_Gather)  : Nat → (Int) → (Int) → Option ((List (Int)))
  | 0, _, _ => none
  | fuel + 1, set, t22 =>
    if ((decide (t22 < ((g.f_more).length : Int))) : Bool) then
      if 0 ≤ t22 ∧ t22 < (((g.f_more).length : Nat) : Int) then
      (votes_Voters (g.f_more.getD t22.toNat default)).bind fun yL0_4 =>
      gather_Gather_Ask_l0 g  fuel (IntKind.wrap .u64 ((BitVec.ofInt (IntKind.bits .u64) set ||| BitVec.ofInt (IntKind.bits .u64) yL0_4).toNat : Int)) (IntKind.wrap .i64 (t22 + 1))
      else none
    else
      if 0 ≤ (IntKind.wrap .u64 ((BitVec.ofInt (IntKind.bits .u64) set &&& ~~~ BitVec.ofInt (IntKind.bits .u64) g.f_nodes).toNat : Int)) ∧ (IntKind.wrap .u64 ((BitVec.ofInt (IntKind.bits .u64) set &&& ~~~ BitVec.ofInt (IntKind.bits .u64) g.f_nodes).toNat : Int)) < 18446744073709551616 then
      gather_Gather_Ask_l1 g set  big 0 ([] : List (Int))
      else none

def gather_Gather_Ask (g : T_gather_Gather) : Option ((List (Int))) :=
  (gather_Gather_ok g).bind fun y2 =>
  if ((!y2) : Bool) then
    some ([] : List (Int))
  else
    (votes_Voters g.f_conf).bind fun y5 =>
    gather_Gather_Ask_l0 g  big y5 0

theorem gather_Gather_Ask_l1_ok {w0 : World} {W : Nat → Prop} {μ0 : Emb} (hμ : ∀ c p, μ0 c = some p → c < 1) (g : T_gather_Gather) (set : Int)  : ∀ (fuel : Nat) (t39 : Int) (l : List (Int)) (r : (List (Int))), gather_Gather_Ask_l1 g set  fuel t39 l = some r → kont Tryd.prog w0 W μ0 (FnPost Tryd.prog Tryd.f19 1 1 (gather_Gather_Ask_v r) (gather_Gather_Ask_up g r)) (kAt (bodyOf Tryd.f19) 1) none (gather_Gather_Ask_T1 g set t39 l) (gather_Gather_Ask_H1 g set t39 l) := by
  intro fuel
  induction fuel with
  | zero => intro t39 l r h; rw [gather_Gather_Ask_l1] at h; cases h
  | succ fuel ih =>
    intro t39 l r h
    rw [gather_Gather_Ask_l1] at h
    rcases itb_some h with ⟨cL1_1, h⟩ | ⟨cL1_1, h⟩
    · skip
      obtain ⟨gL1_2, h⟩ := guard_some h
      obtain ⟨gL1_3, h⟩ := guard_some h
      exact run_to mixed hμ (L := [3]) (n := 26) (s := [.go, .reg [(0, { v := some (.bool true) })], .reg [], .reg [(3, { os := [(2, .gr 1 (([(IntKind.wrap .u8 ((bitsL (IntKind.wrap .u64 ((BitVec.ofInt (IntKind.bits .u64) set &&& ~~~ BitVec.ofInt (IntKind.bits .u64) g.f_nodes).toNat : Int))).getD t39.toNat default))] : List (Int))).length (rowF (cInt .u8) default ([(IntKind.wrap .u8 ((bitsL (IntKind.wrap .u64 ((BitVec.ofInt (IntKind.bits .u64) set &&& ~~~ BitVec.ofInt (IntKind.bits .u64) g.f_nodes).toNat : Int))).getD t39.toNat default))] : List (Int))))], v := some (.gs 2 (([(IntKind.wrap .u8 ((bitsL (IntKind.wrap .u64 ((BitVec.ofInt (IntKind.bits .u64) set &&& ~~~ BitVec.ofInt (IntKind.bits .u64) g.f_nodes).toNat : Int))).getD t39.toNat default))] : List (Int))).length) }), (4, { app := 3, os := [(3, .gr 1 ((l ++ ([(IntKind.wrap .u8 ((bitsL (IntKind.wrap .u64 ((BitVec.ofInt (IntKind.bits .u64) set &&& ~~~ BitVec.ofInt (IntKind.bits .u64) g.f_nodes).toNat : Int))).getD t39.toNat default))] : List (Int)))).length (rowF (cInt .u8) default (l ++ ([(IntKind.wrap .u8 ((bitsL (IntKind.wrap .u64 ((BitVec.ofInt (IntKind.bits .u64) set &&& ~~~ BitVec.ofInt (IntKind.bits .u64) g.f_nodes).toNat : Int))).getD t39.toNat default))] : List (Int)))))], v := some (.gs 3 ((l ++ ([(IntKind.wrap .u8 ((bitsL (IntKind.wrap .u64 ((BitVec.ofInt (IntKind.bits .u64) set &&& ~~~ BitVec.ofInt (IntKind.bits .u64) g.f_nodes).toNat : Int))).getD t39.toNat default))] : List (Int)))).length) })], .reg []])
        (a_ (a_ (a_ tr (a_ (leB cL1_1) tr)) tr) (a_ (a_ (a_ (a_ (Eq.refl 1) gL1_2) tr) (a_ (a_ (lt_ 0 1 rfl) tr) (r1_ tr))) (a_ (r1_ (r2_ (a_ (a_ (a_ (Eq.refl true) (a_ (Eq.refl 1) (a_ (lt_ 0 1 rfl) (le_ 1 16777216 rfl)))) (a_ (le_sl_gs 2 1 (some 1) rfl) (a_ (sub_lit (cInt .u8) default 1 (fun _ => rfl) ([(IntKind.wrap .u8 ((bitsL (IntKind.wrap .u64 ((BitVec.ofInt (IntKind.bits .u64) set &&& ~~~ BitVec.ofInt (IntKind.bits .u64) g.f_nodes).toNat : Int))).getD t39.toNat default))] : List (Int))) tr))) (a_ (a_ (a_ (a_ (Eq.refl 1) (Nat.le_refl (([(IntKind.wrap .u8 ((bitsL (IntKind.wrap .u64 ((BitVec.ofInt (IntKind.bits .u64) set &&& ~~~ BitVec.ofInt (IntKind.bits .u64) g.f_nodes).toNat : Int))).getD t39.toNat default))] : List (Int))).length)) (a_ (a_ (lt_ 0 1 rfl) (a_ (lt_ 0 1 rfl) (a_ gL1_3 (a_ (Eq.refl 1) (Eq.refl true))))) (a_ (Eq.refl 1) (Nat.le_refl (l).length)))) (a_ (le_gs_app 3 l ([(IntKind.wrap .u8 ((bitsL (IntKind.wrap .u64 ((BitVec.ofInt (IntKind.bits .u64) set &&& ~~~ BitVec.ofInt (IntKind.bits .u64) g.f_nodes).toNat : Int))).getD t39.toNat default))] : List (Int))) (a_ (sub_app (cInt .u8) default 1 l ([(IntKind.wrap .u8 ((bitsL (IntKind.wrap .u64 ((BitVec.ofInt (IntKind.bits .u64) set &&& ~~~ BitVec.ofInt (IntKind.bits .u64) g.f_nodes).toNat : Int))).getD t39.toNat default))] : List (Int))) tr))) (r1_ tr))))) (a_ (r2_ tr) tr)))) (ih _ _ r h) (by kernel_rfl) ⟨fun _ _ => rfl, fun _ _ => rfl, trivial⟩
    · skip
      obtain rfl := Option.some.inj h
      exact run_ret mixed (L := []) (n := 20) (s := [.go, .reg [(0, { v := some (.bool false) })], .reg [], .frz 1])
        (a_ (a_ (a_ (a_ tr (a_ (leB cL1_1) tr)) tr) (a_ (r2_ tr) (a_ (a_ (fz_row (enc := (cInt .u8)) (d := default) (fun _ => rfl) l) (a_ (Nat.le_refl (l).length) (a_ (Nat.le_refl (l).length) (a_ (Nat.le_refl (l).length) (a_ (ob_rov (c_T_gather_Gather g) 1 1 (l).length (rowF (cInt .u8) default l) rfl) tr))))) tr))) tr) (by kernel_rfl) rfl

theorem gather_Gather_Ask_l0_ok {w0 : World} {W : Nat → Prop} {μ0 : Emb} (hμ : ∀ c p, μ0 c = some p → c < 1) (g : T_gather_Gather)  : ∀ (fuel : Nat) (set : Int) (t22 : Int) (r : (List (Int))), gather_Gather_Ask_l0 g  fuel set t22 = some r → kont Tryd.prog w0 W μ0 (FnPost Tryd.prog Tryd.f19 1 1 (gather_Gather_Ask_v r) (gather_Gather_Ask_up g r)) (kAt (bodyOf Tryd.f19) 0) none (gather_Gather_Ask_T0 g set t22) (gather_Gather_Ask_H0 g set t22) := by
  intro fuel
  induction fuel with
  | zero => intro set t22 r h; rw [gather_Gather_Ask_l0] at h; cases h
  | succ fuel ih =>
    intro set t22 r h
    rw [gather_Gather_Ask_l0] at h
    rcases itb_some h with ⟨cL0_1, h⟩ | ⟨cL0_1, h⟩
    · skip
      obtain ⟨gL0_2, h⟩ := guard_some h
      obtain ⟨yL0_4, eL0_3, h⟩ := bind_some h
      exact run_to mixed hμ (L := []) (n := 26) (s := [.go, .reg [(0, { v := some (.bool true) })], .reg [], .reg [(2, { call := some (votes_Voters_v yL0_4, [], []) })], .reg []])
        (a_ (a_ (a_ tr (a_ (leB cL0_1) tr)) tr) (a_ (a_ (a_ (a_ (Eq.refl 11) gL0_2) tr) (a_ (a_ (le_ 11 11 rfl) tr) (r1_ (a_ (a_ (a_ (Eq.refl 11) (a_ (le_ 11 11 rfl) (Eq.refl 0))) tr) tr)))) (a_ (r1_ (a_ (a_ (a_ tr (le_ 11 11 rfl)) tr) (a_ (a_ (a_ (votes_Voters_tri (g.f_more.getD t22.toNat default) yL0_4 eL0_3) tr) tr) (r2_ tr)))) (a_ (r2_ tr) tr)))) (ih _ _ r h) (by kernel_rfl) ⟨fun _ _ => rfl, trivial⟩
    · skip
      obtain ⟨gL0_2, h⟩ := guard_some h
      exact run_to mixed hμ (L := [1]) (n := 26) (s := [.go, .reg [(0, { v := some (.bool false) })], .void (.gr 1 (([] : List (Int))).length (rowF (cInt .u8) default ([] : List (Int)))), .reg [(0, { v := some (.gs 1 (([] : List (Int))).length) })], .reg [(6, { call := some (.ds 1 ((bitsL (IntKind.wrap .u64 ((BitVec.ofInt (IntKind.bits .u64) set &&& ~~~ BitVec.ofInt (IntKind.bits .u64) g.f_nodes).toNat : Int)))).length (rowF (cInt .i64) default (bitsL (IntKind.wrap .u64 ((BitVec.ofInt (IntKind.bits .u64) set &&& ~~~ BitVec.ofInt (IntKind.bits .u64) g.f_nodes).toNat : Int)))), [], []) })]])
        (a_ (a_ (a_ tr (a_ (leB cL0_1) tr)) tr) (a_ (Eq.refl 0) (a_ (a_ (a_ tr (a_ (le_nil_gs 1) tr)) tr) (a_ (r4_ (a_ (a_ (a_ (lt_ 0 1 rfl) (lt_ 141 142 rfl)) tr) (r1_ (a_ (a_ (a_ (bl49_tri rfl (IntKind.wrap .u64 ((BitVec.ofInt (IntKind.bits .u64) set &&& ~~~ BitVec.ofInt (IntKind.bits .u64) g.f_nodes).toNat : Int)) gL0_2) tr) tr) (r2_ tr))))) tr)))) (gather_Gather_Ask_l1_ok hμ g set  big _ _ r h) (by kernel_rfl) ⟨fun _ _ => rfl, fun _ _ => rfl, trivial⟩

theorem gather_Gather_Ask_ok (g : T_gather_Gather) (r : (List (Int))) (h : gather_Gather_Ask g = some r) : ∀ σ, Inj 1 σ → FnTri Tryd.prog 19 (renL σ [.ptr 0 0 0]) (preOf σ 0 (gather_Gather_Ask_objs g)) ((gather_Gather_Ask_v r).ren σ) (upOf σ (gather_Gather_Ask_up g r)) := by
  refine fn_of Tryd.func19 (by kernel_rfl) (by kernel_rfl) (by kernel_rfl) ⟨fun _ _ => rfl, trivial⟩ (by kernel_rfl) trivial (by kernel_rfl) ?_
  intro w0 W μ0 hμ
  unfold gather_Gather_Ask at h
  obtain ⟨y2, e1, h⟩ := bind_some h
  rcases itb_some h with ⟨c3, h⟩ | ⟨c3, h⟩
  · skip
    obtain rfl := Option.some.inj h
    exact run_ret mixed (L := []) (n := 20) (s := [.reg [(0, { v := some (.ds 1 (([] : List (Int))).length (rowF (cInt .u8) default ([] : List (Int)))) })], .reg [(1, { call := some ((gather_Gather_ok_v y2).ren (sel [0]), preOf (sel [0]) 0 (gather_Gather_ok_objs g), upOf (sel [0]) (gather_Gather_ok_up g y2)) }), (2, { v := some (.bool true) })], .reg [(0, { v := some (.ds 1 (([] : List (Int))).length (rowF (cInt .u8) default ([] : List (Int)))) })]])
      (a_ (a_ (a_ (a_ tr (a_ (le_nil_ds 1 (rowF (cInt .u8) default [])) tr)) tr) (a_ (r1_ (a_ (a_ (a_ (gather_Gather_ok_ok g y2 e1 (sel [0]) (sel_inj rfl rfl)) (a_ (LO.Le.refl (.row 142 1 (fun _ => c_T_gather_Gather g) false)) tr)) tr) (a_ (a_ tr (a_ (leB c3) tr)) tr))) (a_ (a_ (a_ tr (a_ (le_nil_ds 1 (rowF (cInt .u8) default [])) tr)) tr) tr))) tr) (by kernel_rfl) rfl
  · skip
    obtain ⟨y5, e4, h⟩ := bind_some h
    exact run_to mixed hμ (L := []) (n := 27) (s := [.reg [(0, { v := some (.ds 1 (([] : List (Int))).length (rowF (cInt .u8) default ([] : List (Int)))) })], .reg [(1, { call := some ((gather_Gather_ok_v y2).ren (sel [0]), preOf (sel [0]) 0 (gather_Gather_ok_objs g), upOf (sel [0]) (gather_Gather_ok_up g y2)) }), (2, { v := some (.bool false) })], .reg [(4, { call := some (votes_Voters_v y5, [], []) })], .reg []])
      (a_ (a_ (a_ tr (a_ (le_nil_ds 1 (rowF (cInt .u8) default [])) tr)) tr) (a_ (r1_ (a_ (a_ (a_ (gather_Gather_ok_ok g y2 e1 (sel [0]) (sel_inj rfl rfl)) (a_ (LO.Le.refl (.row 142 1 (fun _ => c_T_gather_Gather g) false)) tr)) tr) (a_ (a_ tr (a_ (leB c3) tr)) tr))) (a_ (r1_ (r2_ (a_ (a_ (a_ (lt_ 0 1 rfl) (le_ 12 142 rfl)) tr) (a_ (a_ (a_ (votes_Voters_tri g.f_conf y5 e4) tr) tr) (r1_ tr))))) (a_ (r1_ (r2_ (a_ (a_ (a_ (lt_ 0 1 rfl) (lt_ 12 142 rfl)) tr) (r2_ tr)))) tr)))) (gather_Gather_Ask_l0_ok hμ g  big _ _ r h) (by kernel_rfl) ⟨fun _ _ => rfl, trivial⟩

/-- parrel/parrelref19.Bytes -/

def parrelref19_Bytes_v (r : (Bool)) : LV := .bool r

def parrelref19_Bytes (a : List (Int)) (b : List (Int)) : Option ((Bool)) :=
  some ((strI a) == (strI b))

theorem parrelref19_Bytes_ok (a : List (Int)) (b : List (Int)) (r : (Bool)) (h : parrelref19_Bytes a b = some r) : ∀ σ, Inj 0 σ → FnTri Tryd.prog 28 (renL σ [.ds 1 (a).length (rowF (cInt .u8) default a), .ds 1 (b).length (rowF (cInt .u8) default b)]) (preOf σ 0 []) ((parrelref19_Bytes_v r).ren σ) (upOf σ []) := by
  refine fn_of Tryd.func28 (by kernel_rfl) (by kernel_rfl) (by kernel_rfl) trivial (by kernel_rfl) trivial (by kernel_rfl) ?_
  intro w0 W μ0 hμ
  unfold parrelref19_Bytes at h
  obtain rfl := Option.some.inj h
  exact run_ret mixed (L := []) (n := 15) (s := [.reg [], .reg [(1, { v := some (.str (strI a)) }), (3, { v := some (.str (strI b)) })]])
    (a_ (a_ (r1_ tr) (a_ (r1_ (a_ (a_ (a_ (Eq.refl 1) (str_ob a)) (a_ (le_str a) tr)) (r1_ (a_ (a_ (a_ (Eq.refl 1) (str_ob b)) (a_ (le_str b) tr)) (r2_ tr))))) tr)) tr) (by kernel_rfl) rfl

theorem parrelref19_Bytes_tri (a : List (Int)) (b : List (Int)) (r : (Bool)) (h : parrelref19_Bytes a b = some r) : FnTri Tryd.prog 28 [.ds 1 (a).length (rowF (cInt .u8) default a), .ds 1 (b).length (rowF (cInt .u8) default b)] [] (parrelref19_Bytes_v r) [] := FnTri.none (parrelref19_Bytes_ok a b r h) rfl rfl

/-- parrel/parrellaw19.alive -/

def parrellaw19_alive_v (r : (Bool)) : LV := .bool r

def parrellaw19_alive  : Option ((Bool)) :=
  (parrellaw19_three).bind fun y2 =>
  (gather_New (A8.mk 97 0 0 0 0 0 0 0) 1 y2 ([] : List (T_api_Config))).bind fun y4 =>
  if (y4.1 : Bool) then
    some false
  else
    (parrellaw19_three).bind fun y7 =>
    (parrellaw19_one 0 3 y7).bind fun y9 =>
    (gather_Gather_Grant (T_gather_Gather.mk y4.2.2.1 y4.2.2.2.1 y4.2.2.2.2.1 y4.2.2.2.2.2 0) y9).bind fun y11 =>
    if ((y11.1 != 0) : Bool) then
      some false
    else
      (gather_Gather_Enough (T_gather_Gather.mk y11.2.1 y11.2.2.1 y11.2.2.2.1 y11.2.2.2.2.1 y11.2.2.2.2.2)).bind fun y14 =>
      if (y14 : Bool) then
        some false
      else
        (parrellaw19_three).bind fun y17 =>
        (parrellaw19_one 2 5 y17).bind fun y19 =>
        (gather_Gather_Grant (T_gather_Gather.mk y11.2.1 y11.2.2.1 y11.2.2.2.1 y11.2.2.2.2.1 y11.2.2.2.2.2) y19).bind fun y21 =>
        if ((y21.1 != 0) : Bool) then
          some false
        else
          (gather_Gather_Enough (T_gather_Gather.mk y21.2.1 y21.2.2.1 y21.2.2.2.1 y21.2.2.2.2.1 y21.2.2.2.2.2)).bind fun y24 =>
          if ((!y24) : Bool) then
            some false
          else
            (gather_Gather_Newest (T_gather_Gather.mk y21.2.1 y21.2.2.1 y21.2.2.2.1 y21.2.2.2.2.1 y21.2.2.2.2.2)).bind fun y27 =>
            if (y27.2 : Bool) then
              if ((y27.1.f_Version == 5) : Bool) then
                (gather_Gather_Nodes (T_gather_Gather.mk y21.2.1 y21.2.2.1 y21.2.2.2.1 y21.2.2.2.2.1 y21.2.2.2.2.2)).bind fun y31 =>
                if ((y31 == 5) : Bool) then
                  (gather_Gather_Ask (T_gather_Gather.mk y21.2.1 y21.2.2.1 y21.2.2.2.1 y21.2.2.2.2.1 y21.2.2.2.2.2)).bind fun y34 =>
                  (parrelref19_Bytes y34 ([1] : List (Int))).bind fun y36 =>
                  some y36
                else
                  some false
              else
                some false
            else
              some false

theorem parrellaw19_alive_ok  (r : (Bool)) (h : parrellaw19_alive  = some r) : ∀ σ, Inj 0 σ → FnTri Tryd.prog 10 (renL σ []) (preOf σ 0 []) ((parrellaw19_alive_v r).ren σ) (upOf σ []) := by
  refine fn_of Tryd.func10 (by kernel_rfl) (by kernel_rfl) (by kernel_rfl) trivial (by kernel_rfl) trivial (by kernel_rfl) ?_
  intro w0 W μ0 hμ
  unfold parrellaw19_alive at h
  obtain ⟨y2, e1, h⟩ := bind_some h
  obtain ⟨y4, e3, h⟩ := bind_some h
  rcases itb_some h with ⟨c5, h⟩ | ⟨c5, h⟩
  · skip
    obtain rfl := Option.some.inj h
    exact run_ret mixed (L := []) (n := 23) (s := [.reg [], .reg [(1, { call := some (parrellaw19_three_v y2, [], []) }), (2, { call := some (gather_New_vA y4.2.1, [], []), cargs := some [.agg [.int .u8 (A8.mk 97 0 0 0 0 0 0 0).a0, .int .u8 (A8.mk 97 0 0 0 0 0 0 0).a1, .int .u8 (A8.mk 97 0 0 0 0 0 0 0).a2, .int .u8 (A8.mk 97 0 0 0 0 0 0 0).a3, .int .u8 (A8.mk 97 0 0 0 0 0 0 0).a4, .int .u8 (A8.mk 97 0 0 0 0 0 0 0).a5, .int .u8 (A8.mk 97 0 0 0 0 0 0 0).a6, .int .u8 (A8.mk 97 0 0 0 0 0 0 0).a7], .int .u8 1, v_T_api_Config y2, .ds 11 (([] : List (T_api_Config))).length (rowF c_T_api_Config default ([] : List (T_api_Config)))] })], .reg [], .reg []])
      (a_ (a_ (r1_ tr) (a_ (a_ (a_ (Eq.refl true) tr) (a_ (a_ (a_ (parrellaw19_three_tri  y2 e1) tr) tr) (a_ (a_ (a_ (gather_New_triA (A8.mk 97 0 0 0 0 0 0 0) 1 y2 ([] : List (T_api_Config)) y4.2.1 y4.2.2 (altA e3 c5)) (a_ (a_ (LV.Le.refl (.agg [.int .u8 97, .int .u8 0, .int .u8 0, .int .u8 0, .int .u8 0, .int .u8 0, .int .u8 0, .int .u8 0])) (a_ (LV.Le.refl (.int .u8 1)) (a_ (LV.Le.refl (v_T_api_Config y2)) (a_ (le_nil_ds 11 (rowF c_T_api_Config default [])) tr)))) tr)) tr) (r1_ (r4_ tr))))) (a_ (r1_ (r2_ (t2_ (r2_ (a_ tr (t4_ (r2_ (t2_ (r2_ (a_ tr (t4_ (r2_ (a_ tr (t2_ (r1_ tr))))))))))))))) (a_ (r1_ tr) tr)))) tr) (by kernel_rfl) rfl
  · skip
    obtain ⟨y7, e6, h⟩ := bind_some h
    obtain ⟨y9, e8, h⟩ := bind_some h
    obtain ⟨y11, e10, h⟩ := bind_some h
    rcases itb_some h with ⟨c12, h⟩ | ⟨c12, h⟩
    · skip
      obtain rfl := Option.some.inj h
      exact run_ret mixed (L := []) (n := 23) (s := [.reg [], .reg [(1, { call := some (parrellaw19_three_v y2, [], []) }), (2, { call := some ((gather_New_vB y4.2.2).ren (sel [0]), preOf (sel [0]) 0 [], upOf (sel [0]) (gather_New_upB (A8.mk 97 0 0 0 0 0 0 0) 1 y2 ([] : List (T_api_Config)) y4.2.2)), cargs := some [.agg [.int .u8 (A8.mk 97 0 0 0 0 0 0 0).a0, .int .u8 (A8.mk 97 0 0 0 0 0 0 0).a1, .int .u8 (A8.mk 97 0 0 0 0 0 0 0).a2, .int .u8 (A8.mk 97 0 0 0 0 0 0 0).a3, .int .u8 (A8.mk 97 0 0 0 0 0 0 0).a4, .int .u8 (A8.mk 97 0 0 0 0 0 0 0).a5, .int .u8 (A8.mk 97 0 0 0 0 0 0 0).a6, .int .u8 (A8.mk 97 0 0 0 0 0 0 0).a7], .int .u8 1, v_T_api_Config y2, .ds 11 (([] : List (T_api_Config))).length (rowF c_T_api_Config default ([] : List (T_api_Config)))] })], .reg [(8, { call := some (parrellaw19_three_v y7, [], []) }), (9, { call := some (parrellaw19_one_v y9, [], []) }), (10, { call := some ((gather_Gather_Grant_v y11).ren (sel [0]), preOf (sel [0]) 0 (gather_Gather_Grant_objs (T_gather_Gather.mk y4.2.2.1 y4.2.2.2.1 y4.2.2.2.2.1 y4.2.2.2.2.2 0) y9), upOf (sel [0]) (gather_Gather_Grant_up (T_gather_Gather.mk y4.2.2.1 y4.2.2.2.1 y4.2.2.2.2.1 y4.2.2.2.2.2 0) y9 y11)) }), (13, { v := some (.bool true) })], .reg []])
        (a_ (a_ (r1_ tr) (a_ (a_ (a_ (Eq.refl true) tr) (a_ (a_ (a_ (parrellaw19_three_tri  y2 e1) tr) tr) (a_ (a_ (a_ (gather_New_okB (A8.mk 97 0 0 0 0 0 0 0) 1 y2 ([] : List (T_api_Config)) y4.2.2 y4.2.1 (altB e3 c5) (sel [0]) (sel_inj rfl rfl)) (a_ (a_ (LV.Le.refl (.agg [.int .u8 97, .int .u8 0, .int .u8 0, .int .u8 0, .int .u8 0, .int .u8 0, .int .u8 0, .int .u8 0])) (a_ (LV.Le.refl (.int .u8 1)) (a_ (LV.Le.refl (v_T_api_Config y2)) (a_ (le_nil_ds 11 (rowF c_T_api_Config default [])) tr)))) tr)) tr) (r1_ (r4_ tr))))) (a_ (r8_ (a_ (a_ (a_ (parrellaw19_three_tri  y7 e6) tr) tr) (a_ (a_ (a_ (parrellaw19_one_tri 0 3 y7 y9 e8) tr) tr) (a_ (a_ (a_ (gather_Gather_Grant_ok (T_gather_Gather.mk y4.2.2.1 y4.2.2.2.1 y4.2.2.2.2.1 y4.2.2.2.2.2 0) y9 y11 e10 (sel [0]) (sel_inj rfl rfl)) (a_ (LO.Le.refl (.var (c_T_gather_Gather (T_gather_Gather.mk y4.2.2.1 y4.2.2.2.1 y4.2.2.2.2.1 y4.2.2.2.2.2 0)))) tr)) tr) (r2_ (a_ (a_ tr (a_ (leB c12) tr)) (t2_ (r2_ (a_ tr (t4_ (r2_ (a_ tr (t2_ (r1_ tr)))))))))))))) (a_ (r1_ tr) tr)))) tr) (by kernel_rfl) rfl
    · skip
      obtain ⟨y14, e13, h⟩ := bind_some h
      rcases itb_some h with ⟨c15, h⟩ | ⟨c15, h⟩
      · skip
        obtain rfl := Option.some.inj h
        exact run_ret mixed (L := []) (n := 23) (s := [.reg [], .reg [(1, { call := some (parrellaw19_three_v y2, [], []) }), (2, { call := some ((gather_New_vB y4.2.2).ren (sel [0]), preOf (sel [0]) 0 [], upOf (sel [0]) (gather_New_upB (A8.mk 97 0 0 0 0 0 0 0) 1 y2 ([] : List (T_api_Config)) y4.2.2)), cargs := some [.agg [.int .u8 (A8.mk 97 0 0 0 0 0 0 0).a0, .int .u8 (A8.mk 97 0 0 0 0 0 0 0).a1, .int .u8 (A8.mk 97 0 0 0 0 0 0 0).a2, .int .u8 (A8.mk 97 0 0 0 0 0 0 0).a3, .int .u8 (A8.mk 97 0 0 0 0 0 0 0).a4, .int .u8 (A8.mk 97 0 0 0 0 0 0 0).a5, .int .u8 (A8.mk 97 0 0 0 0 0 0 0).a6, .int .u8 (A8.mk 97 0 0 0 0 0 0 0).a7], .int .u8 1, v_T_api_Config y2, .ds 11 (([] : List (T_api_Config))).length (rowF c_T_api_Config default ([] : List (T_api_Config)))] })], .reg [(8, { call := some (parrellaw19_three_v y7, [], []) }), (9, { call := some (parrellaw19_one_v y9, [], []) }), (10, { call := some ((gather_Gather_Grant_v y11).ren (sel [0]), preOf (sel [0]) 0 (gather_Gather_Grant_objs (T_gather_Gather.mk y4.2.2.1 y4.2.2.2.1 y4.2.2.2.2.1 y4.2.2.2.2.2 0) y9), upOf (sel [0]) (gather_Gather_Grant_up (T_gather_Gather.mk y4.2.2.1 y4.2.2.2.1 y4.2.2.2.2.1 y4.2.2.2.2.2 0) y9 y11)) }), (13, { v := some (.bool false) }), (15, { call := some ((gather_Gather_Enough_v y14).ren (sel [0]), preOf (sel [0]) 0 (gather_Gather_Enough_objs (T_gather_Gather.mk y11.2.1 y11.2.2.1 y11.2.2.2.1 y11.2.2.2.2.1 y11.2.2.2.2.2)), upOf (sel [0]) (gather_Gather_Enough_up (T_gather_Gather.mk y11.2.1 y11.2.2.1 y11.2.2.2.1 y11.2.2.2.2.1 y11.2.2.2.2.2) y14)) }), (17, { v := some (.bool true) })], .reg []])
          (a_ (a_ (r1_ tr) (a_ (a_ (a_ (Eq.refl true) tr) (a_ (a_ (a_ (parrellaw19_three_tri  y2 e1) tr) tr) (a_ (a_ (a_ (gather_New_okB (A8.mk 97 0 0 0 0 0 0 0) 1 y2 ([] : List (T_api_Config)) y4.2.2 y4.2.1 (altB e3 c5) (sel [0]) (sel_inj rfl rfl)) (a_ (a_ (LV.Le.refl (.agg [.int .u8 97, .int .u8 0, .int .u8 0, .int .u8 0, .int .u8 0, .int .u8 0, .int .u8 0, .int .u8 0])) (a_ (LV.Le.refl (.int .u8 1)) (a_ (LV.Le.refl (v_T_api_Config y2)) (a_ (le_nil_ds 11 (rowF c_T_api_Config default [])) tr)))) tr)) tr) (r1_ (r4_ tr))))) (a_ (r8_ (a_ (a_ (a_ (parrellaw19_three_tri  y7 e6) tr) tr) (a_ (a_ (a_ (parrellaw19_one_tri 0 3 y7 y9 e8) tr) tr) (a_ (a_ (a_ (gather_Gather_Grant_ok (T_gather_Gather.mk y4.2.2.1 y4.2.2.2.1 y4.2.2.2.2.1 y4.2.2.2.2.2 0) y9 y11 e10 (sel [0]) (sel_inj rfl rfl)) (a_ (LO.Le.refl (.var (c_T_gather_Gather (T_gather_Gather.mk y4.2.2.1 y4.2.2.2.1 y4.2.2.2.2.1 y4.2.2.2.2.2 0)))) tr)) tr) (r2_ (a_ (a_ tr (a_ (leB c12) tr)) (r1_ (a_ (a_ (a_ (gather_Gather_Enough_ok (T_gather_Gather.mk y11.2.1 y11.2.2.1 y11.2.2.2.1 y11.2.2.2.2.1 y11.2.2.2.2.2) y14 e13 (sel [0]) (sel_inj rfl rfl)) (a_ (LO.Le.ofVar (c_T_gather_Gather (T_gather_Gather.mk y11.2.1 y11.2.2.1 y11.2.2.2.1 y11.2.2.2.2.1 y11.2.2.2.2.2))) tr)) tr) (r1_ (a_ (a_ tr (a_ (leB c15) tr)) (a_ tr (t4_ (r2_ (a_ tr (t2_ (r1_ tr)))))))))))))))) (a_ (r1_ tr) tr)))) tr) (by kernel_rfl) rfl
      · skip
        obtain ⟨y17, e16, h⟩ := bind_some h
        obtain ⟨y19, e18, h⟩ := bind_some h
        obtain ⟨y21, e20, h⟩ := bind_some h
        rcases itb_some h with ⟨c22, h⟩ | ⟨c22, h⟩
        · skip
          obtain rfl := Option.some.inj h
          exact run_ret mixed (L := []) (n := 23) (s := [.reg [], .reg [(1, { call := some (parrellaw19_three_v y2, [], []) }), (2, { call := some ((gather_New_vB y4.2.2).ren (sel [0]), preOf (sel [0]) 0 [], upOf (sel [0]) (gather_New_upB (A8.mk 97 0 0 0 0 0 0 0) 1 y2 ([] : List (T_api_Config)) y4.2.2)), cargs := some [.agg [.int .u8 (A8.mk 97 0 0 0 0 0 0 0).a0, .int .u8 (A8.mk 97 0 0 0 0 0 0 0).a1, .int .u8 (A8.mk 97 0 0 0 0 0 0 0).a2, .int .u8 (A8.mk 97 0 0 0 0 0 0 0).a3, .int .u8 (A8.mk 97 0 0 0 0 0 0 0).a4, .int .u8 (A8.mk 97 0 0 0 0 0 0 0).a5, .int .u8 (A8.mk 97 0 0 0 0 0 0 0).a6, .int .u8 (A8.mk 97 0 0 0 0 0 0 0).a7], .int .u8 1, v_T_api_Config y2, .ds 11 (([] : List (T_api_Config))).length (rowF c_T_api_Config default ([] : List (T_api_Config)))] })], .reg [(8, { call := some (parrellaw19_three_v y7, [], []) }), (9, { call := some (parrellaw19_one_v y9, [], []) }), (10, { call := some ((gather_Gather_Grant_v y11).ren (sel [0]), preOf (sel [0]) 0 (gather_Gather_Grant_objs (T_gather_Gather.mk y4.2.2.1 y4.2.2.2.1 y4.2.2.2.2.1 y4.2.2.2.2.2 0) y9), upOf (sel [0]) (gather_Gather_Grant_up (T_gather_Gather.mk y4.2.2.1 y4.2.2.2.1 y4.2.2.2.2.1 y4.2.2.2.2.2 0) y9 y11)) }), (13, { v := some (.bool false) }), (15, { call := some ((gather_Gather_Enough_v y14).ren (sel [0]), preOf (sel [0]) 0 (gather_Gather_Enough_objs (T_gather_Gather.mk y11.2.1 y11.2.2.1 y11.2.2.2.1 y11.2.2.2.2.1 y11.2.2.2.2.2)), upOf (sel [0]) (gather_Gather_Enough_up (T_gather_Gather.mk y11.2.1 y11.2.2.1 y11.2.2.2.1 y11.2.2.2.2.1 y11.2.2.2.2.2) y14)) }), (17, { v := some (.bool false) }), (19, { call := some (parrellaw19_three_v y17, [], []) }), (20, { call := some (parrellaw19_one_v y19, [], []) }), (21, { call := some ((gather_Gather_Grant_v y21).ren (sel [0]), preOf (sel [0]) 0 (gather_Gather_Grant_objs (T_gather_Gather.mk y11.2.1 y11.2.2.1 y11.2.2.2.1 y11.2.2.2.2.1 y11.2.2.2.2.2) y19), upOf (sel [0]) (gather_Gather_Grant_up (T_gather_Gather.mk y11.2.1 y11.2.2.1 y11.2.2.2.1 y11.2.2.2.2.1 y11.2.2.2.2.2) y19 y21)) }), (24, { v := some (.bool true) })], .reg []])
            (a_ (a_ (r1_ tr) (a_ (a_ (a_ (Eq.refl true) tr) (a_ (a_ (a_ (parrellaw19_three_tri  y2 e1) tr) tr) (a_ (a_ (a_ (gather_New_okB (A8.mk 97 0 0 0 0 0 0 0) 1 y2 ([] : List (T_api_Config)) y4.2.2 y4.2.1 (altB e3 c5) (sel [0]) (sel_inj rfl rfl)) (a_ (a_ (LV.Le.refl (.agg [.int .u8 97, .int .u8 0, .int .u8 0, .int .u8 0, .int .u8 0, .int .u8 0, .int .u8 0, .int .u8 0])) (a_ (LV.Le.refl (.int .u8 1)) (a_ (LV.Le.refl (v_T_api_Config y2)) (a_ (le_nil_ds 11 (rowF c_T_api_Config default [])) tr)))) tr)) tr) (r1_ (r4_ tr))))) (a_ (r8_ (a_ (a_ (a_ (parrellaw19_three_tri  y7 e6) tr) tr) (a_ (a_ (a_ (parrellaw19_one_tri 0 3 y7 y9 e8) tr) tr) (a_ (a_ (a_ (gather_Gather_Grant_ok (T_gather_Gather.mk y4.2.2.1 y4.2.2.2.1 y4.2.2.2.2.1 y4.2.2.2.2.2 0) y9 y11 e10 (sel [0]) (sel_inj rfl rfl)) (a_ (LO.Le.refl (.var (c_T_gather_Gather (T_gather_Gather.mk y4.2.2.1 y4.2.2.2.1 y4.2.2.2.2.1 y4.2.2.2.2.2 0)))) tr)) tr) (r2_ (a_ (a_ tr (a_ (leB c12) tr)) (r1_ (a_ (a_ (a_ (gather_Gather_Enough_ok (T_gather_Gather.mk y11.2.1 y11.2.2.1 y11.2.2.2.1 y11.2.2.2.2.1 y11.2.2.2.2.2) y14 e13 (sel [0]) (sel_inj rfl rfl)) (a_ (LO.Le.ofVar (c_T_gather_Gather (T_gather_Gather.mk y11.2.1 y11.2.2.1 y11.2.2.2.1 y11.2.2.2.2.1 y11.2.2.2.2.2))) tr)) tr) (r1_ (a_ (a_ tr (a_ (leB c15) tr)) (r1_ (a_ (a_ (a_ (parrellaw19_three_tri  y17 e16) tr) tr) (a_ (a_ (a_ (parrellaw19_one_tri 2 5 y17 y19 e18) tr) tr) (a_ (a_ (a_ (gather_Gather_Grant_ok (T_gather_Gather.mk y11.2.1 y11.2.2.1 y11.2.2.2.1 y11.2.2.2.2.1 y11.2.2.2.2.2) y19 y21 e20 (sel [0]) (sel_inj rfl rfl)) (a_ (LO.Le.refl (.var (c_T_gather_Gather (T_gather_Gather.mk y11.2.1 y11.2.2.1 y11.2.2.2.1 y11.2.2.2.2.1 y11.2.2.2.2.2)))) tr)) tr) (r2_ (a_ (a_ tr (a_ (leB c22) tr)) (a_ tr (t2_ (r1_ tr))))))))))))))))))) (a_ (r1_ tr) tr)))) tr) (by kernel_rfl) rfl
        · skip
          obtain ⟨y24, e23, h⟩ := bind_some h
          rcases itb_some h with ⟨c25, h⟩ | ⟨c25, h⟩
          · skip
            obtain rfl := Option.some.inj h
            exact run_ret mixed (L := []) (n := 23) (s := [.reg [], .reg [(1, { call := some (parrellaw19_three_v y2, [], []) }), (2, { call := some ((gather_New_vB y4.2.2).ren (sel [0]), preOf (sel [0]) 0 [], upOf (sel [0]) (gather_New_upB (A8.mk 97 0 0 0 0 0 0 0) 1 y2 ([] : List (T_api_Config)) y4.2.2)), cargs := some [.agg [.int .u8 (A8.mk 97 0 0 0 0 0 0 0).a0, .int .u8 (A8.mk 97 0 0 0 0 0 0 0).a1, .int .u8 (A8.mk 97 0 0 0 0 0 0 0).a2, .int .u8 (A8.mk 97 0 0 0 0 0 0 0).a3, .int .u8 (A8.mk 97 0 0 0 0 0 0 0).a4, .int .u8 (A8.mk 97 0 0 0 0 0 0 0).a5, .int .u8 (A8.mk 97 0 0 0 0 0 0 0).a6, .int .u8 (A8.mk 97 0 0 0 0 0 0 0).a7], .int .u8 1, v_T_api_Config y2, .ds 11 (([] : List (T_api_Config))).length (rowF c_T_api_Config default ([] : List (T_api_Config)))] })], .reg [(8, { call := some (parrellaw19_three_v y7, [], []) }), (9, { call := some (parrellaw19_one_v y9, [], []) }), (10, { call := some ((gather_Gather_Grant_v y11).ren (sel [0]), preOf (sel [0]) 0 (gather_Gather_Grant_objs (T_gather_Gather.mk y4.2.2.1 y4.2.2.2.1 y4.2.2.2.2.1 y4.2.2.2.2.2 0) y9), upOf (sel [0]) (gather_Gather_Grant_up (T_gather_Gather.mk y4.2.2.1 y4.2.2.2.1 y4.2.2.2.2.1 y4.2.2.2.2.2 0) y9 y11)) }), (13, { v := some (.bool false) }), (15, { call := some ((gather_Gather_Enough_v y14).ren (sel [0]), preOf (sel [0]) 0 (gather_Gather_Enough_objs (T_gather_Gather.mk y11.2.1 y11.2.2.1 y11.2.2.2.1 y11.2.2.2.2.1 y11.2.2.2.2.2)), upOf (sel [0]) (gather_Gather_Enough_up (T_gather_Gather.mk y11.2.1 y11.2.2.1 y11.2.2.2.1 y11.2.2.2.2.1 y11.2.2.2.2.2) y14)) }), (17, { v := some (.bool false) }), (19, { call := some (parrellaw19_three_v y17, [], []) }), (20, { call := some (parrellaw19_one_v y19, [], []) }), (21, { call := some ((gather_Gather_Grant_v y21).ren (sel [0]), preOf (sel [0]) 0 (gather_Gather_Grant_objs (T_gather_Gather.mk y11.2.1 y11.2.2.1 y11.2.2.2.1 y11.2.2.2.2.1 y11.2.2.2.2.2) y19), upOf (sel [0]) (gather_Gather_Grant_up (T_gather_Gather.mk y11.2.1 y11.2.2.1 y11.2.2.2.1 y11.2.2.2.2.1 y11.2.2.2.2.2) y19 y21)) }), (24, { v := some (.bool false) }), (26, { call := some ((gather_Gather_Enough_v y24).ren (sel [0]), preOf (sel [0]) 0 (gather_Gather_Enough_objs (T_gather_Gather.mk y21.2.1 y21.2.2.1 y21.2.2.2.1 y21.2.2.2.2.1 y21.2.2.2.2.2)), upOf (sel [0]) (gather_Gather_Enough_up (T_gather_Gather.mk y21.2.1 y21.2.2.1 y21.2.2.2.1 y21.2.2.2.2.1 y21.2.2.2.2.2) y24)) }), (28, { v := some (.bool true) })], .reg []])
              (a_ (a_ (r1_ tr) (a_ (a_ (a_ (Eq.refl true) tr) (a_ (a_ (a_ (parrellaw19_three_tri  y2 e1) tr) tr) (a_ (a_ (a_ (gather_New_okB (A8.mk 97 0 0 0 0 0 0 0) 1 y2 ([] : List (T_api_Config)) y4.2.2 y4.2.1 (altB e3 c5) (sel [0]) (sel_inj rfl rfl)) (a_ (a_ (LV.Le.refl (.agg [.int .u8 97, .int .u8 0, .int .u8 0, .int .u8 0, .int .u8 0, .int .u8 0, .int .u8 0, .int .u8 0])) (a_ (LV.Le.refl (.int .u8 1)) (a_ (LV.Le.refl (v_T_api_Config y2)) (a_ (le_nil_ds 11 (rowF c_T_api_Config default [])) tr)))) tr)) tr) (r1_ (r4_ tr))))) (a_ (r8_ (a_ (a_ (a_ (parrellaw19_three_tri  y7 e6) tr) tr) (a_ (a_ (a_ (parrellaw19_one_tri 0 3 y7 y9 e8) tr) tr) (a_ (a_ (a_ (gather_Gather_Grant_ok (T_gather_Gather.mk y4.2.2.1 y4.2.2.2.1 y4.2.2.2.2.1 y4.2.2.2.2.2 0) y9 y11 e10 (sel [0]) (sel_inj rfl rfl)) (a_ (LO.Le.refl (.var (c_T_gather_Gather (T_gather_Gather.mk y4.2.2.1 y4.2.2.2.1 y4.2.2.2.2.1 y4.2.2.2.2.2 0)))) tr)) tr) (r2_ (a_ (a_ tr (a_ (leB c12) tr)) (r1_ (a_ (a_ (a_ (gather_Gather_Enough_ok (T_gather_Gather.mk y11.2.1 y11.2.2.1 y11.2.2.2.1 y11.2.2.2.2.1 y11.2.2.2.2.2) y14 e13 (sel [0]) (sel_inj rfl rfl)) (a_ (LO.Le.ofVar (c_T_gather_Gather (T_gather_Gather.mk y11.2.1 y11.2.2.1 y11.2.2.2.1 y11.2.2.2.2.1 y11.2.2.2.2.2))) tr)) tr) (r1_ (a_ (a_ tr (a_ (leB c15) tr)) (r1_ (a_ (a_ (a_ (parrellaw19_three_tri  y17 e16) tr) tr) (a_ (a_ (a_ (parrellaw19_one_tri 2 5 y17 y19 e18) tr) tr) (a_ (a_ (a_ (gather_Gather_Grant_ok (T_gather_Gather.mk y11.2.1 y11.2.2.1 y11.2.2.2.1 y11.2.2.2.2.1 y11.2.2.2.2.2) y19 y21 e20 (sel [0]) (sel_inj rfl rfl)) (a_ (LO.Le.refl (.var (c_T_gather_Gather (T_gather_Gather.mk y11.2.1 y11.2.2.1 y11.2.2.2.1 y11.2.2.2.2.1 y11.2.2.2.2.2)))) tr)) tr) (r2_ (a_ (a_ tr (a_ (leB c22) tr)) (r1_ (a_ (a_ (a_ (gather_Gather_Enough_ok (T_gather_Gather.mk y21.2.1 y21.2.2.1 y21.2.2.2.1 y21.2.2.2.2.1 y21.2.2.2.2.2) y24 e23 (sel [0]) (sel_inj rfl rfl)) (a_ (LO.Le.ofVar (c_T_gather_Gather (T_gather_Gather.mk y21.2.1 y21.2.2.1 y21.2.2.2.1 y21.2.2.2.2.1 y21.2.2.2.2.2))) tr)) tr) (r1_ (a_ (a_ tr (a_ (leB c25) tr)) tr)))))))))))))))))))) (a_ (r1_ tr) tr)))) tr) (by kernel_rfl) rfl
          · skip
            obtain ⟨y27, e26, h⟩ := bind_some h
            rcases itb_some h with ⟨c28, h⟩ | ⟨c28, h⟩
            · skip
              rcases itb_some h with ⟨c29, h⟩ | ⟨c29, h⟩
              · skip
                obtain ⟨y31, e30, h⟩ := bind_some h
                rcases itb_some h with ⟨c32, h⟩ | ⟨c32, h⟩
                · skip
                  obtain ⟨y34, e33, h⟩ := bind_some h
                  obtain ⟨y36, e35, h⟩ := bind_some h
                  obtain rfl := Option.some.inj h
                  exact run_ret mixed (L := []) (n := 27) (s := [.reg [], .reg [(1, { call := some (parrellaw19_three_v y2, [], []) }), (2, { call := some ((gather_New_vB y4.2.2).ren (sel [0]), preOf (sel [0]) 0 [], upOf (sel [0]) (gather_New_upB (A8.mk 97 0 0 0 0 0 0 0) 1 y2 ([] : List (T_api_Config)) y4.2.2)), cargs := some [.agg [.int .u8 (A8.mk 97 0 0 0 0 0 0 0).a0, .int .u8 (A8.mk 97 0 0 0 0 0 0 0).a1, .int .u8 (A8.mk 97 0 0 0 0 0 0 0).a2, .int .u8 (A8.mk 97 0 0 0 0 0 0 0).a3, .int .u8 (A8.mk 97 0 0 0 0 0 0 0).a4, .int .u8 (A8.mk 97 0 0 0 0 0 0 0).a5, .int .u8 (A8.mk 97 0 0 0 0 0 0 0).a6, .int .u8 (A8.mk 97 0 0 0 0 0 0 0).a7], .int .u8 1, v_T_api_Config y2, .ds 11 (([] : List (T_api_Config))).length (rowF c_T_api_Config default ([] : List (T_api_Config)))] })], .reg [(8, { call := some (parrellaw19_three_v y7, [], []) }), (9, { call := some (parrellaw19_one_v y9, [], []) }), (10, { call := some ((gather_Gather_Grant_v y11).ren (sel [0]), preOf (sel [0]) 0 (gather_Gather_Grant_objs (T_gather_Gather.mk y4.2.2.1 y4.2.2.2.1 y4.2.2.2.2.1 y4.2.2.2.2.2 0) y9), upOf (sel [0]) (gather_Gather_Grant_up (T_gather_Gather.mk y4.2.2.1 y4.2.2.2.1 y4.2.2.2.2.1 y4.2.2.2.2.2 0) y9 y11)) }), (13, { v := some (.bool false) }), (15, { call := some ((gather_Gather_Enough_v y14).ren (sel [0]), preOf (sel [0]) 0 (gather_Gather_Enough_objs (T_gather_Gather.mk y11.2.1 y11.2.2.1 y11.2.2.2.1 y11.2.2.2.2.1 y11.2.2.2.2.2)), upOf (sel [0]) (gather_Gather_Enough_up (T_gather_Gather.mk y11.2.1 y11.2.2.1 y11.2.2.2.1 y11.2.2.2.2.1 y11.2.2.2.2.2) y14)) }), (17, { v := some (.bool false) }), (19, { call := some (parrellaw19_three_v y17, [], []) }), (20, { call := some (parrellaw19_one_v y19, [], []) }), (21, { call := some ((gather_Gather_Grant_v y21).ren (sel [0]), preOf (sel [0]) 0 (gather_Gather_Grant_objs (T_gather_Gather.mk y11.2.1 y11.2.2.1 y11.2.2.2.1 y11.2.2.2.2.1 y11.2.2.2.2.2) y19), upOf (sel [0]) (gather_Gather_Grant_up (T_gather_Gather.mk y11.2.1 y11.2.2.1 y11.2.2.2.1 y11.2.2.2.2.1 y11.2.2.2.2.2) y19 y21)) }), (24, { v := some (.bool false) }), (26, { call := some ((gather_Gather_Enough_v y24).ren (sel [0]), preOf (sel [0]) 0 (gather_Gather_Enough_objs (T_gather_Gather.mk y21.2.1 y21.2.2.1 y21.2.2.2.1 y21.2.2.2.2.1 y21.2.2.2.2.2)), upOf (sel [0]) (gather_Gather_Enough_up (T_gather_Gather.mk y21.2.1 y21.2.2.1 y21.2.2.2.1 y21.2.2.2.2.1 y21.2.2.2.2.2) y24)) }), (28, { v := some (.bool false) })], .reg [(1, { call := some ((gather_Gather_Newest_v y27).ren (sel [0]), preOf (sel [0]) 0 (gather_Gather_Newest_objs (T_gather_Gather.mk y21.2.1 y21.2.2.1 y21.2.2.2.1 y21.2.2.2.2.1 y21.2.2.2.2.2)), upOf (sel [0]) (gather_Gather_Newest_up (T_gather_Gather.mk y21.2.1 y21.2.2.1 y21.2.2.2.1 y21.2.2.2.2.1 y21.2.2.2.2.2) y27)) })], .reg [(1, { v := some (.bool true) }), (6, { v := some (.bool true) }), (8, { call := some ((gather_Gather_Nodes_v y31).ren (sel [0]), preOf (sel [0]) 0 (gather_Gather_Nodes_objs (T_gather_Gather.mk y21.2.1 y21.2.2.1 y21.2.2.2.1 y21.2.2.2.2.1 y21.2.2.2.2.2)), upOf (sel [0]) (gather_Gather_Nodes_up (T_gather_Gather.mk y21.2.1 y21.2.2.1 y21.2.2.2.1 y21.2.2.2.2.1 y21.2.2.2.2.2) y31)) }), (11, { v := some (.bool true) }), (13, { call := some ((gather_Gather_Ask_v y34).ren (sel [0]), preOf (sel [0]) 0 (gather_Gather_Ask_objs (T_gather_Gather.mk y21.2.1 y21.2.2.1 y21.2.2.2.1 y21.2.2.2.2.1 y21.2.2.2.2.2)), upOf (sel [0]) (gather_Gather_Ask_up (T_gather_Gather.mk y21.2.1 y21.2.2.1 y21.2.2.2.1 y21.2.2.2.2.1 y21.2.2.2.2.2) y34)) }), (14, { os := [(2, .gr 1 (([1] : List (Int))).length (rowF (cInt .u8) default ([1] : List (Int))))], v := some (.gs 2 (([1] : List (Int))).length), fz := true }), (15, { call := some (parrelref19_Bytes_v y36, [], []) })]])
                    (a_ (a_ (r1_ tr) (a_ (a_ (a_ (Eq.refl true) tr) (a_ (a_ (a_ (parrellaw19_three_tri  y2 e1) tr) tr) (a_ (a_ (a_ (gather_New_okB (A8.mk 97 0 0 0 0 0 0 0) 1 y2 ([] : List (T_api_Config)) y4.2.2 y4.2.1 (altB e3 c5) (sel [0]) (sel_inj rfl rfl)) (a_ (a_ (LV.Le.refl (.agg [.int .u8 97, .int .u8 0, .int .u8 0, .int .u8 0, .int .u8 0, .int .u8 0, .int .u8 0, .int .u8 0])) (a_ (LV.Le.refl (.int .u8 1)) (a_ (LV.Le.refl (v_T_api_Config y2)) (a_ (le_nil_ds 11 (rowF c_T_api_Config default [])) tr)))) tr)) tr) (r1_ (r4_ tr))))) (a_ (r8_ (a_ (a_ (a_ (parrellaw19_three_tri  y7 e6) tr) tr) (a_ (a_ (a_ (parrellaw19_one_tri 0 3 y7 y9 e8) tr) tr) (a_ (a_ (a_ (gather_Gather_Grant_ok (T_gather_Gather.mk y4.2.2.1 y4.2.2.2.1 y4.2.2.2.2.1 y4.2.2.2.2.2 0) y9 y11 e10 (sel [0]) (sel_inj rfl rfl)) (a_ (LO.Le.refl (.var (c_T_gather_Gather (T_gather_Gather.mk y4.2.2.1 y4.2.2.2.1 y4.2.2.2.2.1 y4.2.2.2.2.2 0)))) tr)) tr) (r2_ (a_ (a_ tr (a_ (leB c12) tr)) (r1_ (a_ (a_ (a_ (gather_Gather_Enough_ok (T_gather_Gather.mk y11.2.1 y11.2.2.1 y11.2.2.2.1 y11.2.2.2.2.1 y11.2.2.2.2.2) y14 e13 (sel [0]) (sel_inj rfl rfl)) (a_ (LO.Le.ofVar (c_T_gather_Gather (T_gather_Gather.mk y11.2.1 y11.2.2.1 y11.2.2.2.1 y11.2.2.2.2.1 y11.2.2.2.2.2))) tr)) tr) (r1_ (a_ (a_ tr (a_ (leB c15) tr)) (r1_ (a_ (a_ (a_ (parrellaw19_three_tri  y17 e16) tr) tr) (a_ (a_ (a_ (parrellaw19_one_tri 2 5 y17 y19 e18) tr) tr) (a_ (a_ (a_ (gather_Gather_Grant_ok (T_gather_Gather.mk y11.2.1 y11.2.2.1 y11.2.2.2.1 y11.2.2.2.2.1 y11.2.2.2.2.2) y19 y21 e20 (sel [0]) (sel_inj rfl rfl)) (a_ (LO.Le.refl (.var (c_T_gather_Gather (T_gather_Gather.mk y11.2.1 y11.2.2.1 y11.2.2.2.1 y11.2.2.2.2.1 y11.2.2.2.2.2)))) tr)) tr) (r2_ (a_ (a_ tr (a_ (leB c22) tr)) (r1_ (a_ (a_ (a_ (gather_Gather_Enough_ok (T_gather_Gather.mk y21.2.1 y21.2.2.1 y21.2.2.2.1 y21.2.2.2.2.1 y21.2.2.2.2.2) y24 e23 (sel [0]) (sel_inj rfl rfl)) (a_ (LO.Le.ofVar (c_T_gather_Gather (T_gather_Gather.mk y21.2.1 y21.2.2.1 y21.2.2.2.1 y21.2.2.2.2.1 y21.2.2.2.2.2))) tr)) tr) (r1_ (a_ (a_ tr (a_ (leB c25) tr)) tr)))))))))))))))))))) (a_ (r1_ (a_ (a_ (a_ (gather_Gather_Newest_ok (T_gather_Gather.mk y21.2.1 y21.2.2.1 y21.2.2.2.1 y21.2.2.2.2.1 y21.2.2.2.2.2) y27 e26 (sel [0]) (sel_inj rfl rfl)) (a_ (LO.Le.ofVar (c_T_gather_Gather (T_gather_Gather.mk y21.2.1 y21.2.2.1 y21.2.2.2.1 y21.2.2.2.2.1 y21.2.2.2.2.2))) tr)) tr) (r4_ (a_ (a_ (a_ (Eq.refl 13) (a_ (le_ 13 13 rfl) (Eq.refl 0))) tr) (r1_ tr))))) (a_ (r1_ (a_ (a_ tr (a_ (leB c28) tr)) (r1_ (a_ (a_ (a_ tr (lt_ 0 13 rfl)) tr) (r2_ (a_ (a_ tr (a_ (leB c29) tr)) (r1_ (a_ (a_ (a_ (gather_Gather_Nodes_ok (T_gather_Gather.mk y21.2.1 y21.2.2.1 y21.2.2.2.1 y21.2.2.2.2.1 y21.2.2.2.2.2) y31 e30 (sel [0]) (sel_inj rfl rfl)) (a_ (LO.Le.ofVar (c_T_gather_Gather (T_gather_Gather.mk y21.2.1 y21.2.2.1 y21.2.2.2.1 y21.2.2.2.2.1 y21.2.2.2.2.2))) tr)) tr) (r2_ (a_ (a_ tr (a_ (leB c32) tr)) (r1_ (a_ (a_ (a_ (gather_Gather_Ask_ok (T_gather_Gather.mk y21.2.1 y21.2.2.1 y21.2.2.2.1 y21.2.2.2.2.1 y21.2.2.2.2.2) y34 e33 (sel [0]) (sel_inj rfl rfl)) (a_ (LO.Le.ofVar (c_T_gather_Gather (T_gather_Gather.mk y21.2.1 y21.2.2.1 y21.2.2.2.1 y21.2.2.2.2.1 y21.2.2.2.2.2))) tr)) tr) (a_ (a_ (a_ (a_ (Eq.refl true) (a_ (Eq.refl 1) (a_ (lt_ 0 1 rfl) (le_ 1 16777216 rfl)))) (a_ (le_sl_gs 2 1 (some 1) rfl) (a_ (sub_lit (cInt .u8) default 1 (fun _ => rfl) ([1] : List (Int))) tr))) (a_ (Nat.le_refl (([1] : List (Int))).length) (fz_row (enc := (cInt .u8)) (d := default) (fun _ => rfl) ([1] : List (Int))))) (a_ (a_ (a_ (parrelref19_Bytes_tri y34 ([1] : List (Int)) y36 e35) tr) tr) (r2_ tr))))))))))))))) tr))))) tr) (by kernel_rfl) rfl
                · skip
                  obtain rfl := Option.some.inj h
                  exact run_ret mixed (L := []) (n := 27) (s := [.reg [], .reg [(1, { call := some (parrellaw19_three_v y2, [], []) }), (2, { call := some ((gather_New_vB y4.2.2).ren (sel [0]), preOf (sel [0]) 0 [], upOf (sel [0]) (gather_New_upB (A8.mk 97 0 0 0 0 0 0 0) 1 y2 ([] : List (T_api_Config)) y4.2.2)), cargs := some [.agg [.int .u8 (A8.mk 97 0 0 0 0 0 0 0).a0, .int .u8 (A8.mk 97 0 0 0 0 0 0 0).a1, .int .u8 (A8.mk 97 0 0 0 0 0 0 0).a2, .int .u8 (A8.mk 97 0 0 0 0 0 0 0).a3, .int .u8 (A8.mk 97 0 0 0 0 0 0 0).a4, .int .u8 (A8.mk 97 0 0 0 0 0 0 0).a5, .int .u8 (A8.mk 97 0 0 0 0 0 0 0).a6, .int .u8 (A8.mk 97 0 0 0 0 0 0 0).a7], .int .u8 1, v_T_api_Config y2, .ds 11 (([] : List (T_api_Config))).length (rowF c_T_api_Config default ([] : List (T_api_Config)))] })], .reg [(8, { call := some (parrellaw19_three_v y7, [], []) }), (9, { call := some (parrellaw19_one_v y9, [], []) }), (10, { call := some ((gather_Gather_Grant_v y11).ren (sel [0]), preOf (sel [0]) 0 (gather_Gather_Grant_objs (T_gather_Gather.mk y4.2.2.1 y4.2.2.2.1 y4.2.2.2.2.1 y4.2.2.2.2.2 0) y9), upOf (sel [0]) (gather_Gather_Grant_up (T_gather_Gather.mk y4.2.2.1 y4.2.2.2.1 y4.2.2.2.2.1 y4.2.2.2.2.2 0) y9 y11)) }), (13, { v := some (.bool false) }), (15, { call := some ((gather_Gather_Enough_v y14).ren (sel [0]), preOf (sel [0]) 0 (gather_Gather_Enough_objs (T_gather_Gather.mk y11.2.1 y11.2.2.1 y11.2.2.2.1 y11.2.2.2.2.1 y11.2.2.2.2.2)), upOf (sel [0]) (gather_Gather_Enough_up (T_gather_Gather.mk y11.2.1 y11.2.2.1 y11.2.2.2.1 y11.2.2.2.2.1 y11.2.2.2.2.2) y14)) }), (17, { v := some (.bool false) }), (19, { call := some (parrellaw19_three_v y17, [], []) }), (20, { call := some (parrellaw19_one_v y19, [], []) }), (21, { call := some ((gather_Gather_Grant_v y21).ren (sel [0]), preOf (sel [0]) 0 (gather_Gather_Grant_objs (T_gather_Gather.mk y11.2.1 y11.2.2.1 y11.2.2.2.1 y11.2.2.2.2.1 y11.2.2.2.2.2) y19), upOf (sel [0]) (gather_Gather_Grant_up (T_gather_Gather.mk y11.2.1 y11.2.2.1 y11.2.2.2.1 y11.2.2.2.2.1 y11.2.2.2.2.2) y19 y21)) }), (24, { v := some (.bool false) }), (26, { call := some ((gather_Gather_Enough_v y24).ren (sel [0]), preOf (sel [0]) 0 (gather_Gather_Enough_objs (T_gather_Gather.mk y21.2.1 y21.2.2.1 y21.2.2.2.1 y21.2.2.2.2.1 y21.2.2.2.2.2)), upOf (sel [0]) (gather_Gather_Enough_up (T_gather_Gather.mk y21.2.1 y21.2.2.1 y21.2.2.2.1 y21.2.2.2.2.1 y21.2.2.2.2.2) y24)) }), (28, { v := some (.bool false) })], .reg [(1, { call := some ((gather_Gather_Newest_v y27).ren (sel [0]), preOf (sel [0]) 0 (gather_Gather_Newest_objs (T_gather_Gather.mk y21.2.1 y21.2.2.1 y21.2.2.2.1 y21.2.2.2.2.1 y21.2.2.2.2.2)), upOf (sel [0]) (gather_Gather_Newest_up (T_gather_Gather.mk y21.2.1 y21.2.2.1 y21.2.2.2.1 y21.2.2.2.2.1 y21.2.2.2.2.2) y27)) })], .reg [(1, { v := some (.bool true) }), (6, { v := some (.bool true) }), (8, { call := some ((gather_Gather_Nodes_v y31).ren (sel [0]), preOf (sel [0]) 0 (gather_Gather_Nodes_objs (T_gather_Gather.mk y21.2.1 y21.2.2.1 y21.2.2.2.1 y21.2.2.2.2.1 y21.2.2.2.2.2)), upOf (sel [0]) (gather_Gather_Nodes_up (T_gather_Gather.mk y21.2.1 y21.2.2.1 y21.2.2.2.1 y21.2.2.2.2.1 y21.2.2.2.2.2) y31)) }), (11, { v := some (.bool false) })]])
                    (a_ (a_ (r1_ tr) (a_ (a_ (a_ (Eq.refl true) tr) (a_ (a_ (a_ (parrellaw19_three_tri  y2 e1) tr) tr) (a_ (a_ (a_ (gather_New_okB (A8.mk 97 0 0 0 0 0 0 0) 1 y2 ([] : List (T_api_Config)) y4.2.2 y4.2.1 (altB e3 c5) (sel [0]) (sel_inj rfl rfl)) (a_ (a_ (LV.Le.refl (.agg [.int .u8 97, .int .u8 0, .int .u8 0, .int .u8 0, .int .u8 0, .int .u8 0, .int .u8 0, .int .u8 0])) (a_ (LV.Le.refl (.int .u8 1)) (a_ (LV.Le.refl (v_T_api_Config y2)) (a_ (le_nil_ds 11 (rowF c_T_api_Config default [])) tr)))) tr)) tr) (r1_ (r4_ tr))))) (a_ (r8_ (a_ (a_ (a_ (parrellaw19_three_tri  y7 e6) tr) tr) (a_ (a_ (a_ (parrellaw19_one_tri 0 3 y7 y9 e8) tr) tr) (a_ (a_ (a_ (gather_Gather_Grant_ok (T_gather_Gather.mk y4.2.2.1 y4.2.2.2.1 y4.2.2.2.2.1 y4.2.2.2.2.2 0) y9 y11 e10 (sel [0]) (sel_inj rfl rfl)) (a_ (LO.Le.refl (.var (c_T_gather_Gather (T_gather_Gather.mk y4.2.2.1 y4.2.2.2.1 y4.2.2.2.2.1 y4.2.2.2.2.2 0)))) tr)) tr) (r2_ (a_ (a_ tr (a_ (leB c12) tr)) (r1_ (a_ (a_ (a_ (gather_Gather_Enough_ok (T_gather_Gather.mk y11.2.1 y11.2.2.1 y11.2.2.2.1 y11.2.2.2.2.1 y11.2.2.2.2.2) y14 e13 (sel [0]) (sel_inj rfl rfl)) (a_ (LO.Le.ofVar (c_T_gather_Gather (T_gather_Gather.mk y11.2.1 y11.2.2.1 y11.2.2.2.1 y11.2.2.2.2.1 y11.2.2.2.2.2))) tr)) tr) (r1_ (a_ (a_ tr (a_ (leB c15) tr)) (r1_ (a_ (a_ (a_ (parrellaw19_three_tri  y17 e16) tr) tr) (a_ (a_ (a_ (parrellaw19_one_tri 2 5 y17 y19 e18) tr) tr) (a_ (a_ (a_ (gather_Gather_Grant_ok (T_gather_Gather.mk y11.2.1 y11.2.2.1 y11.2.2.2.1 y11.2.2.2.2.1 y11.2.2.2.2.2) y19 y21 e20 (sel [0]) (sel_inj rfl rfl)) (a_ (LO.Le.refl (.var (c_T_gather_Gather (T_gather_Gather.mk y11.2.1 y11.2.2.1 y11.2.2.2.1 y11.2.2.2.2.1 y11.2.2.2.2.2)))) tr)) tr) (r2_ (a_ (a_ tr (a_ (leB c22) tr)) (r1_ (a_ (a_ (a_ (gather_Gather_Enough_ok (T_gather_Gather.mk y21.2.1 y21.2.2.1 y21.2.2.2.1 y21.2.2.2.2.1 y21.2.2.2.2.2) y24 e23 (sel [0]) (sel_inj rfl rfl)) (a_ (LO.Le.ofVar (c_T_gather_Gather (T_gather_Gather.mk y21.2.1 y21.2.2.1 y21.2.2.2.1 y21.2.2.2.2.1 y21.2.2.2.2.2))) tr)) tr) (r1_ (a_ (a_ tr (a_ (leB c25) tr)) tr)))))))))))))))))))) (a_ (r1_ (a_ (a_ (a_ (gather_Gather_Newest_ok (T_gather_Gather.mk y21.2.1 y21.2.2.1 y21.2.2.2.1 y21.2.2.2.2.1 y21.2.2.2.2.2) y27 e26 (sel [0]) (sel_inj rfl rfl)) (a_ (LO.Le.ofVar (c_T_gather_Gather (T_gather_Gather.mk y21.2.1 y21.2.2.1 y21.2.2.2.1 y21.2.2.2.2.1 y21.2.2.2.2.2))) tr)) tr) (r4_ (a_ (a_ (a_ (Eq.refl 13) (a_ (le_ 13 13 rfl) (Eq.refl 0))) tr) (r1_ tr))))) (a_ (r1_ (a_ (a_ tr (a_ (leB c28) tr)) (r1_ (a_ (a_ (a_ tr (lt_ 0 13 rfl)) tr) (r2_ (a_ (a_ tr (a_ (leB c29) tr)) (r1_ (a_ (a_ (a_ (gather_Gather_Nodes_ok (T_gather_Gather.mk y21.2.1 y21.2.2.1 y21.2.2.2.1 y21.2.2.2.2.1 y21.2.2.2.2.2) y31 e30 (sel [0]) (sel_inj rfl rfl)) (a_ (LO.Le.ofVar (c_T_gather_Gather (T_gather_Gather.mk y21.2.1 y21.2.2.1 y21.2.2.2.1 y21.2.2.2.2.1 y21.2.2.2.2.2))) tr)) tr) (r2_ (a_ (a_ tr (a_ (leB c32) tr)) (t4_ (r2_ tr)))))))))))) tr))))) tr) (by kernel_rfl) rfl
              · skip
                obtain rfl := Option.some.inj h
                exact run_ret mixed (L := []) (n := 27) (s := [.reg [], .reg [(1, { call := some (parrellaw19_three_v y2, [], []) }), (2, { call := some ((gather_New_vB y4.2.2).ren (sel [0]), preOf (sel [0]) 0 [], upOf (sel [0]) (gather_New_upB (A8.mk 97 0 0 0 0 0 0 0) 1 y2 ([] : List (T_api_Config)) y4.2.2)), cargs := some [.agg [.int .u8 (A8.mk 97 0 0 0 0 0 0 0).a0, .int .u8 (A8.mk 97 0 0 0 0 0 0 0).a1, .int .u8 (A8.mk 97 0 0 0 0 0 0 0).a2, .int .u8 (A8.mk 97 0 0 0 0 0 0 0).a3, .int .u8 (A8.mk 97 0 0 0 0 0 0 0).a4, .int .u8 (A8.mk 97 0 0 0 0 0 0 0).a5, .int .u8 (A8.mk 97 0 0 0 0 0 0 0).a6, .int .u8 (A8.mk 97 0 0 0 0 0 0 0).a7], .int .u8 1, v_T_api_Config y2, .ds 11 (([] : List (T_api_Config))).length (rowF c_T_api_Config default ([] : List (T_api_Config)))] })], .reg [(8, { call := some (parrellaw19_three_v y7, [], []) }), (9, { call := some (parrellaw19_one_v y9, [], []) }), (10, { call := some ((gather_Gather_Grant_v y11).ren (sel [0]), preOf (sel [0]) 0 (gather_Gather_Grant_objs (T_gather_Gather.mk y4.2.2.1 y4.2.2.2.1 y4.2.2.2.2.1 y4.2.2.2.2.2 0) y9), upOf (sel [0]) (gather_Gather_Grant_up (T_gather_Gather.mk y4.2.2.1 y4.2.2.2.1 y4.2.2.2.2.1 y4.2.2.2.2.2 0) y9 y11)) }), (13, { v := some (.bool false) }), (15, { call := some ((gather_Gather_Enough_v y14).ren (sel [0]), preOf (sel [0]) 0 (gather_Gather_Enough_objs (T_gather_Gather.mk y11.2.1 y11.2.2.1 y11.2.2.2.1 y11.2.2.2.2.1 y11.2.2.2.2.2)), upOf (sel [0]) (gather_Gather_Enough_up (T_gather_Gather.mk y11.2.1 y11.2.2.1 y11.2.2.2.1 y11.2.2.2.2.1 y11.2.2.2.2.2) y14)) }), (17, { v := some (.bool false) }), (19, { call := some (parrellaw19_three_v y17, [], []) }), (20, { call := some (parrellaw19_one_v y19, [], []) }), (21, { call := some ((gather_Gather_Grant_v y21).ren (sel [0]), preOf (sel [0]) 0 (gather_Gather_Grant_objs (T_gather_Gather.mk y11.2.1 y11.2.2.1 y11.2.2.2.1 y11.2.2.2.2.1 y11.2.2.2.2.2) y19), upOf (sel [0]) (gather_Gather_Grant_up (T_gather_Gather.mk y11.2.1 y11.2.2.1 y11.2.2.2.1 y11.2.2.2.2.1 y11.2.2.2.2.2) y19 y21)) }), (24, { v := some (.bool false) }), (26, { call := some ((gather_Gather_Enough_v y24).ren (sel [0]), preOf (sel [0]) 0 (gather_Gather_Enough_objs (T_gather_Gather.mk y21.2.1 y21.2.2.1 y21.2.2.2.1 y21.2.2.2.2.1 y21.2.2.2.2.2)), upOf (sel [0]) (gather_Gather_Enough_up (T_gather_Gather.mk y21.2.1 y21.2.2.1 y21.2.2.2.1 y21.2.2.2.2.1 y21.2.2.2.2.2) y24)) }), (28, { v := some (.bool false) })], .reg [(1, { call := some ((gather_Gather_Newest_v y27).ren (sel [0]), preOf (sel [0]) 0 (gather_Gather_Newest_objs (T_gather_Gather.mk y21.2.1 y21.2.2.1 y21.2.2.2.1 y21.2.2.2.2.1 y21.2.2.2.2.2)), upOf (sel [0]) (gather_Gather_Newest_up (T_gather_Gather.mk y21.2.1 y21.2.2.1 y21.2.2.2.1 y21.2.2.2.2.1 y21.2.2.2.2.2) y27)) })], .reg [(1, { v := some (.bool true) }), (6, { v := some (.bool false) })]])
                  (a_ (a_ (r1_ tr) (a_ (a_ (a_ (Eq.refl true) tr) (a_ (a_ (a_ (parrellaw19_three_tri  y2 e1) tr) tr) (a_ (a_ (a_ (gather_New_okB (A8.mk 97 0 0 0 0 0 0 0) 1 y2 ([] : List (T_api_Config)) y4.2.2 y4.2.1 (altB e3 c5) (sel [0]) (sel_inj rfl rfl)) (a_ (a_ (LV.Le.refl (.agg [.int .u8 97, .int .u8 0, .int .u8 0, .int .u8 0, .int .u8 0, .int .u8 0, .int .u8 0, .int .u8 0])) (a_ (LV.Le.refl (.int .u8 1)) (a_ (LV.Le.refl (v_T_api_Config y2)) (a_ (le_nil_ds 11 (rowF c_T_api_Config default [])) tr)))) tr)) tr) (r1_ (r4_ tr))))) (a_ (r8_ (a_ (a_ (a_ (parrellaw19_three_tri  y7 e6) tr) tr) (a_ (a_ (a_ (parrellaw19_one_tri 0 3 y7 y9 e8) tr) tr) (a_ (a_ (a_ (gather_Gather_Grant_ok (T_gather_Gather.mk y4.2.2.1 y4.2.2.2.1 y4.2.2.2.2.1 y4.2.2.2.2.2 0) y9 y11 e10 (sel [0]) (sel_inj rfl rfl)) (a_ (LO.Le.refl (.var (c_T_gather_Gather (T_gather_Gather.mk y4.2.2.1 y4.2.2.2.1 y4.2.2.2.2.1 y4.2.2.2.2.2 0)))) tr)) tr) (r2_ (a_ (a_ tr (a_ (leB c12) tr)) (r1_ (a_ (a_ (a_ (gather_Gather_Enough_ok (T_gather_Gather.mk y11.2.1 y11.2.2.1 y11.2.2.2.1 y11.2.2.2.2.1 y11.2.2.2.2.2) y14 e13 (sel [0]) (sel_inj rfl rfl)) (a_ (LO.Le.ofVar (c_T_gather_Gather (T_gather_Gather.mk y11.2.1 y11.2.2.1 y11.2.2.2.1 y11.2.2.2.2.1 y11.2.2.2.2.2))) tr)) tr) (r1_ (a_ (a_ tr (a_ (leB c15) tr)) (r1_ (a_ (a_ (a_ (parrellaw19_three_tri  y17 e16) tr) tr) (a_ (a_ (a_ (parrellaw19_one_tri 2 5 y17 y19 e18) tr) tr) (a_ (a_ (a_ (gather_Gather_Grant_ok (T_gather_Gather.mk y11.2.1 y11.2.2.1 y11.2.2.2.1 y11.2.2.2.2.1 y11.2.2.2.2.2) y19 y21 e20 (sel [0]) (sel_inj rfl rfl)) (a_ (LO.Le.refl (.var (c_T_gather_Gather (T_gather_Gather.mk y11.2.1 y11.2.2.1 y11.2.2.2.1 y11.2.2.2.2.1 y11.2.2.2.2.2)))) tr)) tr) (r2_ (a_ (a_ tr (a_ (leB c22) tr)) (r1_ (a_ (a_ (a_ (gather_Gather_Enough_ok (T_gather_Gather.mk y21.2.1 y21.2.2.1 y21.2.2.2.1 y21.2.2.2.2.1 y21.2.2.2.2.2) y24 e23 (sel [0]) (sel_inj rfl rfl)) (a_ (LO.Le.ofVar (c_T_gather_Gather (T_gather_Gather.mk y21.2.1 y21.2.2.1 y21.2.2.2.1 y21.2.2.2.2.1 y21.2.2.2.2.2))) tr)) tr) (r1_ (a_ (a_ tr (a_ (leB c25) tr)) tr)))))))))))))))))))) (a_ (r1_ (a_ (a_ (a_ (gather_Gather_Newest_ok (T_gather_Gather.mk y21.2.1 y21.2.2.1 y21.2.2.2.1 y21.2.2.2.2.1 y21.2.2.2.2.2) y27 e26 (sel [0]) (sel_inj rfl rfl)) (a_ (LO.Le.ofVar (c_T_gather_Gather (T_gather_Gather.mk y21.2.1 y21.2.2.1 y21.2.2.2.1 y21.2.2.2.2.1 y21.2.2.2.2.2))) tr)) tr) (r4_ (a_ (a_ (a_ (Eq.refl 13) (a_ (le_ 13 13 rfl) (Eq.refl 0))) tr) (r1_ tr))))) (a_ (r1_ (a_ (a_ tr (a_ (leB c28) tr)) (r1_ (a_ (a_ (a_ tr (lt_ 0 13 rfl)) tr) (r2_ (a_ (a_ tr (a_ (leB c29) tr)) (a_ tr (t2_ (r2_ (t4_ (r2_ tr))))))))))) tr))))) tr) (by kernel_rfl) rfl
            · skip
              obtain rfl := Option.some.inj h
              exact run_ret mixed (L := []) (n := 27) (s := [.reg [], .reg [(1, { call := some (parrellaw19_three_v y2, [], []) }), (2, { call := some ((gather_New_vB y4.2.2).ren (sel [0]), preOf (sel [0]) 0 [], upOf (sel [0]) (gather_New_upB (A8.mk 97 0 0 0 0 0 0 0) 1 y2 ([] : List (T_api_Config)) y4.2.2)), cargs := some [.agg [.int .u8 (A8.mk 97 0 0 0 0 0 0 0).a0, .int .u8 (A8.mk 97 0 0 0 0 0 0 0).a1, .int .u8 (A8.mk 97 0 0 0 0 0 0 0).a2, .int .u8 (A8.mk 97 0 0 0 0 0 0 0).a3, .int .u8 (A8.mk 97 0 0 0 0 0 0 0).a4, .int .u8 (A8.mk 97 0 0 0 0 0 0 0).a5, .int .u8 (A8.mk 97 0 0 0 0 0 0 0).a6, .int .u8 (A8.mk 97 0 0 0 0 0 0 0).a7], .int .u8 1, v_T_api_Config y2, .ds 11 (([] : List (T_api_Config))).length (rowF c_T_api_Config default ([] : List (T_api_Config)))] })], .reg [(8, { call := some (parrellaw19_three_v y7, [], []) }), (9, { call := some (parrellaw19_one_v y9, [], []) }), (10, { call := some ((gather_Gather_Grant_v y11).ren (sel [0]), preOf (sel [0]) 0 (gather_Gather_Grant_objs (T_gather_Gather.mk y4.2.2.1 y4.2.2.2.1 y4.2.2.2.2.1 y4.2.2.2.2.2 0) y9), upOf (sel [0]) (gather_Gather_Grant_up (T_gather_Gather.mk y4.2.2.1 y4.2.2.2.1 y4.2.2.2.2.1 y4.2.2.2.2.2 0) y9 y11)) }), (13, { v := some (.bool false) }), (15, { call := some ((gather_Gather_Enough_v y14).ren (sel [0]), preOf (sel [0]) 0 (gather_Gather_Enough_objs (T_gather_Gather.mk y11.2.1 y11.2.2.1 y11.2.2.2.1 y11.2.2.2.2.1 y11.2.2.2.2.2)), upOf (sel [0]) (gather_Gather_Enough_up (T_gather_Gather.mk y11.2.1 y11.2.2.1 y11.2.2.2.1 y11.2.2.2.2.1 y11.2.2.2.2.2) y14)) }), (17, { v := some (.bool false) }), (19, { call := some (parrellaw19_three_v y17, [], []) }), (20, { call := some (parrellaw19_one_v y19, [], []) }), (21, { call := some ((gather_Gather_Grant_v y21).ren (sel [0]), preOf (sel [0]) 0 (gather_Gather_Grant_objs (T_gather_Gather.mk y11.2.1 y11.2.2.1 y11.2.2.2.1 y11.2.2.2.2.1 y11.2.2.2.2.2) y19), upOf (sel [0]) (gather_Gather_Grant_up (T_gather_Gather.mk y11.2.1 y11.2.2.1 y11.2.2.2.1 y11.2.2.2.2.1 y11.2.2.2.2.2) y19 y21)) }), (24, { v := some (.bool false) }), (26, { call := some ((gather_Gather_Enough_v y24).ren (sel [0]), preOf (sel [0]) 0 (gather_Gather_Enough_objs (T_gather_Gather.mk y21.2.1 y21.2.2.1 y21.2.2.2.1 y21.2.2.2.2.1 y21.2.2.2.2.2)), upOf (sel [0]) (gather_Gather_Enough_up (T_gather_Gather.mk y21.2.1 y21.2.2.1 y21.2.2.2.1 y21.2.2.2.2.1 y21.2.2.2.2.2) y24)) }), (28, { v := some (.bool false) })], .reg [(1, { call := some ((gather_Gather_Newest_v y27).ren (sel [0]), preOf (sel [0]) 0 (gather_Gather_Newest_objs (T_gather_Gather.mk y21.2.1 y21.2.2.1 y21.2.2.2.1 y21.2.2.2.2.1 y21.2.2.2.2.2)), upOf (sel [0]) (gather_Gather_Newest_up (T_gather_Gather.mk y21.2.1 y21.2.2.1 y21.2.2.2.1 y21.2.2.2.2.1 y21.2.2.2.2.2) y27)) })], .reg [(1, { v := some (.bool false) })]])
                (a_ (a_ (r1_ tr) (a_ (a_ (a_ (Eq.refl true) tr) (a_ (a_ (a_ (parrellaw19_three_tri  y2 e1) tr) tr) (a_ (a_ (a_ (gather_New_okB (A8.mk 97 0 0 0 0 0 0 0) 1 y2 ([] : List (T_api_Config)) y4.2.2 y4.2.1 (altB e3 c5) (sel [0]) (sel_inj rfl rfl)) (a_ (a_ (LV.Le.refl (.agg [.int .u8 97, .int .u8 0, .int .u8 0, .int .u8 0, .int .u8 0, .int .u8 0, .int .u8 0, .int .u8 0])) (a_ (LV.Le.refl (.int .u8 1)) (a_ (LV.Le.refl (v_T_api_Config y2)) (a_ (le_nil_ds 11 (rowF c_T_api_Config default [])) tr)))) tr)) tr) (r1_ (r4_ tr))))) (a_ (r8_ (a_ (a_ (a_ (parrellaw19_three_tri  y7 e6) tr) tr) (a_ (a_ (a_ (parrellaw19_one_tri 0 3 y7 y9 e8) tr) tr) (a_ (a_ (a_ (gather_Gather_Grant_ok (T_gather_Gather.mk y4.2.2.1 y4.2.2.2.1 y4.2.2.2.2.1 y4.2.2.2.2.2 0) y9 y11 e10 (sel [0]) (sel_inj rfl rfl)) (a_ (LO.Le.refl (.var (c_T_gather_Gather (T_gather_Gather.mk y4.2.2.1 y4.2.2.2.1 y4.2.2.2.2.1 y4.2.2.2.2.2 0)))) tr)) tr) (r2_ (a_ (a_ tr (a_ (leB c12) tr)) (r1_ (a_ (a_ (a_ (gather_Gather_Enough_ok (T_gather_Gather.mk y11.2.1 y11.2.2.1 y11.2.2.2.1 y11.2.2.2.2.1 y11.2.2.2.2.2) y14 e13 (sel [0]) (sel_inj rfl rfl)) (a_ (LO.Le.ofVar (c_T_gather_Gather (T_gather_Gather.mk y11.2.1 y11.2.2.1 y11.2.2.2.1 y11.2.2.2.2.1 y11.2.2.2.2.2))) tr)) tr) (r1_ (a_ (a_ tr (a_ (leB c15) tr)) (r1_ (a_ (a_ (a_ (parrellaw19_three_tri  y17 e16) tr) tr) (a_ (a_ (a_ (parrellaw19_one_tri 2 5 y17 y19 e18) tr) tr) (a_ (a_ (a_ (gather_Gather_Grant_ok (T_gather_Gather.mk y11.2.1 y11.2.2.1 y11.2.2.2.1 y11.2.2.2.2.1 y11.2.2.2.2.2) y19 y21 e20 (sel [0]) (sel_inj rfl rfl)) (a_ (LO.Le.refl (.var (c_T_gather_Gather (T_gather_Gather.mk y11.2.1 y11.2.2.1 y11.2.2.2.1 y11.2.2.2.2.1 y11.2.2.2.2.2)))) tr)) tr) (r2_ (a_ (a_ tr (a_ (leB c22) tr)) (r1_ (a_ (a_ (a_ (gather_Gather_Enough_ok (T_gather_Gather.mk y21.2.1 y21.2.2.1 y21.2.2.2.1 y21.2.2.2.2.1 y21.2.2.2.2.2) y24 e23 (sel [0]) (sel_inj rfl rfl)) (a_ (LO.Le.ofVar (c_T_gather_Gather (T_gather_Gather.mk y21.2.1 y21.2.2.1 y21.2.2.2.1 y21.2.2.2.2.1 y21.2.2.2.2.2))) tr)) tr) (r1_ (a_ (a_ tr (a_ (leB c25) tr)) tr)))))))))))))))))))) (a_ (r1_ (a_ (a_ (a_ (gather_Gather_Newest_ok (T_gather_Gather.mk y21.2.1 y21.2.2.1 y21.2.2.2.1 y21.2.2.2.2.1 y21.2.2.2.2.2) y27 e26 (sel [0]) (sel_inj rfl rfl)) (a_ (LO.Le.ofVar (c_T_gather_Gather (T_gather_Gather.mk y21.2.1 y21.2.2.1 y21.2.2.2.1 y21.2.2.2.2.1 y21.2.2.2.2.2))) tr)) tr) (r4_ (a_ (a_ (a_ (Eq.refl 13) (a_ (le_ 13 13 rfl) (Eq.refl 0))) tr) (r1_ tr))))) (a_ (r1_ (a_ (a_ tr (a_ (leB c28) tr)) (a_ tr (t2_ (r2_ (a_ tr (t2_ (r2_ (t4_ (r2_ tr)))))))))) tr))))) tr) (by kernel_rfl) rfl

theorem parrellaw19_alive_tri  (r : (Bool)) (h : parrellaw19_alive  = some r) : FnTri Tryd.prog 10 [] [] (parrellaw19_alive_v r) [] := FnTri.none (parrellaw19_alive_ok  r h) rfl rfl

/-- (*parrel/gather.Gather).ok -/

def gather_Gather_ok_2_v (r : Unit) : LV := .bool false

def gather_Gather_ok_2  : Option (Unit) :=
  some ()

theorem gather_Gather_ok_2_ok  (r : Unit) (h : gather_Gather_ok_2  = some r) : ∀ σ, Inj 0 σ → FnTri Tryd.prog 38 (renL σ [.nilptr]) (preOf σ 0 []) ((gather_Gather_ok_2_v r).ren σ) (upOf σ []) := by
  refine fn_of Tryd.func38 (by kernel_rfl) (by kernel_rfl) (by kernel_rfl) trivial (by kernel_rfl) trivial (by kernel_rfl) ?_
  intro w0 W μ0 hμ
  unfold gather_Gather_ok_2 at h
  obtain rfl := Option.some.inj h
  exact run_ret mixed (L := []) (n := 15) (s := [.reg [], .reg []])
    (a_ (a_ (r1_ tr) (a_ (r1_ (r2_ (a_ tr (t4_ (r2_ tr))))) tr)) tr) (by kernel_rfl) rfl

theorem gather_Gather_ok_2_tri  (r : Unit) (h : gather_Gather_ok_2  = some r) : FnTri Tryd.prog 38 [.nilptr] [] (gather_Gather_ok_2_v r) [] := FnTri.none (gather_Gather_ok_2_ok  r h) rfl rfl

/-- (*parrel/gather.Gather).All -/

def gather_Gather_All_2_v (r : Unit) : LV := .ds 16 (([] : List (T_gather_Got))).length (rowF c_T_gather_Got default ([] : List (T_gather_Got)))

def gather_Gather_All_2  : Option (Unit) :=
  (gather_Gather_ok_2).bind fun y2 =>
  some ()

theorem gather_Gather_All_2_ok  (r : Unit) (h : gather_Gather_All_2  = some r) : ∀ σ, Inj 0 σ → FnTri Tryd.prog 32 (renL σ [.nilptr]) (preOf σ 0 []) ((gather_Gather_All_2_v r).ren σ) (upOf σ []) := by
  refine fn_of Tryd.func32 (by kernel_rfl) (by kernel_rfl) (by kernel_rfl) trivial (by kernel_rfl) trivial (by kernel_rfl) ?_
  intro w0 W μ0 hμ
  unfold gather_Gather_All_2 at h
  obtain ⟨y2, e1, h⟩ := bind_some h
  obtain rfl := Option.some.inj h
  exact run_ret mixed (L := []) (n := 20) (s := [.reg [(0, { v := some (.ds 16 (([] : List (T_gather_Got))).length (rowF c_T_gather_Got default ([] : List (T_gather_Got)))) })], .reg [(1, { call := some (gather_Gather_ok_2_v y2, [], []) })], .reg [(0, { v := some (.ds 16 (([] : List (T_gather_Got))).length (rowF c_T_gather_Got default ([] : List (T_gather_Got)))) })]])
    (a_ (a_ (a_ (a_ tr (a_ (le_nil_ds 16 (rowF c_T_gather_Got default [])) tr)) tr) (a_ (r1_ (a_ (a_ (a_ (gather_Gather_ok_2_tri  y2 e1) tr) tr) (r1_ tr))) (a_ (a_ (a_ tr (a_ (le_nil_ds 16 (rowF c_T_gather_Got default [])) tr)) tr) tr))) tr) (by kernel_rfl) rfl

theorem gather_Gather_All_2_tri  (r : Unit) (h : gather_Gather_All_2  = some r) : FnTri Tryd.prog 32 [.nilptr] [] (gather_Gather_All_2_v r) [] := FnTri.none (gather_Gather_All_2_ok  r h) rfl rfl

/-- (*parrel/gather.Gather).Newest -/

def gather_Gather_Newest_2_v (r : (T_api_Item) × (Bool)) : LV := .tup [v_T_api_Item r.1, .bool r.2]

def gather_Gather_Newest_2_T0  (t10 : Int) (l : List (T_api_Item)) : List LV := [.any, .any, .ptr 0 0 0, .any, .gs 1 (l).length, .any, .any, .any, .ds 16 (([] : List (T_gather_Got))).length (rowF c_T_gather_Got default ([] : List (T_gather_Got))), .int .i64 ((([] : List (T_gather_Got))).length : Int), .int .i64 t10, .any, .any, .any, .any, .any, .any, .any, .any, .any, .any, .any, .any, .any]

def gather_Gather_Newest_2_H0  (t10 : Int) (l : List (T_api_Item)) : Heap := [some (.var (c_T_api_Item (T_api_Item.mk 0 [] (T_api_Config.mk 0 0 0 (A8.mk 0 0 0 0 0 0 0 0))))), some (.gr 13 (l).length (rowF c_T_api_Item default l))]

def gather_Gather_Newest_2_l0   : Nat → (Int) → (List (T_api_Item)) → Option ((T_api_Item) × (Bool))
  | 0, _, _ => none
  | fuel + 1, t10, l =>
    if ((decide (t10 < ((([] : List (T_gather_Got))).length : Int))) : Bool) then
      if 0 ≤ t10 ∧ t10 < (((([] : List (T_gather_Got))).length : Nat) : Int) then
      if ((l).length + (([(([] : List (T_gather_Got)).getD t10.toNat default).f_Item] : List (T_api_Item))).length) * 40 ≤ 140737488351232 then
      gather_Gather_Newest_2_l0   fuel (IntKind.wrap .i64 (t10 + 1)) (l ++ ([(([] : List (T_gather_Got)).getD t10.toNat default).f_Item] : List (T_api_Item)))
      else none
      else none
    else
      (item_Newest l).bind fun yL0_3 =>
      some (yL0_3.1, yL0_3.2)

def gather_Gather_Newest_2  : Option ((T_api_Item) × (Bool)) :=
  (gather_Gather_All_2).bind fun y2 =>
  gather_Gather_Newest_2_l0   big 0 ([] : List (T_api_Item))

theorem gather_Gather_Newest_2_l0_ok {w0 : World} {W : Nat → Prop} {μ0 : Emb} (hμ : ∀ c p, μ0 c = some p → c < 0)   : ∀ (fuel : Nat) (t10 : Int) (l : List (T_api_Item)) (r : (T_api_Item) × (Bool)), gather_Gather_Newest_2_l0   fuel t10 l = some r → kont Tryd.prog w0 W μ0 (FnPost Tryd.prog Tryd.f16 0 0 (gather_Gather_Newest_2_v r) []) (kAt (bodyOf Tryd.f16) 0) none (gather_Gather_Newest_2_T0  t10 l) (gather_Gather_Newest_2_H0  t10 l) := by
  intro fuel
  induction fuel with
  | zero => intro t10 l r h; rw [gather_Gather_Newest_2_l0] at h; cases h
  | succ fuel ih =>
    intro t10 l r h
    rw [gather_Gather_Newest_2_l0] at h
    rcases itb_some h with ⟨cL0_1, h⟩ | ⟨cL0_1, h⟩
    · skip
      obtain ⟨gL0_2, h⟩ := guard_some h
      obtain ⟨gL0_3, h⟩ := guard_some h
      exact run_to mixed hμ (L := [0, 4]) (n := 26) (s := [.go, .reg [(0, { v := some (.bool true) })], .reg [], .reg [(3, { os := [(3, .gr 13 (([(([] : List (T_gather_Got)).getD t10.toNat default).f_Item] : List (T_api_Item))).length (rowF c_T_api_Item default ([(([] : List (T_gather_Got)).getD t10.toNat default).f_Item] : List (T_api_Item))))], v := some (.gs 3 (([(([] : List (T_gather_Got)).getD t10.toNat default).f_Item] : List (T_api_Item))).length) }), (4, { app := 3, os := [(4, .gr 13 ((l ++ ([(([] : List (T_gather_Got)).getD t10.toNat default).f_Item] : List (T_api_Item)))).length (rowF c_T_api_Item default (l ++ ([(([] : List (T_gather_Got)).getD t10.toNat default).f_Item] : List (T_api_Item)))))], v := some (.gs 4 ((l ++ ([(([] : List (T_gather_Got)).getD t10.toNat default).f_Item] : List (T_api_Item)))).length) })], .reg []])
        (a_ (a_ (a_ tr (a_ (leB cL0_1) tr)) tr) (a_ (a_ (a_ (a_ (Eq.refl 16) gL0_2) tr) (a_ (a_ (le_ 16 16 rfl) tr) (r1_ (a_ (a_ (a_ (Eq.refl 16) (a_ (le_ 16 16 rfl) (Eq.refl 0))) tr) tr)))) (a_ (r2_ (a_ (a_ (a_ tr (le_ 16 16 rfl)) tr) (a_ (a_ (a_ (Eq.refl true) (a_ (Eq.refl 13) (a_ (lt_ 0 13 rfl) (le_ 13 16777216 rfl)))) (a_ (le_sl_gs 3 1 (some 1) rfl) (a_ (sub_lit c_T_api_Item default 13 (fun _ => rfl) ([(([] : List (T_gather_Got)).getD t10.toNat default).f_Item] : List (T_api_Item))) tr))) (a_ (a_ (a_ (a_ (Eq.refl 13) (Nat.le_refl (([(([] : List (T_gather_Got)).getD t10.toNat default).f_Item] : List (T_api_Item))).length)) (a_ (a_ (lt_ 0 13 rfl) (a_ (lt_ 0 40 rfl) (a_ gL0_3 (a_ (Eq.refl 13) (Eq.refl true))))) (a_ (Eq.refl 13) (Nat.le_refl (l).length)))) (a_ (le_gs_app 4 l ([(([] : List (T_gather_Got)).getD t10.toNat default).f_Item] : List (T_api_Item))) (a_ (sub_app c_T_api_Item default 13 l ([(([] : List (T_gather_Got)).getD t10.toNat default).f_Item] : List (T_api_Item))) tr))) (r1_ tr))))) (a_ (r2_ tr) tr)))) (ih _ _ r h) (by kernel_rfl) ⟨rfl, fun _ _ => rfl, trivial⟩
    · skip
      obtain ⟨yL0_3, eL0_2, h⟩ := bind_some h
      obtain rfl := Option.some.inj h
      exact run_ret mixed (L := []) (n := 20) (s := [.go, .reg [(0, { v := some (.bool false) })], .frz 1, .reg [(1, { call := some (item_Newest_v yL0_3, [], []) })]])
        (a_ (a_ (a_ (a_ tr (a_ (leB cL0_1) tr)) tr) (a_ (a_ (fz_row (enc := c_T_api_Item) (d := default) (fun _ => rfl) l) (a_ (Nat.le_refl (l).length) tr)) (a_ (r1_ (a_ (a_ (a_ (item_Newest_tri l yL0_3 eL0_2) tr) tr) (r2_ (a_ (a_ (a_ (Eq.refl 13) (a_ (le_ 13 13 rfl) (Eq.refl 0))) tr) (r1_ tr))))) tr))) (a_ (a_ tr (le_ 13 13 rfl)) tr)) (by kernel_rfl) rfl

theorem gather_Gather_Newest_2_ok  (r : (T_api_Item) × (Bool)) (h : gather_Gather_Newest_2  = some r) : ∀ σ, Inj 0 σ → FnTri Tryd.prog 16 (renL σ [.nilptr]) (preOf σ 0 []) ((gather_Gather_Newest_2_v r).ren σ) (upOf σ []) := by
  refine fn_of Tryd.func16 (by kernel_rfl) (by kernel_rfl) (by kernel_rfl) trivial (by kernel_rfl) trivial (by kernel_rfl) ?_
  intro w0 W μ0 hμ
  unfold gather_Gather_Newest_2 at h
  obtain ⟨y2, e1, h⟩ := bind_some h
  exact run_to mixed hμ (L := [0, 1]) (n := 22) (s := [.reg [], .void (.gr 13 (([] : List (T_api_Item))).length (rowF c_T_api_Item default ([] : List (T_api_Item)))), .reg [(0, { v := some (.gs 1 (([] : List (T_api_Item))).length) })], .reg [(1, { call := some (gather_Gather_All_2_v y2, [], []) })]])
    (a_ (r2_ tr) (a_ (Eq.refl 0) (a_ (a_ (a_ tr (a_ (le_nil_gs 1) tr)) tr) (a_ (r1_ (a_ (a_ (a_ (gather_Gather_All_2_tri  y2 e1) tr) tr) (r2_ tr))) tr)))) (gather_Gather_Newest_2_l0_ok hμ   big _ _ r h) (by kernel_rfl) ⟨rfl, fun _ _ => rfl, trivial⟩

theorem gather_Gather_Newest_2_tri  (r : (T_api_Item) × (Bool)) (h : gather_Gather_Newest_2  = some r) : FnTri Tryd.prog 16 [.nilptr] [] (gather_Gather_Newest_2_v r) [] := FnTri.none (gather_Gather_Newest_2_ok  r h) rfl rfl

/-- (*parrel/gather.Gather).Grant -/

def gather_Gather_Grant_2_v (r : Unit) : LV := .int .i64 2

def gather_Gather_Grant_2 (x : T_gather_Got) : Option (Unit) :=
  (gather_Gather_ok_2).bind fun y2 =>
  some ()

theorem gather_Gather_Grant_2_ok (x : T_gather_Got) (r : Unit) (h : gather_Gather_Grant_2 x = some r) : ∀ σ, Inj 0 σ → FnTri Tryd.prog 20 (renL σ [.nilptr, v_T_gather_Got x]) (preOf σ 0 []) ((gather_Gather_Grant_2_v r).ren σ) (upOf σ []) := by
  refine fn_of Tryd.func20 (by kernel_rfl) (by kernel_rfl) (by kernel_rfl) trivial (by kernel_rfl) trivial (by kernel_rfl) ?_
  intro w0 W μ0 hμ
  unfold gather_Gather_Grant_2 at h
  obtain ⟨y2, e1, h⟩ := bind_some h
  obtain rfl := Option.some.inj h
  exact run_ret mixed (L := []) (n := 21) (s := [.reg [], .reg [(1, { call := some (gather_Gather_ok_2_v y2, [], []) })], .reg []])
    (a_ (a_ (r2_ tr) (a_ (r1_ (a_ (a_ (a_ (gather_Gather_ok_2_tri  y2 e1) tr) tr) (r2_ tr))) (a_ (r1_ tr) tr))) tr) (by kernel_rfl) rfl

theorem gather_Gather_Grant_2_tri (x : T_gather_Got) (r : Unit) (h : gather_Gather_Grant_2 x = some r) : FnTri Tryd.prog 20 [.nilptr, v_T_gather_Got x] [] (gather_Gather_Grant_2_v r) [] := FnTri.none (gather_Gather_Grant_2_ok x r h) rfl rfl

/-- (*parrel/gather.Gather).Conf -/

def gather_Gather_Conf_v (r : (T_api_Config)) : LV := v_T_api_Config r

def gather_Gather_Conf  : Option ((T_api_Config)) :=
  (gather_Gather_ok_2).bind fun y2 =>
  some (T_api_Config.mk 0 0 0 (A8.mk 0 0 0 0 0 0 0 0))

theorem gather_Gather_Conf_ok  (r : (T_api_Config)) (h : gather_Gather_Conf  = some r) : ∀ σ, Inj 0 σ → FnTri Tryd.prog 25 (renL σ [.nilptr]) (preOf σ 0 []) ((gather_Gather_Conf_v r).ren σ) (upOf σ []) := by
  refine fn_of Tryd.func25 (by kernel_rfl) (by kernel_rfl) (by kernel_rfl) trivial (by kernel_rfl) trivial (by kernel_rfl) ?_
  intro w0 W μ0 hμ
  unfold gather_Gather_Conf at h
  obtain ⟨y2, e1, h⟩ := bind_some h
  obtain rfl := Option.some.inj h
  exact run_ret mixed (L := []) (n := 20) (s := [.reg [], .reg [(1, { call := some (gather_Gather_ok_2_v y2, [], []) })], .reg []])
    (a_ (a_ (r1_ tr) (a_ (r1_ (a_ (a_ (a_ (gather_Gather_ok_2_tri  y2 e1) tr) tr) (r1_ tr))) (a_ (a_ (a_ (Eq.refl true) tr) (a_ (a_ (a_ (Eq.refl 11) (a_ (le_ 11 11 rfl) (Eq.refl 0))) tr) tr)) tr))) (a_ (a_ tr (le_ 11 11 rfl)) tr)) (by kernel_rfl) rfl

theorem gather_Gather_Conf_tri  (r : (T_api_Config)) (h : gather_Gather_Conf  = some r) : FnTri Tryd.prog 25 [.nilptr] [] (gather_Gather_Conf_v r) [] := FnTri.none (gather_Gather_Conf_ok  r h) rfl rfl

/-- (*parrel/gather.Gather).Ask -/

def gather_Gather_Ask_2_v (r : Unit) : LV := .ds 1 (([] : List (Int))).length (rowF (cInt .u8) default ([] : List (Int)))

def gather_Gather_Ask_2  : Option (Unit) :=
  (gather_Gather_ok_2).bind fun y2 =>
  some ()

theorem gather_Gather_Ask_2_ok  (r : Unit) (h : gather_Gather_Ask_2  = some r) : ∀ σ, Inj 0 σ → FnTri Tryd.prog 19 (renL σ [.nilptr]) (preOf σ 0 []) ((gather_Gather_Ask_2_v r).ren σ) (upOf σ []) := by
  refine fn_of Tryd.func19 (by kernel_rfl) (by kernel_rfl) (by kernel_rfl) trivial (by kernel_rfl) trivial (by kernel_rfl) ?_
  intro w0 W μ0 hμ
  unfold gather_Gather_Ask_2 at h
  obtain ⟨y2, e1, h⟩ := bind_some h
  obtain rfl := Option.some.inj h
  exact run_ret mixed (L := []) (n := 20) (s := [.reg [(0, { v := some (.ds 1 (([] : List (Int))).length (rowF (cInt .u8) default ([] : List (Int)))) })], .reg [(1, { call := some (gather_Gather_ok_2_v y2, [], []) })], .reg [(0, { v := some (.ds 1 (([] : List (Int))).length (rowF (cInt .u8) default ([] : List (Int)))) })]])
    (a_ (a_ (a_ (a_ tr (a_ (le_nil_ds 1 (rowF (cInt .u8) default [])) tr)) tr) (a_ (r1_ (a_ (a_ (a_ (gather_Gather_ok_2_tri  y2 e1) tr) tr) (r1_ tr))) (a_ (a_ (a_ tr (a_ (le_nil_ds 1 (rowF (cInt .u8) default [])) tr)) tr) tr))) tr) (by kernel_rfl) rfl

theorem gather_Gather_Ask_2_tri  (r : Unit) (h : gather_Gather_Ask_2  = some r) : FnTri Tryd.prog 19 [.nilptr] [] (gather_Gather_Ask_2_v r) [] := FnTri.none (gather_Gather_Ask_2_ok  r h) rfl rfl

/-- (*parrel/gather.Gather).Enough -/

def gather_Gather_Enough_2_v (r : Unit) : LV := .bool false

def gather_Gather_Enough_2  : Option (Unit) :=
  (gather_Gather_ok_2).bind fun y2 =>
  some ()

theorem gather_Gather_Enough_2_ok  (r : Unit) (h : gather_Gather_Enough_2  = some r) : ∀ σ, Inj 0 σ → FnTri Tryd.prog 14 (renL σ [.nilptr]) (preOf σ 0 []) ((gather_Gather_Enough_2_v r).ren σ) (upOf σ []) := by
  refine fn_of Tryd.func14 (by kernel_rfl) (by kernel_rfl) (by kernel_rfl) trivial (by kernel_rfl) trivial (by kernel_rfl) ?_
  intro w0 W μ0 hμ
  unfold gather_Gather_Enough_2 at h
  obtain ⟨y2, e1, h⟩ := bind_some h
  obtain rfl := Option.some.inj h
  exact run_ret mixed (L := []) (n := 20) (s := [.reg [], .reg [(1, { call := some (gather_Gather_ok_2_v y2, [], []) })], .reg []])
    (a_ (a_ (r2_ tr) (a_ (a_ (a_ (a_ tr (lt_ 0 1 rfl)) tr) (a_ (a_ (a_ (gather_Gather_ok_2_tri  y2 e1) tr) tr) (r1_ tr))) (a_ (r1_ tr) tr))) tr) (by kernel_rfl) rfl

theorem gather_Gather_Enough_2_tri  (r : Unit) (h : gather_Gather_Enough_2  = some r) : FnTri Tryd.prog 14 [.nilptr] [] (gather_Gather_Enough_2_v r) [] := FnTri.none (gather_Gather_Enough_2_ok  r h) rfl rfl

/-- (*parrel/gather.Gather).Nodes -/

def gather_Gather_Nodes_2_v (r : Unit) : LV := .int .u64 0

def gather_Gather_Nodes_2  : Option (Unit) :=
  (gather_Gather_ok_2).bind fun y2 =>
  some ()

theorem gather_Gather_Nodes_2_ok  (r : Unit) (h : gather_Gather_Nodes_2  = some r) : ∀ σ, Inj 0 σ → FnTri Tryd.prog 13 (renL σ [.nilptr]) (preOf σ 0 []) ((gather_Gather_Nodes_2_v r).ren σ) (upOf σ []) := by
  refine fn_of Tryd.func13 (by kernel_rfl) (by kernel_rfl) (by kernel_rfl) trivial (by kernel_rfl) trivial (by kernel_rfl) ?_
  intro w0 W μ0 hμ
  unfold gather_Gather_Nodes_2 at h
  obtain ⟨y2, e1, h⟩ := bind_some h
  obtain rfl := Option.some.inj h
  exact run_ret mixed (L := []) (n := 20) (s := [.reg [], .reg [(1, { call := some (gather_Gather_ok_2_v y2, [], []) })], .reg []])
    (a_ (a_ (r1_ tr) (a_ (r1_ (a_ (a_ (a_ (gather_Gather_ok_2_tri  y2 e1) tr) tr) (r1_ tr))) (a_ (r1_ tr) tr))) tr) (by kernel_rfl) rfl

theorem gather_Gather_Nodes_2_tri  (r : Unit) (h : gather_Gather_Nodes_2  = some r) : FnTri Tryd.prog 13 [.nilptr] [] (gather_Gather_Nodes_2_v r) [] := FnTri.none (gather_Gather_Nodes_2_ok  r h) rfl rfl

end
end Go.Proofs.YtffmmflapagkhaaDoor.Wk
