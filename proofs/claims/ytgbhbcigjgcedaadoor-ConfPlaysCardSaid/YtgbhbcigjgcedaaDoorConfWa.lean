/- Printed by tr.py: Go functions as Lean functions, with the proofs that they walk so. -/
import Derived.Test.YtgbhbcigjgcedaaDoorProg
import Derived.Test.YtgbhbcigjgcedaaDoorCnW
import Derived.Test.YtgbhbcigjgcedaaDoorCnZ
import Derived.WalkKit
import Derived.TacticsInMore
import Derived.RegionIn
import Derived.LoopNIn
import Derived.LoopIn
import Derived.ControlIn
namespace Go.Proofs.YtgbhbcigjgcedaaDoor.Wk
open Go Go.Cn Go.RowKit
set_option maxRecDepth 100000
set_option maxHeartbeats 4000000
set_option linter.unusedVariables false
set_option linter.unusedSimpArgs false
noncomputable section
theorem mixed : Tryd.prog.follows .mixedOrders = true := by kernel_rfl
structure T_api_Config where
  f_Epoch : Int
  f_R : Int
  f_W : Int
  f_Votes : A8 (Int)
  deriving DecidableEq, Inhabited

def c_T_api_Config (x : T_api_Config) : List LV := [.int .u32 x.f_Epoch, .int .u8 x.f_R, .int .u8 x.f_W, .int .u8 x.f_Votes.a0, .int .u8 x.f_Votes.a1, .int .u8 x.f_Votes.a2, .int .u8 x.f_Votes.a3, .int .u8 x.f_Votes.a4, .int .u8 x.f_Votes.a5, .int .u8 x.f_Votes.a6, .int .u8 x.f_Votes.a7]

def v_T_api_Config (x : T_api_Config) : LV := .agg (c_T_api_Config x)

theorem x_T_api_Config (a b : T_api_Config) : a = b ↔ a.f_Epoch = b.f_Epoch ∧ a.f_R = b.f_R ∧ a.f_W = b.f_W ∧ a.f_Votes = b.f_Votes := by
  cases a; cases b; simp

theorem k_T_api_Config (a b : T_api_Config) : eqK (v_T_api_Config a) (v_T_api_Config b) = decide (a = b) := by
  rw [Bool.eq_iff_iff, decide_eq_true_eq]
  simp only [x_T_api_Config, A8.x, v_T_api_Config, c_T_api_Config, eqK, eqCs, eqC, Bool.and_eq_true, beq_iff_eq, and_assoc, and_true]

structure T_api_Item where
  f_Version : Int
  f_Value : List UInt8
  f_Conf : T_api_Config
  deriving DecidableEq, Inhabited

def c_T_api_Item (x : T_api_Item) : List LV := [.int .u32 x.f_Version, .str x.f_Value, .int .u32 x.f_Conf.f_Epoch, .int .u8 x.f_Conf.f_R, .int .u8 x.f_Conf.f_W, .int .u8 x.f_Conf.f_Votes.a0, .int .u8 x.f_Conf.f_Votes.a1, .int .u8 x.f_Conf.f_Votes.a2, .int .u8 x.f_Conf.f_Votes.a3, .int .u8 x.f_Conf.f_Votes.a4, .int .u8 x.f_Conf.f_Votes.a5, .int .u8 x.f_Conf.f_Votes.a6, .int .u8 x.f_Conf.f_Votes.a7]

def v_T_api_Item (x : T_api_Item) : LV := .agg (c_T_api_Item x)

theorem x_T_api_Item (a b : T_api_Item) : a = b ↔ a.f_Version = b.f_Version ∧ a.f_Value = b.f_Value ∧ a.f_Conf = b.f_Conf := by
  cases a; cases b; simp

theorem k_T_api_Item (a b : T_api_Item) : eqK (v_T_api_Item a) (v_T_api_Item b) = decide (a = b) := by
  rw [Bool.eq_iff_iff, decide_eq_true_eq]
  simp only [x_T_api_Item, x_T_api_Config, A8.x, v_T_api_Item, c_T_api_Item, eqK, eqCs, eqC, Bool.and_eq_true, beq_iff_eq, and_assoc, and_true]

structure T_api_Write where
  f_Key : A8 (Int)
  f_Item : T_api_Item
  deriving DecidableEq, Inhabited

def c_T_api_Write (x : T_api_Write) : List LV := [.int .u8 x.f_Key.a0, .int .u8 x.f_Key.a1, .int .u8 x.f_Key.a2, .int .u8 x.f_Key.a3, .int .u8 x.f_Key.a4, .int .u8 x.f_Key.a5, .int .u8 x.f_Key.a6, .int .u8 x.f_Key.a7, .int .u32 x.f_Item.f_Version, .str x.f_Item.f_Value, .int .u32 x.f_Item.f_Conf.f_Epoch, .int .u8 x.f_Item.f_Conf.f_R, .int .u8 x.f_Item.f_Conf.f_W, .int .u8 x.f_Item.f_Conf.f_Votes.a0, .int .u8 x.f_Item.f_Conf.f_Votes.a1, .int .u8 x.f_Item.f_Conf.f_Votes.a2, .int .u8 x.f_Item.f_Conf.f_Votes.a3, .int .u8 x.f_Item.f_Conf.f_Votes.a4, .int .u8 x.f_Item.f_Conf.f_Votes.a5, .int .u8 x.f_Item.f_Conf.f_Votes.a6, .int .u8 x.f_Item.f_Conf.f_Votes.a7]

def v_T_api_Write (x : T_api_Write) : LV := .agg (c_T_api_Write x)

theorem x_T_api_Write (a b : T_api_Write) : a = b ↔ a.f_Key = b.f_Key ∧ a.f_Item = b.f_Item := by
  cases a; cases b; simp

theorem k_T_api_Write (a b : T_api_Write) : eqK (v_T_api_Write a) (v_T_api_Write b) = decide (a = b) := by
  rw [Bool.eq_iff_iff, decide_eq_true_eq]
  simp only [x_T_api_Write, A8.x, x_T_api_Item, x_T_api_Config, v_T_api_Write, c_T_api_Write, eqK, eqCs, eqC, Bool.and_eq_true, beq_iff_eq, and_assoc, and_true]

structure T_parrellaw21_Act where
  f_Key : A8 (Int)
  f_Conf : T_api_Config
  f_Next : Bool
  f_Many : Int
  deriving DecidableEq, Inhabited

def c_T_parrellaw21_Act (x : T_parrellaw21_Act) : List LV := [.int .u8 x.f_Key.a0, .int .u8 x.f_Key.a1, .int .u8 x.f_Key.a2, .int .u8 x.f_Key.a3, .int .u8 x.f_Key.a4, .int .u8 x.f_Key.a5, .int .u8 x.f_Key.a6, .int .u8 x.f_Key.a7, .int .u32 x.f_Conf.f_Epoch, .int .u8 x.f_Conf.f_R, .int .u8 x.f_Conf.f_W, .int .u8 x.f_Conf.f_Votes.a0, .int .u8 x.f_Conf.f_Votes.a1, .int .u8 x.f_Conf.f_Votes.a2, .int .u8 x.f_Conf.f_Votes.a3, .int .u8 x.f_Conf.f_Votes.a4, .int .u8 x.f_Conf.f_Votes.a5, .int .u8 x.f_Conf.f_Votes.a6, .int .u8 x.f_Conf.f_Votes.a7, .bool x.f_Next, .int .u8 x.f_Many]

def v_T_parrellaw21_Act (x : T_parrellaw21_Act) : LV := .agg (c_T_parrellaw21_Act x)

theorem x_T_parrellaw21_Act (a b : T_parrellaw21_Act) : a = b ↔ a.f_Key = b.f_Key ∧ a.f_Conf = b.f_Conf ∧ a.f_Next = b.f_Next ∧ a.f_Many = b.f_Many := by
  cases a; cases b; simp

theorem k_T_parrellaw21_Act (a b : T_parrellaw21_Act) : eqK (v_T_parrellaw21_Act a) (v_T_parrellaw21_Act b) = decide (a = b) := by
  rw [Bool.eq_iff_iff, decide_eq_true_eq]
  simp only [x_T_parrellaw21_Act, A8.x, x_T_api_Config, v_T_parrellaw21_Act, c_T_parrellaw21_Act, eqK, eqCs, eqC, Bool.and_eq_true, beq_iff_eq, and_assoc, and_true]

structure T_parrelref21_Known where
  f_Key : A8 (Int)
  f_Conf : T_api_Config
  deriving DecidableEq, Inhabited

def c_T_parrelref21_Known (x : T_parrelref21_Known) : List LV := [.int .u8 x.f_Key.a0, .int .u8 x.f_Key.a1, .int .u8 x.f_Key.a2, .int .u8 x.f_Key.a3, .int .u8 x.f_Key.a4, .int .u8 x.f_Key.a5, .int .u8 x.f_Key.a6, .int .u8 x.f_Key.a7, .int .u32 x.f_Conf.f_Epoch, .int .u8 x.f_Conf.f_R, .int .u8 x.f_Conf.f_W, .int .u8 x.f_Conf.f_Votes.a0, .int .u8 x.f_Conf.f_Votes.a1, .int .u8 x.f_Conf.f_Votes.a2, .int .u8 x.f_Conf.f_Votes.a3, .int .u8 x.f_Conf.f_Votes.a4, .int .u8 x.f_Conf.f_Votes.a5, .int .u8 x.f_Conf.f_Votes.a6, .int .u8 x.f_Conf.f_Votes.a7]

def v_T_parrelref21_Known (x : T_parrelref21_Known) : LV := .agg (c_T_parrelref21_Known x)

theorem x_T_parrelref21_Known (a b : T_parrelref21_Known) : a = b ↔ a.f_Key = b.f_Key ∧ a.f_Conf = b.f_Conf := by
  cases a; cases b; simp

theorem k_T_parrelref21_Known (a b : T_parrelref21_Known) : eqK (v_T_parrelref21_Known a) (v_T_parrelref21_Known b) = decide (a = b) := by
  rw [Bool.eq_iff_iff, decide_eq_true_eq]
  simp only [x_T_parrelref21_Known, A8.x, x_T_api_Config, v_T_parrelref21_Known, c_T_parrelref21_Known, eqK, eqCs, eqC, Bool.and_eq_true, beq_iff_eq, and_assoc, and_true]

structure T_parrelref21_Book where
  f_L : List (T_parrelref21_Known)
  deriving DecidableEq, Inhabited

def c_T_parrelref21_Book (x : T_parrelref21_Book) : List LV := [.ds 19 (x.f_L).length (rowF c_T_parrelref21_Known default x.f_L)]

def v_T_parrelref21_Book (x : T_parrelref21_Book) : LV := .agg (c_T_parrelref21_Book x)

theorem ext80 (l : List UInt8) (c : Int) : ExtTri Tryd.prog 80 [.str l, .int .u8 c] (.int .i64 (Lib.indexByte l c.toNat.toUInt8)) := ext_indexByte Tryd.func80 (by kernel_rfl) (by kernel_rfl) (by kernel_rfl) (by kernel_rfl) l c

/-- parrel/parrellaw21.far -/

def parrellaw21_far_v (r : (Bool)) : LV := .bool r

def parrellaw21_far_T0 (l : List (T_api_Write)) (x_n : Int) (t12 : Int) : List LV := [.ds 21 (l).length (rowF c_T_api_Write default l), .any, .any, .int .i64 x_n, .any, .any, .any, .any, .any, .any, .ds 21 ((l.take ((if 100 < ((l).length : Int) then 100 else ((l).length : Int))).toNat)).length (rowF c_T_api_Write default (l.take ((if 100 < ((l).length : Int) then 100 else ((l).length : Int))).toNat)), .int .i64 (((l.take ((if 100 < ((l).length : Int) then 100 else ((l).length : Int))).toNat)).length : Int), .int .i64 t12, .any, .any, .any, .any, .any, .any, .any, .any, .any, .any, .any, .any, .any, .any, .any, .any, .any, .any]

def parrellaw21_far_H0 (l : List (T_api_Write)) (x_n : Int) (t12 : Int) : Heap := []

def parrellaw21_far_l0 (l : List (T_api_Write))  : Nat → (Int) → (Int) → Option ((Bool))
  | 0, _, _ => none
  | fuel + 1, x_n, t12 =>
    if ((decide (t12 < (((l.take ((if 100 < ((l).length : Int) then 100 else ((l).length : Int))).toNat)).length : Int))) : Bool) then
      if 0 ≤ t12 ∧ t12 < ((((l.take ((if 100 < ((l).length : Int) then 100 else ((l).length : Int))).toNat)).length : Nat) : Int) then
      parrellaw21_far_l0 l  fuel (IntKind.wrap .i64 (x_n + (if 10000 < ((((l.take ((if 100 < ((l).length : Int) then 100 else ((l).length : Int))).toNat).getD t12.toNat default).f_Item.f_Value).length : Int) then 10000 else ((((l.take ((if 100 < ((l).length : Int) then 100 else ((l).length : Int))).toNat).getD t12.toNat default).f_Item.f_Value).length : Int)))) (IntKind.wrap .i64 (t12 + 1))
      else none
    else
      if ((decide (20000 < x_n)) : Bool) then
        some true
      else
        some (decide (100 < ((l).length : Int)))

def parrellaw21_far (l : List (T_api_Write)) : Option ((Bool)) :=
  if 0 ≤ (0 : Int) ∧ 0 ≤ (if 100 < ((l).length : Int) then 100 else ((l).length : Int)) ∧ (if 100 < ((l).length : Int) then 100 else ((l).length : Int)) ≤ (((l).length : Nat) : Int) then
  parrellaw21_far_l0 l  big 0 0
  else none

theorem parrellaw21_far_l0_ok {w0 : World} {W : Nat → Prop} {μ0 : Emb} (hμ : ∀ c p, μ0 c = some p → c < 0) (l : List (T_api_Write))  : ∀ (fuel : Nat) (x_n : Int) (t12 : Int) (r : (Bool)), parrellaw21_far_l0 l  fuel x_n t12 = some r → kont Tryd.prog w0 W μ0 (FnPost Tryd.prog Tryd.f8 0 0 (parrellaw21_far_v r) []) (kAt (bodyOf Tryd.f8) 0) none (parrellaw21_far_T0 l x_n t12) (parrellaw21_far_H0 l x_n t12) := by
  intro fuel
  induction fuel with
  | zero => intro x_n t12 r h; rw [parrellaw21_far_l0] at h; cases h
  | succ fuel ih =>
    intro x_n t12 r h
    rw [parrellaw21_far_l0] at h
    rcases itb_some h with ⟨cL0_1, h⟩ | ⟨cL0_1, h⟩
    · skip
      obtain ⟨gL0_2, h⟩ := guard_some h
      exact run_to mixed hμ (L := []) (n := 26) (s := [.go, .reg [(0, { v := some (.bool true) })], .reg [], .reg [], .reg []])
        (a_ (a_ (a_ tr (a_ (leB cL0_1) tr)) tr) (a_ (a_ (a_ (a_ (Eq.refl 21) gL0_2) tr) (a_ (a_ (le_ 21 21 rfl) tr) (a_ (a_ tr tr) (a_ (a_ (a_ (Eq.refl 21) (a_ (le_ 21 21 rfl) (Eq.refl 0))) tr) tr)))) (a_ (a_ (a_ tr tr) (a_ (a_ tr tr) (a_ (a_ tr tr) (a_ (a_ (a_ tr (lt_ 9 21 rfl)) tr) (a_ (a_ tr tr) (a_ (a_ tr tr) (a_ (a_ tr tr) (a_ (a_ tr tr) tr)))))))) (a_ (a_ (a_ tr tr) (a_ (a_ tr tr) tr)) tr)))) (ih _ _ r h) (by kernel_rfl) trivial
    · skip
      rcases itb_some h with ⟨cL0_2, h⟩ | ⟨cL0_2, h⟩
      · skip
        obtain rfl := Option.some.inj h
        exact run_ret mixed (L := []) (n := 19) (s := [.go, .reg [(0, { v := some (.bool false) })], .reg [(2, { v := some (.bool true) })]])
          (a_ (a_ (a_ (a_ tr (a_ (leB cL0_1) tr)) tr) (a_ (a_ (a_ tr tr) (a_ (a_ tr tr) (a_ (a_ tr (a_ (leB cL0_2) tr)) (a_ tr (a_ tr (a_ tr (a_ (a_ tr tr) (a_ (a_ tr tr) tr)))))))) tr)) tr) (by kernel_rfl) rfl
      · skip
        obtain rfl := Option.some.inj h
        exact run_ret mixed (L := []) (n := 19) (s := [.go, .reg [(0, { v := some (.bool false) })], .reg [(2, { v := some (.bool false) })]])
          (a_ (a_ (a_ (a_ tr (a_ (leB cL0_1) tr)) tr) (a_ (a_ (a_ tr tr) (a_ (a_ tr tr) (a_ (a_ tr (a_ (leB cL0_2) tr)) (a_ (a_ tr tr) (a_ (a_ tr tr) (a_ (a_ tr tr) (a_ (a_ tr tr) (a_ (a_ tr tr) tr)))))))) tr)) tr) (by kernel_rfl) rfl

theorem parrellaw21_far_ok (l : List (T_api_Write)) (r : (Bool)) (h : parrellaw21_far l = some r) : ∀ σ, Inj 0 σ → FnTri Tryd.prog 8 (renL σ [.ds 21 (l).length (rowF c_T_api_Write default l)]) (preOf σ 0 []) ((parrellaw21_far_v r).ren σ) (upOf σ []) := by
  refine fn_of Tryd.func8 (by kernel_rfl) (by kernel_rfl) (by kernel_rfl) trivial (by kernel_rfl) trivial (by kernel_rfl) ?_
  intro w0 W μ0 hμ
  unfold parrellaw21_far at h
  obtain ⟨g1, h⟩ := guard_some h
  exact run_to mixed hμ (L := []) (n := 21) (s := [.reg [], .reg [], .reg [(4, { v := some (.ds 21 ((l.take ((if 100 < ((l).length : Int) then 100 else ((l).length : Int))).toNat)).length (rowF c_T_api_Write default (l.take ((if 100 < ((l).length : Int) then 100 else ((l).length : Int))).toNat))) })]])
    (a_ (a_ (a_ tr tr) tr) (a_ (a_ (a_ tr tr) tr) (a_ (a_ (a_ tr tr) (a_ (a_ tr tr) (a_ (a_ tr tr) (a_ (a_ tr tr) (a_ (a_ (a_ (Eq.refl 21) g1) (a_ (le_take c_T_api_Write default 21 l ((if 100 < ((l).length : Int) then 100 else ((l).length : Int))).toNat (toN_le g1.2.2)) tr)) (a_ (a_ tr tr) (a_ (a_ tr tr) tr))))))) tr))) (parrellaw21_far_l0_ok hμ l  big _ _ r h) (by kernel_rfl) trivial

theorem parrellaw21_far_tri (l : List (T_api_Write)) (r : (Bool)) (h : parrellaw21_far l = some r) : FnTri Tryd.prog 8 [.ds 21 (l).length (rowF c_T_api_Write default l)] [] (parrellaw21_far_v r) [] := FnTri.none (parrellaw21_far_ok l r h) rfl rfl

/-- parrel/parrellaw21.one -/

def parrellaw21_one_v (r : (T_api_Config)) : LV := v_T_api_Config r

def parrellaw21_one (epoch : Int) : Option ((T_api_Config)) :=
  some (T_api_Config.mk epoch 1 1 (A8.mk 1 0 0 0 0 0 0 0))

theorem parrellaw21_one_ok (epoch : Int) (r : (T_api_Config)) (h : parrellaw21_one epoch = some r) : ∀ σ, Inj 0 σ → FnTri Tryd.prog 16 (renL σ [.int .u32 epoch]) (preOf σ 0 []) ((parrellaw21_one_v r).ren σ) (upOf σ []) := by
  refine fn_of Tryd.func16 (by kernel_rfl) (by kernel_rfl) (by kernel_rfl) trivial (by kernel_rfl) trivial (by kernel_rfl) ?_
  intro w0 W μ0 hμ
  unfold parrellaw21_one at h
  obtain rfl := Option.some.inj h
  exact run_ret mixed (L := []) (n := 15) (s := [.reg [], .reg []])
    (a_ (a_ (a_ (a_ tr tr) tr) (a_ (a_ (a_ tr tr) (a_ (a_ (Eq.refl true) tr) (a_ (a_ (Eq.refl true) tr) (a_ (a_ (a_ (Eq.refl 11) (a_ (le_ 11 11 rfl) (Eq.refl 0))) tr) tr)))) tr)) (a_ (a_ tr (le_ 11 11 rfl)) tr)) (by kernel_rfl) rfl

theorem parrellaw21_one_tri (epoch : Int) (r : (T_api_Config)) (h : parrellaw21_one epoch = some r) : FnTri Tryd.prog 16 [.int .u32 epoch] [] (parrellaw21_one_v r) [] := FnTri.none (parrellaw21_one_ok epoch r h) rfl rfl

/-- parrel/parrellaw21.first -/

def parrellaw21_first_v (r : (List (T_api_Write))) : LV := .ds 21 (r).length (rowF c_T_api_Write default r)

def parrellaw21_first (epoch : Int) : Option ((List (T_api_Write))) :=
  (parrellaw21_one epoch).bind fun y2 =>
  some ([(T_api_Write.mk (A8.mk 97 0 0 0 0 0 0 0) (T_api_Item.mk 0 [] y2))] : List (T_api_Write))

theorem parrellaw21_first_ok (epoch : Int) (r : (List (T_api_Write))) (h : parrellaw21_first epoch = some r) : ∀ σ, Inj 0 σ → FnTri Tryd.prog 15 (renL σ [.int .u32 epoch]) (preOf σ 0 []) ((parrellaw21_first_v r).ren σ) (upOf σ []) := by
  refine fn_of Tryd.func15 (by kernel_rfl) (by kernel_rfl) (by kernel_rfl) trivial (by kernel_rfl) trivial (by kernel_rfl) ?_
  intro w0 W μ0 hμ
  unfold parrellaw21_first at h
  obtain ⟨y2, e1, h⟩ := bind_some h
  obtain rfl := Option.some.inj h
  exact run_ret mixed (L := []) (n := 16) (s := [.reg [(0, { v := some (.ds 21 (([] : List (T_api_Write))).length (rowF c_T_api_Write default ([] : List (T_api_Write)))) })], .reg [(2, { call := some (parrellaw21_one_v y2, [], []) }), (5, { os := [(0, .gr 21 (([(T_api_Write.mk (A8.mk 97 0 0 0 0 0 0 0) (T_api_Item.mk 0 [] y2))] : List (T_api_Write))).length (rowF c_T_api_Write default ([(T_api_Write.mk (A8.mk 97 0 0 0 0 0 0 0) (T_api_Item.mk 0 [] y2))] : List (T_api_Write))))], v := some (.gs 0 (([(T_api_Write.mk (A8.mk 97 0 0 0 0 0 0 0) (T_api_Item.mk 0 [] y2))] : List (T_api_Write))).length) })], .frz 0])
    (a_ (a_ (a_ (a_ tr (a_ (le_nil_ds 21 (rowF c_T_api_Write default [])) tr)) tr) (a_ (a_ (a_ (Eq.refl true) tr) (a_ (a_ tr tr) (a_ (a_ (a_ (parrellaw21_one_tri epoch y2 e1) tr) tr) (a_ (a_ (Eq.refl true) tr) (a_ (a_ (Eq.refl true) tr) (a_ (a_ (a_ (Eq.refl true) (a_ (Eq.refl 21) (a_ (lt_ 0 21 rfl) (le_ 21 16777216 rfl)))) (a_ (le_sl_gs 0 1 (some 1) rfl) (a_ (sub_lit c_T_api_Write default 21 (fun _ => rfl) ([(T_api_Write.mk (A8.mk 97 0 0 0 0 0 0 0) (T_api_Item.mk 0 [] y2))] : List (T_api_Write))) tr))) (a_ (a_ tr tr) tr))))))) (a_ (a_ (fz_row (enc := c_T_api_Write) (d := default) (fun _ => rfl) ([(T_api_Write.mk (A8.mk 97 0 0 0 0 0 0 0) (T_api_Item.mk 0 [] y2))] : List (T_api_Write))) (a_ (Nat.le_refl (([(T_api_Write.mk (A8.mk 97 0 0 0 0 0 0 0) (T_api_Item.mk 0 [] y2))] : List (T_api_Write))).length) (a_ (Nat.le_refl (([(T_api_Write.mk (A8.mk 97 0 0 0 0 0 0 0) (T_api_Item.mk 0 [] y2))] : List (T_api_Write))).length) tr))) tr))) tr) (by kernel_rfl) rfl

theorem parrellaw21_first_tri (epoch : Int) (r : (List (T_api_Write))) (h : parrellaw21_first epoch = some r) : FnTri Tryd.prog 15 [.int .u32 epoch] [] (parrellaw21_first_v r) [] := FnTri.none (parrellaw21_first_ok epoch r h) rfl rfl

/-- strings.trimRightByte -/

def strings_trimRightByte_v (r : (List UInt8)) : LV := .str r

def strings_trimRightByte_T0 (c : Int) (s2 : List UInt8) : List LV := [.str s2, .int .u8 c, .any, .any, .any, .any, .any, .any, .any, .any, .any, .any, .any, .any, .any, .any, .any, .any, .any, .any, .any, .any, .any]

def strings_trimRightByte_H0 (c : Int) (s2 : List UInt8) : Heap := []

def strings_trimRightByte_l0 (c : Int)  : Nat → (List UInt8) → Option ((List UInt8))
  | 0, _ => none
  | fuel + 1, s2 =>
    if ((decide (0 < ((s2).length : Int))) : Bool) then
      if 0 ≤ (IntKind.wrap .i64 (((s2).length : Int) - 1)) ∧ (IntKind.wrap .i64 (((s2).length : Int) - 1)) < (((s2).length : Nat) : Int) then
      if ((((s2.getD ((IntKind.wrap .i64 (((s2).length : Int) - 1))).toNat 0).toNat : Int) == c) : Bool) then
        if 0 ≤ (0 : Int) ∧ (0 : Int) ≤ (IntKind.wrap .i64 (((s2).length : Int) - 1)) ∧ (IntKind.wrap .i64 (((s2).length : Int) - 1)) ≤ (((s2).length : Nat) : Int) then
        strings_trimRightByte_l0 c  fuel ((s2.drop 0).take (((IntKind.wrap .i64 (((s2).length : Int) - 1))).toNat - 0))
        else none
      else
        some s2
      else none
    else
      some s2

def strings_trimRightByte (s : List UInt8) (c : Int) : Option ((List UInt8)) :=
  strings_trimRightByte_l0 c  big s

theorem strings_trimRightByte_l0_ok {w0 : World} {W : Nat → Prop} {μ0 : Emb} (hμ : ∀ c p, μ0 c = some p → c < 0) (c : Int)  : ∀ (fuel : Nat) (s2 : List UInt8) (r : (List UInt8)), strings_trimRightByte_l0 c  fuel s2 = some r → kont Tryd.prog w0 W μ0 (FnPost Tryd.prog Tryd.f53 0 0 (strings_trimRightByte_v r) []) (kAt (bodyOf Tryd.f53) 0) none (strings_trimRightByte_T0 c s2) (strings_trimRightByte_H0 c s2) := by
  intro fuel
  induction fuel with
  | zero => intro s2 r h; rw [strings_trimRightByte_l0] at h; cases h
  | succ fuel ih =>
    intro s2 r h
    rw [strings_trimRightByte_l0] at h
    rcases itb_some h with ⟨cL0_1, h⟩ | ⟨cL0_1, h⟩
    · skip
      obtain ⟨gL0_2, h⟩ := guard_some h
      rcases itb_some h with ⟨cL0_3, h⟩ | ⟨cL0_3, h⟩
      · skip
        obtain ⟨gL0_4, h⟩ := guard_some h
        exact run_to mixed hμ (L := []) (n := 20) (s := [.go, .reg [(3, { v := some (.bool true) }), (11, { v := some (.bool true) })], .reg []])
          (a_ (a_ (a_ tr tr) (a_ (a_ tr tr) (a_ (a_ tr tr) (a_ (a_ tr (a_ (leB cL0_1) tr)) (a_ (a_ tr tr) (a_ (a_ tr tr) (a_ (a_ tr tr) (a_ (a_ tr tr) (a_ (a_ gL0_2 tr) (a_ (a_ tr tr) (a_ (a_ tr tr) (a_ (a_ tr (a_ (leB cL0_3) tr)) tr)))))))))))) (a_ (a_ (a_ tr tr) (a_ (a_ tr tr) (a_ (a_ tr tr) (a_ (a_ tr tr) (a_ (a_ gL0_4 tr) (a_ (a_ tr tr) tr)))))) tr)) (ih _ r h) (by kernel_rfl) trivial
      · skip
        obtain rfl := Option.some.inj h
        exact run_ret mixed (L := []) (n := 19) (s := [.go, .reg [(3, { v := some (.bool true) }), (11, { v := some (.bool false) })], .reg []])
          (a_ (a_ (a_ (a_ tr tr) (a_ (a_ tr tr) (a_ (a_ tr tr) (a_ (a_ tr (a_ (leB cL0_1) tr)) (a_ (a_ tr tr) (a_ (a_ tr tr) (a_ (a_ tr tr) (a_ (a_ tr tr) (a_ (a_ gL0_2 tr) (a_ (a_ tr tr) (a_ (a_ tr tr) (a_ (a_ tr (a_ (leB cL0_3) tr)) tr)))))))))))) (a_ (a_ (a_ tr tr) (a_ (a_ tr tr) tr)) tr)) tr) (by kernel_rfl) rfl
    · skip
      obtain rfl := Option.some.inj h
      exact run_ret mixed (L := []) (n := 19) (s := [.go, .reg [(3, { v := some (.bool false) })], .reg []])
        (a_ (a_ (a_ (a_ tr tr) (a_ (a_ tr tr) (a_ (a_ tr tr) (a_ (a_ tr (a_ (leB cL0_1) tr)) (a_ tr (a_ tr (a_ tr (a_ tr (a_ tr (a_ tr (a_ tr (a_ (a_ tr tr) tr)))))))))))) (a_ (a_ (a_ tr tr) (a_ (a_ tr tr) tr)) tr)) tr) (by kernel_rfl) rfl

theorem strings_trimRightByte_ok (s : List UInt8) (c : Int) (r : (List UInt8)) (h : strings_trimRightByte s c = some r) : ∀ σ, Inj 0 σ → FnTri Tryd.prog 53 (renL σ [.str s, .int .u8 c]) (preOf σ 0 []) ((strings_trimRightByte_v r).ren σ) (upOf σ []) := by
  refine fn_of Tryd.func53 (by kernel_rfl) (by kernel_rfl) (by kernel_rfl) trivial (by kernel_rfl) trivial (by kernel_rfl) ?_
  intro w0 W μ0 hμ
  unfold strings_trimRightByte at h
  exact run_to mixed hμ (L := []) (n := 15) (s := [.reg []])
    (a_ (a_ (a_ tr tr) tr) tr) (strings_trimRightByte_l0_ok hμ c  big _ r h) (by kernel_rfl) trivial

theorem strings_trimRightByte_tri (s : List UInt8) (c : Int) (r : (List UInt8)) (h : strings_trimRightByte s c = some r) : FnTri Tryd.prog 53 [.str s, .int .u8 c] [] (strings_trimRightByte_v r) [] := FnTri.none (strings_trimRightByte_ok s c r h) rfl rfl

/-- strings.TrimRight -/

def strings_TrimRight_v (r : (List UInt8)) : LV := .str r

def strings_TrimRight (s : List UInt8) : Option ((List UInt8)) :=
  if ((s == []) : Bool) then
    some s
  else
    (strings_trimRightByte s 0).bind fun y3 =>
    some y3

theorem strings_TrimRight_ok (s : List UInt8) (r : (List UInt8)) (h : strings_TrimRight s = some r) : ∀ σ, Inj 0 σ → FnTri Tryd.prog 44 (renL σ [.str s, .str ([0] : List UInt8)]) (preOf σ 0 []) ((strings_TrimRight_v r).ren σ) (upOf σ []) := by
  refine fn_of Tryd.func44 (by kernel_rfl) (by kernel_rfl) (by kernel_rfl) trivial (by kernel_rfl) trivial (by kernel_rfl) ?_
  intro w0 W μ0 hμ
  unfold strings_TrimRight at h
  rcases itb_some h with ⟨c1, h⟩ | ⟨c1, h⟩
  · skip
    obtain rfl := Option.some.inj h
    exact run_ret mixed (L := []) (n := 20) (s := [.reg [], .reg [(2, { v := some (.bool true) })], .reg []])
      (a_ (a_ (a_ (a_ tr tr) tr) (a_ (a_ (a_ tr tr) (a_ (a_ tr tr) (a_ (a_ tr (a_ (leB c1) tr)) (a_ tr (a_ tr (a_ (a_ tr tr) tr)))))) (a_ (a_ (a_ tr tr) (a_ (a_ tr tr) tr)) tr))) tr) (by kernel_rfl) rfl
  · skip
    obtain ⟨y3, e2, h⟩ := bind_some h
    obtain rfl := Option.some.inj h
    exact run_ret mixed (L := []) (n := 26) (s := [.reg [], .reg [(2, { v := some (.bool false) })], .reg [], .reg [(3, { call := some (strings_trimRightByte_v y3, [], []) })]])
      (a_ (a_ (a_ (a_ tr tr) tr) (a_ (a_ (a_ tr tr) (a_ (a_ tr tr) (a_ (a_ tr (a_ (leB c1) tr)) (a_ (a_ tr tr) (a_ (a_ tr tr) (a_ (a_ tr tr) tr)))))) (a_ (a_ (a_ tr tr) (a_ (a_ tr tr) (a_ (a_ tr tr) (a_ (a_ tr tr) (a_ (a_ tr tr) (a_ (a_ (a_ (lei_ 0 0 rfl) (lti_ 0 1 rfl)) tr) (a_ (a_ tr tr) (a_ (a_ tr tr) tr)))))))) (a_ (a_ (a_ tr tr) (a_ (a_ tr tr) (a_ (a_ (a_ (lei_ 0 0 rfl) (lti_ 0 1 rfl)) tr) (a_ (a_ (a_ (strings_trimRightByte_tri s 0 y3 e2) tr) tr) (a_ (a_ tr tr) tr))))) tr)))) tr) (by kernel_rfl) rfl

theorem strings_TrimRight_tri (s : List UInt8) (r : (List UInt8)) (h : strings_TrimRight s = some r) : FnTri Tryd.prog 44 [.str s, .str ([0] : List UInt8)] [] (strings_TrimRight_v r) [] := FnTri.none (strings_TrimRight_ok s r h) rfl rfl

/-- internal/stringslite.IndexByte -/

def internal_stringslite_IndexByte_v (r : (Int)) : LV := .int .i64 r

def internal_stringslite_IndexByte (s : List UInt8) (c : Int) : Option ((Int)) :=
  some (Lib.indexByte s (c).toNat.toUInt8)

theorem internal_stringslite_IndexByte_ok (s : List UInt8) (c : Int) (r : (Int)) (h : internal_stringslite_IndexByte s c = some r) : ∀ σ, Inj 0 σ → FnTri Tryd.prog 65 (renL σ [.str s, .int .u8 c]) (preOf σ 0 []) ((internal_stringslite_IndexByte_v r).ren σ) (upOf σ []) := by
  refine fn_of Tryd.func65 (by kernel_rfl) (by kernel_rfl) (by kernel_rfl) trivial (by kernel_rfl) trivial (by kernel_rfl) ?_
  intro w0 W μ0 hμ
  unfold internal_stringslite_IndexByte at h
  obtain rfl := Option.some.inj h
  exact run_ret mixed (L := []) (n := 15) (s := [.reg [], .reg [(2, { ext := some (.int .i64 (Lib.indexByte s (c).toNat.toUInt8)) })]])
    (a_ (a_ (a_ (a_ tr tr) tr) (a_ (a_ (a_ tr tr) (a_ (a_ tr tr) (a_ (a_ (ext80 s c) tr) (a_ (a_ tr tr) tr)))) tr)) tr) (by kernel_rfl) rfl

theorem internal_stringslite_IndexByte_tri (s : List UInt8) (c : Int) (r : (Int)) (h : internal_stringslite_IndexByte s c = some r) : FnTri Tryd.prog 65 [.str s, .int .u8 c] [] (internal_stringslite_IndexByte_v r) [] := FnTri.none (internal_stringslite_IndexByte_ok s c r h) rfl rfl

/-- strings.IndexByte -/

def strings_IndexByte_v (r : (Int)) : LV := .int .i64 r

def strings_IndexByte (s : List UInt8) (c : Int) : Option ((Int)) :=
  (internal_stringslite_IndexByte s c).bind fun y2 =>
  some y2

theorem strings_IndexByte_ok (s : List UInt8) (c : Int) (r : (Int)) (h : strings_IndexByte s c = some r) : ∀ σ, Inj 0 σ → FnTri Tryd.prog 57 (renL σ [.str s, .int .u8 c]) (preOf σ 0 []) ((strings_IndexByte_v r).ren σ) (upOf σ []) := by
  refine fn_of Tryd.func57 (by kernel_rfl) (by kernel_rfl) (by kernel_rfl) trivial (by kernel_rfl) trivial (by kernel_rfl) ?_
  intro w0 W μ0 hμ
  unfold strings_IndexByte at h
  obtain ⟨y2, e1, h⟩ := bind_some h
  obtain rfl := Option.some.inj h
  exact run_ret mixed (L := []) (n := 15) (s := [.reg [], .reg [(2, { call := some (internal_stringslite_IndexByte_v y2, [], []) })]])
    (a_ (a_ (a_ (a_ tr tr) tr) (a_ (a_ (a_ tr tr) (a_ (a_ tr tr) (a_ (a_ (a_ (internal_stringslite_IndexByte_tri s c y2 e1) tr) tr) (a_ (a_ tr tr) tr)))) tr)) tr) (by kernel_rfl) rfl

theorem strings_IndexByte_tri (s : List UInt8) (c : Int) (r : (Int)) (h : strings_IndexByte s c = some r) : FnTri Tryd.prog 57 [.str s, .int .u8 c] [] (strings_IndexByte_v r) [] := FnTri.none (strings_IndexByte_ok s c r h) rfl rfl

/-- parrel/ids.KeyOf -/

def ids_KeyOf_v (r : (A8 (Int)) × (Int)) : LV := .tup [.agg [.int .u8 r.1.a0, .int .u8 r.1.a1, .int .u8 r.1.a2, .int .u8 r.1.a3, .int .u8 r.1.a4, .int .u8 r.1.a5, .int .u8 r.1.a6, .int .u8 r.1.a7], .int .i64 r.2]

def ids_KeyOf (s : List UInt8) : Option ((A8 (Int)) × (Int)) :=
  if ((s == []) : Bool) then
    some ((A8.mk 0 0 0 0 0 0 0 0), 1)
  else
    if ((decide (8 < ((s).length : Int))) : Bool) then
      some ((A8.mk 0 0 0 0 0 0 0 0), 1)
    else
      (strings_IndexByte s 0).bind fun y4 =>
      if ((decide (0 ≤ y4)) : Bool) then
        some ((A8.mk 0 0 0 0 0 0 0 0), 1)
      else
        some ((A8.mk (if 0 < (s).length then ((s.getD 0 0).toNat : Int) else 0) (if 1 < (s).length then ((s.getD 1 0).toNat : Int) else 0) (if 2 < (s).length then ((s.getD 2 0).toNat : Int) else 0) (if 3 < (s).length then ((s.getD 3 0).toNat : Int) else 0) (if 4 < (s).length then ((s.getD 4 0).toNat : Int) else 0) (if 5 < (s).length then ((s.getD 5 0).toNat : Int) else 0) (if 6 < (s).length then ((s.getD 6 0).toNat : Int) else 0) (if 7 < (s).length then ((s.getD 7 0).toNat : Int) else 0)), 0)

theorem ids_KeyOf_ok (s : List UInt8) (r : (A8 (Int)) × (Int)) (h : ids_KeyOf s = some r) : ∀ σ, Inj 0 σ → FnTri Tryd.prog 45 (renL σ [.str s]) (preOf σ 0 []) ((ids_KeyOf_v r).ren σ) (upOf σ []) := by
  refine fn_of Tryd.func45 (by kernel_rfl) (by kernel_rfl) (by kernel_rfl) trivial (by kernel_rfl) trivial (by kernel_rfl) ?_
  intro w0 W μ0 hμ
  unfold ids_KeyOf at h
  rcases itb_some h with ⟨c1, h⟩ | ⟨c1, h⟩
  · skip
    obtain rfl := Option.some.inj h
    exact run_ret mixed (L := []) (n := 23) (s := [.reg [], .reg [], .reg [(2, { v := some (.bool true) })], .reg []])
      (a_ (a_ (a_ (a_ tr tr) (a_ (a_ tr tr) tr)) (a_ (a_ (a_ tr tr) tr) (a_ (a_ (a_ tr tr) (a_ (a_ tr tr) (a_ (a_ tr (a_ (leB c1) tr)) (a_ tr (a_ tr (a_ tr (a_ (a_ tr tr) (a_ (a_ tr tr) (a_ tr (a_ tr (a_ tr (a_ (a_ tr tr) tr)))))))))))) (a_ (a_ (a_ (a_ tr (le_ 8 8 rfl)) tr) (a_ (a_ (a_ (Eq.refl 8) (a_ (le_ 8 8 rfl) (Eq.refl 0))) tr) (a_ (a_ tr tr) tr))) tr)))) (a_ (a_ tr (le_ 8 8 rfl)) tr)) (by kernel_rfl) rfl
  · skip
    rcases itb_some h with ⟨c2, h⟩ | ⟨c2, h⟩
    · skip
      obtain rfl := Option.some.inj h
      exact run_ret mixed (L := []) (n := 23) (s := [.reg [], .reg [], .reg [(2, { v := some (.bool false) }), (7, { v := some (.bool true) })], .reg []])
        (a_ (a_ (a_ (a_ tr tr) (a_ (a_ tr tr) tr)) (a_ (a_ (a_ tr tr) tr) (a_ (a_ (a_ tr tr) (a_ (a_ tr tr) (a_ (a_ tr (a_ (leB c1) tr)) (a_ (a_ tr tr) (a_ (a_ tr tr) (a_ (a_ tr tr) (a_ (a_ tr tr) (a_ (a_ tr (a_ (leB c2) tr)) (a_ tr (a_ tr (a_ tr (a_ (a_ tr tr) tr)))))))))))) (a_ (a_ (a_ (a_ tr (le_ 8 8 rfl)) tr) (a_ (a_ (a_ (Eq.refl 8) (a_ (le_ 8 8 rfl) (Eq.refl 0))) tr) (a_ (a_ tr tr) tr))) tr)))) (a_ (a_ tr (le_ 8 8 rfl)) tr)) (by kernel_rfl) rfl
    · skip
      obtain ⟨y4, e3, h⟩ := bind_some h
      rcases itb_some h with ⟨c5, h⟩ | ⟨c5, h⟩
      · skip
        obtain rfl := Option.some.inj h
        exact run_ret mixed (L := []) (n := 23) (s := [.reg [], .reg [], .reg [(2, { v := some (.bool false) }), (7, { v := some (.bool false) }), (9, { call := some (strings_IndexByte_v y4, [], []) }), (11, { v := some (.bool true) })], .reg []])
          (a_ (a_ (a_ (a_ tr tr) (a_ (a_ tr tr) tr)) (a_ (a_ (a_ tr tr) tr) (a_ (a_ (a_ tr tr) (a_ (a_ tr tr) (a_ (a_ tr (a_ (leB c1) tr)) (a_ (a_ tr tr) (a_ (a_ tr tr) (a_ (a_ tr tr) (a_ (a_ tr tr) (a_ (a_ tr (a_ (leB c2) tr)) (a_ (a_ tr tr) (a_ (a_ (a_ (strings_IndexByte_tri s 0 y4 e3) tr) tr) (a_ (a_ tr tr) (a_ (a_ tr (a_ (leB c5) tr)) tr)))))))))))) (a_ (a_ (a_ (a_ tr (le_ 8 8 rfl)) tr) (a_ (a_ (a_ (Eq.refl 8) (a_ (le_ 8 8 rfl) (Eq.refl 0))) tr) (a_ (a_ tr tr) tr))) tr)))) (a_ (a_ tr (le_ 8 8 rfl)) tr)) (by kernel_rfl) rfl
      · skip
        obtain rfl := Option.some.inj h
        exact run_ret mixed (L := []) (n := 27) (s := [.reg [], .reg [], .reg [(2, { v := some (.bool false) }), (7, { v := some (.bool false) }), (9, { call := some (strings_IndexByte_v y4, [], []) }), (11, { v := some (.bool false) })], .reg [], .reg []])
          (a_ (a_ (a_ (a_ tr tr) (a_ (a_ tr tr) tr)) (a_ (a_ (a_ tr tr) tr) (a_ (a_ (a_ tr tr) (a_ (a_ tr tr) (a_ (a_ tr (a_ (leB c1) tr)) (a_ (a_ tr tr) (a_ (a_ tr tr) (a_ (a_ tr tr) (a_ (a_ tr tr) (a_ (a_ tr (a_ (leB c2) tr)) (a_ (a_ tr tr) (a_ (a_ (a_ (strings_IndexByte_tri s 0 y4 e3) tr) tr) (a_ (a_ tr tr) (a_ (a_ tr (a_ (leB c5) tr)) tr)))))))))))) (a_ (a_ (a_ (a_ (lei_ 0 0 rfl) (a_ (lei_ 0 8 rfl) (lei_ 8 8 rfl))) tr) (a_ (a_ tr tr) (a_ (a_ (a_ (Eq.refl 1) (a_ (Eq.refl 0) (a_ (le_ 8 8 rfl) (Eq.refl true)))) tr) tr))) (a_ (a_ (a_ (a_ tr (le_ 8 8 rfl)) tr) (a_ (a_ (a_ (Eq.refl 8) (a_ (le_ 8 8 rfl) (Eq.refl 0))) tr) (a_ (a_ tr tr) tr))) tr))))) (a_ (a_ tr (le_ 8 8 rfl)) tr)) (by kernel_rfl) rfl

theorem ids_KeyOf_tri (s : List UInt8) (r : (A8 (Int)) × (Int)) (h : ids_KeyOf s = some r) : FnTri Tryd.prog 45 [.str s] [] (ids_KeyOf_v r) [] := FnTri.none (ids_KeyOf_ok s r h) rfl rfl

/-- parrel/ids.Name -/

def ids_Name_v (r : (List UInt8) × (Bool)) : LV := .tup [.str r.1, .bool r.2]

def ids_Name (x_k : A8 (Int)) : Option ((List UInt8) × (Bool)) :=
  (strings_TrimRight (strI (([x_k.a0, x_k.a1, x_k.a2, x_k.a3, x_k.a4, x_k.a5, x_k.a6, x_k.a7] : List Int).take 8))).bind fun y2 =>
  (ids_KeyOf y2).bind fun y4 =>
  if ((y4.2 != 0) : Bool) then
    some ([], false)
  else
    if ((!decide (y4.1 = x_k)) : Bool) then
      some ([], false)
    else
      some (y2, true)

theorem ids_Name_ok (x_k : A8 (Int)) (r : (List UInt8) × (Bool)) (h : ids_Name x_k = some r) : ∀ σ, Inj 0 σ → FnTri Tryd.prog 27 (renL σ [.agg [.int .u8 x_k.a0, .int .u8 x_k.a1, .int .u8 x_k.a2, .int .u8 x_k.a3, .int .u8 x_k.a4, .int .u8 x_k.a5, .int .u8 x_k.a6, .int .u8 x_k.a7]]) (preOf σ 0 []) ((ids_Name_v r).ren σ) (upOf σ []) := by
  refine fn_of Tryd.func27 (by kernel_rfl) (by kernel_rfl) (by kernel_rfl) trivial (by kernel_rfl) trivial (by kernel_rfl) ?_
  intro w0 W μ0 hμ
  unfold ids_Name at h
  obtain ⟨y2, e1, h⟩ := bind_some h
  obtain ⟨y4, e3, h⟩ := bind_some h
  rcases itb_some h with ⟨c5, h⟩ | ⟨c5, h⟩
  · skip
    obtain rfl := Option.some.inj h
    exact run_ret mixed (L := []) (n := 26) (s := [.reg [], .reg [(1, { v := some (.str (strI (([x_k.a0, x_k.a1, x_k.a2, x_k.a3, x_k.a4, x_k.a5, x_k.a6, x_k.a7] : List Int).take 8))) }), (2, { call := some (strings_TrimRight_v y2, [], []) })], .reg [(1, { call := some (ids_KeyOf_v y4, [], []) })], .reg [(2, { v := some (.bool true) })], .reg []])
      (a_ (a_ (a_ (a_ tr tr) (a_ (a_ tr tr) (a_ (a_ tr tr) tr))) (a_ (a_ (a_ (a_ (lei_ 0 0 rfl) (a_ (lei_ 0 8 rfl) (lei_ 8 8 rfl))) tr) (a_ (a_ (arr_ob [x_k.a0, x_k.a1, x_k.a2, x_k.a3, x_k.a4, x_k.a5, x_k.a6, x_k.a7] 8 8 (le_ 8 8 rfl) rfl) (a_ (le_arr [x_k.a0, x_k.a1, x_k.a2, x_k.a3, x_k.a4, x_k.a5, x_k.a6, x_k.a7] 8 8 (le_ 8 8 rfl) rfl) tr)) (a_ (a_ (a_ (strings_TrimRight_tri (strI (([x_k.a0, x_k.a1, x_k.a2, x_k.a3, x_k.a4, x_k.a5, x_k.a6, x_k.a7] : List Int).take 8)) y2 e1) tr) tr) (a_ (a_ tr tr) tr)))) (a_ (a_ (a_ tr tr) (a_ (a_ (a_ (ids_KeyOf_tri y2 y4 e3) tr) tr) (a_ (a_ tr tr) (a_ (a_ tr tr) (a_ (a_ tr tr) (a_ (a_ tr tr) (a_ (a_ (a_ (Eq.refl 8) (a_ (le_ 8 8 rfl) (Eq.refl 0))) tr) (a_ (a_ tr tr) tr)))))))) (a_ (a_ (a_ tr tr) (a_ (a_ tr tr) (a_ (a_ tr (a_ (leB c5) tr)) (a_ tr (a_ tr (a_ tr (a_ (a_ tr tr) tr))))))) (a_ (a_ (a_ tr tr) (a_ (a_ tr tr) tr)) tr))))) tr) (by kernel_rfl) rfl
  · skip
    rcases itb_some h with ⟨c6, h⟩ | ⟨c6, h⟩
    · skip
      obtain rfl := Option.some.inj h
      exact run_ret mixed (L := []) (n := 26) (s := [.reg [], .reg [(1, { v := some (.str (strI (([x_k.a0, x_k.a1, x_k.a2, x_k.a3, x_k.a4, x_k.a5, x_k.a6, x_k.a7] : List Int).take 8))) }), (2, { call := some (strings_TrimRight_v y2, [], []) })], .reg [(1, { call := some (ids_KeyOf_v y4, [], []) })], .reg [(2, { v := some (.bool false) }), (5, { v := some (.bool (!decide (y4.1 = x_k))) }), (6, { v := some (.bool true) })], .reg []])
        (a_ (a_ (a_ (a_ tr tr) (a_ (a_ tr tr) (a_ (a_ tr tr) tr))) (a_ (a_ (a_ (a_ (lei_ 0 0 rfl) (a_ (lei_ 0 8 rfl) (lei_ 8 8 rfl))) tr) (a_ (a_ (arr_ob [x_k.a0, x_k.a1, x_k.a2, x_k.a3, x_k.a4, x_k.a5, x_k.a6, x_k.a7] 8 8 (le_ 8 8 rfl) rfl) (a_ (le_arr [x_k.a0, x_k.a1, x_k.a2, x_k.a3, x_k.a4, x_k.a5, x_k.a6, x_k.a7] 8 8 (le_ 8 8 rfl) rfl) tr)) (a_ (a_ (a_ (strings_TrimRight_tri (strI (([x_k.a0, x_k.a1, x_k.a2, x_k.a3, x_k.a4, x_k.a5, x_k.a6, x_k.a7] : List Int).take 8)) y2 e1) tr) tr) (a_ (a_ tr tr) tr)))) (a_ (a_ (a_ tr tr) (a_ (a_ (a_ (ids_KeyOf_tri y2 y4 e3) tr) tr) (a_ (a_ tr tr) (a_ (a_ tr tr) (a_ (a_ tr tr) (a_ (a_ tr tr) (a_ (a_ (a_ (Eq.refl 8) (a_ (le_ 8 8 rfl) (Eq.refl 0))) tr) (a_ (a_ tr tr) tr)))))))) (a_ (a_ (a_ tr tr) (a_ (a_ tr tr) (a_ (a_ tr (a_ (leB c5) tr)) (a_ (a_ (a_ tr (le_ 8 8 rfl)) tr) (a_ (a_ (a_ tr (le_ 8 8 rfl)) tr) (a_ (a_ tr (a_ (leB (congrArg not ((k_arr8 .u8) y4.1 x_k))) tr)) (a_ (a_ tr (a_ (leB c6) tr)) tr))))))) (a_ (a_ (a_ tr tr) (a_ (a_ tr tr) tr)) tr))))) tr) (by kernel_rfl) rfl
    · skip
      obtain rfl := Option.some.inj h
      exact run_ret mixed (L := []) (n := 27) (s := [.reg [], .reg [(1, { v := some (.str (strI (([x_k.a0, x_k.a1, x_k.a2, x_k.a3, x_k.a4, x_k.a5, x_k.a6, x_k.a7] : List Int).take 8))) }), (2, { call := some (strings_TrimRight_v y2, [], []) })], .reg [(1, { call := some (ids_KeyOf_v y4, [], []) })], .reg [(2, { v := some (.bool false) }), (5, { v := some (.bool (!decide (y4.1 = x_k))) }), (6, { v := some (.bool false) })], .reg []])
        (a_ (a_ (a_ (a_ tr tr) (a_ (a_ tr tr) (a_ (a_ tr tr) tr))) (a_ (a_ (a_ (a_ (lei_ 0 0 rfl) (a_ (lei_ 0 8 rfl) (lei_ 8 8 rfl))) tr) (a_ (a_ (arr_ob [x_k.a0, x_k.a1, x_k.a2, x_k.a3, x_k.a4, x_k.a5, x_k.a6, x_k.a7] 8 8 (le_ 8 8 rfl) rfl) (a_ (le_arr [x_k.a0, x_k.a1, x_k.a2, x_k.a3, x_k.a4, x_k.a5, x_k.a6, x_k.a7] 8 8 (le_ 8 8 rfl) rfl) tr)) (a_ (a_ (a_ (strings_TrimRight_tri (strI (([x_k.a0, x_k.a1, x_k.a2, x_k.a3, x_k.a4, x_k.a5, x_k.a6, x_k.a7] : List Int).take 8)) y2 e1) tr) tr) (a_ (a_ tr tr) tr)))) (a_ (a_ (a_ tr tr) (a_ (a_ (a_ (ids_KeyOf_tri y2 y4 e3) tr) tr) (a_ (a_ tr tr) (a_ (a_ tr tr) (a_ (a_ tr tr) (a_ (a_ tr tr) (a_ (a_ (a_ (Eq.refl 8) (a_ (le_ 8 8 rfl) (Eq.refl 0))) tr) (a_ (a_ tr tr) tr)))))))) (a_ (a_ (a_ tr tr) (a_ (a_ tr tr) (a_ (a_ tr (a_ (leB c5) tr)) (a_ (a_ (a_ tr (le_ 8 8 rfl)) tr) (a_ (a_ (a_ tr (le_ 8 8 rfl)) tr) (a_ (a_ tr (a_ (leB (congrArg not ((k_arr8 .u8) y4.1 x_k))) tr)) (a_ (a_ tr (a_ (leB c6) tr)) tr))))))) (a_ (a_ (a_ tr tr) (a_ (a_ tr tr) (a_ (a_ tr tr) tr))) tr))))) tr) (by kernel_rfl) rfl

theorem ids_Name_tri (x_k : A8 (Int)) (r : (List UInt8) × (Bool)) (h : ids_Name x_k = some r) : FnTri Tryd.prog 27 [.agg [.int .u8 x_k.a0, .int .u8 x_k.a1, .int .u8 x_k.a2, .int .u8 x_k.a3, .int .u8 x_k.a4, .int .u8 x_k.a5, .int .u8 x_k.a6, .int .u8 x_k.a7]] [] (ids_Name_v r) [] := FnTri.none (ids_Name_ok x_k r h) rfl rfl

/-- parrel/votes.Of -/

def votes_Of_v (r : (Int)) : LV := .int .i64 r

def votes_Of_T0 (c : T_api_Config) (set : Int) (x_n : Int) (t10 : Int) : List LV := [.any, .int .u64 set, .any, .any, .any, .int .i64 x_n, .any, .any, .any, .agg [.int .u8 c.f_Votes.a0, .int .u8 c.f_Votes.a1, .int .u8 c.f_Votes.a2, .int .u8 c.f_Votes.a3, .int .u8 c.f_Votes.a4, .int .u8 c.f_Votes.a5, .int .u8 c.f_Votes.a6, .int .u8 c.f_Votes.a7], .int .i64 t10, .any, .any, .any, .any, .any, .any, .any, .any, .any, .any, .any, .any, .any, .any, .any]

def votes_Of_H0 (c : T_api_Config) (set : Int) (x_n : Int) (t10 : Int) : Heap := []

def votes_Of_l0 (c : T_api_Config) (set : Int)  : Nat → (Int) → (Int) → Option ((Int))
  | 0, _, _ => none
  | fuel + 1, x_n, t10 =>
    if ((decide (t10 < 8)) : Bool) then
      if 0 ≤ t10 ∧ t10 < 8 then
      if 0 ≤ t10 then
      votes_Of_l0 c set  fuel (IntKind.wrap .i64 (x_n + (IntKind.wrap .i64 ((IntKind.wrap .i64 (A8.get c.f_Votes t10.toNat)) * (IntKind.wrap .i64 (IntKind.wrap .u64 ((BitVec.ofInt (IntKind.bits .u64) (Int.fdiv set (2 ^ (min (Int.toNat t10) (IntKind.bits .u64)))) &&& BitVec.ofInt (IntKind.bits .u64) 1).toNat : Int))))))) (IntKind.wrap .i64 (t10 + 1))
      else none
      else none
    else
      some x_n

def votes_Of (c : T_api_Config) (set : Int) : Option ((Int)) :=
  votes_Of_l0 c set  big 0 0

theorem votes_Of_l0_ok {w0 : World} {W : Nat → Prop} {μ0 : Emb} (hμ : ∀ c p, μ0 c = some p → c < 0) (c : T_api_Config) (set : Int)  : ∀ (fuel : Nat) (x_n : Int) (t10 : Int) (r : (Int)), votes_Of_l0 c set  fuel x_n t10 = some r → kont Tryd.prog w0 W μ0 (FnPost Tryd.prog Tryd.f46 0 0 (votes_Of_v r) []) (kAt (bodyOf Tryd.f46) 0) none (votes_Of_T0 c set x_n t10) (votes_Of_H0 c set x_n t10) := by
  intro fuel
  induction fuel with
  | zero => intro x_n t10 r h; rw [votes_Of_l0] at h; cases h
  | succ fuel ih =>
    intro x_n t10 r h
    rw [votes_Of_l0] at h
    rcases itb_some h with ⟨cL0_1, h⟩ | ⟨cL0_1, h⟩
    · skip
      obtain ⟨gL0_2, h⟩ := guard_some h
      obtain ⟨gL0_3, h⟩ := guard_some h
      exact run_to mixed hμ (L := []) (n := 26) (s := [.go, .reg [(0, { v := some (.bool true) })], .reg [(1, { v := some (.int .u8 (A8.get c.f_Votes t10.toNat)) })], .reg [], .reg []])
        (a_ (a_ (a_ tr (a_ (leB cL0_1) tr)) tr) (a_ (a_ (a_ tr tr) (a_ (a_ (a_ gL0_2 (ix8lt gL0_2 1 8 rfl rfl)) (a_ (ix8s (cInt .u8) 1 (fun _ => rfl) c.f_Votes t10.toNat (lt8N gL0_2) (le_ 1 1 rfl)) tr)) (a_ (a_ tr tr) (a_ (a_ tr tr) tr)))) (a_ (a_ (a_ tr tr) (a_ (a_ tr tr) (a_ (a_ tr tr) (a_ (a_ tr tr) (a_ (a_ tr tr) (a_ (a_ gL0_3 tr) (a_ (a_ tr tr) (a_ (a_ tr tr) (a_ (a_ tr tr) (a_ (a_ tr tr) (a_ (a_ tr tr) tr))))))))))) (a_ (a_ (a_ tr tr) (a_ (a_ tr tr) tr)) tr)))) (ih _ _ r h) (by kernel_rfl) trivial
    · skip
      obtain rfl := Option.some.inj h
      exact run_ret mixed (L := []) (n := 19) (s := [.go, .reg [(0, { v := some (.bool false) })], .reg []])
        (a_ (a_ (a_ (a_ tr (a_ (leB cL0_1) tr)) tr) (a_ (a_ (a_ tr tr) (a_ (a_ tr tr) tr)) tr)) tr) (by kernel_rfl) rfl

theorem votes_Of_ok (c : T_api_Config) (set : Int) (r : (Int)) (h : votes_Of c set = some r) : ∀ σ, Inj 0 σ → FnTri Tryd.prog 46 (renL σ [v_T_api_Config c, .int .u64 set]) (preOf σ 0 []) ((votes_Of_v r).ren σ) (upOf σ []) := by
  refine fn_of Tryd.func46 (by kernel_rfl) (by kernel_rfl) (by kernel_rfl) trivial (by kernel_rfl) trivial (by kernel_rfl) ?_
  intro w0 W μ0 hμ
  unfold votes_Of at h
  exact run_to mixed hμ (L := []) (n := 21) (s := [.reg [], .reg [], .reg []])
    (a_ (a_ (a_ tr tr) (a_ (a_ tr tr) tr)) (a_ (a_ (a_ tr tr) tr) (a_ (a_ (a_ tr tr) (a_ (a_ (a_ tr (le_ 11 11 rfl)) tr) (a_ (a_ tr tr) tr))) tr))) (votes_Of_l0_ok hμ c set  big _ _ r h) (by kernel_rfl) trivial

theorem votes_Of_tri (c : T_api_Config) (set : Int) (r : (Int)) (h : votes_Of c set = some r) : FnTri Tryd.prog 46 [v_T_api_Config c, .int .u64 set] [] (votes_Of_v r) [] := FnTri.none (votes_Of_ok c set r h) rfl rfl

/-- parrel/votes.Total -/

def votes_Total_v (r : (Int)) : LV := .int .i64 r

def votes_Total (c : T_api_Config) : Option ((Int)) :=
  (votes_Of c 255).bind fun y2 =>
  some y2

theorem votes_Total_ok (c : T_api_Config) (r : (Int)) (h : votes_Total c = some r) : ∀ σ, Inj 0 σ → FnTri Tryd.prog 30 (renL σ [v_T_api_Config c]) (preOf σ 0 []) ((votes_Total_v r).ren σ) (upOf σ []) := by
  refine fn_of Tryd.func30 (by kernel_rfl) (by kernel_rfl) (by kernel_rfl) trivial (by kernel_rfl) trivial (by kernel_rfl) ?_
  intro w0 W μ0 hμ
  unfold votes_Total at h
  obtain ⟨y2, e1, h⟩ := bind_some h
  obtain rfl := Option.some.inj h
  exact run_ret mixed (L := []) (n := 15) (s := [.reg [], .reg [(1, { call := some (votes_Of_v y2, [], []) })]])
    (a_ (a_ (a_ (a_ tr tr) (a_ (a_ tr tr) tr)) (a_ (a_ (a_ (a_ tr (le_ 11 11 rfl)) tr) (a_ (a_ (a_ (votes_Of_tri c 255 y2 e1) tr) tr) (a_ (a_ tr tr) tr))) tr)) tr) (by kernel_rfl) rfl

theorem votes_Total_tri (c : T_api_Config) (r : (Int)) (h : votes_Total c = some r) : FnTri Tryd.prog 30 [v_T_api_Config c] [] (votes_Total_v r) [] := FnTri.none (votes_Total_ok c r h) rfl rfl

/-- slices.Max[[]uint8,uint8] -/

def slices_Max_uint8_uint8_v (r : (Int)) : LV := .int .u8 r

def slices_Max_uint8_uint8_up (x : T_api_Config) (r : (Int)) : Upd := [(0, some (.var (c_T_api_Config x)))]

def slices_Max_uint8_uint8_objs (x : T_api_Config) : List LO := [.var (c_T_api_Config x)]

def slices_Max_uint8_uint8_T0 (x : T_api_Config) (m : Int) (i : Int) : List LV := [.sl 0 0 3 true 8 (some 8), .any, .any, .int .u8 m, .int .i64 i, .any, .any, .any, .any, .any, .any, .any, .any, .any, .any, .any, .any, .any, .any, .any, .any, .any, .any, .any, .any]

def slices_Max_uint8_uint8_H0 (x : T_api_Config) (m : Int) (i : Int) : Heap := [some (.var (c_T_api_Config x))]

def slices_Max_uint8_uint8_l0 (x : T_api_Config)  : Nat → (Int) → (Int) → Option ((Int))
  | 0, _, _ => none
  | fuel + 1, m, i =>
    if ((decide (i < 8)) : Bool) then
      if 0 ≤ i ∧ i < 8 then
      slices_Max_uint8_uint8_l0 x  fuel (if (A8.get x.f_Votes i.toNat) > m then (A8.get x.f_Votes i.toNat) else m) (IntKind.wrap .i64 (i + 1))
      else none
    else
      some m

def slices_Max_uint8_uint8 (x : T_api_Config) : Option ((Int)) :=
  slices_Max_uint8_uint8_l0 x  big x.f_Votes.a0 1

theorem slices_Max_uint8_uint8_l0_ok {w0 : World} {W : Nat → Prop} {μ0 : Emb} (hμ : ∀ c p, μ0 c = some p → c < 1) (x : T_api_Config)  : ∀ (fuel : Nat) (m : Int) (i : Int) (r : (Int)), slices_Max_uint8_uint8_l0 x  fuel m i = some r → kont Tryd.prog w0 W μ0 (FnPost Tryd.prog Tryd.f32 1 1 (slices_Max_uint8_uint8_v r) (slices_Max_uint8_uint8_up x r)) (kAt (bodyOf Tryd.f32) 0) none (slices_Max_uint8_uint8_T0 x m i) (slices_Max_uint8_uint8_H0 x m i) := by
  intro fuel
  induction fuel with
  | zero => intro m i r h; rw [slices_Max_uint8_uint8_l0] at h; cases h
  | succ fuel ih =>
    intro m i r h
    rw [slices_Max_uint8_uint8_l0] at h
    rcases itb_some h with ⟨cL0_1, h⟩ | ⟨cL0_1, h⟩
    · skip
      obtain ⟨gL0_2, h⟩ := guard_some h
      exact run_to mixed hμ (L := []) (n := 23) (s := [.go, .reg [(3, { v := some (.bool true) })], .reg [(4, { v := some (.int .u8 (A8.get x.f_Votes i.toNat)) })], .reg []])
        (a_ (a_ (a_ tr tr) (a_ (a_ tr tr) (a_ (a_ tr tr) (a_ (a_ tr (a_ (leB cL0_1) tr)) tr)))) (a_ (a_ (a_ tr tr) (a_ (a_ tr tr) (a_ (a_ tr tr) (a_ (a_ gL0_2 tr) (a_ (a_ (a_ tr (arrLt (len := 8) gL0_2 3 1 11 rfl rfl)) (a_ (ld8s (cInt .u8) 1 (fun _ => rfl) x.f_Votes [.int .u32 x.f_Epoch, .int .u8 x.f_R, .int .u8 x.f_W] [] 3 rfl i.toNat (lt8N gL0_2) (le_ (0 + 1) 1 rfl)) tr)) (a_ (a_ tr tr) (a_ (a_ tr tr) tr))))))) (a_ (a_ (a_ tr tr) (a_ (a_ tr tr) (a_ (a_ tr tr) tr))) tr))) (ih _ _ r h) (by kernel_rfl) ⟨rfl, trivial⟩
    · skip
      obtain rfl := Option.some.inj h
      exact run_ret mixed (L := []) (n := 19) (s := [.go, .reg [(3, { v := some (.bool false) })], .reg []])
        (a_ (a_ (a_ (a_ tr tr) (a_ (a_ tr tr) (a_ (a_ tr tr) (a_ (a_ tr (a_ (leB cL0_1) tr)) tr)))) (a_ (a_ (a_ tr tr) (a_ (a_ tr tr) tr)) tr)) tr) (by kernel_rfl) rfl

theorem slices_Max_uint8_uint8_ok (x : T_api_Config) (r : (Int)) (h : slices_Max_uint8_uint8 x = some r) : ∀ σ, Inj 1 σ → FnTri Tryd.prog 32 (renL σ [.sl 0 0 3 true 8 (some 8)]) (preOf σ 0 (slices_Max_uint8_uint8_objs x)) ((slices_Max_uint8_uint8_v r).ren σ) (upOf σ (slices_Max_uint8_uint8_up x r)) := by
  refine fn_of Tryd.func32 (by kernel_rfl) (by kernel_rfl) (by kernel_rfl) ⟨rfl, trivial⟩ (by kernel_rfl) ⟨rfl, trivial⟩ (by kernel_rfl) ?_
  intro w0 W μ0 hμ
  unfold slices_Max_uint8_uint8 at h
  exact run_to mixed hμ (L := []) (n := 27) (s := [.reg [], .reg [], .reg [], .reg []])
    (a_ (a_ (a_ tr tr) tr) (a_ (a_ (a_ tr tr) (a_ (a_ tr tr) (a_ (a_ tr tr) tr))) (a_ (a_ (a_ tr tr) (a_ (a_ (a_ (lei_ 0 0 rfl) (lti_ 0 8 rfl)) tr) (a_ (a_ (a_ tr (lt_ 3 11 rfl)) tr) (a_ (a_ tr tr) tr)))) (a_ (a_ (a_ tr tr) tr) tr)))) (slices_Max_uint8_uint8_l0_ok hμ x  big _ _ r h) (by kernel_rfl) ⟨rfl, trivial⟩

/-- parrel/votes.May$1 -/

def votes_May_L1_v (r : (Bool)) : LV := .bool r

def votes_May_L1_up (x_n : Int) (x1 : Int) (r : (Bool)) : Upd := [(0, some (.var [.int .i64 x1]))]

def votes_May_L1_objs (x_n : Int) (x1 : Int) : List LO := [.var [.int .i64 x1]]

def votes_May_L1 (x_n : Int) (x1 : Int) : Option ((Bool)) :=
  if ((decide (1 ≤ x_n)) : Bool) then
    some (decide ((IntKind.wrap .i64 x_n) ≤ x1))
  else
    some false

theorem votes_May_L1_ok (x_n : Int) (x1 : Int) (r : (Bool)) (h : votes_May_L1 x_n x1 = some r) : ∀ σ, Inj 1 σ → FnTri Tryd.prog 31 (renL σ [.int .u8 x_n, .ptr 0 0 0]) (preOf σ 0 (votes_May_L1_objs x_n x1)) ((votes_May_L1_v r).ren σ) (upOf σ (votes_May_L1_up x_n x1 r)) := by
  refine fn_of Tryd.func31 (by kernel_rfl) (by kernel_rfl) (by kernel_rfl) ⟨rfl, trivial⟩ (by kernel_rfl) ⟨rfl, trivial⟩ (by kernel_rfl) ?_
  intro w0 W μ0 hμ
  unfold votes_May_L1 at h
  rcases itb_some h with ⟨c1, h⟩ | ⟨c1, h⟩
  · skip
    obtain rfl := Option.some.inj h
    exact run_ret mixed (L := []) (n := 15) (s := [.reg [], .reg [(2, { v := some (.bool true) })]])
      (a_ (a_ (a_ (a_ tr tr) tr) (a_ (a_ (a_ tr tr) (a_ (a_ tr tr) (a_ (a_ tr (a_ (leB c1) tr)) (a_ (a_ tr tr) (a_ (a_ tr tr) (a_ (a_ (a_ tr (lt_ 0 1 rfl)) tr) (a_ (a_ tr tr) (a_ (a_ tr tr) (a_ (a_ tr tr) tr))))))))) tr)) tr) (by kernel_rfl) rfl
  · skip
    obtain rfl := Option.some.inj h
    exact run_ret mixed (L := []) (n := 15) (s := [.reg [], .reg [(2, { v := some (.bool false) })]])
      (a_ (a_ (a_ (a_ tr tr) tr) (a_ (a_ (a_ tr tr) (a_ (a_ tr tr) (a_ (a_ tr (a_ (leB c1) tr)) (a_ tr (a_ tr (a_ tr (a_ tr (a_ (a_ tr tr) (a_ (a_ tr tr) tr))))))))) tr)) tr) (by kernel_rfl) rfl

/-- parrel/votes.May -/

def votes_May_v (r : (Bool)) : LV := .bool r

def votes_May (c : T_api_Config) : Option ((Bool)) :=
  (votes_Total c).bind fun y2 =>
  if ((decide ((IntKind.wrap .u32 (c.f_Epoch - 1)) < 2147483647)) : Bool) then
    (slices_Max_uint8_uint8 c).bind fun y5 =>
    if ((decide (y5 ≤ 15)) : Bool) then
      (votes_May_L1 c.f_R y2).bind fun y8 =>
      if (y8 : Bool) then
        (votes_May_L1 c.f_W y2).bind fun y11 =>
        if (y11 : Bool) then
          if ((decide (y2 < (IntKind.wrap .i64 ((IntKind.wrap .i64 c.f_R) + (IntKind.wrap .i64 c.f_W))))) : Bool) then
            some (decide (y2 < (IntKind.wrap .i64 (2 * (IntKind.wrap .i64 c.f_W)))))
          else
            some false
        else
          some false
      else
        some false
    else
      some false
  else
    some false

theorem votes_May_ok (c : T_api_Config) (r : (Bool)) (h : votes_May c = some r) : ∀ σ, Inj 0 σ → FnTri Tryd.prog 14 (renL σ [v_T_api_Config c]) (preOf σ 0 []) ((votes_May_v r).ren σ) (upOf σ []) := by
  refine fn_of Tryd.func14 (by kernel_rfl) (by kernel_rfl) (by kernel_rfl) trivial (by kernel_rfl) trivial (by kernel_rfl) ?_
  intro w0 W μ0 hμ
  unfold votes_May at h
  obtain ⟨y2, e1, h⟩ := bind_some h
  rcases itb_some h with ⟨c3, h⟩ | ⟨c3, h⟩
  · skip
    obtain ⟨y5, e4, h⟩ := bind_some h
    rcases itb_some h with ⟨c6, h⟩ | ⟨c6, h⟩
    · skip
      obtain ⟨y8, e7, h⟩ := bind_some h
      rcases itb_some h with ⟨c9, h⟩ | ⟨c9, h⟩
      · skip
        obtain ⟨y11, e10, h⟩ := bind_some h
        rcases itb_some h with ⟨c12, h⟩ | ⟨c12, h⟩
        · skip
          rcases itb_some h with ⟨c13, h⟩ | ⟨c13, h⟩
          · skip
            obtain rfl := Option.some.inj h
            exact run_ret mixed (L := []) (n := 21) (s := [.reg [], .reg [(1, { call := some (votes_Total_v y2, [], []) })], .reg [], .reg [(4, { v := some (.bool true) }), (7, { call := some ((slices_Max_uint8_uint8_v y5).ren (sel [0]), preOf (sel [0]) 0 (slices_Max_uint8_uint8_objs c), upOf (sel [0]) (slices_Max_uint8_uint8_up c y5)) }), (10, { v := some (.bool true) }), (14, { call := some ((votes_May_L1_v y8).ren (sel [1]), preOf (sel [1]) 0 (votes_May_L1_objs c.f_R y2), upOf (sel [1]) (votes_May_L1_up c.f_R y2 y8)) }), (16, { v := some (.bool true) }), (20, { call := some ((votes_May_L1_v y11).ren (sel [1]), preOf (sel [1]) 0 (votes_May_L1_objs c.f_W y2), upOf (sel [1]) (votes_May_L1_up c.f_W y2 y11)) }), (22, { v := some (.bool true) }), (33, { v := some (.bool true) })]])
              (a_ (a_ (a_ (a_ tr tr) (a_ (a_ tr tr) tr)) (a_ (a_ (a_ (a_ tr (le_ 11 11 rfl)) tr) (a_ (a_ (a_ (votes_Total_tri c y2 e1) tr) tr) (a_ (a_ tr tr) (a_ (a_ (a_ (Eq.refl 1) (a_ (le_ 1 1 rfl) (Eq.refl 0))) tr) tr)))) (a_ (a_ (a_ tr tr) (a_ (a_ tr tr) tr)) (a_ (a_ (a_ tr tr) (a_ (a_ (a_ tr (lt_ 0 11 rfl)) tr) (a_ (a_ tr tr) (a_ (a_ tr tr) (a_ (a_ tr (a_ (leB c3) tr)) (a_ (a_ tr tr) (a_ (a_ (a_ (lei_ 0 0 rfl) (a_ (lei_ 0 8 rfl) (lei_ 8 8 rfl))) tr) (a_ (a_ (a_ (slices_Max_uint8_uint8_ok c y5 e4 (sel [0]) (sel_inj rfl rfl)) (a_ (LO.Le.refl (.var (c_T_api_Config c))) tr)) tr) (a_ (a_ tr tr) (a_ (a_ tr tr) (a_ (a_ tr (a_ (leB c6) tr)) (a_ (a_ tr tr) (a_ (a_ tr tr) (a_ (a_ (a_ tr (lt_ 1 11 rfl)) tr) (a_ (a_ (a_ (votes_May_L1_ok c.f_R y2 y8 e7 (sel [1]) (sel_inj rfl rfl)) (a_ (LO.Le.refl (.var [.int .i64 y2])) tr)) tr) (a_ (a_ tr tr) (a_ (a_ tr (a_ (leB c9) tr)) (a_ (a_ tr tr) (a_ (a_ tr tr) (a_ (a_ (a_ tr (lt_ 2 11 rfl)) tr) (a_ (a_ (a_ (votes_May_L1_ok c.f_W y2 y11 e10 (sel [1]) (sel_inj rfl rfl)) (a_ (LO.Le.refl (.var [.int .i64 y2])) tr)) tr) (a_ (a_ tr tr) (a_ (a_ tr (a_ (leB c12) tr)) (a_ (a_ tr tr) (a_ (a_ (a_ tr (lt_ 1 11 rfl)) tr) (a_ (a_ tr tr) (a_ (a_ tr tr) (a_ (a_ (a_ tr (lt_ 2 11 rfl)) tr) (a_ (a_ tr tr) (a_ (a_ tr tr) (a_ (a_ (a_ tr (lt_ 0 1 rfl)) tr) (a_ (a_ tr tr) (a_ (a_ tr tr) (a_ (a_ tr (a_ (leB c13) tr)) (a_ (a_ tr tr) (a_ (a_ (a_ tr (lt_ 2 11 rfl)) tr) (a_ (a_ tr tr) (a_ (a_ tr tr) (a_ (a_ (a_ tr (lt_ 0 1 rfl)) tr) (a_ (a_ tr tr) (a_ (a_ tr tr) (a_ (a_ tr tr) tr)))))))))))))))))))))))))))))))))))))))))) tr)))) tr) (by kernel_rfl) rfl
          · skip
            obtain rfl := Option.some.inj h
            exact run_ret mixed (L := []) (n := 21) (s := [.reg [], .reg [(1, { call := some (votes_Total_v y2, [], []) })], .reg [], .reg [(4, { v := some (.bool true) }), (7, { call := some ((slices_Max_uint8_uint8_v y5).ren (sel [0]), preOf (sel [0]) 0 (slices_Max_uint8_uint8_objs c), upOf (sel [0]) (slices_Max_uint8_uint8_up c y5)) }), (10, { v := some (.bool true) }), (14, { call := some ((votes_May_L1_v y8).ren (sel [1]), preOf (sel [1]) 0 (votes_May_L1_objs c.f_R y2), upOf (sel [1]) (votes_May_L1_up c.f_R y2 y8)) }), (16, { v := some (.bool true) }), (20, { call := some ((votes_May_L1_v y11).ren (sel [1]), preOf (sel [1]) 0 (votes_May_L1_objs c.f_W y2), upOf (sel [1]) (votes_May_L1_up c.f_W y2 y11)) }), (22, { v := some (.bool true) }), (33, { v := some (.bool false) })]])
              (a_ (a_ (a_ (a_ tr tr) (a_ (a_ tr tr) tr)) (a_ (a_ (a_ (a_ tr (le_ 11 11 rfl)) tr) (a_ (a_ (a_ (votes_Total_tri c y2 e1) tr) tr) (a_ (a_ tr tr) (a_ (a_ (a_ (Eq.refl 1) (a_ (le_ 1 1 rfl) (Eq.refl 0))) tr) tr)))) (a_ (a_ (a_ tr tr) (a_ (a_ tr tr) tr)) (a_ (a_ (a_ tr tr) (a_ (a_ (a_ tr (lt_ 0 11 rfl)) tr) (a_ (a_ tr tr) (a_ (a_ tr tr) (a_ (a_ tr (a_ (leB c3) tr)) (a_ (a_ tr tr) (a_ (a_ (a_ (lei_ 0 0 rfl) (a_ (lei_ 0 8 rfl) (lei_ 8 8 rfl))) tr) (a_ (a_ (a_ (slices_Max_uint8_uint8_ok c y5 e4 (sel [0]) (sel_inj rfl rfl)) (a_ (LO.Le.refl (.var (c_T_api_Config c))) tr)) tr) (a_ (a_ tr tr) (a_ (a_ tr tr) (a_ (a_ tr (a_ (leB c6) tr)) (a_ (a_ tr tr) (a_ (a_ tr tr) (a_ (a_ (a_ tr (lt_ 1 11 rfl)) tr) (a_ (a_ (a_ (votes_May_L1_ok c.f_R y2 y8 e7 (sel [1]) (sel_inj rfl rfl)) (a_ (LO.Le.refl (.var [.int .i64 y2])) tr)) tr) (a_ (a_ tr tr) (a_ (a_ tr (a_ (leB c9) tr)) (a_ (a_ tr tr) (a_ (a_ tr tr) (a_ (a_ (a_ tr (lt_ 2 11 rfl)) tr) (a_ (a_ (a_ (votes_May_L1_ok c.f_W y2 y11 e10 (sel [1]) (sel_inj rfl rfl)) (a_ (LO.Le.refl (.var [.int .i64 y2])) tr)) tr) (a_ (a_ tr tr) (a_ (a_ tr (a_ (leB c12) tr)) (a_ (a_ tr tr) (a_ (a_ (a_ tr (lt_ 1 11 rfl)) tr) (a_ (a_ tr tr) (a_ (a_ tr tr) (a_ (a_ (a_ tr (lt_ 2 11 rfl)) tr) (a_ (a_ tr tr) (a_ (a_ tr tr) (a_ (a_ (a_ tr (lt_ 0 1 rfl)) tr) (a_ (a_ tr tr) (a_ (a_ tr tr) (a_ (a_ tr (a_ (leB c13) tr)) (a_ tr (a_ tr (a_ tr (a_ tr (a_ tr (a_ tr (a_ (a_ tr tr) (a_ (a_ tr tr) tr)))))))))))))))))))))))))))))))))))))))))) tr)))) tr) (by kernel_rfl) rfl
        · skip
          obtain rfl := Option.some.inj h
          exact run_ret mixed (L := []) (n := 21) (s := [.reg [], .reg [(1, { call := some (votes_Total_v y2, [], []) })], .reg [], .reg [(4, { v := some (.bool true) }), (7, { call := some ((slices_Max_uint8_uint8_v y5).ren (sel [0]), preOf (sel [0]) 0 (slices_Max_uint8_uint8_objs c), upOf (sel [0]) (slices_Max_uint8_uint8_up c y5)) }), (10, { v := some (.bool true) }), (14, { call := some ((votes_May_L1_v y8).ren (sel [1]), preOf (sel [1]) 0 (votes_May_L1_objs c.f_R y2), upOf (sel [1]) (votes_May_L1_up c.f_R y2 y8)) }), (16, { v := some (.bool true) }), (20, { call := some ((votes_May_L1_v y11).ren (sel [1]), preOf (sel [1]) 0 (votes_May_L1_objs c.f_W y2), upOf (sel [1]) (votes_May_L1_up c.f_W y2 y11)) }), (22, { v := some (.bool false) })]])
            (a_ (a_ (a_ (a_ tr tr) (a_ (a_ tr tr) tr)) (a_ (a_ (a_ (a_ tr (le_ 11 11 rfl)) tr) (a_ (a_ (a_ (votes_Total_tri c y2 e1) tr) tr) (a_ (a_ tr tr) (a_ (a_ (a_ (Eq.refl 1) (a_ (le_ 1 1 rfl) (Eq.refl 0))) tr) tr)))) (a_ (a_ (a_ tr tr) (a_ (a_ tr tr) tr)) (a_ (a_ (a_ tr tr) (a_ (a_ (a_ tr (lt_ 0 11 rfl)) tr) (a_ (a_ tr tr) (a_ (a_ tr tr) (a_ (a_ tr (a_ (leB c3) tr)) (a_ (a_ tr tr) (a_ (a_ (a_ (lei_ 0 0 rfl) (a_ (lei_ 0 8 rfl) (lei_ 8 8 rfl))) tr) (a_ (a_ (a_ (slices_Max_uint8_uint8_ok c y5 e4 (sel [0]) (sel_inj rfl rfl)) (a_ (LO.Le.refl (.var (c_T_api_Config c))) tr)) tr) (a_ (a_ tr tr) (a_ (a_ tr tr) (a_ (a_ tr (a_ (leB c6) tr)) (a_ (a_ tr tr) (a_ (a_ tr tr) (a_ (a_ (a_ tr (lt_ 1 11 rfl)) tr) (a_ (a_ (a_ (votes_May_L1_ok c.f_R y2 y8 e7 (sel [1]) (sel_inj rfl rfl)) (a_ (LO.Le.refl (.var [.int .i64 y2])) tr)) tr) (a_ (a_ tr tr) (a_ (a_ tr (a_ (leB c9) tr)) (a_ (a_ tr tr) (a_ (a_ tr tr) (a_ (a_ (a_ tr (lt_ 2 11 rfl)) tr) (a_ (a_ (a_ (votes_May_L1_ok c.f_W y2 y11 e10 (sel [1]) (sel_inj rfl rfl)) (a_ (LO.Le.refl (.var [.int .i64 y2])) tr)) tr) (a_ (a_ tr tr) (a_ (a_ tr (a_ (leB c12) tr)) (a_ tr (a_ tr (a_ tr (a_ tr (a_ tr (a_ tr (a_ tr (a_ tr (a_ tr (a_ (a_ tr tr) (a_ (a_ tr tr) (a_ tr (a_ tr (a_ tr (a_ tr (a_ tr (a_ tr (a_ (a_ tr tr) (a_ (a_ tr tr) tr)))))))))))))))))))))))))))))))))))))))))) tr)))) tr) (by kernel_rfl) rfl
      · skip
        obtain rfl := Option.some.inj h
        exact run_ret mixed (L := []) (n := 21) (s := [.reg [], .reg [(1, { call := some (votes_Total_v y2, [], []) })], .reg [], .reg [(4, { v := some (.bool true) }), (7, { call := some ((slices_Max_uint8_uint8_v y5).ren (sel [0]), preOf (sel [0]) 0 (slices_Max_uint8_uint8_objs c), upOf (sel [0]) (slices_Max_uint8_uint8_up c y5)) }), (10, { v := some (.bool true) }), (14, { call := some ((votes_May_L1_v y8).ren (sel [1]), preOf (sel [1]) 0 (votes_May_L1_objs c.f_R y2), upOf (sel [1]) (votes_May_L1_up c.f_R y2 y8)) }), (16, { v := some (.bool false) })]])
          (a_ (a_ (a_ (a_ tr tr) (a_ (a_ tr tr) tr)) (a_ (a_ (a_ (a_ tr (le_ 11 11 rfl)) tr) (a_ (a_ (a_ (votes_Total_tri c y2 e1) tr) tr) (a_ (a_ tr tr) (a_ (a_ (a_ (Eq.refl 1) (a_ (le_ 1 1 rfl) (Eq.refl 0))) tr) tr)))) (a_ (a_ (a_ tr tr) (a_ (a_ tr tr) tr)) (a_ (a_ (a_ tr tr) (a_ (a_ (a_ tr (lt_ 0 11 rfl)) tr) (a_ (a_ tr tr) (a_ (a_ tr tr) (a_ (a_ tr (a_ (leB c3) tr)) (a_ (a_ tr tr) (a_ (a_ (a_ (lei_ 0 0 rfl) (a_ (lei_ 0 8 rfl) (lei_ 8 8 rfl))) tr) (a_ (a_ (a_ (slices_Max_uint8_uint8_ok c y5 e4 (sel [0]) (sel_inj rfl rfl)) (a_ (LO.Le.refl (.var (c_T_api_Config c))) tr)) tr) (a_ (a_ tr tr) (a_ (a_ tr tr) (a_ (a_ tr (a_ (leB c6) tr)) (a_ (a_ tr tr) (a_ (a_ tr tr) (a_ (a_ (a_ tr (lt_ 1 11 rfl)) tr) (a_ (a_ (a_ (votes_May_L1_ok c.f_R y2 y8 e7 (sel [1]) (sel_inj rfl rfl)) (a_ (LO.Le.refl (.var [.int .i64 y2])) tr)) tr) (a_ (a_ tr tr) (a_ (a_ tr (a_ (leB c9) tr)) (a_ tr (a_ tr (a_ tr (a_ tr (a_ (a_ tr tr) (a_ (a_ tr tr) (a_ tr (a_ tr (a_ tr (a_ tr (a_ tr (a_ tr (a_ tr (a_ tr (a_ tr (a_ (a_ tr tr) (a_ (a_ tr tr) (a_ tr (a_ tr (a_ tr (a_ tr (a_ tr (a_ tr (a_ (a_ tr tr) (a_ (a_ tr tr) tr)))))))))))))))))))))))))))))))))))))))))) tr)))) tr) (by kernel_rfl) rfl
    · skip
      obtain rfl := Option.some.inj h
      exact run_ret mixed (L := []) (n := 21) (s := [.reg [], .reg [(1, { call := some (votes_Total_v y2, [], []) })], .reg [], .reg [(4, { v := some (.bool true) }), (7, { call := some ((slices_Max_uint8_uint8_v y5).ren (sel [0]), preOf (sel [0]) 0 (slices_Max_uint8_uint8_objs c), upOf (sel [0]) (slices_Max_uint8_uint8_up c y5)) }), (10, { v := some (.bool false) })]])
        (a_ (a_ (a_ (a_ tr tr) (a_ (a_ tr tr) tr)) (a_ (a_ (a_ (a_ tr (le_ 11 11 rfl)) tr) (a_ (a_ (a_ (votes_Total_tri c y2 e1) tr) tr) (a_ (a_ tr tr) (a_ (a_ (a_ (Eq.refl 1) (a_ (le_ 1 1 rfl) (Eq.refl 0))) tr) tr)))) (a_ (a_ (a_ tr tr) (a_ (a_ tr tr) tr)) (a_ (a_ (a_ tr tr) (a_ (a_ (a_ tr (lt_ 0 11 rfl)) tr) (a_ (a_ tr tr) (a_ (a_ tr tr) (a_ (a_ tr (a_ (leB c3) tr)) (a_ (a_ tr tr) (a_ (a_ (a_ (lei_ 0 0 rfl) (a_ (lei_ 0 8 rfl) (lei_ 8 8 rfl))) tr) (a_ (a_ (a_ (slices_Max_uint8_uint8_ok c y5 e4 (sel [0]) (sel_inj rfl rfl)) (a_ (LO.Le.refl (.var (c_T_api_Config c))) tr)) tr) (a_ (a_ tr tr) (a_ (a_ tr tr) (a_ (a_ tr (a_ (leB c6) tr)) (a_ tr (a_ tr (a_ tr (a_ tr (a_ (a_ tr tr) (a_ (a_ tr tr) (a_ tr (a_ tr (a_ tr (a_ tr (a_ (a_ tr tr) (a_ (a_ tr tr) (a_ tr (a_ tr (a_ tr (a_ tr (a_ tr (a_ tr (a_ tr (a_ tr (a_ tr (a_ (a_ tr tr) (a_ (a_ tr tr) (a_ tr (a_ tr (a_ tr (a_ tr (a_ tr (a_ tr (a_ (a_ tr tr) (a_ (a_ tr tr) tr)))))))))))))))))))))))))))))))))))))))))) tr)))) tr) (by kernel_rfl) rfl
  · skip
    obtain rfl := Option.some.inj h
    exact run_ret mixed (L := []) (n := 21) (s := [.reg [], .reg [(1, { call := some (votes_Total_v y2, [], []) })], .reg [], .reg [(4, { v := some (.bool false) })]])
      (a_ (a_ (a_ (a_ tr tr) (a_ (a_ tr tr) tr)) (a_ (a_ (a_ (a_ tr (le_ 11 11 rfl)) tr) (a_ (a_ (a_ (votes_Total_tri c y2 e1) tr) tr) (a_ (a_ tr tr) (a_ (a_ (a_ (Eq.refl 1) (a_ (le_ 1 1 rfl) (Eq.refl 0))) tr) tr)))) (a_ (a_ (a_ tr tr) (a_ (a_ tr tr) tr)) (a_ (a_ (a_ tr tr) (a_ (a_ (a_ tr (lt_ 0 11 rfl)) tr) (a_ (a_ tr tr) (a_ (a_ tr tr) (a_ (a_ tr (a_ (leB c3) tr)) (a_ tr (a_ tr (a_ tr (a_ tr (a_ (a_ tr tr) (a_ (a_ tr tr) (a_ tr (a_ tr (a_ tr (a_ tr (a_ (a_ tr tr) (a_ (a_ tr tr) (a_ tr (a_ tr (a_ tr (a_ tr (a_ (a_ tr tr) (a_ (a_ tr tr) (a_ tr (a_ tr (a_ tr (a_ tr (a_ tr (a_ tr (a_ tr (a_ tr (a_ tr (a_ (a_ tr tr) (a_ (a_ tr tr) (a_ tr (a_ tr (a_ tr (a_ tr (a_ tr (a_ tr (a_ (a_ tr tr) (a_ (a_ tr tr) tr)))))))))))))))))))))))))))))))))))))))))) tr)))) tr) (by kernel_rfl) rfl

theorem votes_May_tri (c : T_api_Config) (r : (Bool)) (h : votes_May c = some r) : FnTri Tryd.prog 14 [v_T_api_Config c] [] (votes_May_v r) [] := FnTri.none (votes_May_ok c r h) rfl rfl

/-- parrel/msg.ItemMay -/

def msg_ItemMay_v (r : (Bool)) : LV := .bool r

def msg_ItemMay (i : T_api_Item) : Option ((Bool)) :=
  if ((decide (i.f_Version ≤ 2147483647)) : Bool) then
    if ((decide (((i.f_Value).length : Int) ≤ 64)) : Bool) then
      (votes_May i.f_Conf).bind fun y4 =>
      some y4
    else
      some false
  else
    some false

theorem msg_ItemMay_ok (i : T_api_Item) (r : (Bool)) (h : msg_ItemMay i = some r) : ∀ σ, Inj 0 σ → FnTri Tryd.prog 28 (renL σ [v_T_api_Item i]) (preOf σ 0 []) ((msg_ItemMay_v r).ren σ) (upOf σ []) := by
  refine fn_of Tryd.func28 (by kernel_rfl) (by kernel_rfl) (by kernel_rfl) trivial (by kernel_rfl) trivial (by kernel_rfl) ?_
  intro w0 W μ0 hμ
  unfold msg_ItemMay at h
  rcases itb_some h with ⟨c1, h⟩ | ⟨c1, h⟩
  · skip
    rcases itb_some h with ⟨c2, h⟩ | ⟨c2, h⟩
    · skip
      obtain ⟨y4, e3, h⟩ := bind_some h
      obtain rfl := Option.some.inj h
      exact run_ret mixed (L := []) (n := 15) (s := [.reg [], .reg [(3, { v := some (.bool true) }), (9, { v := some (.bool true) }), (12, { call := some (votes_May_v y4, [], []) })]])
        (a_ (a_ (a_ (a_ tr tr) (a_ (a_ tr tr) tr)) (a_ (a_ (a_ tr tr) (a_ (a_ (a_ tr (lt_ 0 13 rfl)) tr) (a_ (a_ tr tr) (a_ (a_ tr (a_ (leB c1) tr)) (a_ (a_ tr tr) (a_ (a_ (a_ tr (lt_ 1 13 rfl)) tr) (a_ (a_ tr tr) (a_ (a_ tr tr) (a_ (a_ tr tr) (a_ (a_ tr (a_ (leB c2) tr)) (a_ (a_ tr tr) (a_ (a_ (a_ tr (le_ 13 13 rfl)) tr) (a_ (a_ (a_ (votes_May_tri i.f_Conf y4 e3) tr) tr) (a_ (a_ tr tr) (a_ (a_ tr tr) tr))))))))))))))) tr)) tr) (by kernel_rfl) rfl
    · skip
      obtain rfl := Option.some.inj h
      exact run_ret mixed (L := []) (n := 15) (s := [.reg [], .reg [(3, { v := some (.bool true) }), (9, { v := some (.bool false) })]])
        (a_ (a_ (a_ (a_ tr tr) (a_ (a_ tr tr) tr)) (a_ (a_ (a_ tr tr) (a_ (a_ (a_ tr (lt_ 0 13 rfl)) tr) (a_ (a_ tr tr) (a_ (a_ tr (a_ (leB c1) tr)) (a_ (a_ tr tr) (a_ (a_ (a_ tr (lt_ 1 13 rfl)) tr) (a_ (a_ tr tr) (a_ (a_ tr tr) (a_ (a_ tr tr) (a_ (a_ tr (a_ (leB c2) tr)) (a_ tr (a_ tr (a_ tr (a_ (a_ tr tr) (a_ (a_ tr tr) tr))))))))))))))) tr)) tr) (by kernel_rfl) rfl
  · skip
    obtain rfl := Option.some.inj h
    exact run_ret mixed (L := []) (n := 15) (s := [.reg [], .reg [(3, { v := some (.bool false) })]])
      (a_ (a_ (a_ (a_ tr tr) (a_ (a_ tr tr) tr)) (a_ (a_ (a_ tr tr) (a_ (a_ (a_ tr (lt_ 0 13 rfl)) tr) (a_ (a_ tr tr) (a_ (a_ tr (a_ (leB c1) tr)) (a_ tr (a_ tr (a_ tr (a_ tr (a_ (a_ tr tr) (a_ (a_ tr tr) (a_ tr (a_ tr (a_ tr (a_ (a_ tr tr) (a_ (a_ tr tr) tr))))))))))))))) tr)) tr) (by kernel_rfl) rfl

theorem msg_ItemMay_tri (i : T_api_Item) (r : (Bool)) (h : msg_ItemMay i = some r) : FnTri Tryd.prog 28 [v_T_api_Item i] [] (msg_ItemMay_v r) [] := FnTri.none (msg_ItemMay_ok i r h) rfl rfl

/-- parrel/conf.New -/

def conf_New_vA (r : Unit) : LV := .tup [.nilptr, .int .i64 1]

def conf_New_vB (r : (List (A8 (Int) × T_api_Config))) : LV := .tup [.ptr 0 0 0, .int .i64 0]

def conf_New_upB (first : List (T_api_Write)) (r : (List (A8 (Int) × T_api_Config))) : Upd := [(0, some (.var [.map 1])), (1, some (.map true [.int .u8, .int .u8, .int .u8, .int .u8, .int .u8, .int .u8, .int .u8, .int .u8] (encM (fun z_ : A8 (Int) => LV.agg [.int .u8 z_.a0, .int .u8 z_.a1, .int .u8 z_.a2, .int .u8 z_.a3, .int .u8 z_.a4, .int .u8 z_.a5, .int .u8 z_.a6, .int .u8 z_.a7]) v_T_api_Config r)))]

def conf_New_T0 (first : List (T_api_Write)) (t14 : Int) (m : List (A8 (Int) × T_api_Config)) : List LV := [.any, .any, .any, .any, .map 0, .any, .any, .any, .any, .any, .any, .any, .ds 21 (first).length (rowF c_T_api_Write default first), .int .i64 ((first).length : Int), .int .i64 t14, .any, .any, .any, .any, .any, .any, .any, .any, .any, .any, .any, .any, .any, .any, .any, .any, .any, .any, .any, .any, .any, .any, .any, .any, .any, .any, .any, .any, .any, .any, .any, .any, .any, .any, .any, .any, .any]

def conf_New_H0 (first : List (T_api_Write)) (t14 : Int) (m : List (A8 (Int) × T_api_Config)) : Heap := [some (.map true [.int .u8, .int .u8, .int .u8, .int .u8, .int .u8, .int .u8, .int .u8, .int .u8] (encM (fun z_ : A8 (Int) => LV.agg [.int .u8 z_.a0, .int .u8 z_.a1, .int .u8 z_.a2, .int .u8 z_.a3, .int .u8 z_.a4, .int .u8 z_.a5, .int .u8 z_.a6, .int .u8 z_.a7]) v_T_api_Config m))]

def conf_New_l0 (first : List (T_api_Write))  : Nat → (Int) → (List (A8 (Int) × T_api_Config)) → Option (Bool × (Unit) × ((List (A8 (Int) × T_api_Config))))
  | 0, _, _ => none
  | fuel + 1, t14, m =>
    if ((decide (t14 < ((first).length : Int))) : Bool) then
      if 0 ≤ t14 ∧ t14 < (((first).length : Nat) : Int) then
      (ids_Name (first.getD t14.toNat default).f_Key).bind fun yL0_4 =>
      if ((!yL0_4.2) : Bool) then
        some (true, (), default)
      else
        if (((mget m (first.getD t14.toNat default).f_Key).isSome) : Bool) then
          some (true, (), default)
        else
          (msg_ItemMay (first.getD t14.toNat default).f_Item).bind fun yL0_8 =>
          if ((!yL0_8) : Bool) then
            some (true, (), default)
          else
            conf_New_l0 first  fuel (IntKind.wrap .i64 (t14 + 1)) (mset m (first.getD t14.toNat default).f_Key (first.getD t14.toNat default).f_Item.f_Conf)
      else none
    else
      some (false, default, m)

def conf_New (first : List (T_api_Write)) : Option (Bool × (Unit) × ((List (A8 (Int) × T_api_Config)))) :=
  conf_New_l0 first  big 0 ([] : List (A8 (Int) × T_api_Config))

theorem conf_New_l0_okA {w0 : World} {W : Nat → Prop} {μ0 : Emb} (hμ : ∀ c p, μ0 c = some p → c < 0) (first : List (T_api_Write))  : ∀ (fuel : Nat) (t14 : Int) (m : List (A8 (Int) × T_api_Config)) (r : Unit) (r_ : (List (A8 (Int) × T_api_Config))), conf_New_l0 first  fuel t14 m = some (true, r, r_) → kont Tryd.prog w0 W μ0 (FnPost Tryd.prog Tryd.f10 0 0 (conf_New_vA r) []) (kAt (bodyOf Tryd.f10) 0) none (conf_New_T0 first t14 m) (conf_New_H0 first t14 m) := by
  intro fuel
  induction fuel with
  | zero => intro t14 m r r_ h; rw [conf_New_l0] at h; cases h
  | succ fuel ih =>
    intro t14 m r r_ h
    rw [conf_New_l0] at h
    rcases itb_some h with ⟨cL0_1, h⟩ | ⟨cL0_1, h⟩
    · skip
      obtain ⟨gL0_2, h⟩ := guard_some h
      obtain ⟨yL0_4, eL0_3, h⟩ := bind_some h
      rcases itb_some h with ⟨cL0_5, h⟩ | ⟨cL0_5, h⟩
      · skip
        have h := congrArg (fun z => z.2.1) (Option.some.inj h)
        dsimp only at h
        subst h
        exact run_ret mixed (L := []) (n := 35) (s := [.go, .reg [(0, { v := some (.bool true) })], .reg [], .reg [(2, { call := some (ids_Name_v yL0_4, [], []) })], .reg [(3, { look := ((mget m (first.getD t14.toNat default).f_Key).map v_T_api_Config), v := some (.tup [v_T_api_Config ((mget m (first.getD t14.toNat default).f_Key).getD default), .bool ((mget m (first.getD t14.toNat default).f_Key).isSome)]) })], .reg [(2, { v := some (.bool true) })], .reg []])
          (a_ (a_ (a_ (a_ tr (a_ (leB cL0_1) tr)) tr) (a_ (a_ (a_ (a_ (Eq.refl 21) gL0_2) tr) (a_ (a_ (le_ 21 21 rfl) tr) (a_ (a_ tr tr) (a_ (a_ (a_ (Eq.refl 21) (a_ (le_ 21 21 rfl) (Eq.refl 0))) tr) tr)))) (a_ (a_ (a_ tr tr) (a_ (a_ (a_ tr (le_ 8 21 rfl)) tr) (a_ (a_ (a_ (ids_Name_tri (first.getD t14.toNat default).f_Key yL0_4 eL0_3) tr) tr) (a_ (a_ tr tr) (a_ (a_ tr tr) (a_ (a_ tr tr) (a_ (a_ tr tr) (a_ (a_ tr tr) tr)))))))) (a_ (a_ (a_ tr tr) (a_ (a_ tr tr) (a_ (a_ (a_ tr (le_ 8 21 rfl)) tr) (a_ (a_ (a_ (Eq.refl true) (findE_enc (fun z_ : A8 (Int) => LV.agg [.int .u8 z_.a0, .int .u8 z_.a1, .int .u8 z_.a2, .int .u8 z_.a3, .int .u8 z_.a4, .int .u8 z_.a5, .int .u8 z_.a6, .int .u8 z_.a7]) v_T_api_Config (k_arr8 .u8) m (first.getD t14.toNat default).f_Key)) (a_ (le_lookok v_T_api_Config (mget m (first.getD t14.toNat default).f_Key) default) tr)) (a_ (a_ tr tr) (a_ (a_ tr tr) (a_ (a_ tr tr) (a_ (a_ tr tr) (a_ (a_ (a_ (Eq.refl 11) (a_ (le_ 11 11 rfl) (Eq.refl 0))) tr) (a_ (a_ tr tr) tr)))))))))) (a_ (a_ (a_ tr tr) (a_ (a_ tr tr) (a_ (a_ tr (a_ (leB cL0_5) tr)) (a_ tr (a_ (a_ tr tr) (a_ (a_ tr tr) (a_ tr (a_ tr (a_ tr (a_ tr (a_ (a_ tr tr) tr))))))))))) (a_ (a_ (a_ tr tr) (a_ (a_ tr tr) tr)) tr)))))) tr) (by kernel_rfl) rfl
      · skip
        rcases itb_some h with ⟨cL0_6, h⟩ | ⟨cL0_6, h⟩
        · skip
          have h := congrArg (fun z => z.2.1) (Option.some.inj h)
          dsimp only at h
          subst h
          exact run_ret mixed (L := []) (n := 35) (s := [.go, .reg [(0, { v := some (.bool true) })], .reg [], .reg [(2, { call := some (ids_Name_v yL0_4, [], []) })], .reg [(3, { look := ((mget m (first.getD t14.toNat default).f_Key).map v_T_api_Config), v := some (.tup [v_T_api_Config ((mget m (first.getD t14.toNat default).f_Key).getD default), .bool ((mget m (first.getD t14.toNat default).f_Key).isSome)]) })], .reg [(2, { v := some (.bool false) }), (5, { v := some (.bool true) })], .reg []])
            (a_ (a_ (a_ (a_ tr (a_ (leB cL0_1) tr)) tr) (a_ (a_ (a_ (a_ (Eq.refl 21) gL0_2) tr) (a_ (a_ (le_ 21 21 rfl) tr) (a_ (a_ tr tr) (a_ (a_ (a_ (Eq.refl 21) (a_ (le_ 21 21 rfl) (Eq.refl 0))) tr) tr)))) (a_ (a_ (a_ tr tr) (a_ (a_ (a_ tr (le_ 8 21 rfl)) tr) (a_ (a_ (a_ (ids_Name_tri (first.getD t14.toNat default).f_Key yL0_4 eL0_3) tr) tr) (a_ (a_ tr tr) (a_ (a_ tr tr) (a_ (a_ tr tr) (a_ (a_ tr tr) (a_ (a_ tr tr) tr)))))))) (a_ (a_ (a_ tr tr) (a_ (a_ tr tr) (a_ (a_ (a_ tr (le_ 8 21 rfl)) tr) (a_ (a_ (a_ (Eq.refl true) (findE_enc (fun z_ : A8 (Int) => LV.agg [.int .u8 z_.a0, .int .u8 z_.a1, .int .u8 z_.a2, .int .u8 z_.a3, .int .u8 z_.a4, .int .u8 z_.a5, .int .u8 z_.a6, .int .u8 z_.a7]) v_T_api_Config (k_arr8 .u8) m (first.getD t14.toNat default).f_Key)) (a_ (le_lookok v_T_api_Config (mget m (first.getD t14.toNat default).f_Key) default) tr)) (a_ (a_ tr tr) (a_ (a_ tr tr) (a_ (a_ tr tr) (a_ (a_ tr tr) (a_ (a_ (a_ (Eq.refl 11) (a_ (le_ 11 11 rfl) (Eq.refl 0))) tr) (a_ (a_ tr tr) tr)))))))))) (a_ (a_ (a_ tr tr) (a_ (a_ tr tr) (a_ (a_ tr (a_ (leB cL0_5) tr)) (a_ (a_ tr tr) (a_ (a_ tr tr) (a_ (a_ tr (a_ (leB cL0_6) tr)) (a_ tr (a_ tr (a_ tr (a_ tr (a_ (a_ tr tr) tr))))))))))) (a_ (a_ (a_ tr tr) (a_ (a_ tr tr) tr)) tr)))))) tr) (by kernel_rfl) rfl
        · skip
          obtain ⟨yL0_8, eL0_7, h⟩ := bind_some h
          rcases itb_some h with ⟨cL0_9, h⟩ | ⟨cL0_9, h⟩
          · skip
            have h := congrArg (fun z => z.2.1) (Option.some.inj h)
            dsimp only at h
            subst h
            exact run_ret mixed (L := []) (n := 35) (s := [.go, .reg [(0, { v := some (.bool true) })], .reg [], .reg [(2, { call := some (ids_Name_v yL0_4, [], []) })], .reg [(3, { look := ((mget m (first.getD t14.toNat default).f_Key).map v_T_api_Config), v := some (.tup [v_T_api_Config ((mget m (first.getD t14.toNat default).f_Key).getD default), .bool ((mget m (first.getD t14.toNat default).f_Key).isSome)]) })], .reg [(2, { v := some (.bool false) }), (5, { v := some (.bool false) }), (8, { call := some (msg_ItemMay_v yL0_8, [], []) }), (10, { v := some (.bool true) })], .reg []])
              (a_ (a_ (a_ (a_ tr (a_ (leB cL0_1) tr)) tr) (a_ (a_ (a_ (a_ (Eq.refl 21) gL0_2) tr) (a_ (a_ (le_ 21 21 rfl) tr) (a_ (a_ tr tr) (a_ (a_ (a_ (Eq.refl 21) (a_ (le_ 21 21 rfl) (Eq.refl 0))) tr) tr)))) (a_ (a_ (a_ tr tr) (a_ (a_ (a_ tr (le_ 8 21 rfl)) tr) (a_ (a_ (a_ (ids_Name_tri (first.getD t14.toNat default).f_Key yL0_4 eL0_3) tr) tr) (a_ (a_ tr tr) (a_ (a_ tr tr) (a_ (a_ tr tr) (a_ (a_ tr tr) (a_ (a_ tr tr) tr)))))))) (a_ (a_ (a_ tr tr) (a_ (a_ tr tr) (a_ (a_ (a_ tr (le_ 8 21 rfl)) tr) (a_ (a_ (a_ (Eq.refl true) (findE_enc (fun z_ : A8 (Int) => LV.agg [.int .u8 z_.a0, .int .u8 z_.a1, .int .u8 z_.a2, .int .u8 z_.a3, .int .u8 z_.a4, .int .u8 z_.a5, .int .u8 z_.a6, .int .u8 z_.a7]) v_T_api_Config (k_arr8 .u8) m (first.getD t14.toNat default).f_Key)) (a_ (le_lookok v_T_api_Config (mget m (first.getD t14.toNat default).f_Key) default) tr)) (a_ (a_ tr tr) (a_ (a_ tr tr) (a_ (a_ tr tr) (a_ (a_ tr tr) (a_ (a_ (a_ (Eq.refl 11) (a_ (le_ 11 11 rfl) (Eq.refl 0))) tr) (a_ (a_ tr tr) tr)))))))))) (a_ (a_ (a_ tr tr) (a_ (a_ tr tr) (a_ (a_ tr (a_ (leB cL0_5) tr)) (a_ (a_ tr tr) (a_ (a_ tr tr) (a_ (a_ tr (a_ (leB cL0_6) tr)) (a_ (a_ tr tr) (a_ (a_ (a_ tr (le_ 21 21 rfl)) tr) (a_ (a_ (a_ (msg_ItemMay_tri (first.getD t14.toNat default).f_Item yL0_8 eL0_7) tr) tr) (a_ (a_ tr tr) (a_ (a_ tr (a_ (leB cL0_9) tr)) tr))))))))))) (a_ (a_ (a_ tr tr) (a_ (a_ tr tr) tr)) tr)))))) tr) (by kernel_rfl) rfl
          · skip
            exact run_to mixed hμ (L := [0]) (n := 38) (s := [.go, .reg [(0, { v := some (.bool true) })], .reg [], .reg [(2, { call := some (ids_Name_v yL0_4, [], []) })], .reg [(3, { look := ((mget m (first.getD t14.toNat default).f_Key).map v_T_api_Config), v := some (.tup [v_T_api_Config ((mget m (first.getD t14.toNat default).f_Key).getD default), .bool ((mget m (first.getD t14.toNat default).f_Key).isSome)]) })], .reg [(2, { v := some (.bool false) }), (5, { v := some (.bool false) }), (8, { call := some (msg_ItemMay_v yL0_8, [], []) }), (10, { v := some (.bool false) })], .reg [(6, { os := [(0, .map true [.int .u8, .int .u8, .int .u8, .int .u8, .int .u8, .int .u8, .int .u8, .int .u8] (encM (fun z_ : A8 (Int) => LV.agg [.int .u8 z_.a0, .int .u8 z_.a1, .int .u8 z_.a2, .int .u8 z_.a3, .int .u8 z_.a4, .int .u8 z_.a5, .int .u8 z_.a6, .int .u8 z_.a7]) v_T_api_Config (mset m (first.getD t14.toNat default).f_Key (first.getD t14.toNat default).f_Item.f_Conf)))] })], .reg []])
              (a_ (a_ (a_ tr (a_ (leB cL0_1) tr)) tr) (a_ (a_ (a_ (a_ (Eq.refl 21) gL0_2) tr) (a_ (a_ (le_ 21 21 rfl) tr) (a_ (a_ tr tr) (a_ (a_ (a_ (Eq.refl 21) (a_ (le_ 21 21 rfl) (Eq.refl 0))) tr) tr)))) (a_ (a_ (a_ tr tr) (a_ (a_ (a_ tr (le_ 8 21 rfl)) tr) (a_ (a_ (a_ (ids_Name_tri (first.getD t14.toNat default).f_Key yL0_4 eL0_3) tr) tr) (a_ (a_ tr tr) (a_ (a_ tr tr) (a_ (a_ tr tr) (a_ (a_ tr tr) (a_ (a_ tr tr) tr)))))))) (a_ (a_ (a_ tr tr) (a_ (a_ tr tr) (a_ (a_ (a_ tr (le_ 8 21 rfl)) tr) (a_ (a_ (a_ (Eq.refl true) (findE_enc (fun z_ : A8 (Int) => LV.agg [.int .u8 z_.a0, .int .u8 z_.a1, .int .u8 z_.a2, .int .u8 z_.a3, .int .u8 z_.a4, .int .u8 z_.a5, .int .u8 z_.a6, .int .u8 z_.a7]) v_T_api_Config (k_arr8 .u8) m (first.getD t14.toNat default).f_Key)) (a_ (le_lookok v_T_api_Config (mget m (first.getD t14.toNat default).f_Key) default) tr)) (a_ (a_ tr tr) (a_ (a_ tr tr) (a_ (a_ tr tr) (a_ (a_ tr tr) (a_ (a_ (a_ (Eq.refl 11) (a_ (le_ 11 11 rfl) (Eq.refl 0))) tr) (a_ (a_ tr tr) tr)))))))))) (a_ (a_ (a_ tr tr) (a_ (a_ tr tr) (a_ (a_ tr (a_ (leB cL0_5) tr)) (a_ (a_ tr tr) (a_ (a_ tr tr) (a_ (a_ tr (a_ (leB cL0_6) tr)) (a_ (a_ tr tr) (a_ (a_ (a_ tr (le_ 21 21 rfl)) tr) (a_ (a_ (a_ (msg_ItemMay_tri (first.getD t14.toNat default).f_Item yL0_8 eL0_7) tr) tr) (a_ (a_ tr tr) (a_ (a_ tr (a_ (leB cL0_9) tr)) tr))))))))))) (a_ (a_ (a_ tr tr) (a_ (a_ tr tr) (a_ (a_ (a_ tr (le_ 8 21 rfl)) tr) (a_ (a_ tr tr) (a_ (a_ tr tr) (a_ (a_ (a_ tr (le_ 21 21 rfl)) tr) (a_ (a_ (a_ (Eq.refl true) (Eq.refl true)) (a_ (sub_upd (fun z_ : A8 (Int) => LV.agg [.int .u8 z_.a0, .int .u8 z_.a1, .int .u8 z_.a2, .int .u8 z_.a3, .int .u8 z_.a4, .int .u8 z_.a5, .int .u8 z_.a6, .int .u8 z_.a7]) v_T_api_Config (k_arr8 .u8) true [.int .u8, .int .u8, .int .u8, .int .u8, .int .u8, .int .u8, .int .u8, .int .u8] m (first.getD t14.toNat default).f_Key (first.getD t14.toNat default).f_Item.f_Conf) tr)) tr))))))) (a_ (a_ (a_ tr tr) (a_ (a_ tr tr) tr)) tr))))))) (ih _ _ r r_ h) (by kernel_rfl) ⟨trivial, trivial⟩
    · skip
      cases h

theorem conf_New_okA (first : List (T_api_Write)) (r : Unit) (r_ : (List (A8 (Int) × T_api_Config))) (h : conf_New first = some (true, r, r_)) : ∀ σ, Inj 0 σ → FnTri Tryd.prog 10 (renL σ [.ds 21 (first).length (rowF c_T_api_Write default first)]) (preOf σ 0 []) ((conf_New_vA r).ren σ) (upOf σ []) := by
  refine fn_of Tryd.func10 (by kernel_rfl) (by kernel_rfl) (by kernel_rfl) trivial (by kernel_rfl) trivial (by kernel_rfl) ?_
  intro w0 W μ0 hμ
  unfold conf_New at h
  exact run_to mixed hμ (L := [0]) (n := 21) (s := [.reg [], .reg [], .reg []])
    (a_ (a_ (a_ tr tr) (a_ (a_ tr tr) tr)) (a_ (a_ (a_ tr tr) (a_ (a_ tr tr) tr)) (a_ (a_ (a_ tr tr) (a_ (a_ tr tr) (a_ (a_ tr tr) tr))) tr))) (conf_New_l0_okA hμ first  big _ _ r r_ h) (by kernel_rfl) ⟨trivial, trivial⟩

theorem conf_New_triA (first : List (T_api_Write)) (r : Unit) (r_ : (List (A8 (Int) × T_api_Config))) (h : conf_New first = some (true, r, r_)) : FnTri Tryd.prog 10 [.ds 21 (first).length (rowF c_T_api_Write default first)] [] (conf_New_vA r) [] := FnTri.none (conf_New_okA first r r_ h) rfl rfl

theorem conf_New_l0_okB {w0 : World} {W : Nat → Prop} {μ0 : Emb} (hμ : ∀ c p, μ0 c = some p → c < 0) (first : List (T_api_Write))  : ∀ (fuel : Nat) (t14 : Int) (m : List (A8 (Int) × T_api_Config)) (r : (List (A8 (Int) × T_api_Config))) (r_ : Unit), conf_New_l0 first  fuel t14 m = some (false, r_, r) → kont Tryd.prog w0 W μ0 (FnPost Tryd.prog Tryd.f10 0 2 (conf_New_vB r) (conf_New_upB first r)) (kAt (bodyOf Tryd.f10) 0) none (conf_New_T0 first t14 m) (conf_New_H0 first t14 m) := by
  intro fuel
  induction fuel with
  | zero => intro t14 m r r_ h; rw [conf_New_l0] at h; cases h
  | succ fuel ih =>
    intro t14 m r r_ h
    rw [conf_New_l0] at h
    rcases itb_some h with ⟨cL0_1, h⟩ | ⟨cL0_1, h⟩
    · skip
      obtain ⟨gL0_2, h⟩ := guard_some h
      obtain ⟨yL0_4, eL0_3, h⟩ := bind_some h
      rcases itb_some h with ⟨cL0_5, h⟩ | ⟨cL0_5, h⟩
      · skip
        cases h
      · skip
        rcases itb_some h with ⟨cL0_6, h⟩ | ⟨cL0_6, h⟩
        · skip
          cases h
        · skip
          obtain ⟨yL0_8, eL0_7, h⟩ := bind_some h
          rcases itb_some h with ⟨cL0_9, h⟩ | ⟨cL0_9, h⟩
          · skip
            cases h
          · skip
            exact run_to mixed hμ (L := [0]) (n := 38) (s := [.go, .reg [(0, { v := some (.bool true) })], .reg [], .reg [(2, { call := some (ids_Name_v yL0_4, [], []) })], .reg [(3, { look := ((mget m (first.getD t14.toNat default).f_Key).map v_T_api_Config), v := some (.tup [v_T_api_Config ((mget m (first.getD t14.toNat default).f_Key).getD default), .bool ((mget m (first.getD t14.toNat default).f_Key).isSome)]) })], .reg [(2, { v := some (.bool false) }), (5, { v := some (.bool false) }), (8, { call := some (msg_ItemMay_v yL0_8, [], []) }), (10, { v := some (.bool false) })], .reg [(6, { os := [(0, .map true [.int .u8, .int .u8, .int .u8, .int .u8, .int .u8, .int .u8, .int .u8, .int .u8] (encM (fun z_ : A8 (Int) => LV.agg [.int .u8 z_.a0, .int .u8 z_.a1, .int .u8 z_.a2, .int .u8 z_.a3, .int .u8 z_.a4, .int .u8 z_.a5, .int .u8 z_.a6, .int .u8 z_.a7]) v_T_api_Config (mset m (first.getD t14.toNat default).f_Key (first.getD t14.toNat default).f_Item.f_Conf)))] })], .reg []])
              (a_ (a_ (a_ tr (a_ (leB cL0_1) tr)) tr) (a_ (a_ (a_ (a_ (Eq.refl 21) gL0_2) tr) (a_ (a_ (le_ 21 21 rfl) tr) (a_ (a_ tr tr) (a_ (a_ (a_ (Eq.refl 21) (a_ (le_ 21 21 rfl) (Eq.refl 0))) tr) tr)))) (a_ (a_ (a_ tr tr) (a_ (a_ (a_ tr (le_ 8 21 rfl)) tr) (a_ (a_ (a_ (ids_Name_tri (first.getD t14.toNat default).f_Key yL0_4 eL0_3) tr) tr) (a_ (a_ tr tr) (a_ (a_ tr tr) (a_ (a_ tr tr) (a_ (a_ tr tr) (a_ (a_ tr tr) tr)))))))) (a_ (a_ (a_ tr tr) (a_ (a_ tr tr) (a_ (a_ (a_ tr (le_ 8 21 rfl)) tr) (a_ (a_ (a_ (Eq.refl true) (findE_enc (fun z_ : A8 (Int) => LV.agg [.int .u8 z_.a0, .int .u8 z_.a1, .int .u8 z_.a2, .int .u8 z_.a3, .int .u8 z_.a4, .int .u8 z_.a5, .int .u8 z_.a6, .int .u8 z_.a7]) v_T_api_Config (k_arr8 .u8) m (first.getD t14.toNat default).f_Key)) (a_ (le_lookok v_T_api_Config (mget m (first.getD t14.toNat default).f_Key) default) tr)) (a_ (a_ tr tr) (a_ (a_ tr tr) (a_ (a_ tr tr) (a_ (a_ tr tr) (a_ (a_ (a_ (Eq.refl 11) (a_ (le_ 11 11 rfl) (Eq.refl 0))) tr) (a_ (a_ tr tr) tr)))))))))) (a_ (a_ (a_ tr tr) (a_ (a_ tr tr) (a_ (a_ tr (a_ (leB cL0_5) tr)) (a_ (a_ tr tr) (a_ (a_ tr tr) (a_ (a_ tr (a_ (leB cL0_6) tr)) (a_ (a_ tr tr) (a_ (a_ (a_ tr (le_ 21 21 rfl)) tr) (a_ (a_ (a_ (msg_ItemMay_tri (first.getD t14.toNat default).f_Item yL0_8 eL0_7) tr) tr) (a_ (a_ tr tr) (a_ (a_ tr (a_ (leB cL0_9) tr)) tr))))))))))) (a_ (a_ (a_ tr tr) (a_ (a_ tr tr) (a_ (a_ (a_ tr (le_ 8 21 rfl)) tr) (a_ (a_ tr tr) (a_ (a_ tr tr) (a_ (a_ (a_ tr (le_ 21 21 rfl)) tr) (a_ (a_ (a_ (Eq.refl true) (Eq.refl true)) (a_ (sub_upd (fun z_ : A8 (Int) => LV.agg [.int .u8 z_.a0, .int .u8 z_.a1, .int .u8 z_.a2, .int .u8 z_.a3, .int .u8 z_.a4, .int .u8 z_.a5, .int .u8 z_.a6, .int .u8 z_.a7]) v_T_api_Config (k_arr8 .u8) true [.int .u8, .int .u8, .int .u8, .int .u8, .int .u8, .int .u8, .int .u8, .int .u8] m (first.getD t14.toNat default).f_Key (first.getD t14.toNat default).f_Item.f_Conf) tr)) tr))))))) (a_ (a_ (a_ tr tr) (a_ (a_ tr tr) tr)) tr))))))) (ih _ _ r r_ h) (by kernel_rfl) ⟨trivial, trivial⟩
    · skip
      have h := congrArg (fun z => z.2.2) (Option.some.inj h)
      dsimp only at h
      subst h
      exact run_ret mixed (L := [1, 0]) (n := 19) (s := [.go, .reg [(0, { v := some (.bool false) })], .reg []])
        (a_ (a_ (a_ (a_ tr (a_ (leB cL0_1) tr)) tr) (a_ (a_ (a_ tr tr) (a_ (a_ (Eq.refl true) tr) (a_ (a_ tr tr) (a_ (a_ tr tr) (a_ (a_ tr tr) tr))))) tr)) tr) (by kernel_rfl) rfl

theorem conf_New_okB (first : List (T_api_Write)) (r : (List (A8 (Int) × T_api_Config))) (r_ : Unit) (h : conf_New first = some (false, r_, r)) : ∀ σ, Inj 2 σ → FnTri Tryd.prog 10 (renL σ [.ds 21 (first).length (rowF c_T_api_Write default first)]) (preOf σ 0 []) ((conf_New_vB r).ren σ) (upOf σ (conf_New_upB first r)) := by
  refine fn_of Tryd.func10 (by kernel_rfl) (by kernel_rfl) (by kernel_rfl) trivial (by kernel_rfl) ⟨rfl, trivial, trivial⟩ (by kernel_rfl) ?_
  intro w0 W μ0 hμ
  unfold conf_New at h
  exact run_to mixed hμ (L := [0]) (n := 21) (s := [.reg [], .reg [], .reg []])
    (a_ (a_ (a_ tr tr) (a_ (a_ tr tr) tr)) (a_ (a_ (a_ tr tr) (a_ (a_ tr tr) tr)) (a_ (a_ (a_ tr tr) (a_ (a_ tr tr) (a_ (a_ tr tr) tr))) tr))) (conf_New_l0_okB hμ first  big _ _ r r_ h) (by kernel_rfl) ⟨trivial, trivial⟩

/-- (*parrel/conf.Book).find -/

def conf_Book_find_v (r : (T_api_Config) × (Int)) : LV := .tup [v_T_api_Config r.1, .int .i64 r.2]

def conf_Book_find_up (m : List (A8 (Int) × T_api_Config)) (x_k : A8 (Int)) (r : (T_api_Config) × (Int)) : Upd := [(0, some (.var [.map 1])), (1, some (.map true [.int .u8, .int .u8, .int .u8, .int .u8, .int .u8, .int .u8, .int .u8, .int .u8] (encM (fun z_ : A8 (Int) => LV.agg [.int .u8 z_.a0, .int .u8 z_.a1, .int .u8 z_.a2, .int .u8 z_.a3, .int .u8 z_.a4, .int .u8 z_.a5, .int .u8 z_.a6, .int .u8 z_.a7]) v_T_api_Config m)))]

def conf_Book_find_objs (m : List (A8 (Int) × T_api_Config)) (x_k : A8 (Int)) : List LO := [.var [.map 1], .map true [.int .u8, .int .u8, .int .u8, .int .u8, .int .u8, .int .u8, .int .u8, .int .u8] (encM (fun z_ : A8 (Int) => LV.agg [.int .u8 z_.a0, .int .u8 z_.a1, .int .u8 z_.a2, .int .u8 z_.a3, .int .u8 z_.a4, .int .u8 z_.a5, .int .u8 z_.a6, .int .u8 z_.a7]) v_T_api_Config m)]

def conf_Book_find (m : List (A8 (Int) × T_api_Config)) (x_k : A8 (Int)) : Option ((T_api_Config) × (Int)) :=
  if ((!((mget m x_k).isSome)) : Bool) then
    some ((T_api_Config.mk 0 0 0 (A8.mk 0 0 0 0 0 0 0 0)), 6)
  else
    some (((mget m x_k).getD default), 0)

theorem conf_Book_find_ok (m : List (A8 (Int) × T_api_Config)) (x_k : A8 (Int)) (r : (T_api_Config) × (Int)) (h : conf_Book_find m x_k = some r) : ∀ σ, Inj 2 σ → FnTri Tryd.prog 29 (renL σ [.ptr 0 0 0, .agg [.int .u8 x_k.a0, .int .u8 x_k.a1, .int .u8 x_k.a2, .int .u8 x_k.a3, .int .u8 x_k.a4, .int .u8 x_k.a5, .int .u8 x_k.a6, .int .u8 x_k.a7]]) (preOf σ 0 (conf_Book_find_objs m x_k)) ((conf_Book_find_v r).ren σ) (upOf σ (conf_Book_find_up m x_k r)) := by
  refine fn_of Tryd.func29 (by kernel_rfl) (by kernel_rfl) (by kernel_rfl) ⟨rfl, trivial, trivial⟩ (by kernel_rfl) ⟨rfl, trivial, trivial⟩ (by kernel_rfl) ?_
  intro w0 W μ0 hμ
  unfold conf_Book_find at h
  rcases itb_some h with ⟨c1, h⟩ | ⟨c1, h⟩
  · skip
    obtain rfl := Option.some.inj h
    exact run_ret mixed (L := []) (n := 29) (s := [.reg [], .reg [], .reg [(5, { look := ((mget m x_k).map v_T_api_Config), v := some (.tup [v_T_api_Config ((mget m x_k).getD default), .bool ((mget m x_k).isSome)]) })], .reg [(1, { v := some (.bool true) })], .reg []])
      (a_ (a_ (a_ (a_ tr tr) (a_ (a_ tr tr) (a_ (a_ tr tr) tr))) (a_ (a_ (a_ tr tr) (a_ (a_ tr tr) (a_ (a_ tr tr) (a_ (a_ tr tr) (a_ (a_ tr tr) (a_ (a_ tr tr) (a_ (a_ (a_ tr (lt_ 0 1 rfl)) tr) (a_ (a_ tr tr) (a_ (a_ tr tr) tr))))))))) (a_ (a_ (a_ tr tr) (a_ (a_ tr tr) (a_ (a_ tr tr) (a_ (a_ (a_ tr (lt_ 0 1 rfl)) tr) (a_ (a_ (a_ tr (le_ 8 8 rfl)) tr) (a_ (a_ (a_ (Eq.refl true) (findE_enc (fun z_ : A8 (Int) => LV.agg [.int .u8 z_.a0, .int .u8 z_.a1, .int .u8 z_.a2, .int .u8 z_.a3, .int .u8 z_.a4, .int .u8 z_.a5, .int .u8 z_.a6, .int .u8 z_.a7]) v_T_api_Config (k_arr8 .u8) m x_k)) (a_ (le_lookok v_T_api_Config (mget m x_k) default) tr)) (a_ (a_ tr tr) (a_ (a_ tr tr) (a_ (a_ tr tr) (a_ (a_ tr tr) (a_ (a_ (a_ (Eq.refl 11) (a_ (le_ 11 11 rfl) (Eq.refl 0))) tr) (a_ (a_ tr tr) tr)))))))))))) (a_ (a_ (a_ tr tr) (a_ (a_ tr (a_ (leB c1) tr)) tr)) (a_ (a_ (a_ (Eq.refl true) tr) (a_ (a_ (a_ (Eq.refl 11) (a_ (le_ 11 11 rfl) (Eq.refl 0))) tr) (a_ (a_ tr tr) tr))) tr))))) (a_ (a_ tr (le_ 11 11 rfl)) tr)) (by kernel_rfl) rfl
  · skip
    obtain rfl := Option.some.inj h
    exact run_ret mixed (L := []) (n := 30) (s := [.reg [], .reg [], .reg [(5, { look := ((mget m x_k).map v_T_api_Config), v := some (.tup [v_T_api_Config ((mget m x_k).getD default), .bool ((mget m x_k).isSome)]) })], .reg [(1, { v := some (.bool false) })], .reg []])
      (a_ (a_ (a_ (a_ tr tr) (a_ (a_ tr tr) (a_ (a_ tr tr) tr))) (a_ (a_ (a_ tr tr) (a_ (a_ tr tr) (a_ (a_ tr tr) (a_ (a_ tr tr) (a_ (a_ tr tr) (a_ (a_ tr tr) (a_ (a_ (a_ tr (lt_ 0 1 rfl)) tr) (a_ (a_ tr tr) (a_ (a_ tr tr) tr))))))))) (a_ (a_ (a_ tr tr) (a_ (a_ tr tr) (a_ (a_ tr tr) (a_ (a_ (a_ tr (lt_ 0 1 rfl)) tr) (a_ (a_ (a_ tr (le_ 8 8 rfl)) tr) (a_ (a_ (a_ (Eq.refl true) (findE_enc (fun z_ : A8 (Int) => LV.agg [.int .u8 z_.a0, .int .u8 z_.a1, .int .u8 z_.a2, .int .u8 z_.a3, .int .u8 z_.a4, .int .u8 z_.a5, .int .u8 z_.a6, .int .u8 z_.a7]) v_T_api_Config (k_arr8 .u8) m x_k)) (a_ (le_lookok v_T_api_Config (mget m x_k) default) tr)) (a_ (a_ tr tr) (a_ (a_ tr tr) (a_ (a_ tr tr) (a_ (a_ tr tr) (a_ (a_ (a_ (Eq.refl 11) (a_ (le_ 11 11 rfl) (Eq.refl 0))) tr) (a_ (a_ tr tr) tr)))))))))))) (a_ (a_ (a_ tr tr) (a_ (a_ tr (a_ (leB c1) tr)) tr)) (a_ (a_ (a_ (a_ tr (le_ 11 11 rfl)) tr) (a_ (a_ (a_ (Eq.refl 11) (a_ (le_ 11 11 rfl) (Eq.refl 0))) tr) (a_ (a_ tr tr) tr))) tr))))) (a_ (a_ tr (le_ 11 11 rfl)) tr)) (by kernel_rfl) rfl

/-- (*parrel/conf.Book).Learn -/

def conf_Book_Learn_v (r : (Int) × (List (A8 (Int) × T_api_Config))) : LV := .int .i64 r.1

def conf_Book_Learn_up (m : List (A8 (Int) × T_api_Config)) (x_k : A8 (Int)) (c : T_api_Config) (r : (Int) × (List (A8 (Int) × T_api_Config))) : Upd := [(0, some (.var [.map 1])), (1, some (.map true [.int .u8, .int .u8, .int .u8, .int .u8, .int .u8, .int .u8, .int .u8, .int .u8] (encM (fun z_ : A8 (Int) => LV.agg [.int .u8 z_.a0, .int .u8 z_.a1, .int .u8 z_.a2, .int .u8 z_.a3, .int .u8 z_.a4, .int .u8 z_.a5, .int .u8 z_.a6, .int .u8 z_.a7]) v_T_api_Config r.2)))]

def conf_Book_Learn_objs (m : List (A8 (Int) × T_api_Config)) (x_k : A8 (Int)) (c : T_api_Config) : List LO := [.var [.map 1], .map true [.int .u8, .int .u8, .int .u8, .int .u8, .int .u8, .int .u8, .int .u8, .int .u8] (encM (fun z_ : A8 (Int) => LV.agg [.int .u8 z_.a0, .int .u8 z_.a1, .int .u8 z_.a2, .int .u8 z_.a3, .int .u8 z_.a4, .int .u8 z_.a5, .int .u8 z_.a6, .int .u8 z_.a7]) v_T_api_Config m)]

def conf_Book_Learn (m : List (A8 (Int) × T_api_Config)) (x_k : A8 (Int)) (c : T_api_Config) : Option ((Int) × (List (A8 (Int) × T_api_Config))) :=
  (conf_Book_find m x_k).bind fun y2 =>
  if ((y2.2 != 0) : Bool) then
    some (y2.2, m)
  else
    (votes_May c).bind fun y5 =>
    if ((!y5) : Bool) then
      some (16, m)
    else
      if ((decide (c.f_Epoch < y2.1.f_Epoch)) : Bool) then
        some (13, m)
      else
        if ((c.f_Epoch == y2.1.f_Epoch) : Bool) then
          if ((!decide (c = y2.1)) : Bool) then
            some (7, m)
          else
            some (0, (mset m x_k c))
        else
          some (0, (mset m x_k c))

theorem conf_Book_Learn_ok (m : List (A8 (Int) × T_api_Config)) (x_k : A8 (Int)) (c : T_api_Config) (r : (Int) × (List (A8 (Int) × T_api_Config))) (h : conf_Book_Learn m x_k c = some r) : ∀ σ, Inj 2 σ → FnTri Tryd.prog 13 (renL σ [.ptr 0 0 0, .agg [.int .u8 x_k.a0, .int .u8 x_k.a1, .int .u8 x_k.a2, .int .u8 x_k.a3, .int .u8 x_k.a4, .int .u8 x_k.a5, .int .u8 x_k.a6, .int .u8 x_k.a7], v_T_api_Config c]) (preOf σ 0 (conf_Book_Learn_objs m x_k c)) ((conf_Book_Learn_v r).ren σ) (upOf σ (conf_Book_Learn_up m x_k c r)) := by
  refine fn_of Tryd.func13 (by kernel_rfl) (by kernel_rfl) (by kernel_rfl) ⟨rfl, trivial, trivial⟩ (by kernel_rfl) ⟨rfl, trivial, trivial⟩ (by kernel_rfl) ?_
  intro w0 W μ0 hμ
  unfold conf_Book_Learn at h
  obtain ⟨y2, e1, h⟩ := bind_some h
  rcases itb_some h with ⟨c3, h⟩ | ⟨c3, h⟩
  · skip
    obtain rfl := Option.some.inj h
    exact run_ret mixed (L := []) (n := 24) (s := [.reg [], .reg [(2, { call := some ((conf_Book_find_v y2).ren (sel [0, 1]), preOf (sel [0, 1]) 0 (conf_Book_find_objs m x_k), upOf (sel [0, 1]) (conf_Book_find_up m x_k y2)) })], .reg [(2, { v := some (.bool true) })], .reg []])
      (a_ (a_ (a_ (a_ tr tr) (a_ (a_ tr tr) (a_ (a_ tr tr) tr))) (a_ (a_ (a_ tr tr) (a_ (a_ (a_ tr (le_ 8 8 rfl)) tr) (a_ (a_ (a_ (conf_Book_find_ok m x_k y2 e1 (sel [0, 1]) (sel_inj rfl rfl)) (a_ (LO.Le.refl (.var [.map 1])) (a_ (LO.Le.refl (.map true [.int .u8, .int .u8, .int .u8, .int .u8, .int .u8, .int .u8, .int .u8, .int .u8] (encM (fun z_ : A8 (Int) => LV.agg [.int .u8 z_.a0, .int .u8 z_.a1, .int .u8 z_.a2, .int .u8 z_.a3, .int .u8 z_.a4, .int .u8 z_.a5, .int .u8 z_.a6, .int .u8 z_.a7]) v_T_api_Config m))) tr))) tr) (a_ (a_ tr tr) (a_ (a_ tr tr) (a_ (a_ tr tr) (a_ (a_ tr tr) (a_ (a_ (a_ (Eq.refl 11) (a_ (le_ 11 11 rfl) (Eq.refl 0))) tr) (a_ (a_ tr tr) tr))))))))) (a_ (a_ (a_ tr tr) (a_ (a_ tr tr) (a_ (a_ tr (a_ (leB c3) tr)) tr))) (a_ (a_ (a_ tr tr) (a_ (a_ tr tr) tr)) tr)))) tr) (by kernel_rfl) rfl
  · skip
    obtain ⟨y5, e4, h⟩ := bind_some h
    rcases itb_some h with ⟨c6, h⟩ | ⟨c6, h⟩
    · skip
      obtain rfl := Option.some.inj h
      exact run_ret mixed (L := []) (n := 28) (s := [.reg [], .reg [(2, { call := some ((conf_Book_find_v y2).ren (sel [0, 1]), preOf (sel [0, 1]) 0 (conf_Book_find_objs m x_k), upOf (sel [0, 1]) (conf_Book_find_up m x_k y2)) })], .reg [(2, { v := some (.bool false) })], .reg [(1, { call := some (votes_May_v y5, [], []) }), (3, { v := some (.bool true) })], .reg []])
        (a_ (a_ (a_ (a_ tr tr) (a_ (a_ tr tr) (a_ (a_ tr tr) tr))) (a_ (a_ (a_ tr tr) (a_ (a_ (a_ tr (le_ 8 8 rfl)) tr) (a_ (a_ (a_ (conf_Book_find_ok m x_k y2 e1 (sel [0, 1]) (sel_inj rfl rfl)) (a_ (LO.Le.refl (.var [.map 1])) (a_ (LO.Le.refl (.map true [.int .u8, .int .u8, .int .u8, .int .u8, .int .u8, .int .u8, .int .u8, .int .u8] (encM (fun z_ : A8 (Int) => LV.agg [.int .u8 z_.a0, .int .u8 z_.a1, .int .u8 z_.a2, .int .u8 z_.a3, .int .u8 z_.a4, .int .u8 z_.a5, .int .u8 z_.a6, .int .u8 z_.a7]) v_T_api_Config m))) tr))) tr) (a_ (a_ tr tr) (a_ (a_ tr tr) (a_ (a_ tr tr) (a_ (a_ tr tr) (a_ (a_ (a_ (Eq.refl 11) (a_ (le_ 11 11 rfl) (Eq.refl 0))) tr) (a_ (a_ tr tr) tr))))))))) (a_ (a_ (a_ tr tr) (a_ (a_ tr tr) (a_ (a_ tr (a_ (leB c3) tr)) tr))) (a_ (a_ (a_ (a_ tr (le_ 11 11 rfl)) tr) (a_ (a_ (a_ (votes_May_tri c y5 e4) tr) tr) (a_ (a_ tr tr) (a_ (a_ tr (a_ (leB c6) tr)) tr)))) (a_ (a_ (a_ tr tr) tr) tr))))) tr) (by kernel_rfl) rfl
    · skip
      rcases itb_some h with ⟨c7, h⟩ | ⟨c7, h⟩
      · skip
        obtain rfl := Option.some.inj h
        exact run_ret mixed (L := []) (n := 32) (s := [.reg [], .reg [(2, { call := some ((conf_Book_find_v y2).ren (sel [0, 1]), preOf (sel [0, 1]) 0 (conf_Book_find_objs m x_k), upOf (sel [0, 1]) (conf_Book_find_up m x_k y2)) })], .reg [(2, { v := some (.bool false) })], .reg [(1, { call := some (votes_May_v y5, [], []) }), (3, { v := some (.bool false) })], .reg [(5, { v := some (.bool true) })], .reg []])
          (a_ (a_ (a_ (a_ tr tr) (a_ (a_ tr tr) (a_ (a_ tr tr) tr))) (a_ (a_ (a_ tr tr) (a_ (a_ (a_ tr (le_ 8 8 rfl)) tr) (a_ (a_ (a_ (conf_Book_find_ok m x_k y2 e1 (sel [0, 1]) (sel_inj rfl rfl)) (a_ (LO.Le.refl (.var [.map 1])) (a_ (LO.Le.refl (.map true [.int .u8, .int .u8, .int .u8, .int .u8, .int .u8, .int .u8, .int .u8, .int .u8] (encM (fun z_ : A8 (Int) => LV.agg [.int .u8 z_.a0, .int .u8 z_.a1, .int .u8 z_.a2, .int .u8 z_.a3, .int .u8 z_.a4, .int .u8 z_.a5, .int .u8 z_.a6, .int .u8 z_.a7]) v_T_api_Config m))) tr))) tr) (a_ (a_ tr tr) (a_ (a_ tr tr) (a_ (a_ tr tr) (a_ (a_ tr tr) (a_ (a_ (a_ (Eq.refl 11) (a_ (le_ 11 11 rfl) (Eq.refl 0))) tr) (a_ (a_ tr tr) tr))))))))) (a_ (a_ (a_ tr tr) (a_ (a_ tr tr) (a_ (a_ tr (a_ (leB c3) tr)) tr))) (a_ (a_ (a_ (a_ tr (le_ 11 11 rfl)) tr) (a_ (a_ (a_ (votes_May_tri c y5 e4) tr) tr) (a_ (a_ tr tr) (a_ (a_ tr (a_ (leB c6) tr)) tr)))) (a_ (a_ (a_ tr tr) (a_ (a_ (a_ tr (lt_ 0 11 rfl)) tr) (a_ (a_ tr tr) (a_ (a_ (a_ tr (lt_ 0 11 rfl)) tr) (a_ (a_ tr tr) (a_ (a_ tr (a_ (leB c7) tr)) tr)))))) (a_ (a_ (a_ tr tr) tr) tr)))))) tr) (by kernel_rfl) rfl
      · skip
        rcases itb_some h with ⟨c8, h⟩ | ⟨c8, h⟩
        · skip
          rcases itb_some h with ⟨c9, h⟩ | ⟨c9, h⟩
          · skip
            obtain rfl := Option.some.inj h
            exact run_ret mixed (L := []) (n := 36) (s := [.reg [], .reg [(2, { call := some ((conf_Book_find_v y2).ren (sel [0, 1]), preOf (sel [0, 1]) 0 (conf_Book_find_objs m x_k), upOf (sel [0, 1]) (conf_Book_find_up m x_k y2)) })], .reg [(2, { v := some (.bool false) })], .reg [(1, { call := some (votes_May_v y5, [], []) }), (3, { v := some (.bool false) })], .reg [(5, { v := some (.bool false) })], .reg [(5, { v := some (.bool true) }), (8, { v := some (.bool (!decide (c = y2.1))) }), (10, { v := some (.bool true) })], .reg []])
              (a_ (a_ (a_ (a_ tr tr) (a_ (a_ tr tr) (a_ (a_ tr tr) tr))) (a_ (a_ (a_ tr tr) (a_ (a_ (a_ tr (le_ 8 8 rfl)) tr) (a_ (a_ (a_ (conf_Book_find_ok m x_k y2 e1 (sel [0, 1]) (sel_inj rfl rfl)) (a_ (LO.Le.refl (.var [.map 1])) (a_ (LO.Le.refl (.map true [.int .u8, .int .u8, .int .u8, .int .u8, .int .u8, .int .u8, .int .u8, .int .u8] (encM (fun z_ : A8 (Int) => LV.agg [.int .u8 z_.a0, .int .u8 z_.a1, .int .u8 z_.a2, .int .u8 z_.a3, .int .u8 z_.a4, .int .u8 z_.a5, .int .u8 z_.a6, .int .u8 z_.a7]) v_T_api_Config m))) tr))) tr) (a_ (a_ tr tr) (a_ (a_ tr tr) (a_ (a_ tr tr) (a_ (a_ tr tr) (a_ (a_ (a_ (Eq.refl 11) (a_ (le_ 11 11 rfl) (Eq.refl 0))) tr) (a_ (a_ tr tr) tr))))))))) (a_ (a_ (a_ tr tr) (a_ (a_ tr tr) (a_ (a_ tr (a_ (leB c3) tr)) tr))) (a_ (a_ (a_ (a_ tr (le_ 11 11 rfl)) tr) (a_ (a_ (a_ (votes_May_tri c y5 e4) tr) tr) (a_ (a_ tr tr) (a_ (a_ tr (a_ (leB c6) tr)) tr)))) (a_ (a_ (a_ tr tr) (a_ (a_ (a_ tr (lt_ 0 11 rfl)) tr) (a_ (a_ tr tr) (a_ (a_ (a_ tr (lt_ 0 11 rfl)) tr) (a_ (a_ tr tr) (a_ (a_ tr (a_ (leB c7) tr)) tr)))))) (a_ (a_ (a_ tr tr) (a_ (a_ (a_ tr (lt_ 0 11 rfl)) tr) (a_ (a_ tr tr) (a_ (a_ (a_ tr (lt_ 0 11 rfl)) tr) (a_ (a_ tr tr) (a_ (a_ tr (a_ (leB c8) tr)) (a_ (a_ (a_ tr (le_ 11 11 rfl)) tr) (a_ (a_ (a_ tr (le_ 11 11 rfl)) tr) (a_ (a_ tr (a_ (leB (congrArg not (k_T_api_Config c y2.1))) tr)) (a_ (a_ tr tr) (a_ (a_ tr (a_ (leB c9) tr)) tr))))))))))) (a_ (a_ (a_ tr tr) tr) tr))))))) tr) (by kernel_rfl) rfl
          · skip
            obtain rfl := Option.some.inj h
            exact run_ret mixed (L := []) (n := 41) (s := [.reg [], .reg [(2, { call := some ((conf_Book_find_v y2).ren (sel [0, 1]), preOf (sel [0, 1]) 0 (conf_Book_find_objs m x_k), upOf (sel [0, 1]) (conf_Book_find_up m x_k y2)) })], .reg [(2, { v := some (.bool false) })], .reg [(1, { call := some (votes_May_v y5, [], []) }), (3, { v := some (.bool false) })], .reg [(5, { v := some (.bool false) })], .reg [(5, { v := some (.bool true) }), (8, { v := some (.bool (!decide (c = y2.1))) }), (10, { v := some (.bool false) })], .reg [(6, { os := [(1, .map true [.int .u8, .int .u8, .int .u8, .int .u8, .int .u8, .int .u8, .int .u8, .int .u8] (encM (fun z_ : A8 (Int) => LV.agg [.int .u8 z_.a0, .int .u8 z_.a1, .int .u8 z_.a2, .int .u8 z_.a3, .int .u8 z_.a4, .int .u8 z_.a5, .int .u8 z_.a6, .int .u8 z_.a7]) v_T_api_Config (mset m x_k c)))] })], .reg []])
              (a_ (a_ (a_ (a_ tr tr) (a_ (a_ tr tr) (a_ (a_ tr tr) tr))) (a_ (a_ (a_ tr tr) (a_ (a_ (a_ tr (le_ 8 8 rfl)) tr) (a_ (a_ (a_ (conf_Book_find_ok m x_k y2 e1 (sel [0, 1]) (sel_inj rfl rfl)) (a_ (LO.Le.refl (.var [.map 1])) (a_ (LO.Le.refl (.map true [.int .u8, .int .u8, .int .u8, .int .u8, .int .u8, .int .u8, .int .u8, .int .u8] (encM (fun z_ : A8 (Int) => LV.agg [.int .u8 z_.a0, .int .u8 z_.a1, .int .u8 z_.a2, .int .u8 z_.a3, .int .u8 z_.a4, .int .u8 z_.a5, .int .u8 z_.a6, .int .u8 z_.a7]) v_T_api_Config m))) tr))) tr) (a_ (a_ tr tr) (a_ (a_ tr tr) (a_ (a_ tr tr) (a_ (a_ tr tr) (a_ (a_ (a_ (Eq.refl 11) (a_ (le_ 11 11 rfl) (Eq.refl 0))) tr) (a_ (a_ tr tr) tr))))))))) (a_ (a_ (a_ tr tr) (a_ (a_ tr tr) (a_ (a_ tr (a_ (leB c3) tr)) tr))) (a_ (a_ (a_ (a_ tr (le_ 11 11 rfl)) tr) (a_ (a_ (a_ (votes_May_tri c y5 e4) tr) tr) (a_ (a_ tr tr) (a_ (a_ tr (a_ (leB c6) tr)) tr)))) (a_ (a_ (a_ tr tr) (a_ (a_ (a_ tr (lt_ 0 11 rfl)) tr) (a_ (a_ tr tr) (a_ (a_ (a_ tr (lt_ 0 11 rfl)) tr) (a_ (a_ tr tr) (a_ (a_ tr (a_ (leB c7) tr)) tr)))))) (a_ (a_ (a_ tr tr) (a_ (a_ (a_ tr (lt_ 0 11 rfl)) tr) (a_ (a_ tr tr) (a_ (a_ (a_ tr (lt_ 0 11 rfl)) tr) (a_ (a_ tr tr) (a_ (a_ tr (a_ (leB c8) tr)) (a_ (a_ (a_ tr (le_ 11 11 rfl)) tr) (a_ (a_ (a_ tr (le_ 11 11 rfl)) tr) (a_ (a_ tr (a_ (leB (congrArg not (k_T_api_Config c y2.1))) tr)) (a_ (a_ tr tr) (a_ (a_ tr (a_ (leB c9) tr)) tr))))))))))) (a_ (a_ (a_ tr tr) (a_ (a_ tr tr) (a_ (a_ tr tr) (a_ (a_ (a_ tr (lt_ 0 1 rfl)) tr) (a_ (a_ (a_ tr (le_ 8 8 rfl)) tr) (a_ (a_ (a_ tr (le_ 11 11 rfl)) tr) (a_ (a_ (a_ (Eq.refl true) (Eq.refl true)) (a_ (sub_upd (fun z_ : A8 (Int) => LV.agg [.int .u8 z_.a0, .int .u8 z_.a1, .int .u8 z_.a2, .int .u8 z_.a3, .int .u8 z_.a4, .int .u8 z_.a5, .int .u8 z_.a6, .int .u8 z_.a7]) v_T_api_Config (k_arr8 .u8) true [.int .u8, .int .u8, .int .u8, .int .u8, .int .u8, .int .u8, .int .u8, .int .u8] m x_k c) tr)) tr))))))) (a_ (a_ (a_ tr tr) tr) tr)))))))) tr) (by kernel_rfl) rfl
        · skip
          obtain rfl := Option.some.inj h
          exact run_ret mixed (L := []) (n := 41) (s := [.reg [], .reg [(2, { call := some ((conf_Book_find_v y2).ren (sel [0, 1]), preOf (sel [0, 1]) 0 (conf_Book_find_objs m x_k), upOf (sel [0, 1]) (conf_Book_find_up m x_k y2)) })], .reg [(2, { v := some (.bool false) })], .reg [(1, { call := some (votes_May_v y5, [], []) }), (3, { v := some (.bool false) })], .reg [(5, { v := some (.bool false) })], .reg [(5, { v := some (.bool false) })], .reg [(6, { os := [(1, .map true [.int .u8, .int .u8, .int .u8, .int .u8, .int .u8, .int .u8, .int .u8, .int .u8] (encM (fun z_ : A8 (Int) => LV.agg [.int .u8 z_.a0, .int .u8 z_.a1, .int .u8 z_.a2, .int .u8 z_.a3, .int .u8 z_.a4, .int .u8 z_.a5, .int .u8 z_.a6, .int .u8 z_.a7]) v_T_api_Config (mset m x_k c)))] })], .reg []])
            (a_ (a_ (a_ (a_ tr tr) (a_ (a_ tr tr) (a_ (a_ tr tr) tr))) (a_ (a_ (a_ tr tr) (a_ (a_ (a_ tr (le_ 8 8 rfl)) tr) (a_ (a_ (a_ (conf_Book_find_ok m x_k y2 e1 (sel [0, 1]) (sel_inj rfl rfl)) (a_ (LO.Le.refl (.var [.map 1])) (a_ (LO.Le.refl (.map true [.int .u8, .int .u8, .int .u8, .int .u8, .int .u8, .int .u8, .int .u8, .int .u8] (encM (fun z_ : A8 (Int) => LV.agg [.int .u8 z_.a0, .int .u8 z_.a1, .int .u8 z_.a2, .int .u8 z_.a3, .int .u8 z_.a4, .int .u8 z_.a5, .int .u8 z_.a6, .int .u8 z_.a7]) v_T_api_Config m))) tr))) tr) (a_ (a_ tr tr) (a_ (a_ tr tr) (a_ (a_ tr tr) (a_ (a_ tr tr) (a_ (a_ (a_ (Eq.refl 11) (a_ (le_ 11 11 rfl) (Eq.refl 0))) tr) (a_ (a_ tr tr) tr))))))))) (a_ (a_ (a_ tr tr) (a_ (a_ tr tr) (a_ (a_ tr (a_ (leB c3) tr)) tr))) (a_ (a_ (a_ (a_ tr (le_ 11 11 rfl)) tr) (a_ (a_ (a_ (votes_May_tri c y5 e4) tr) tr) (a_ (a_ tr tr) (a_ (a_ tr (a_ (leB c6) tr)) tr)))) (a_ (a_ (a_ tr tr) (a_ (a_ (a_ tr (lt_ 0 11 rfl)) tr) (a_ (a_ tr tr) (a_ (a_ (a_ tr (lt_ 0 11 rfl)) tr) (a_ (a_ tr tr) (a_ (a_ tr (a_ (leB c7) tr)) tr)))))) (a_ (a_ (a_ tr tr) (a_ (a_ (a_ tr (lt_ 0 11 rfl)) tr) (a_ (a_ tr tr) (a_ (a_ (a_ tr (lt_ 0 11 rfl)) tr) (a_ (a_ tr tr) (a_ (a_ tr (a_ (leB c8) tr)) (a_ tr (a_ tr (a_ tr (a_ (a_ tr tr) (a_ (a_ tr tr) tr))))))))))) (a_ (a_ (a_ tr tr) (a_ (a_ tr tr) (a_ (a_ tr tr) (a_ (a_ (a_ tr (lt_ 0 1 rfl)) tr) (a_ (a_ (a_ tr (le_ 8 8 rfl)) tr) (a_ (a_ (a_ tr (le_ 11 11 rfl)) tr) (a_ (a_ (a_ (Eq.refl true) (Eq.refl true)) (a_ (sub_upd (fun z_ : A8 (Int) => LV.agg [.int .u8 z_.a0, .int .u8 z_.a1, .int .u8 z_.a2, .int .u8 z_.a3, .int .u8 z_.a4, .int .u8 z_.a5, .int .u8 z_.a6, .int .u8 z_.a7]) v_T_api_Config (k_arr8 .u8) true [.int .u8, .int .u8, .int .u8, .int .u8, .int .u8, .int .u8, .int .u8, .int .u8] m x_k c) tr)) tr))))))) (a_ (a_ (a_ tr tr) tr) tr)))))))) tr) (by kernel_rfl) rfl

/-- (*parrel/conf.Book).Of -/

def conf_Book_Of_v (r : (T_api_Config) × (Bool)) : LV := .tup [v_T_api_Config r.1, .bool r.2]

def conf_Book_Of_up (m : List (A8 (Int) × T_api_Config)) (x_k : A8 (Int)) (r : (T_api_Config) × (Bool)) : Upd := [(0, some (.var [.map 1])), (1, some (.map true [.int .u8, .int .u8, .int .u8, .int .u8, .int .u8, .int .u8, .int .u8, .int .u8] (encM (fun z_ : A8 (Int) => LV.agg [.int .u8 z_.a0, .int .u8 z_.a1, .int .u8 z_.a2, .int .u8 z_.a3, .int .u8 z_.a4, .int .u8 z_.a5, .int .u8 z_.a6, .int .u8 z_.a7]) v_T_api_Config m)))]

def conf_Book_Of_objs (m : List (A8 (Int) × T_api_Config)) (x_k : A8 (Int)) : List LO := [.var [.map 1], .map true [.int .u8, .int .u8, .int .u8, .int .u8, .int .u8, .int .u8, .int .u8, .int .u8] (encM (fun z_ : A8 (Int) => LV.agg [.int .u8 z_.a0, .int .u8 z_.a1, .int .u8 z_.a2, .int .u8 z_.a3, .int .u8 z_.a4, .int .u8 z_.a5, .int .u8 z_.a6, .int .u8 z_.a7]) v_T_api_Config m)]

def conf_Book_Of (m : List (A8 (Int) × T_api_Config)) (x_k : A8 (Int)) : Option ((T_api_Config) × (Bool)) :=
  (conf_Book_find m x_k).bind fun y2 =>
  some (y2.1, (y2.2 == 0))

theorem conf_Book_Of_ok (m : List (A8 (Int) × T_api_Config)) (x_k : A8 (Int)) (r : (T_api_Config) × (Bool)) (h : conf_Book_Of m x_k = some r) : ∀ σ, Inj 2 σ → FnTri Tryd.prog 12 (renL σ [.ptr 0 0 0, .agg [.int .u8 x_k.a0, .int .u8 x_k.a1, .int .u8 x_k.a2, .int .u8 x_k.a3, .int .u8 x_k.a4, .int .u8 x_k.a5, .int .u8 x_k.a6, .int .u8 x_k.a7]]) (preOf σ 0 (conf_Book_Of_objs m x_k)) ((conf_Book_Of_v r).ren σ) (upOf σ (conf_Book_Of_up m x_k r)) := by
  refine fn_of Tryd.func12 (by kernel_rfl) (by kernel_rfl) (by kernel_rfl) ⟨rfl, trivial, trivial⟩ (by kernel_rfl) ⟨rfl, trivial, trivial⟩ (by kernel_rfl) ?_
  intro w0 W μ0 hμ
  unfold conf_Book_Of at h
  obtain ⟨y2, e1, h⟩ := bind_some h
  obtain rfl := Option.some.inj h
  exact run_ret mixed (L := []) (n := 18) (s := [.reg [], .reg [(2, { call := some ((conf_Book_find_v y2).ren (sel [0, 1]), preOf (sel [0, 1]) 0 (conf_Book_find_objs m x_k), upOf (sel [0, 1]) (conf_Book_find_up m x_k y2)) })], .reg []])
    (a_ (a_ (a_ (a_ tr tr) (a_ (a_ tr tr) (a_ (a_ tr tr) tr))) (a_ (a_ (a_ tr tr) (a_ (a_ (a_ tr (le_ 8 8 rfl)) tr) (a_ (a_ (a_ (conf_Book_find_ok m x_k y2 e1 (sel [0, 1]) (sel_inj rfl rfl)) (a_ (LO.Le.refl (.var [.map 1])) (a_ (LO.Le.refl (.map true [.int .u8, .int .u8, .int .u8, .int .u8, .int .u8, .int .u8, .int .u8, .int .u8] (encM (fun z_ : A8 (Int) => LV.agg [.int .u8 z_.a0, .int .u8 z_.a1, .int .u8 z_.a2, .int .u8 z_.a3, .int .u8 z_.a4, .int .u8 z_.a5, .int .u8 z_.a6, .int .u8 z_.a7]) v_T_api_Config m))) tr))) tr) (a_ (a_ tr tr) (a_ (a_ tr tr) (a_ (a_ tr tr) (a_ (a_ tr tr) (a_ (a_ (a_ (Eq.refl 11) (a_ (le_ 11 11 rfl) (Eq.refl 0))) tr) (a_ (a_ tr tr) tr))))))))) (a_ (a_ (a_ (a_ tr (le_ 11 11 rfl)) tr) (a_ (a_ tr tr) (a_ (a_ tr tr) (a_ (a_ (a_ (Eq.refl 11) (a_ (le_ 11 11 rfl) (Eq.refl 0))) tr) (a_ (a_ tr tr) tr))))) tr))) (a_ (a_ tr (le_ 11 11 rfl)) tr)) (by kernel_rfl) rfl

/-- maps.Keys[map[parrel/api.Key]parrel/api.Config,parrel/api.Key,parrel/api.Config] -/

def maps_Keys_map_api_Key_api_Config_api_Key_api_Config_v (r : Unit) : LV := .fn 51 [] [.ptr 1 0 0]

def maps_Keys_map_api_Key_api_Config_api_Key_api_Config_up (m : List (A8 (Int) × T_api_Config)) (r : Unit) : Upd := [(0, some (.map true [.int .u8, .int .u8, .int .u8, .int .u8, .int .u8, .int .u8, .int .u8, .int .u8] (encM (fun z_ : A8 (Int) => LV.agg [.int .u8 z_.a0, .int .u8 z_.a1, .int .u8 z_.a2, .int .u8 z_.a3, .int .u8 z_.a4, .int .u8 z_.a5, .int .u8 z_.a6, .int .u8 z_.a7]) v_T_api_Config m))), (1, some (.var [.map 0]))]

def maps_Keys_map_api_Key_api_Config_api_Key_api_Config_objs (m : List (A8 (Int) × T_api_Config)) : List LO := [.map true [.int .u8, .int .u8, .int .u8, .int .u8, .int .u8, .int .u8, .int .u8, .int .u8] (encM (fun z_ : A8 (Int) => LV.agg [.int .u8 z_.a0, .int .u8 z_.a1, .int .u8 z_.a2, .int .u8 z_.a3, .int .u8 z_.a4, .int .u8 z_.a5, .int .u8 z_.a6, .int .u8 z_.a7]) v_T_api_Config m)]

def maps_Keys_map_api_Key_api_Config_api_Key_api_Config (m : List (A8 (Int) × T_api_Config)) : Option (Unit) :=
  some ()

theorem maps_Keys_map_api_Key_api_Config_api_Key_api_Config_ok (m : List (A8 (Int) × T_api_Config)) (r : Unit) (h : maps_Keys_map_api_Key_api_Config_api_Key_api_Config m = some r) : ∀ σ, Inj 2 σ → FnTri Tryd.prog 41 (renL σ [.map 0]) (preOf σ 0 (maps_Keys_map_api_Key_api_Config_api_Key_api_Config_objs m)) ((maps_Keys_map_api_Key_api_Config_api_Key_api_Config_v r).ren σ) (upOf σ (maps_Keys_map_api_Key_api_Config_api_Key_api_Config_up m r)) := by
  refine fn_of Tryd.func41 (by kernel_rfl) (by kernel_rfl) (by kernel_rfl) ⟨trivial, trivial⟩ (by kernel_rfl) ⟨trivial, rfl, trivial⟩ (by kernel_rfl) ?_
  intro w0 W μ0 hμ
  unfold maps_Keys_map_api_Key_api_Config_api_Key_api_Config at h
  obtain rfl := Option.some.inj h
  exact run_ret mixed (L := [1]) (n := 15) (s := [.reg [], .reg []])
    (a_ (a_ (a_ (a_ tr tr) (a_ (a_ tr tr) tr)) (a_ (a_ (a_ tr tr) (a_ (a_ tr tr) tr)) tr)) tr) (by kernel_rfl) rfl

/-! Keys of a map, sorted: PRE -/
def so40_kc (x : (A8 (Int))) : List Value := [.int .u8 x.a0, .int .u8 x.a1, .int .u8 x.a2, .int .u8 x.a3, .int .u8 x.a4, .int .u8 x.a5, .int .u8 x.a6, .int .u8 x.a7]
def so40_kv (x : (A8 (Int))) : Value := .agg #[.int .u8 x.a0, .int .u8 x.a1, .int .u8 x.a2, .int .u8 x.a3, .int .u8 x.a4, .int .u8 x.a5, .int .u8 x.a6, .int .u8 x.a7]
def so40_kd (v : Value) : (A8 (Int)) :=
  match v with
  | .agg cs => match cs.toList with
    | [.int _ a0, .int _ a1, .int _ a2, .int _ a3, .int _ a4, .int _ a5, .int _ a6, .int _ a7] => (A8.mk a0 a1 a2 a3 a4 a5 a6 a7)
    | _ => default
  | _ => default
theorem so40_kdv (x : (A8 (Int))) : so40_kd (so40_kv x) = x := rfl
theorem so40_len (x : (A8 (Int))) : (so40_kc x).length = 8 := rfl
theorem so40_one (x : (A8 (Int))) : ∀ v ∈ so40_kc x, v.oneCell' = true := by
  intro u hu
  simp only [so40_kc, List.mem_cons, List.not_mem_nil, or_false] at hu
  rcases hu with rfl | rfl | rfl | rfl | rfl | rfl | rfl | rfl <;> rfl
theorem so40_enc (φ : Fro) (x : (A8 (Int))) : RelFL φ ((fun z_ : A8 (Int) => [.int .u8 z_.a0, .int .u8 z_.a1, .int .u8 z_.a2, .int .u8 z_.a3, .int .u8 z_.a4, .int .u8 z_.a5, .int .u8 z_.a6, .int .u8 z_.a7]) x) (so40_kc x) := ⟨_, _, rfl, rfl, ⟨_, _, rfl, rfl, ⟨_, _, rfl, rfl, ⟨_, _, rfl, rfl, ⟨_, _, rfl, rfl, ⟨_, _, rfl, rfl, ⟨_, _, rfl, rfl, ⟨_, _, rfl, rfl, rfl⟩⟩⟩⟩⟩⟩⟩⟩
theorem so40_det (φ : Fro) (x : (A8 (Int))) (v : Value) (h : RelF φ (.agg ((fun z_ : A8 (Int) => [.int .u8 z_.a0, .int .u8 z_.a1, .int .u8 z_.a2, .int .u8 z_.a3, .int .u8 z_.a4, .int .u8 z_.a5, .int .u8 z_.a6, .int .u8 z_.a7]) x)) v) : v = so40_kv x := by
  obtain ⟨vs, rfl, h⟩ := h
  have key : ∀ (l : List Value), RelFL φ ((fun z_ : A8 (Int) => [.int .u8 z_.a0, .int .u8 z_.a1, .int .u8 z_.a2, .int .u8 z_.a3, .int .u8 z_.a4, .int .u8 z_.a5, .int .u8 z_.a6, .int .u8 z_.a7]) x) l → l = so40_kc x := by
    intro l h
    obtain ⟨r0, e0, h0⟩ := det_int h
    obtain ⟨r1, e1, h1⟩ := det_int h0
    obtain ⟨r2, e2, h2⟩ := det_int h1
    obtain ⟨r3, e3, h3⟩ := det_int h2
    obtain ⟨r4, e4, h4⟩ := det_int h3
    obtain ⟨r5, e5, h5⟩ := det_int h4
    obtain ⟨r6, e6, h6⟩ := det_int h5
    obtain ⟨r7, e7, h7⟩ := det_int h6
    have e : _ = [] := h7
    subst e
    subst_vars
    rfl
  have := key _ h
  rw [← Array.toArray_toList (xs := vs), this]
  rfl

theorem so40_info : ∃ i, Tryd.prog.info? 32 = some i ∧ i.zero = some (.agg #[.int .u8 0, .int .u8 0, .int .u8 0, .int .u8 0, .int .u8 0, .int .u8 0, .int .u8 0, .int .u8 0]) ∧ i.size = 8 ∧ i.bytes = 8 := by
  have h : (Tryd.prog.info? 32).map (fun i => (i.zero, i.size, i.bytes)) = some (some (.agg #[.int .u8 0, .int .u8 0, .int .u8 0, .int .u8 0, .int .u8 0, .int .u8 0, .int .u8 0, .int .u8 0]), 8, 8) := by kernel_rfl
  obtain ⟨i, h1, h2⟩ := Option.map_eq_some_iff.1 h
  exact ⟨i, h1, congrArg (·.1) h2, congrArg (·.2.1) h2, congrArg (·.2.2) h2⟩

/-- Between two rounds: the box holds what has come so far. -/
def so40_ApI (w : World) (pre : List (A8 (Int))) (W : World) : Prop :=
  (∃ v, Boxed W w.heap.size 58 v ∧ W.ownsRow w.heap.size 32 8 v pre.length (pre.flatMap so40_kc) ∧ (v = .slice none 0 0 ↔ pre = [])) ∧ Below w.heap.size w W ∧ w.drawn ≤ W.drawn
theorem so40_ApI.own (w : World) (B : Nat) (hB : w.heap.size ≤ B) : OwnD B (so40_ApI w) :=
  OwnD.and (OwnFrom.d ((holdsRow_own w.heap.size w.heap.size 58 32 8 (fun (pre : List (A8 (Int))) => pre.length) (fun pre => pre.flatMap so40_kc) (fun pre v => v = .slice none 0 0 ↔ pre = [])).from B)) (OwnD.and (OwnFrom.d (ownFrom_below (Nat.le_refl _) hB)) (ownD_drawn B _))

theorem so40_appendSeq (n : Nat) (hn : 2 ≤ n) (g : Nat) (lb : Array Value) (eg : ∀ args w, (callFunc g args).run Tryd.prog w = .ok (.enter g args) w) (S : List (A8 (Int)) → Prop) (N : Nat) (hN : N ≤ maxLen) (hNb : N * 8 ≤ 140737488355328)
    (w : World) (hseq : SeqD Fence.wide (n - 1) Tryd.prog g lb so40_kv S N w) :
    CallsIn Fence.wide n Tryd.prog 58 #[.slice none 0 0, .func (.func g) #[] lb] w fun e w' => ∃ (v : Value) (ss : List (A8 (Int))), e = .returned v ∧ S ss ∧ w'.ownsRow w.heap.size 32 8 v ss.length (ss.flatMap so40_kc) ∧ (v = .slice none 0 0 ↔ ss = []) ∧ Below w.heap.size w w' ∧ w.drawn ≤ w'.drawn := by
  have h1 : 1 ≤ n := by omega
  refine callsIn_of_wp_marks Tryd.func58 rfl trivial ?_ rfl
  simp only [Tryd.ntmps58, List.size_toArray, List.length_cons, List.length_nil, Nat.reduceAdd, Nat.reduceSub, Array.replicate_succ, Array.replicate_zero, List.push_toArray, List.append_toArray, List.nil_append, List.cons_append]
  gi_wp2
  obtain ⟨W0, hW0⟩ : ∃ W0, w.alloc (.cells #[.slice none 0 0] 58) = W0 := ⟨_, rfl⟩
  have hs0 : W0.heap.size = w.heap.size + 1 := by rw [← hW0]; simp
  have hB0 : Boxed W0 w.heap.size 58 (.slice none 0 0) := by rw [← hW0]; exact Boxed.new w _ _
  have hb0 : Below w.heap.size w W0 := by rw [← hW0]; exact (Below.refl _ w).alloc (Nat.le_refl _) _
  rw [hW0]
  refine rangeFunc_box rfl h1 (gf := g) (lb := lb) rfl trivial eg hseq hb0 rfl (so40_ApI w) (so40_ApI.own w _ (by omega)) ⟨⟨_, hB0, World.ownsRow_nil _ _ _ _, by simp⟩, hb0, by rw [← hW0]; exact Nat.le_refl _⟩
    (fun pre x a1 W => so40_ApI w pre W ∧ ∃ bx, W.heap[bx]? = some (.cells #[.int .u8 x.a0, .int .u8 x.a1, .int .u8 x.a2, .int .u8 x.a3, .int .u8 x.a4, .int .u8 x.a5, .int .u8 x.a6, .int .u8 x.a7] 32 (0, 0)) ∧
      a1 = { tmps := #[.slice none 0 0, .func (.func g) #[] lb, .pointer (some ⟨w.heap.size, 0, none⟩), undef, .slice none 0 0, .pointer (some ⟨bx, 0, none⟩), .func (.func g) #[] lb, so40_kv x, undef, undef, undef, undef, undef], defers := [] })
    (fun x a1 => OwnD.and (so40_ApI.own w _ (by omega)) (fun s X Y row hs hg _ hr => by
      obtain ⟨bx, hx, e⟩ := hs
      exact ⟨bx, (grownBy_keeps_cells hg (fun r e => (hr r e).2) hx rfl).trans hx, e⟩)) ?assign ?body ?done
  case assign =>
    intro l pre x W hI hlen
    unfold so40_kv
    gi_wp2_with (rw [Oper.semAt_eq _ _ _ (fun c h => by cases h)]; go_simp; try go_bits)
    exact ⟨⟨(so40_ApI.own w w.heap.size (Nat.le_refl _)).alloc _ hI, W.heap.size, World.alloc_heap_new W _, rfl⟩, KeepsOthers.alloc _ _⟩
  case body =>
    rintro l pre x a1 W ⟨⟨⟨v, hv, hrow, hnil⟩, hB, hD0⟩, bx, hbx, rfl⟩ hlen
    obtain ⟨i0, hi, hz0, hz1, hz2⟩ := so40_info
    have hc := hv.cell
    have hf := hv.frozen
    have hx0 : W.cell? ⟨bx, 0, none⟩ = some (.int .u8 x.a0) := by simp [World.cell?, hbx]
    have hx1 : W.cell? ⟨bx, 1, none⟩ = some (.int .u8 x.a1) := by simp [World.cell?, hbx]
    have hx2 : W.cell? ⟨bx, 2, none⟩ = some (.int .u8 x.a2) := by simp [World.cell?, hbx]
    have hx3 : W.cell? ⟨bx, 3, none⟩ = some (.int .u8 x.a3) := by simp [World.cell?, hbx]
    have hx4 : W.cell? ⟨bx, 4, none⟩ = some (.int .u8 x.a4) := by simp [World.cell?, hbx]
    have hx5 : W.cell? ⟨bx, 5, none⟩ = some (.int .u8 x.a5) := by simp [World.cell?, hbx]
    have hx6 : W.cell? ⟨bx, 6, none⟩ = some (.int .u8 x.a6) := by simp [World.cell?, hbx]
    have hx7 : W.cell? ⟨bx, 7, none⟩ = some (.int .u8 x.a7) := by simp [World.cell?, hbx]
    have hbs := hB.size
    unfold so40_kv
    gi_wp2_with (first
      | (gi_at_builtin; refine wpListIn_append_d _ rfl _ _ 58 rfl w.heap.size 32 i0 _ 8 8 Tryd.underlying58 hi hz0 hz1 hz2 rfl (by decide) _ _ _ rfl (hrow.alloc _) ⟨W.heap.size, 0, none⟩ 1 1 (so40_kc x) rfl rfl ?_ ?_ (by omega) (by omega) (by simp; omega) ?_)
      | (rw [Oper.semAt_eq _ _ _ (fun c h => by cases h)]; go_simp; try go_bits))
    · exact fun j u hj => cell_new W (so40_kc x) 32 j u hj
    · intro u hu
      simp only [so40_kc, List.mem_cons, List.not_mem_nil, or_false] at hu
      rcases hu with rfl | rfl | rfl | rfl | rfl | rfl | rfl | rfl <;> rfl
    · intro v' w3 hown' hg3 hd3 hnil3
      obtain ⟨hv3, hv4, hrow4, hko, hbe⟩ := hv.appended (by decide) hrow hbs (Nat.le_refl _) hown' hg3
      have hc3 := hv3.cell
      have hf3 := hv3.frozen
      obtain ⟨g', cap', hv'⟩ := ownsRow_succ hown'
      subst hv'
      gi_wp2_with (rw [Oper.semAt_eq _ _ _ (fun c h => by cases h)]; go_simp; try go_bits)
      refine ⟨⟨_, hv4, ?_, by simp⟩, hB.trans hbe, Nat.le_trans hD0 hd3⟩
      rw [List.length_append, List.flatMap_append]
      simpa using hrow4
  case done =>
    rintro D ss W hD hS ⟨⟨v, hv, hrow, hnil⟩, hB, hD0⟩ hK
    have hc := hv.cell
    have hf := hv.frozen
    gi_wp2
    refine ⟨by simp, .inl ⟨_, _, rfl, run_takeDeferred hK, ?_⟩⟩
    exact ⟨_, results_tmp rfl _ _ _, v, ss, rfl, hS, ownsRow_putObj hrow _ hK rfl, hnil, hB.grown (grownBy_putObj' _ _ _) hB.size (fun k e => by cases e; omega), hD0⟩

theorem so40_collect (n : Nat) (hn : 3 ≤ n) (g : Nat) (lb : Array Value) (eg : ∀ args w, (callFunc g args).run Tryd.prog w = .ok (.enter g args) w) (S : List (A8 (Int)) → Prop) (N : Nat) (hN : N ≤ maxLen) (hNb : N * 8 ≤ 140737488355328)
    (w : World) (hseq : SeqD Fence.wide (n - 1 - 1) Tryd.prog g lb so40_kv S N w) :
    CallsIn Fence.wide n Tryd.prog 49 #[.func (.func g) #[] lb] w fun e w' => ∃ (v : Value) (ss : List (A8 (Int))), e = .returned v ∧ S ss ∧ w'.ownsRow w.heap.size 32 8 v ss.length (ss.flatMap so40_kc) ∧ (v = .slice none 0 0 ↔ ss = []) ∧ Below w.heap.size w w' ∧ w.drawn ≤ w'.drawn := by
  have h1 : 1 ≤ n := by omega
  have F78 : Fence.wide.fn 58 := trivial
  refine callsIn_of_wp Tryd.func49 rfl trivial ?_ rfl
  simp only [Tryd.ntmps49, List.size_toArray, List.length_cons, List.length_nil, Nat.reduceAdd, Nat.reduceSub, Array.replicate_succ, Array.replicate_zero, List.push_toArray, List.append_toArray, List.nil_append, List.cons_append]
  gi_wp2_with (gi_at_call 58; refine (so40_appendSeq (n - 1) (by omega) g lb eg S N hN hNb _ hseq).mono ?_; rintro e w' ⟨v, ss, rfl, hS, hrow, hnil, hb⟩)
  go_ret
  exact ⟨v, ss, rfl, hS, hrow, hnil, hb⟩

def so40_lay_ren : Go.Shelf.Ren := ⟨fun | 6 => 50 | 15 => 60 | 14 => 59 | 28 => 74 | 29 => 75 | 20 => 66 | 21 => 67 | 22 => 68 | 23 => 69 | 24 => 70 | 25 => 71 | 26 => 72 | 27 => 73 | 46 => 81 | 47 => 82 | 48 => 83 | 49 => 84 | 50 => 85 | 57 => 90 | n => n, fun | 22 => 58 | 24 => 32 | 25 => 80 | 3 => 3 | 39 => 113 | 0 => 0 | 53 => 33 | 55 => 96 | 4 => 4 | 46 => 120 | 45 => 119 | 50 => 124 | 5 => 5 | 9 => 9 | 66 => 129 | 70 => 133 | 76 => 138 | 77 => 139 | n => n, fun | n => n⟩
theorem so40_lay : Go.Proofs.SlLaysF0.n6 Tryd.prog so40_lay_ren where
  mixed := by kernel_rfl
  f6 := ⟨Tryd.f50.name, by decide, Tryd.func50.trans (congrArg some (by kernel_rfl))⟩
  f14 := ⟨Tryd.f59.name, by decide, Tryd.func59.trans (congrArg some (by kernel_rfl))⟩
  f15 := Tryd.func60.trans (congrArg some (by kernel_rfl))
  f20 := ⟨Tryd.f66.name, by decide, Tryd.func66.trans (congrArg some (by kernel_rfl))⟩
  f21 := ⟨Tryd.f67.name, by decide, Tryd.func67.trans (congrArg some (by kernel_rfl))⟩
  f22 := ⟨Tryd.f68.name, by decide, Tryd.func68.trans (congrArg some (by kernel_rfl))⟩
  f23 := ⟨Tryd.f69.name, by decide, Tryd.func69.trans (congrArg some (by kernel_rfl))⟩
  f24 := ⟨Tryd.f70.name, by decide, Tryd.func70.trans (congrArg some (by kernel_rfl))⟩
  f25 := ⟨Tryd.f71.name, by decide, Tryd.func71.trans (congrArg some (by kernel_rfl))⟩
  f26 := ⟨Tryd.f72.name, by decide, Tryd.func72.trans (congrArg some (by kernel_rfl))⟩
  f27 := ⟨Tryd.f73.name, by decide, Tryd.func73.trans (congrArg some (by kernel_rfl))⟩
  f28 := Tryd.func74.trans (congrArg some (by kernel_rfl))
  f29 := Tryd.func75.trans (congrArg some (by kernel_rfl))
  f46 := ⟨Tryd.f81.name, by decide, Tryd.func81.trans (congrArg some (by kernel_rfl))⟩
  f47 := Tryd.func82.trans (congrArg some (by kernel_rfl))
  f48 := Tryd.func83.trans (congrArg some (by kernel_rfl))
  f49 := ⟨Tryd.f84.name, by decide, Tryd.func84.trans (congrArg some (by kernel_rfl))⟩
  f50 := ⟨Tryd.f85.name, by decide, Tryd.func85.trans (congrArg some (by kernel_rfl))⟩
  f57 := ⟨Tryd.f90.name, by decide, Tryd.func90.trans (congrArg some (by kernel_rfl))⟩
  t0 := Tryd.underlying0
  a0 := Tryd.isAgg0
  z0 := Tryd.sizeOf0
  v0 := Tryd.zeroValue0
  t3 := Tryd.underlying3
  a3 := Tryd.isAgg3
  z3 := Tryd.sizeOf3
  v3 := Tryd.zeroValue3
  t4 := Tryd.underlying4
  a4 := Tryd.isAgg4
  z4 := Tryd.sizeOf4
  v4 := Tryd.zeroValue4
  t5 := Tryd.underlying5
  a5 := Tryd.isAgg5
  z5 := Tryd.sizeOf5
  v5 := Tryd.zeroValue5
  t9 := Tryd.underlying9
  a9 := Tryd.isAgg9
  z9 := Tryd.sizeOf9
  v9 := Tryd.zeroValue9
  t22 := Tryd.underlying58
  a22 := Tryd.isAgg58
  z22 := Tryd.sizeOf58
  v22 := Tryd.zeroValue58
  t25 := Tryd.underlying80
  a25 := Tryd.isAgg80
  z25 := Tryd.sizeOf80
  v25 := Tryd.zeroValue80
  t39 := Tryd.underlying113
  a39 := Tryd.isAgg113
  z39 := Tryd.sizeOf113
  v39 := Tryd.zeroValue113
  t45 := Tryd.underlying119
  a45 := Tryd.isAgg119
  z45 := Tryd.sizeOf119
  v45 := Tryd.zeroValue119
  t46 := Tryd.underlying120
  a46 := Tryd.isAgg120
  z46 := Tryd.sizeOf120
  v46 := Tryd.zeroValue120
  t50 := Tryd.underlying124
  a50 := Tryd.isAgg124
  z50 := Tryd.sizeOf124
  v50 := Tryd.zeroValue124
  t53 := Tryd.underlying33
  a53 := Tryd.isAgg33
  z53 := Tryd.sizeOf33
  v53 := Tryd.zeroValue33
  t55 := Tryd.underlying96
  a55 := Tryd.isAgg96
  z55 := Tryd.sizeOf96
  v55 := Tryd.zeroValue96
  t66 := Tryd.underlying129
  a66 := Tryd.isAgg129
  z66 := Tryd.sizeOf129
  v66 := Tryd.zeroValue129
  t70 := Tryd.underlying133
  a70 := Tryd.isAgg133
  z70 := Tryd.sizeOf133
  v70 := Tryd.zeroValue133
  t76 := Tryd.underlying138
  a76 := Tryd.isAgg138
  z76 := Tryd.sizeOf138
  v76 := Tryd.zeroValue138
  t77 := Tryd.underlying139
  a77 := Tryd.isAgg139
  z77 := Tryd.sizeOf139
  v77 := Tryd.zeroValue139

theorem so40_sortedF (k1 g : Nat) (lb : Array Value) (e1 : ∀ args w, (callFunc k1 args).run Tryd.prog w = .ok (.enter k1 args) w) (eg : ∀ args w, (callFunc g args).run Tryd.prog w = .ok (.enter g args) w)
    (cf : (A8 (Int)) → (A8 (Int)) → Int) (hT : TotCmp cf) (hcmp : ∀ blk off size w, Go.Proofs.CmpLays Tryd.prog g #[] so40_kc 8 cf blk off size w)
    (ks : List (A8 (Int))) (hN : ks.length ≤ maxLen) (hNb : ks.length * 8 ≤ 140737488355328) (w : World) (hseq : SeqD Fence.wide 8 Tryd.prog k1 lb so40_kv (fun xs => xs.Perm ks) ks.length w) :
    Calls Tryd.prog 40 #[.func (.func k1) #[] lb, .func (.func g) #[] #[]] w fun e w' => ∃ v, e = .returned v ∧ Below w.heap.size w w' ∧ w.drawn ≤ w'.drawn ∧ SortedAt so40_kc 8 w w' v (sortL cf ks) := by
  have hc : Calls Tryd.prog 49 #[.func (.func k1) #[] lb] w _ := callsIn_wide.1 (so40_collect 10 (by omega) k1 lb e1 _ ks.length hN hNb w hseq)
  have hsort : ∀ (w1 : World) (v : Value) (ss : List (A8 (Int))), ss.Perm ks → w1.ownsRow w.heap.size 32 8 v ss.length (ss.flatMap so40_kc) → (v = .slice none 0 0 ↔ ss = []) → Below w.heap.size w w1 →
      Calls Tryd.prog 50 #[v, .func (.func g) #[] #[]] w1 fun e w' => e = .returned (.tuple #[]) ∧ Below w.heap.size w1 w' ∧ w1.drawn ≤ w'.drawn ∧ SortedAt so40_kc 8 w w' v (sortL cf ks) := by
    intro w1 v ss hS hrow hnil hb
    by_cases hss : ss = []
    · subst hss
      rw [hnil.2 rfl]
      have hks : ks = [] := List.length_eq_zero_iff.1 (by rw [← hS.length_eq]; rfl)
      have h := Go.Proofs.AnyF.slices_SortFunc_none so40_lay none 0 (.func (.func g) #[] #[]) w1
      change Calls Tryd.prog 50 _ _ _ at h
      refine h.mono ?_
      rintro e w' ⟨rfl, rfl⟩
      exact ⟨rfl, Below.refl _ _, Nat.le_refl _, .inl ⟨rfl, by subst hks; exact List.eq_nil_of_length_eq_zero (sortL_len cf [])⟩⟩
    · obtain ⟨m, hm⟩ : ∃ m, ss.length = m + 1 := ⟨ss.length - 1, by have := List.length_pos_iff.2 hss; omega⟩
      obtain ⟨blk, cap, hv⟩ := ownsRow_succ (by rw [hm] at hrow; exact hrow)
      rw [← hm] at hv
      subst hv
      obtain ⟨h1, h2, h3, h4, _⟩ := holds_of_owns so40_len hrow
      have hsz : ss.toArray.size < 4611686018427387904 := by
        have := hS.length_eq
        simp only [List.size_toArray]
        omega
      have h := Go.Proofs.AnyQ.slices_SortFunc_total so40_lay 8 Tryd.isAgg32 Tryd.sizeOf32 so40_kc so40_len so40_one cf hT.swo g #[] blk 0 cap ss.toArray w1 eg (hcmp blk 0 _ w1) h1 h3 hsz hT.tot
      change Calls Tryd.prog 50 _ _ _ at h
      rw [List.size_toArray] at h
      refine h.mono ?_
      rintro e w' ⟨rfl, n, os, rfl⟩
      have hbs := below_sort so40_kc 8 w1 blk 0 n (sortL cf ss).toArray os w.heap.size h2 hb.size
      refine ⟨rfl, hbs.1, hbs.2, ?_⟩
      rw [← sortL_of_perm hT hS]
      exact sortedAt_of so40_len (by decide) (Nat.le_refl _) hrow (sortL_len cf ss) hss rfl
  clear hseq hcmp
  go_enter Tryd.func40, Tryd.ntmps40
  go_wp2_with (first
    | (go_at_call 49; refine hc.mono ?_; rintro e w1 ⟨v, ss, rfl, hS, hrow, hnil, hb, hd⟩)
    | (go_at_call 50; refine (hsort w1 v ss hS hrow hnil hb).mono ?_; rintro e w2 ⟨rfl, hb2, hd2, hs2⟩))
  go_ret
  exact ⟨v, rfl, hb.trans hb2, Nat.le_trans hd hd2, hs2⟩

/-- cmp.isNaN[byte] -/

def cmp_isNaN_byte_v (r : (Bool)) : LV := .bool r

def cmp_isNaN_byte (x : Int) : Option ((Bool)) :=
  some (x != x)

theorem cmp_isNaN_byte_ok (x : Int) (r : (Bool)) (h : cmp_isNaN_byte x = some r) : ∀ σ, Inj 0 σ → FnTri Tryd.prog 76 (renL σ [.int .u8 x]) (preOf σ 0 []) ((cmp_isNaN_byte_v r).ren σ) (upOf σ []) := by
  refine fn_of Tryd.func76 (by kernel_rfl) (by kernel_rfl) (by kernel_rfl) trivial (by kernel_rfl) trivial (by kernel_rfl) ?_
  intro w0 W μ0 hμ
  unfold cmp_isNaN_byte at h
  obtain rfl := Option.some.inj h
  exact run_ret mixed (L := []) (n := 15) (s := [.reg [], .reg []])
    (a_ (a_ (a_ (a_ tr tr) tr) (a_ (a_ (a_ tr tr) (a_ (a_ tr tr) (a_ (a_ tr tr) (a_ (a_ tr tr) tr)))) tr)) tr) (by kernel_rfl) rfl

theorem cmp_isNaN_byte_tri (x : Int) (r : (Bool)) (h : cmp_isNaN_byte x = some r) : FnTri Tryd.prog 76 [.int .u8 x] [] (cmp_isNaN_byte_v r) [] := FnTri.none (cmp_isNaN_byte_ok x r h) rfl rfl

/-- cmp.Compare[byte] -/

def cmp_Compare_byte_v (r : (Int)) : LV := .int .i64 r

def cmp_Compare_byte (x : Int) (y : Int) : Option ((Int)) :=
  (cmp_isNaN_byte x).bind fun y2 =>
  (cmp_isNaN_byte y).bind fun y4 =>
  if (y2 : Bool) then
    if (y4 : Bool) then
      some 0
    else
      some (-1)
  else
    if (y4 : Bool) then
      some 1
    else
      if ((decide (x < y)) : Bool) then
        some (-1)
      else
        if ((decide (y < x)) : Bool) then
          some 1
        else
          some 0

theorem cmp_Compare_byte_ok (x : Int) (y : Int) (r : (Int)) (h : cmp_Compare_byte x y = some r) : ∀ σ, Inj 0 σ → FnTri Tryd.prog 61 (renL σ [.int .u8 x, .int .u8 y]) (preOf σ 0 []) ((cmp_Compare_byte_v r).ren σ) (upOf σ []) := by
  refine fn_of Tryd.func61 (by kernel_rfl) (by kernel_rfl) (by kernel_rfl) trivial (by kernel_rfl) trivial (by kernel_rfl) ?_
  intro w0 W μ0 hμ
  unfold cmp_Compare_byte at h
  obtain ⟨y2, e1, h⟩ := bind_some h
  obtain ⟨y4, e3, h⟩ := bind_some h
  rcases itb_some h with ⟨c5, h⟩ | ⟨c5, h⟩
  · skip
    rcases itb_some h with ⟨c6, h⟩ | ⟨c6, h⟩
    · skip
      obtain rfl := Option.some.inj h
      exact run_ret mixed (L := []) (n := 31) (s := [.reg [], .reg [(1, { call := some (cmp_isNaN_byte_v y2, [], []) })], .reg [(1, { call := some (cmp_isNaN_byte_v y4, [], []) })], .reg [(0, { v := some (.bool true) })], .reg [(0, { v := some (.bool true) })], .reg []])
        (a_ (a_ (a_ (a_ tr tr) tr) (a_ (a_ (a_ tr tr) (a_ (a_ (a_ (cmp_isNaN_byte_tri x y2 e1) tr) tr) (a_ (a_ tr tr) tr))) (a_ (a_ (a_ tr tr) (a_ (a_ (a_ (cmp_isNaN_byte_tri y y4 e3) tr) tr) (a_ (a_ tr tr) tr))) (a_ (a_ (a_ tr (a_ (leB c5) tr)) tr) (a_ (a_ (a_ tr (a_ (leB c6) tr)) tr) (a_ (a_ (a_ tr tr) tr) tr)))))) tr) (by kernel_rfl) rfl
    · skip
      obtain rfl := Option.some.inj h
      exact run_ret mixed (L := []) (n := 32) (s := [.reg [], .reg [(1, { call := some (cmp_isNaN_byte_v y2, [], []) })], .reg [(1, { call := some (cmp_isNaN_byte_v y4, [], []) })], .reg [(0, { v := some (.bool true) })], .reg [(0, { v := some (.bool false) })], .reg []])
        (a_ (a_ (a_ (a_ tr tr) tr) (a_ (a_ (a_ tr tr) (a_ (a_ (a_ (cmp_isNaN_byte_tri x y2 e1) tr) tr) (a_ (a_ tr tr) tr))) (a_ (a_ (a_ tr tr) (a_ (a_ (a_ (cmp_isNaN_byte_tri y y4 e3) tr) tr) (a_ (a_ tr tr) tr))) (a_ (a_ (a_ tr (a_ (leB c5) tr)) tr) (a_ (a_ (a_ tr (a_ (leB c6) tr)) tr) (a_ (a_ (a_ tr tr) tr) tr)))))) tr) (by kernel_rfl) rfl
  · skip
    rcases itb_some h with ⟨c6, h⟩ | ⟨c6, h⟩
    · skip
      obtain rfl := Option.some.inj h
      exact run_ret mixed (L := []) (n := 32) (s := [.reg [], .reg [(1, { call := some (cmp_isNaN_byte_v y2, [], []) })], .reg [(1, { call := some (cmp_isNaN_byte_v y4, [], []) })], .reg [(0, { v := some (.bool false) })], .reg [(0, { v := some (.bool true) })], .reg []])
        (a_ (a_ (a_ (a_ tr tr) tr) (a_ (a_ (a_ tr tr) (a_ (a_ (a_ (cmp_isNaN_byte_tri x y2 e1) tr) tr) (a_ (a_ tr tr) tr))) (a_ (a_ (a_ tr tr) (a_ (a_ (a_ (cmp_isNaN_byte_tri y y4 e3) tr) tr) (a_ (a_ tr tr) tr))) (a_ (a_ (a_ tr (a_ (leB c5) tr)) tr) (a_ (a_ (a_ tr (a_ (leB c6) tr)) tr) (a_ (a_ (a_ tr tr) tr) tr)))))) tr) (by kernel_rfl) rfl
    · skip
      rcases itb_some h with ⟨c7, h⟩ | ⟨c7, h⟩
      · skip
        obtain rfl := Option.some.inj h
        exact run_ret mixed (L := []) (n := 38) (s := [.reg [], .reg [(1, { call := some (cmp_isNaN_byte_v y2, [], []) })], .reg [(1, { call := some (cmp_isNaN_byte_v y4, [], []) })], .reg [(0, { v := some (.bool false) })], .reg [(0, { v := some (.bool false) })], .reg [(2, { v := some (.bool true) })], .reg []])
          (a_ (a_ (a_ (a_ tr tr) tr) (a_ (a_ (a_ tr tr) (a_ (a_ (a_ (cmp_isNaN_byte_tri x y2 e1) tr) tr) (a_ (a_ tr tr) tr))) (a_ (a_ (a_ tr tr) (a_ (a_ (a_ (cmp_isNaN_byte_tri y y4 e3) tr) tr) (a_ (a_ tr tr) tr))) (a_ (a_ (a_ tr (a_ (leB c5) tr)) tr) (a_ (a_ (a_ tr (a_ (leB c6) tr)) tr) (a_ (a_ (a_ tr tr) (a_ (a_ tr tr) (a_ (a_ tr (a_ (leB c7) tr)) tr))) (a_ (a_ (a_ tr tr) tr) tr))))))) tr) (by kernel_rfl) rfl
      · skip
        rcases itb_some h with ⟨c8, h⟩ | ⟨c8, h⟩
        · skip
          obtain rfl := Option.some.inj h
          exact run_ret mixed (L := []) (n := 44) (s := [.reg [], .reg [(1, { call := some (cmp_isNaN_byte_v y2, [], []) })], .reg [(1, { call := some (cmp_isNaN_byte_v y4, [], []) })], .reg [(0, { v := some (.bool false) })], .reg [(0, { v := some (.bool false) })], .reg [(2, { v := some (.bool false) })], .reg [(2, { v := some (.bool true) })], .reg []])
            (a_ (a_ (a_ (a_ tr tr) tr) (a_ (a_ (a_ tr tr) (a_ (a_ (a_ (cmp_isNaN_byte_tri x y2 e1) tr) tr) (a_ (a_ tr tr) tr))) (a_ (a_ (a_ tr tr) (a_ (a_ (a_ (cmp_isNaN_byte_tri y y4 e3) tr) tr) (a_ (a_ tr tr) tr))) (a_ (a_ (a_ tr (a_ (leB c5) tr)) tr) (a_ (a_ (a_ tr (a_ (leB c6) tr)) tr) (a_ (a_ (a_ tr tr) (a_ (a_ tr tr) (a_ (a_ tr (a_ (leB c7) tr)) tr))) (a_ (a_ (a_ tr tr) (a_ (a_ tr tr) (a_ (a_ tr (a_ (leB c8) tr)) tr))) (a_ (a_ (a_ tr tr) tr) tr)))))))) tr) (by kernel_rfl) rfl
        · skip
          obtain rfl := Option.some.inj h
          exact run_ret mixed (L := []) (n := 45) (s := [.reg [], .reg [(1, { call := some (cmp_isNaN_byte_v y2, [], []) })], .reg [(1, { call := some (cmp_isNaN_byte_v y4, [], []) })], .reg [(0, { v := some (.bool false) })], .reg [(0, { v := some (.bool false) })], .reg [(2, { v := some (.bool false) })], .reg [(2, { v := some (.bool false) })], .reg []])
            (a_ (a_ (a_ (a_ tr tr) tr) (a_ (a_ (a_ tr tr) (a_ (a_ (a_ (cmp_isNaN_byte_tri x y2 e1) tr) tr) (a_ (a_ tr tr) tr))) (a_ (a_ (a_ tr tr) (a_ (a_ (a_ (cmp_isNaN_byte_tri y y4 e3) tr) tr) (a_ (a_ tr tr) tr))) (a_ (a_ (a_ tr (a_ (leB c5) tr)) tr) (a_ (a_ (a_ tr (a_ (leB c6) tr)) tr) (a_ (a_ (a_ tr tr) (a_ (a_ tr tr) (a_ (a_ tr (a_ (leB c7) tr)) tr))) (a_ (a_ (a_ tr tr) (a_ (a_ tr tr) (a_ (a_ tr (a_ (leB c8) tr)) tr))) (a_ (a_ (a_ tr tr) tr) tr)))))))) tr) (by kernel_rfl) rfl

theorem cmp_Compare_byte_tri (x : Int) (y : Int) (r : (Int)) (h : cmp_Compare_byte x y = some r) : FnTri Tryd.prog 61 [.int .u8 x, .int .u8 y] [] (cmp_Compare_byte_v r) [] := FnTri.none (cmp_Compare_byte_ok x y r h) rfl rfl

/-- slices.Compare[[]byte,byte] -/

def slices_Compare_byte_byte_v (r : (Int)) : LV := .int .i64 r

def slices_Compare_byte_byte_up (s1 : A8 (Int)) (s2 : A8 (Int)) (r : (Int)) : Upd := [(0, some (.var [.int .u8 s1.a0, .int .u8 s1.a1, .int .u8 s1.a2, .int .u8 s1.a3, .int .u8 s1.a4, .int .u8 s1.a5, .int .u8 s1.a6, .int .u8 s1.a7])), (1, some (.var [.int .u8 s2.a0, .int .u8 s2.a1, .int .u8 s2.a2, .int .u8 s2.a3, .int .u8 s2.a4, .int .u8 s2.a5, .int .u8 s2.a6, .int .u8 s2.a7]))]

def slices_Compare_byte_byte_objs (s1 : A8 (Int)) (s2 : A8 (Int)) : List LO := [.var [.int .u8 s1.a0, .int .u8 s1.a1, .int .u8 s1.a2, .int .u8 s1.a3, .int .u8 s1.a4, .int .u8 s1.a5, .int .u8 s1.a6, .int .u8 s1.a7], .var [.int .u8 s2.a0, .int .u8 s2.a1, .int .u8 s2.a2, .int .u8 s2.a3, .int .u8 s2.a4, .int .u8 s2.a5, .int .u8 s2.a6, .int .u8 s2.a7]]

def slices_Compare_byte_byte_T0 (s1 : A8 (Int)) (s2 : A8 (Int)) (t11 : Int) : List LV := [.sl 0 0 0 true 8 (some 8), .sl 1 0 0 true 8 (some 8), .any, .any, .any, .any, .any, .any, .any, .sl 0 0 0 true 8 (some 8), .int .i64 8, .int .i64 t11, .any, .any, .any, .any, .any, .any, .any, .any, .any, .any, .any, .any, .any, .any, .any, .any, .any, .any, .any, .any, .any, .any, .any, .any]

def slices_Compare_byte_byte_H0 (s1 : A8 (Int)) (s2 : A8 (Int)) (t11 : Int) : Heap := [some (.var [.int .u8 s1.a0, .int .u8 s1.a1, .int .u8 s1.a2, .int .u8 s1.a3, .int .u8 s1.a4, .int .u8 s1.a5, .int .u8 s1.a6, .int .u8 s1.a7]), some (.var [.int .u8 s2.a0, .int .u8 s2.a1, .int .u8 s2.a2, .int .u8 s2.a3, .int .u8 s2.a4, .int .u8 s2.a5, .int .u8 s2.a6, .int .u8 s2.a7])]

def slices_Compare_byte_byte_l0 (s1 : A8 (Int)) (s2 : A8 (Int))  : Nat → (Int) → Option ((Int))
  | 0, _ => none
  | fuel + 1, t11 =>
    if ((decide (t11 < 8)) : Bool) then
      if 0 ≤ t11 ∧ t11 < 8 then
      if ((decide (8 ≤ t11)) : Bool) then
        some 1
      else
        (cmp_Compare_byte (A8.get s1 t11.toNat) (A8.get s2 t11.toNat)).bind fun yL0_5 =>
        if ((yL0_5 != 0) : Bool) then
          some yL0_5
        else
          slices_Compare_byte_byte_l0 s1 s2  fuel (IntKind.wrap .i64 (t11 + 1))
      else none
    else
      some 0

def slices_Compare_byte_byte (s1 : A8 (Int)) (s2 : A8 (Int)) : Option ((Int)) :=
  slices_Compare_byte_byte_l0 s1 s2  big 0

theorem slices_Compare_byte_byte_l0_ok {w0 : World} {W : Nat → Prop} {μ0 : Emb} (hμ : ∀ c p, μ0 c = some p → c < 2) (s1 : A8 (Int)) (s2 : A8 (Int))  : ∀ (fuel : Nat) (t11 : Int) (r : (Int)), slices_Compare_byte_byte_l0 s1 s2  fuel t11 = some r → kont Tryd.prog w0 W μ0 (FnPost Tryd.prog Tryd.f52 2 2 (slices_Compare_byte_byte_v r) (slices_Compare_byte_byte_up s1 s2 r)) (kAt (bodyOf Tryd.f52) 0) none (slices_Compare_byte_byte_T0 s1 s2 t11) (slices_Compare_byte_byte_H0 s1 s2 t11) := by
  intro fuel
  induction fuel with
  | zero => intro t11 r h; rw [slices_Compare_byte_byte_l0] at h; cases h
  | succ fuel ih =>
    intro t11 r h
    rw [slices_Compare_byte_byte_l0] at h
    rcases itb_some h with ⟨cL0_1, h⟩ | ⟨cL0_1, h⟩
    · skip
      obtain ⟨gL0_2, h⟩ := guard_some h
      rcases itb_some h with ⟨cL0_3, h⟩ | ⟨cL0_3, h⟩
      · skip
        obtain rfl := Option.some.inj h
        exact run_ret mixed (L := []) (n := 29) (s := [.go, .reg [(0, { v := some (.bool true) })], .reg [(2, { v := some (.int .u8 (A8.get s1 t11.toNat)) })], .reg [(3, { v := some (.bool true) })], .reg []])
          (a_ (a_ (a_ (a_ tr (a_ (leB cL0_1) tr)) tr) (a_ (a_ (a_ tr tr) (a_ (a_ gL0_2 tr) (a_ (a_ (a_ tr (arrLt (len := 8) gL0_2 0 1 8 rfl rfl)) (a_ (ld8s (cInt .u8) 1 (fun _ => rfl) s1 [] [] 0 rfl t11.toNat (lt8N gL0_2) (le_ (0 + 1) 1 rfl)) tr)) (a_ (a_ tr tr) (a_ (a_ tr tr) tr))))) (a_ (a_ (a_ tr tr) (a_ (a_ tr tr) (a_ (a_ tr tr) (a_ (a_ tr (a_ (leB cL0_3) tr)) tr)))) (a_ (a_ (a_ tr tr) tr) tr)))) tr) (by kernel_rfl) rfl
      · skip
        obtain ⟨yL0_5, eL0_4, h⟩ := bind_some h
        rcases itb_some h with ⟨cL0_6, h⟩ | ⟨cL0_6, h⟩
        · skip
          obtain rfl := Option.some.inj h
          exact run_ret mixed (L := []) (n := 40) (s := [.go, .reg [(0, { v := some (.bool true) })], .reg [(2, { v := some (.int .u8 (A8.get s1 t11.toNat)) })], .reg [(3, { v := some (.bool false) })], .reg [(3, { v := some (.int .u8 (A8.get s2 t11.toNat)) })], .reg [(2, { call := some (cmp_Compare_byte_v yL0_5, [], []) })], .reg [(1, { v := some (.bool true) })], .reg []])
            (a_ (a_ (a_ (a_ tr (a_ (leB cL0_1) tr)) tr) (a_ (a_ (a_ tr tr) (a_ (a_ gL0_2 tr) (a_ (a_ (a_ tr (arrLt (len := 8) gL0_2 0 1 8 rfl rfl)) (a_ (ld8s (cInt .u8) 1 (fun _ => rfl) s1 [] [] 0 rfl t11.toNat (lt8N gL0_2) (le_ (0 + 1) 1 rfl)) tr)) (a_ (a_ tr tr) (a_ (a_ tr tr) tr))))) (a_ (a_ (a_ tr tr) (a_ (a_ tr tr) (a_ (a_ tr tr) (a_ (a_ tr (a_ (leB cL0_3) tr)) tr)))) (a_ (a_ (a_ tr tr) (a_ (a_ tr tr) (a_ (a_ gL0_2 tr) (a_ (a_ (a_ tr (arrLt (len := 8) gL0_2 0 1 8 rfl rfl)) (a_ (ld8s (cInt .u8) 1 (fun _ => rfl) s2 [] [] 0 rfl t11.toNat (lt8N gL0_2) (le_ (0 + 1) 1 rfl)) tr)) (a_ (a_ tr tr) tr))))) (a_ (a_ (a_ tr tr) (a_ (a_ tr tr) (a_ (a_ (a_ (cmp_Compare_byte_tri (A8.get s1 t11.toNat) (A8.get s2 t11.toNat) yL0_5 eL0_4) tr) tr) (a_ (a_ tr tr) tr)))) (a_ (a_ (a_ tr tr) (a_ (a_ tr (a_ (leB cL0_6) tr)) tr)) (a_ (a_ (a_ tr tr) (a_ (a_ tr tr) tr)) tr))))))) tr) (by kernel_rfl) rfl
        · skip
          exact run_to mixed hμ (L := []) (n := 41) (s := [.go, .reg [(0, { v := some (.bool true) })], .reg [(2, { v := some (.int .u8 (A8.get s1 t11.toNat)) })], .reg [(3, { v := some (.bool false) })], .reg [(3, { v := some (.int .u8 (A8.get s2 t11.toNat)) })], .reg [(2, { call := some (cmp_Compare_byte_v yL0_5, [], []) })], .reg [(1, { v := some (.bool false) })], .reg []])
            (a_ (a_ (a_ tr (a_ (leB cL0_1) tr)) tr) (a_ (a_ (a_ tr tr) (a_ (a_ gL0_2 tr) (a_ (a_ (a_ tr (arrLt (len := 8) gL0_2 0 1 8 rfl rfl)) (a_ (ld8s (cInt .u8) 1 (fun _ => rfl) s1 [] [] 0 rfl t11.toNat (lt8N gL0_2) (le_ (0 + 1) 1 rfl)) tr)) (a_ (a_ tr tr) (a_ (a_ tr tr) tr))))) (a_ (a_ (a_ tr tr) (a_ (a_ tr tr) (a_ (a_ tr tr) (a_ (a_ tr (a_ (leB cL0_3) tr)) tr)))) (a_ (a_ (a_ tr tr) (a_ (a_ tr tr) (a_ (a_ gL0_2 tr) (a_ (a_ (a_ tr (arrLt (len := 8) gL0_2 0 1 8 rfl rfl)) (a_ (ld8s (cInt .u8) 1 (fun _ => rfl) s2 [] [] 0 rfl t11.toNat (lt8N gL0_2) (le_ (0 + 1) 1 rfl)) tr)) (a_ (a_ tr tr) tr))))) (a_ (a_ (a_ tr tr) (a_ (a_ tr tr) (a_ (a_ (a_ (cmp_Compare_byte_tri (A8.get s1 t11.toNat) (A8.get s2 t11.toNat) yL0_5 eL0_4) tr) tr) (a_ (a_ tr tr) tr)))) (a_ (a_ (a_ tr tr) (a_ (a_ tr (a_ (leB cL0_6) tr)) tr)) (a_ (a_ (a_ tr tr) (a_ (a_ tr tr) tr)) tr))))))) (ih _ r h) (by kernel_rfl) ⟨rfl, rfl, trivial⟩
    · skip
      obtain rfl := Option.some.inj h
      exact run_ret mixed (L := []) (n := 25) (s := [.go, .reg [(0, { v := some (.bool false) })], .reg [], .reg []])
        (a_ (a_ (a_ (a_ tr (a_ (leB cL0_1) tr)) tr) (a_ (a_ (a_ tr tr) (a_ (a_ tr tr) (a_ (a_ tr tr) (a_ (a_ tr tr) (a_ (a_ tr tr) tr))))) (a_ (a_ (a_ tr tr) tr) tr))) tr) (by kernel_rfl) rfl

theorem slices_Compare_byte_byte_ok (s1 : A8 (Int)) (s2 : A8 (Int)) (r : (Int)) (h : slices_Compare_byte_byte s1 s2 = some r) : ∀ σ, Inj 2 σ → FnTri Tryd.prog 52 (renL σ [.sl 0 0 0 true 8 (some 8), .sl 1 0 0 true 8 (some 8)]) (preOf σ 0 (slices_Compare_byte_byte_objs s1 s2)) ((slices_Compare_byte_byte_v r).ren σ) (upOf σ (slices_Compare_byte_byte_up s1 s2 r)) := by
  refine fn_of Tryd.func52 (by kernel_rfl) (by kernel_rfl) (by kernel_rfl) ⟨rfl, rfl, trivial⟩ (by kernel_rfl) ⟨rfl, rfl, trivial⟩ (by kernel_rfl) ?_
  intro w0 W μ0 hμ
  unfold slices_Compare_byte_byte at h
  exact run_to mixed hμ (L := []) (n := 18) (s := [.reg [], .reg []])
    (a_ (a_ (a_ tr tr) tr) (a_ (a_ (a_ tr tr) (a_ (a_ tr tr) (a_ (a_ tr tr) tr))) tr)) (slices_Compare_byte_byte_l0_ok hμ s1 s2  big _ r h) (by kernel_rfl) ⟨rfl, rfl, trivial⟩

/-- parrel/ids.Keys -/

def ids_Keys_v (r : (Int)) : LV := .int .i64 r

def ids_Keys (a : A8 (Int)) (b : A8 (Int)) : Option ((Int)) :=
  (slices_Compare_byte_byte a b).bind fun y2 =>
  some y2

theorem ids_Keys_ok (a : A8 (Int)) (b : A8 (Int)) (r : (Int)) (h : ids_Keys a b = some r) : ∀ σ, Inj 0 σ → FnTri Tryd.prog 42 (renL σ [.agg [.int .u8 a.a0, .int .u8 a.a1, .int .u8 a.a2, .int .u8 a.a3, .int .u8 a.a4, .int .u8 a.a5, .int .u8 a.a6, .int .u8 a.a7], .agg [.int .u8 b.a0, .int .u8 b.a1, .int .u8 b.a2, .int .u8 b.a3, .int .u8 b.a4, .int .u8 b.a5, .int .u8 b.a6, .int .u8 b.a7]]) (preOf σ 0 []) ((ids_Keys_v r).ren σ) (upOf σ []) := by
  refine fn_of Tryd.func42 (by kernel_rfl) (by kernel_rfl) (by kernel_rfl) trivial (by kernel_rfl) trivial (by kernel_rfl) ?_
  intro w0 W μ0 hμ
  unfold ids_Keys at h
  obtain ⟨y2, e1, h⟩ := bind_some h
  obtain rfl := Option.some.inj h
  exact run_ret mixed (L := []) (n := 15) (s := [.reg [], .reg [(2, { call := some ((slices_Compare_byte_byte_v y2).ren (sel [0, 1]), preOf (sel [0, 1]) 0 (slices_Compare_byte_byte_objs a b), upOf (sel [0, 1]) (slices_Compare_byte_byte_up a b y2)) })]])
    (a_ (a_ (a_ (a_ tr tr) (a_ (a_ tr tr) (a_ (a_ tr tr) tr))) (a_ (a_ (a_ (a_ (lei_ 0 0 rfl) (a_ (lei_ 0 8 rfl) (lei_ 8 8 rfl))) tr) (a_ (a_ (a_ (lei_ 0 0 rfl) (a_ (lei_ 0 8 rfl) (lei_ 8 8 rfl))) tr) (a_ (a_ (a_ (slices_Compare_byte_byte_ok a b y2 e1 (sel [0, 1]) (sel_inj rfl rfl)) (a_ (LO.Le.refl (.var [.int .u8 a.a0, .int .u8 a.a1, .int .u8 a.a2, .int .u8 a.a3, .int .u8 a.a4, .int .u8 a.a5, .int .u8 a.a6, .int .u8 a.a7])) (a_ (LO.Le.refl (.var [.int .u8 b.a0, .int .u8 b.a1, .int .u8 b.a2, .int .u8 b.a3, .int .u8 b.a4, .int .u8 b.a5, .int .u8 b.a6, .int .u8 b.a7])) tr))) tr) (a_ (a_ tr tr) tr)))) tr)) tr) (by kernel_rfl) rfl

theorem ids_Keys_tri (a : A8 (Int)) (b : A8 (Int)) (r : (Int)) (h : ids_Keys a b = some r) : FnTri Tryd.prog 42 [.agg [.int .u8 a.a0, .int .u8 a.a1, .int .u8 a.a2, .int .u8 a.a3, .int .u8 a.a4, .int .u8 a.a5, .int .u8 a.a6, .int .u8 a.a7], .agg [.int .u8 b.a0, .int .u8 b.a1, .int .u8 b.a2, .int .u8 b.a3, .int .u8 b.a4, .int .u8 b.a5, .int .u8 b.a6, .int .u8 b.a7]] [] (ids_Keys_v r) [] := FnTri.none (ids_Keys_ok a b r h) rfl rfl

theorem so40k51_keys (n : Nat) (Bm b : Nat) (es : Array MapEntry) (clock : Nat) (ks : List (A8 (Int))) (w : World) (off : Nat) (hm : w.cell? ⟨Bm, off, none⟩ = some (.map (some b))) (hBm : Bm < w.heap.size) (hb : w.heap[b]? = some (.map es clock))
    (hold : ∀ x ∈ es.toList, x.born < clock) (hnd : (es.toList.map (·.born)).Nodup) (hk : es.toList.map (·.key) = ks.map so40_kv) :
    SeqD Fence.wide n Tryd.prog 51 #[.pointer (some ⟨Bm, off, none⟩)] so40_kv (fun xs => xs.Perm ks) es.size w := fun l J W hW hJ hY h0 => by
  have hbW : W.heap[b]? = some (.map es clock) := (hW.block b (Array.getElem?_eq_some_iff.1 hb).1).trans hb
  have hc : W.cell? ⟨Bm, off, none⟩ = some (.map (some b)) := (World.cell?_of_block (hW.block Bm hBm)).trans hm
  refine callsIn_of_wp Tryd.func51 rfl trivial ?_ rfl
  simp only [Tryd.ntmps51, List.size_toArray, List.length_cons, List.length_nil, Nat.reduceAdd, Nat.reduceSub, Array.replicate_succ, Array.replicate_zero, List.push_toArray, List.append_toArray, List.nil_append, List.cons_append]
  gi_wp2_with (first
    | (gi_at_range; refine wpListIn_range_raw _ rfl _ 60 rfl 32 35 Tryd.underlying60 b es clock rfl hbW ?_)
    | gi_in)
  go_frame
  have hrg0 : Rg (W.alloc (.mapIter (some b) clock #[] clock)) b W.heap.size es clock [] :=
    ⟨(Below.heap_alloc _ _ b (Array.getElem?_eq_some_iff.1 hbW).1).trans hbW, World.alloc_heap_new W _, (fun d hd => by cases hd), List.nodup_nil⟩
  have hJ0 : J [] (W.alloc (.mapIter (some b) clock #[] clock)) := hJ [] W _ none h0 (World.grownBy_alloc W _ none) (Nat.le_refl _) (fun r e => by cases e)
  gi_loopw [3] (fun _ wr => ∃ (ds : List MapEntry) (xs : List (A8 (Int))), Rg wr b W.heap.size es clock ds ∧ ds.map (·.key) = xs.map so40_kv ∧ J xs wr)
    (fun _ wr => itLeft b W.heap.size wr)
  case atStart => exact ⟨[], [], hrg0, rfl, hJ0⟩
  case round =>
    obtain ⟨ds, xs, hrg, hdx, hJs⟩ := hrel
    gi_wp2_with (first
      | (gi_at_next; refine wpListIn_next_raw _ rfl _ rfl b W.heap.size es clock ds rfl hrg hold hnd ?_ ?_)
      | gi_in)
    · intro hall
      gi_wp2
      go_end0
      refine ⟨⟨_, rfl⟩, xs, ?_, hJs⟩
      have hp := (hrg.perm hnd (fun x hx => hall x (by simpa using hx))).map (·.key)
      rw [hdx, hk] at hp
      exact perm_of_map so40_kv so40_kd so40_kdv hp
    · intro e w2 he hrg2 hg2 hd2 hs2 hen
      obtain ⟨x, hx⟩ : ∃ x, e.key = so40_kv x := by
        have : e.key ∈ es.toList.map (·.key) := List.mem_map.2 ⟨e, by simpa using he, rfl⟩
        rw [hk] at this
        obtain ⟨x, _, hx⟩ := List.mem_map.1 this
        exact ⟨x, hx.symm⟩
      rw [hx] at hen ⊢
      have hJ2 : J xs w2 := hJ xs wr w2 _ hJs hg2 hd2 (fun r e => by cases e; exact ⟨Nat.le_refl _, _, hrg.it, rfl⟩)
      have hlt2 : xs.length < es.size := by
        have h1 := hrg2.len hnd
        have h2 := congrArg List.length hdx
        simp only [List.length_map, List.length_append, List.length_cons, List.length_nil] at h1 h2
        omega
      have hJ3 : J xs (w2.alloc (.cells #[.int .u8 x.a0, .int .u8 x.a1, .int .u8 x.a2, .int .u8 x.a3, .int .u8 x.a4, .int .u8 x.a5, .int .u8 x.a6, .int .u8 x.a7] 32)) := hJ xs w2 _ none hJ2 (World.grownBy_alloc w2 _ none) (Nat.le_refl _) (fun r e => by cases e)
      obtain ⟨fn, tmps, assign, body, hy, hR⟩ := hY xs x _ hJ3 hlt2
      unfold so40_kv at hen hy ⊢
      clear hs2 hd2
      gi_wp2
      refine ⟨fun h => absurd h (by simp [Fence.wide]), hR.mono ?_⟩
      rintro e' W4 ⟨rfl, hJ4, hk4⟩
      gi_wp2
      have hrg4 := (hrg2.walks (KeepsWalks.alloc _ _)).walks hk4
      go_roundw
      case rel => exact ⟨ds ++ [e], xs ++ [x], hrg4, by rw [List.map_append, List.map_append, hdx, List.map_cons, hx]; rfl, hJ4⟩
      case measure =>
        rw [hrg4.left, hrg.left]
        have := hrg2.len hnd
        simp only [List.length_append, List.length_cons, List.length_nil] at this ⊢
        omega


theorem so40k51_keysn (n : Nat) (Bm off : Nat) (w : World) (hm : w.cell? ⟨Bm, off, none⟩ = some (.map none)) (hBm : Bm < w.heap.size) :
    SeqD Fence.wide n Tryd.prog 51 #[.pointer (some ⟨Bm, off, none⟩)] so40_kv (fun xs => xs.Perm []) 0 w := fun l J W hW hJ hY h0 => by
  have hc : W.cell? ⟨Bm, off, none⟩ = some (.map none) := (World.cell?_of_block (hW.block Bm hBm)).trans hm
  refine callsIn_of_wp Tryd.func51 rfl trivial ?_ rfl
  simp only [Tryd.ntmps51, List.size_toArray, List.length_cons, List.length_nil, Nat.reduceAdd, Nat.reduceSub, Array.replicate_succ, Array.replicate_zero, List.push_toArray, List.append_toArray, List.nil_append, List.cons_append]
  gi_wp2_with (first
    | (gi_at_range; refine wpListIn_range_nil _ rfl _ 60 rfl 32 35 Tryd.underlying60 rfl ?_)
    | gi_in)
  go_frame
  have hJ0 : J [] (W.alloc (.mapIter none 0 #[] 0)) := hJ [] W _ none h0 (World.grownBy_alloc W _ none) (Nat.le_refl _) (fun r e => by cases e)
  gi_loopw [3] (fun _ wr => wr.heap[W.heap.size]? = some (.mapIter none 0 #[] 0) ∧ J [] wr) (fun _ _ => 0)
  case atStart => exact ⟨World.alloc_heap_new W _, hJ0⟩
  case round =>
    obtain ⟨hit, hJs⟩ := hrel
    gi_wp2_with (first
      | (gi_at_next; refine wpListIn_next_nil _ rfl _ rfl W.heap.size rfl hit ?_)
      | gi_in)
    gi_wp2
    go_end0
    exact ⟨⟨_, rfl⟩, [], List.Perm.refl _, hJs⟩

theorem so40k51_det (φ : Fro) (x : (A8 (Int))) (v : Value) (h : RelF φ ((fun z_ : A8 (Int) => LV.agg [.int .u8 z_.a0, .int .u8 z_.a1, .int .u8 z_.a2, .int .u8 z_.a3, .int .u8 z_.a4, .int .u8 z_.a5, .int .u8 z_.a6, .int .u8 z_.a7]) x) v) : v = so40_kv x := so40_det φ x v h
theorem so40k51_rel (μ : Emb) (x : (A8 (Int))) : Rel μ ((fun z_ : A8 (Int) => LV.agg [.int .u8 z_.a0, .int .u8 z_.a1, .int .u8 z_.a2, .int .u8 z_.a3, .int .u8 z_.a4, .int .u8 z_.a5, .int .u8 z_.a6, .int .u8 z_.a7]) x) (.agg (so40_kc x).toArray) := ⟨_, rfl, RelFL.rel (so40_enc μ.fro x)⟩
theorem so40k51_tri (g : FuncId) (cmp : (A8 (Int)) → (A8 (Int)) → Option Int) (r : List (A8 (Int))) (hcmp : ∀ x y r, cmp x y = some r → FnTri Tryd.prog g [(fun z_ : A8 (Int) => LV.agg [.int .u8 z_.a0, .int .u8 z_.a1, .int .u8 z_.a2, .int .u8 z_.a3, .int .u8 z_.a4, .int .u8 z_.a5, .int .u8 z_.a6, .int .u8 z_.a7]) x, (fun z_ : A8 (Int) => LV.agg [.int .u8 z_.a0, .int .u8 z_.a1, .int .u8 z_.a2, .int .u8 z_.a3, .int .u8 z_.a4, .int .u8 z_.a5, .int .u8 z_.a6, .int .u8 z_.a7]) y] [] (.int .i64 r) []) (b c : Nat) (hbc : b ≠ c) (m : List ((A8 (Int)) × (T_api_Config)))
    (h : sortO cmp 8 (m.map (·.1)) = some r) : FnTri Tryd.prog 40 [.fn 51 [] [.ptr b 0 0], .fn g [] []] [(b, .var [.map c]), (c, .map true [.int .u8, .int .u8, .int .u8, .int .u8, .int .u8, .int .u8, .int .u8, .int .u8] (encM (fun z_ : A8 (Int) => LV.agg [.int .u8 z_.a0, .int .u8 z_.a1, .int .u8 z_.a2, .int .u8 z_.a3, .int .u8 z_.a4, .int .u8 z_.a5, .int .u8 z_.a6, .int .u8 z_.a7]) v_T_api_Config m))] (.ds 8 r.length (rowF (fun z_ : A8 (Int) => [.int .u8 z_.a0, .int .u8 z_.a1, .int .u8 z_.a2, .int .u8 z_.a3, .int .u8 z_.a4, .int .u8 z_.a5, .int .u8 z_.a6, .int .u8 z_.a7]) default r)) [] := by
  obtain ⟨cf, hT, hcf, hL1, hL2, rfl⟩ := sortO_some h
  have hcl : ∀ blk off size w, Go.Proofs.CmpLays Tryd.prog g #[] so40_kc 8 cf blk off size w := cmp_of_tri (ek := (fun z_ : A8 (Int) => LV.agg [.int .u8 z_.a0, .int .u8 z_.a1, .int .u8 z_.a2, .int .u8 z_.a3, .int .u8 z_.a4, .int .u8 z_.a5, .int .u8 z_.a6, .int .u8 z_.a7])) (fun x y => hcmp x y _ (hcf x y)) so40k51_rel 8
  have eg := enters_tri (hcmp default default _ (hcf default default)).1
  refine ⟨⟨_, Tryd.func40, by kernel_rfl, by kernel_rfl⟩, fun μ w vals hr hp hf => ?_⟩
  obtain ⟨v0, r0, rfl, ⟨a0, b0, rfl, ha, hb⟩, v1, r1, rfl, ⟨a1, b1, rfl, ha1, hb1⟩, rfl⟩ := hr
  obtain rfl := rel_nocap ha
  obtain rfl := rel_nocap ha1
  obtain rfl := rel_nocap hb1
  obtain ⟨p, hpb, rfl⟩ := rel_cap hb
  obtain ⟨p', hpb', hok⟩ := hp.obj b _ List.mem_cons_self
  obtain rfl := Option.some.inj (hpb.symm.trans hpb')
  obtain ⟨vm, hvm, hcell, hlt⟩ := var_cell hok
  obtain ⟨q, hq, rfl⟩ := hvm
  obtain ⟨q', hq', hok2⟩ := hp.obj c _ (List.mem_cons_of_mem _ List.mem_cons_self)
  obtain rfl := Option.some.inj (hq.symm.trans hq')
  obtain ⟨⟨es, clock, hes, hF2, hnd, hborn⟩, _⟩ := hok2
  have hlen : es.size = (m.map (·.1)).length := by
    have := ents_len _ _ hF2
    rw [List.length_map]; simpa using this
  have hseq := so40k51_keys 8 p.rb q.rb es clock (m.map (·.1)) w _ hcell hlt hes hborn hnd (ents_keys so40k51_det _ _ hF2)
  rw [hlen] at hseq
  refine (so40_sortedF 51 g _ (enters_of Tryd.func51 (by kernel_rfl) rfl) eg cf hT hcl (m.map (·.1)) hL1 hL2 w hseq).mono ?_
  rintro e w' ⟨v, rfl, hb', hd', hs'⟩
  obtain ⟨μ', h1, h2⟩ := sorted_fin so40_enc so40_len so40_one hp hb' hd' hs'
  exact ⟨v, μ', rfl, h1, h2⟩
theorem so40k51_trin (g : FuncId) (cmp : (A8 (Int)) → (A8 (Int)) → Option Int) (r : List (A8 (Int))) (hcmp : ∀ x y r, cmp x y = some r → FnTri Tryd.prog g [(fun z_ : A8 (Int) => LV.agg [.int .u8 z_.a0, .int .u8 z_.a1, .int .u8 z_.a2, .int .u8 z_.a3, .int .u8 z_.a4, .int .u8 z_.a5, .int .u8 z_.a6, .int .u8 z_.a7]) x, (fun z_ : A8 (Int) => LV.agg [.int .u8 z_.a0, .int .u8 z_.a1, .int .u8 z_.a2, .int .u8 z_.a3, .int .u8 z_.a4, .int .u8 z_.a5, .int .u8 z_.a6, .int .u8 z_.a7]) y] [] (.int .i64 r) []) (b : Nat)
    (h : sortO cmp 8 ([] : List (A8 (Int))) = some r) : FnTri Tryd.prog 40 [.fn 51 [] [.ptr b 0 0], .fn g [] []] [(b, .var [.nilmap])] (.ds 8 r.length (rowF (fun z_ : A8 (Int) => [.int .u8 z_.a0, .int .u8 z_.a1, .int .u8 z_.a2, .int .u8 z_.a3, .int .u8 z_.a4, .int .u8 z_.a5, .int .u8 z_.a6, .int .u8 z_.a7]) default r)) [] := by
  obtain ⟨cf, hT, hcf, hL1, hL2, rfl⟩ := sortO_some h
  have hcl : ∀ blk off size w, Go.Proofs.CmpLays Tryd.prog g #[] so40_kc 8 cf blk off size w := cmp_of_tri (ek := (fun z_ : A8 (Int) => LV.agg [.int .u8 z_.a0, .int .u8 z_.a1, .int .u8 z_.a2, .int .u8 z_.a3, .int .u8 z_.a4, .int .u8 z_.a5, .int .u8 z_.a6, .int .u8 z_.a7])) (fun x y => hcmp x y _ (hcf x y)) so40k51_rel 8
  have eg := enters_tri (hcmp default default _ (hcf default default)).1
  refine ⟨⟨_, Tryd.func40, by kernel_rfl, by kernel_rfl⟩, fun μ w vals hr hp hf => ?_⟩
  obtain ⟨v0, r0, rfl, ⟨a0, b0, rfl, ha, hb⟩, v1, r1, rfl, ⟨a1, b1, rfl, ha1, hb1⟩, rfl⟩ := hr
  obtain rfl := rel_nocap ha
  obtain rfl := rel_nocap ha1
  obtain rfl := rel_nocap hb1
  obtain ⟨p, hpb, rfl⟩ := rel_cap hb
  obtain ⟨p', hpb', hok⟩ := hp.obj b _ List.mem_cons_self
  obtain rfl := Option.some.inj (hpb.symm.trans hpb')
  obtain ⟨vm, hvm, hcell, hlt⟩ := var_cell hok
  simp only [Rel] at hvm
  subst hvm
  have hseq := so40k51_keysn 8 p.rb _ w hcell hlt
  refine (so40_sortedF 51 g _ (enters_of Tryd.func51 (by kernel_rfl) rfl) eg cf hT hcl [] hL1 hL2 w hseq).mono ?_
  rintro e w' ⟨v, rfl, hb', hd', hs'⟩
  obtain ⟨μ', h1, h2⟩ := sorted_fin so40_enc so40_len so40_one hp hb' hd' hs'
  exact ⟨v, μ', rfl, h1, h2⟩

/-- (*parrel/conf.Book).Keys -/

def conf_Book_Keys_v (r : (List (A8 (Int)))) : LV := .ds 8 (r).length (rowF (fun z_ : A8 (Int) => [.int .u8 z_.a0, .int .u8 z_.a1, .int .u8 z_.a2, .int .u8 z_.a3, .int .u8 z_.a4, .int .u8 z_.a5, .int .u8 z_.a6, .int .u8 z_.a7]) default r)

def conf_Book_Keys_up (m : List (A8 (Int) × T_api_Config)) (r : (List (A8 (Int)))) : Upd := [(0, some (.var [.map 1])), (1, some (.map true [.int .u8, .int .u8, .int .u8, .int .u8, .int .u8, .int .u8, .int .u8, .int .u8] (encM (fun z_ : A8 (Int) => LV.agg [.int .u8 z_.a0, .int .u8 z_.a1, .int .u8 z_.a2, .int .u8 z_.a3, .int .u8 z_.a4, .int .u8 z_.a5, .int .u8 z_.a6, .int .u8 z_.a7]) v_T_api_Config m)))]

def conf_Book_Keys_objs (m : List (A8 (Int) × T_api_Config)) : List LO := [.var [.map 1], .map true [.int .u8, .int .u8, .int .u8, .int .u8, .int .u8, .int .u8, .int .u8, .int .u8] (encM (fun z_ : A8 (Int) => LV.agg [.int .u8 z_.a0, .int .u8 z_.a1, .int .u8 z_.a2, .int .u8 z_.a3, .int .u8 z_.a4, .int .u8 z_.a5, .int .u8 z_.a6, .int .u8 z_.a7]) v_T_api_Config m)]

def conf_Book_Keys (m : List (A8 (Int) × T_api_Config)) : Option ((List (A8 (Int)))) :=
  (maps_Keys_map_api_Key_api_Config_api_Key_api_Config m).bind fun y2 =>
  (sortO ids_Keys 8 (m.map (·.1))).bind fun y3 =>
  some y3

theorem conf_Book_Keys_ok (m : List (A8 (Int) × T_api_Config)) (r : (List (A8 (Int)))) (h : conf_Book_Keys m = some r) : ∀ σ, Inj 2 σ → FnTri Tryd.prog 23 (renL σ [.ptr 0 0 0]) (preOf σ 0 (conf_Book_Keys_objs m)) ((conf_Book_Keys_v r).ren σ) (upOf σ (conf_Book_Keys_up m r)) := by
  refine fn_of Tryd.func23 (by kernel_rfl) (by kernel_rfl) (by kernel_rfl) ⟨rfl, trivial, trivial⟩ (by kernel_rfl) ⟨rfl, trivial, trivial⟩ (by kernel_rfl) ?_
  intro w0 W μ0 hμ
  unfold conf_Book_Keys at h
  obtain ⟨y2, e1, h⟩ := bind_some h
  obtain ⟨y3, e4, h⟩ := bind_some h
  obtain rfl := Option.some.inj h
  exact run_ret mixed (L := []) (n := 21) (s := [.reg [(0, { v := some (.ds 8 (([] : List (A8 (Int)))).length (rowF (fun z_ : A8 (Int) => [.int .u8 z_.a0, .int .u8 z_.a1, .int .u8 z_.a2, .int .u8 z_.a3, .int .u8 z_.a4, .int .u8 z_.a5, .int .u8 z_.a6, .int .u8 z_.a7]) default ([] : List (A8 (Int))))) })], .reg [], .reg [(4, { call := some ((maps_Keys_map_api_Key_api_Config_api_Key_api_Config_v y2).ren (sel [1, 2]), preOf (sel [1, 2]) 0 (maps_Keys_map_api_Key_api_Config_api_Key_api_Config_objs m), upOf (sel [1, 2]) (maps_Keys_map_api_Key_api_Config_api_Key_api_Config_up m y2)) }), (5, { call := some (.ds 8 (y3).length (rowF (fun z_ : A8 (Int) => [.int .u8 z_.a0, .int .u8 z_.a1, .int .u8 z_.a2, .int .u8 z_.a3, .int .u8 z_.a4, .int .u8 z_.a5, .int .u8 z_.a6, .int .u8 z_.a7]) default y3), [(2, .var [.map 1]), (1, .map true [.int .u8, .int .u8, .int .u8, .int .u8, .int .u8, .int .u8, .int .u8, .int .u8] (encM (fun z_ : A8 (Int) => LV.agg [.int .u8 z_.a0, .int .u8 z_.a1, .int .u8 z_.a2, .int .u8 z_.a3, .int .u8 z_.a4, .int .u8 z_.a5, .int .u8 z_.a6, .int .u8 z_.a7]) v_T_api_Config m))], []) })]])
    (a_ (a_ (a_ (a_ tr (a_ (le_nil_ds 8 (rowF (fun z_ : A8 (Int) => [.int .u8 z_.a0, .int .u8 z_.a1, .int .u8 z_.a2, .int .u8 z_.a3, .int .u8 z_.a4, .int .u8 z_.a5, .int .u8 z_.a6, .int .u8 z_.a7]) default [])) tr)) tr) (a_ (a_ (a_ tr tr) (a_ (a_ tr tr) tr)) (a_ (a_ (a_ tr tr) (a_ (a_ tr tr) (a_ (a_ tr tr) (a_ (a_ (a_ tr (lt_ 0 1 rfl)) tr) (a_ (a_ (a_ (maps_Keys_map_api_Key_api_Config_api_Key_api_Config_ok m y2 e1 (sel [1, 2]) (sel_inj rfl rfl)) (a_ (LO.Le.refl (.map true [.int .u8, .int .u8, .int .u8, .int .u8, .int .u8, .int .u8, .int .u8, .int .u8] (encM (fun z_ : A8 (Int) => LV.agg [.int .u8 z_.a0, .int .u8 z_.a1, .int .u8 z_.a2, .int .u8 z_.a3, .int .u8 z_.a4, .int .u8 z_.a5, .int .u8 z_.a6, .int .u8 z_.a7]) v_T_api_Config m))) tr)) tr) (a_ (a_ (a_ (so40k51_tri 42 ids_Keys y3 (fun x y r h => ids_Keys_tri x y r h) 2 1 (by decide) m e4) (a_ (LO.Le.refl (.var [.map 1])) (a_ (LO.Le.refl (.map true [.int .u8, .int .u8, .int .u8, .int .u8, .int .u8, .int .u8, .int .u8, .int .u8] (encM (fun z_ : A8 (Int) => LV.agg [.int .u8 z_.a0, .int .u8 z_.a1, .int .u8 z_.a2, .int .u8 z_.a3, .int .u8 z_.a4, .int .u8 z_.a5, .int .u8 z_.a6, .int .u8 z_.a7]) v_T_api_Config m))) tr))) tr) (a_ (a_ tr tr) tr))))))) tr))) tr) (by kernel_rfl) rfl

/-- parrel/parrellaw21.alive -/

def parrellaw21_alive_v (r : (Bool)) : LV := .bool r

def parrellaw21_alive  : Option ((Bool)) :=
  (parrellaw21_first 1).bind fun y2 =>
  (conf_New y2).bind fun y4 =>
  if (y4.1 : Bool) then
    some false
  else
    (parrellaw21_one 3).bind fun y7 =>
    (conf_Book_Learn y4.2.2 (A8.mk 97 0 0 0 0 0 0 0) y7).bind fun y9 =>
    if ((y9.1 != 0) : Bool) then
      some false
    else
      (parrellaw21_one 2).bind fun y12 =>
      (conf_Book_Learn y9.2 (A8.mk 97 0 0 0 0 0 0 0) y12).bind fun y14 =>
      if ((y14.1 != 13) : Bool) then
        some false
      else
        (conf_Book_Of y14.2 (A8.mk 97 0 0 0 0 0 0 0)).bind fun y17 =>
        if (y17.2 : Bool) then
          (parrellaw21_one 3).bind fun y20 =>
          if ((decide (y17.1 = y20)) : Bool) then
            (conf_Book_Keys y14.2).bind fun y23 =>
            some (((y23).length : Int) == 1)
          else
            some false
        else
          some false

theorem parrellaw21_alive_ok  (r : (Bool)) (h : parrellaw21_alive  = some r) : ∀ σ, Inj 0 σ → FnTri Tryd.prog 9 (renL σ []) (preOf σ 0 []) ((parrellaw21_alive_v r).ren σ) (upOf σ []) := by
  refine fn_of Tryd.func9 (by kernel_rfl) (by kernel_rfl) (by kernel_rfl) trivial (by kernel_rfl) trivial (by kernel_rfl) ?_
  intro w0 W μ0 hμ
  unfold parrellaw21_alive at h
  obtain ⟨y2, e1, h⟩ := bind_some h
  obtain ⟨y4, e3, h⟩ := bind_some h
  rcases itb_some h with ⟨c5, h⟩ | ⟨c5, h⟩
  · skip
    obtain rfl := Option.some.inj h
    exact run_ret mixed (L := []) (n := 26) (s := [.reg [], .reg [(0, { call := some (parrellaw21_first_v y2, [], []) }), (1, { call := some (conf_New_vA y4.2.1, [], []) })], .reg [], .reg [], .reg []])
      (a_ (a_ (a_ (a_ tr tr) tr) (a_ (a_ (a_ (a_ (parrellaw21_first_tri 1 y2 e1) tr) tr) (a_ (a_ (a_ (conf_New_triA y2 y4.2.1 y4.2.2 (altA e3 c5)) tr) tr) (a_ (a_ tr tr) (a_ (a_ tr tr) (a_ (a_ tr tr) (a_ (a_ tr tr) (a_ (a_ tr tr) tr))))))) (a_ (a_ (a_ (Eq.refl true) tr) (a_ (a_ tr tr) (a_ (a_ (a_ (Eq.refl 8) (a_ (le_ 8 8 rfl) (Eq.refl 0))) tr) tr))) (a_ (a_ (a_ tr tr) (a_ (a_ tr tr) (a_ (a_ tr tr) (a_ tr (a_ tr (a_ (a_ tr tr) (a_ (a_ tr tr) (a_ tr (a_ tr (a_ tr (a_ tr (a_ tr (a_ (a_ tr tr) (a_ (a_ tr tr) (a_ tr (a_ tr (a_ tr (a_ tr (a_ tr (a_ (a_ tr tr) tr)))))))))))))))))))) (a_ (a_ (a_ tr tr) tr) tr))))) tr) (by kernel_rfl) rfl
  · skip
    obtain ⟨y7, e6, h⟩ := bind_some h
    obtain ⟨y9, e8, h⟩ := bind_some h
    rcases itb_some h with ⟨c10, h⟩ | ⟨c10, h⟩
    · skip
      obtain rfl := Option.some.inj h
      exact run_ret mixed (L := []) (n := 26) (s := [.reg [], .reg [(0, { call := some (parrellaw21_first_v y2, [], []) }), (1, { call := some ((conf_New_vB y4.2.2).ren (sel [0, 1]), preOf (sel [0, 1]) 0 [], upOf (sel [0, 1]) (conf_New_upB y2 y4.2.2)) })], .reg [], .reg [(9, { call := some (parrellaw21_one_v y7, [], []) }), (10, { call := some ((conf_Book_Learn_v y9).ren (sel [0, 1]), preOf (sel [0, 1]) 0 (conf_Book_Learn_objs y4.2.2 (A8.mk 97 0 0 0 0 0 0 0) y7), upOf (sel [0, 1]) (conf_Book_Learn_up y4.2.2 (A8.mk 97 0 0 0 0 0 0 0) y7 y9)) }), (13, { v := some (.bool true) })], .reg []])
        (a_ (a_ (a_ (a_ tr tr) tr) (a_ (a_ (a_ (a_ (parrellaw21_first_tri 1 y2 e1) tr) tr) (a_ (a_ (a_ (conf_New_okB y2 y4.2.2 y4.2.1 (altB e3 c5) (sel [0, 1]) (sel_inj rfl rfl)) tr) tr) (a_ (a_ tr tr) (a_ (a_ tr tr) (a_ (a_ tr tr) (a_ (a_ tr tr) (a_ (a_ tr tr) tr))))))) (a_ (a_ (a_ (Eq.refl true) tr) (a_ (a_ tr tr) (a_ (a_ (a_ (Eq.refl 8) (a_ (le_ 8 8 rfl) (Eq.refl 0))) tr) tr))) (a_ (a_ (a_ tr tr) (a_ (a_ tr tr) (a_ (a_ tr tr) (a_ (a_ tr tr) (a_ (a_ tr tr) (a_ (a_ tr tr) (a_ (a_ tr tr) (a_ (a_ tr tr) (a_ (a_ (a_ tr (le_ 8 8 rfl)) tr) (a_ (a_ (a_ (parrellaw21_one_tri 3 y7 e6) tr) tr) (a_ (a_ (a_ (conf_Book_Learn_ok y4.2.2 (A8.mk 97 0 0 0 0 0 0 0) y7 y9 e8 (sel [0, 1]) (sel_inj rfl rfl)) (a_ (LO.Le.refl (.var [.map 1])) (a_ (LO.Le.refl (.map true [.int .u8, .int .u8, .int .u8, .int .u8, .int .u8, .int .u8, .int .u8, .int .u8] (encM (fun z_ : A8 (Int) => LV.agg [.int .u8 z_.a0, .int .u8 z_.a1, .int .u8 z_.a2, .int .u8 z_.a3, .int .u8 z_.a4, .int .u8 z_.a5, .int .u8 z_.a6, .int .u8 z_.a7]) v_T_api_Config y4.2.2))) tr))) tr) (a_ (a_ tr tr) (a_ (a_ tr tr) (a_ (a_ tr (a_ (leB c10) tr)) (a_ tr (a_ tr (a_ tr (a_ tr (a_ tr (a_ (a_ tr tr) tr)))))))))))))))))))) (a_ (a_ (a_ tr tr) tr) tr))))) tr) (by kernel_rfl) rfl
    · skip
      obtain ⟨y12, e11, h⟩ := bind_some h
      obtain ⟨y14, e13, h⟩ := bind_some h
      rcases itb_some h with ⟨c15, h⟩ | ⟨c15, h⟩
      · skip
        obtain rfl := Option.some.inj h
        exact run_ret mixed (L := []) (n := 26) (s := [.reg [], .reg [(0, { call := some (parrellaw21_first_v y2, [], []) }), (1, { call := some ((conf_New_vB y4.2.2).ren (sel [0, 1]), preOf (sel [0, 1]) 0 [], upOf (sel [0, 1]) (conf_New_upB y2 y4.2.2)) })], .reg [], .reg [(9, { call := some (parrellaw21_one_v y7, [], []) }), (10, { call := some ((conf_Book_Learn_v y9).ren (sel [0, 1]), preOf (sel [0, 1]) 0 (conf_Book_Learn_objs y4.2.2 (A8.mk 97 0 0 0 0 0 0 0) y7), upOf (sel [0, 1]) (conf_Book_Learn_up y4.2.2 (A8.mk 97 0 0 0 0 0 0 0) y7 y9)) }), (13, { v := some (.bool false) }), (16, { call := some (parrellaw21_one_v y12, [], []) }), (17, { call := some ((conf_Book_Learn_v y14).ren (sel [0, 1]), preOf (sel [0, 1]) 0 (conf_Book_Learn_objs y9.2 (A8.mk 97 0 0 0 0 0 0 0) y12), upOf (sel [0, 1]) (conf_Book_Learn_up y9.2 (A8.mk 97 0 0 0 0 0 0 0) y12 y14)) }), (19, { v := some (.bool true) })], .reg []])
          (a_ (a_ (a_ (a_ tr tr) tr) (a_ (a_ (a_ (a_ (parrellaw21_first_tri 1 y2 e1) tr) tr) (a_ (a_ (a_ (conf_New_okB y2 y4.2.2 y4.2.1 (altB e3 c5) (sel [0, 1]) (sel_inj rfl rfl)) tr) tr) (a_ (a_ tr tr) (a_ (a_ tr tr) (a_ (a_ tr tr) (a_ (a_ tr tr) (a_ (a_ tr tr) tr))))))) (a_ (a_ (a_ (Eq.refl true) tr) (a_ (a_ tr tr) (a_ (a_ (a_ (Eq.refl 8) (a_ (le_ 8 8 rfl) (Eq.refl 0))) tr) tr))) (a_ (a_ (a_ tr tr) (a_ (a_ tr tr) (a_ (a_ tr tr) (a_ (a_ tr tr) (a_ (a_ tr tr) (a_ (a_ tr tr) (a_ (a_ tr tr) (a_ (a_ tr tr) (a_ (a_ (a_ tr (le_ 8 8 rfl)) tr) (a_ (a_ (a_ (parrellaw21_one_tri 3 y7 e6) tr) tr) (a_ (a_ (a_ (conf_Book_Learn_ok y4.2.2 (A8.mk 97 0 0 0 0 0 0 0) y7 y9 e8 (sel [0, 1]) (sel_inj rfl rfl)) (a_ (LO.Le.refl (.var [.map 1])) (a_ (LO.Le.refl (.map true [.int .u8, .int .u8, .int .u8, .int .u8, .int .u8, .int .u8, .int .u8, .int .u8] (encM (fun z_ : A8 (Int) => LV.agg [.int .u8 z_.a0, .int .u8 z_.a1, .int .u8 z_.a2, .int .u8 z_.a3, .int .u8 z_.a4, .int .u8 z_.a5, .int .u8 z_.a6, .int .u8 z_.a7]) v_T_api_Config y4.2.2))) tr))) tr) (a_ (a_ tr tr) (a_ (a_ tr tr) (a_ (a_ tr (a_ (leB c10) tr)) (a_ (a_ tr tr) (a_ (a_ (a_ tr (le_ 8 8 rfl)) tr) (a_ (a_ (a_ (parrellaw21_one_tri 2 y12 e11) tr) tr) (a_ (a_ (a_ (conf_Book_Learn_ok y9.2 (A8.mk 97 0 0 0 0 0 0 0) y12 y14 e13 (sel [0, 1]) (sel_inj rfl rfl)) (a_ (LO.Le.refl (.var [.map 1])) (a_ (LO.Le.refl (.map true [.int .u8, .int .u8, .int .u8, .int .u8, .int .u8, .int .u8, .int .u8, .int .u8] (encM (fun z_ : A8 (Int) => LV.agg [.int .u8 z_.a0, .int .u8 z_.a1, .int .u8 z_.a2, .int .u8 z_.a3, .int .u8 z_.a4, .int .u8 z_.a5, .int .u8 z_.a6, .int .u8 z_.a7]) v_T_api_Config y9.2))) tr))) tr) (a_ (a_ tr tr) (a_ (a_ tr (a_ (leB c15) tr)) tr)))))))))))))))))))) (a_ (a_ (a_ tr tr) tr) tr))))) tr) (by kernel_rfl) rfl
      · skip
        obtain ⟨y17, e16, h⟩ := bind_some h
        rcases itb_some h with ⟨c18, h⟩ | ⟨c18, h⟩
        · skip
          obtain ⟨y20, e19, h⟩ := bind_some h
          rcases itb_some h with ⟨c21, h⟩ | ⟨c21, h⟩
          · skip
            obtain ⟨y23, e22, h⟩ := bind_some h
            obtain rfl := Option.some.inj h
            exact run_ret mixed (L := []) (n := 30) (s := [.reg [], .reg [(0, { call := some (parrellaw21_first_v y2, [], []) }), (1, { call := some ((conf_New_vB y4.2.2).ren (sel [0, 1]), preOf (sel [0, 1]) 0 [], upOf (sel [0, 1]) (conf_New_upB y2 y4.2.2)) })], .reg [], .reg [(9, { call := some (parrellaw21_one_v y7, [], []) }), (10, { call := some ((conf_Book_Learn_v y9).ren (sel [0, 1]), preOf (sel [0, 1]) 0 (conf_Book_Learn_objs y4.2.2 (A8.mk 97 0 0 0 0 0 0 0) y7), upOf (sel [0, 1]) (conf_Book_Learn_up y4.2.2 (A8.mk 97 0 0 0 0 0 0 0) y7 y9)) }), (13, { v := some (.bool false) }), (16, { call := some (parrellaw21_one_v y12, [], []) }), (17, { call := some ((conf_Book_Learn_v y14).ren (sel [0, 1]), preOf (sel [0, 1]) 0 (conf_Book_Learn_objs y9.2 (A8.mk 97 0 0 0 0 0 0 0) y12), upOf (sel [0, 1]) (conf_Book_Learn_up y9.2 (A8.mk 97 0 0 0 0 0 0 0) y12 y14)) }), (19, { v := some (.bool false) })], .reg [(2, { call := some ((conf_Book_Of_v y17).ren (sel [0, 1]), preOf (sel [0, 1]) 0 (conf_Book_Of_objs y14.2 (A8.mk 97 0 0 0 0 0 0 0)), upOf (sel [0, 1]) (conf_Book_Of_up y14.2 (A8.mk 97 0 0 0 0 0 0 0) y17)) })], .reg [(1, { v := some (.bool true) }), (3, { call := some (parrellaw21_one_v y20, [], []) }), (4, { v := some (.bool (decide (y17.1 = y20))) }), (6, { v := some (.bool true) }), (8, { call := some ((conf_Book_Keys_v y23).ren (sel [0, 1]), preOf (sel [0, 1]) 0 (conf_Book_Keys_objs y14.2), upOf (sel [0, 1]) (conf_Book_Keys_up y14.2 y23)) })]])
              (a_ (a_ (a_ (a_ tr tr) tr) (a_ (a_ (a_ (a_ (parrellaw21_first_tri 1 y2 e1) tr) tr) (a_ (a_ (a_ (conf_New_okB y2 y4.2.2 y4.2.1 (altB e3 c5) (sel [0, 1]) (sel_inj rfl rfl)) tr) tr) (a_ (a_ tr tr) (a_ (a_ tr tr) (a_ (a_ tr tr) (a_ (a_ tr tr) (a_ (a_ tr tr) tr))))))) (a_ (a_ (a_ (Eq.refl true) tr) (a_ (a_ tr tr) (a_ (a_ (a_ (Eq.refl 8) (a_ (le_ 8 8 rfl) (Eq.refl 0))) tr) tr))) (a_ (a_ (a_ tr tr) (a_ (a_ tr tr) (a_ (a_ tr tr) (a_ (a_ tr tr) (a_ (a_ tr tr) (a_ (a_ tr tr) (a_ (a_ tr tr) (a_ (a_ tr tr) (a_ (a_ (a_ tr (le_ 8 8 rfl)) tr) (a_ (a_ (a_ (parrellaw21_one_tri 3 y7 e6) tr) tr) (a_ (a_ (a_ (conf_Book_Learn_ok y4.2.2 (A8.mk 97 0 0 0 0 0 0 0) y7 y9 e8 (sel [0, 1]) (sel_inj rfl rfl)) (a_ (LO.Le.refl (.var [.map 1])) (a_ (LO.Le.refl (.map true [.int .u8, .int .u8, .int .u8, .int .u8, .int .u8, .int .u8, .int .u8, .int .u8] (encM (fun z_ : A8 (Int) => LV.agg [.int .u8 z_.a0, .int .u8 z_.a1, .int .u8 z_.a2, .int .u8 z_.a3, .int .u8 z_.a4, .int .u8 z_.a5, .int .u8 z_.a6, .int .u8 z_.a7]) v_T_api_Config y4.2.2))) tr))) tr) (a_ (a_ tr tr) (a_ (a_ tr tr) (a_ (a_ tr (a_ (leB c10) tr)) (a_ (a_ tr tr) (a_ (a_ (a_ tr (le_ 8 8 rfl)) tr) (a_ (a_ (a_ (parrellaw21_one_tri 2 y12 e11) tr) tr) (a_ (a_ (a_ (conf_Book_Learn_ok y9.2 (A8.mk 97 0 0 0 0 0 0 0) y12 y14 e13 (sel [0, 1]) (sel_inj rfl rfl)) (a_ (LO.Le.refl (.var [.map 1])) (a_ (LO.Le.refl (.map true [.int .u8, .int .u8, .int .u8, .int .u8, .int .u8, .int .u8, .int .u8, .int .u8] (encM (fun z_ : A8 (Int) => LV.agg [.int .u8 z_.a0, .int .u8 z_.a1, .int .u8 z_.a2, .int .u8 z_.a3, .int .u8 z_.a4, .int .u8 z_.a5, .int .u8 z_.a6, .int .u8 z_.a7]) v_T_api_Config y9.2))) tr))) tr) (a_ (a_ tr tr) (a_ (a_ tr (a_ (leB c15) tr)) tr)))))))))))))))))))) (a_ (a_ (a_ tr tr) (a_ (a_ (a_ tr (le_ 8 8 rfl)) tr) (a_ (a_ (a_ (conf_Book_Of_ok y14.2 (A8.mk 97 0 0 0 0 0 0 0) y17 e16 (sel [0, 1]) (sel_inj rfl rfl)) (a_ (LO.Le.refl (.var [.map 1])) (a_ (LO.Le.refl (.map true [.int .u8, .int .u8, .int .u8, .int .u8, .int .u8, .int .u8, .int .u8, .int .u8] (encM (fun z_ : A8 (Int) => LV.agg [.int .u8 z_.a0, .int .u8 z_.a1, .int .u8 z_.a2, .int .u8 z_.a3, .int .u8 z_.a4, .int .u8 z_.a5, .int .u8 z_.a6, .int .u8 z_.a7]) v_T_api_Config y14.2))) tr))) tr) (a_ (a_ tr tr) (a_ (a_ tr tr) (a_ (a_ tr tr) (a_ (a_ tr tr) (a_ (a_ (a_ (Eq.refl 11) (a_ (le_ 11 11 rfl) (Eq.refl 0))) tr) (a_ (a_ tr tr) tr))))))))) (a_ (a_ (a_ tr tr) (a_ (a_ tr (a_ (leB c18) tr)) (a_ (a_ (a_ tr (le_ 11 11 rfl)) tr) (a_ (a_ (a_ (parrellaw21_one_tri 3 y20 e19) tr) tr) (a_ (a_ tr (a_ (leB (k_T_api_Config y17.1 y20)) tr)) (a_ (a_ tr tr) (a_ (a_ tr (a_ (leB c21) tr)) (a_ (a_ tr tr) (a_ (a_ (a_ (conf_Book_Keys_ok y14.2 y23 e22 (sel [0, 1]) (sel_inj rfl rfl)) (a_ (LO.Le.refl (.var [.map 1])) (a_ (LO.Le.refl (.map true [.int .u8, .int .u8, .int .u8, .int .u8, .int .u8, .int .u8, .int .u8, .int .u8] (encM (fun z_ : A8 (Int) => LV.agg [.int .u8 z_.a0, .int .u8 z_.a1, .int .u8 z_.a2, .int .u8 z_.a3, .int .u8 z_.a4, .int .u8 z_.a5, .int .u8 z_.a6, .int .u8 z_.a7]) v_T_api_Config y14.2))) tr))) tr) (a_ (a_ tr tr) (a_ (a_ tr tr) (a_ (a_ tr tr) (a_ (a_ tr tr) tr))))))))))))) tr)))))) tr) (by kernel_rfl) rfl
          · skip
            obtain rfl := Option.some.inj h
            exact run_ret mixed (L := []) (n := 30) (s := [.reg [], .reg [(0, { call := some (parrellaw21_first_v y2, [], []) }), (1, { call := some ((conf_New_vB y4.2.2).ren (sel [0, 1]), preOf (sel [0, 1]) 0 [], upOf (sel [0, 1]) (conf_New_upB y2 y4.2.2)) })], .reg [], .reg [(9, { call := some (parrellaw21_one_v y7, [], []) }), (10, { call := some ((conf_Book_Learn_v y9).ren (sel [0, 1]), preOf (sel [0, 1]) 0 (conf_Book_Learn_objs y4.2.2 (A8.mk 97 0 0 0 0 0 0 0) y7), upOf (sel [0, 1]) (conf_Book_Learn_up y4.2.2 (A8.mk 97 0 0 0 0 0 0 0) y7 y9)) }), (13, { v := some (.bool false) }), (16, { call := some (parrellaw21_one_v y12, [], []) }), (17, { call := some ((conf_Book_Learn_v y14).ren (sel [0, 1]), preOf (sel [0, 1]) 0 (conf_Book_Learn_objs y9.2 (A8.mk 97 0 0 0 0 0 0 0) y12), upOf (sel [0, 1]) (conf_Book_Learn_up y9.2 (A8.mk 97 0 0 0 0 0 0 0) y12 y14)) }), (19, { v := some (.bool false) })], .reg [(2, { call := some ((conf_Book_Of_v y17).ren (sel [0, 1]), preOf (sel [0, 1]) 0 (conf_Book_Of_objs y14.2 (A8.mk 97 0 0 0 0 0 0 0)), upOf (sel [0, 1]) (conf_Book_Of_up y14.2 (A8.mk 97 0 0 0 0 0 0 0) y17)) })], .reg [(1, { v := some (.bool true) }), (3, { call := some (parrellaw21_one_v y20, [], []) }), (4, { v := some (.bool (decide (y17.1 = y20))) }), (6, { v := some (.bool false) })]])
              (a_ (a_ (a_ (a_ tr tr) tr) (a_ (a_ (a_ (a_ (parrellaw21_first_tri 1 y2 e1) tr) tr) (a_ (a_ (a_ (conf_New_okB y2 y4.2.2 y4.2.1 (altB e3 c5) (sel [0, 1]) (sel_inj rfl rfl)) tr) tr) (a_ (a_ tr tr) (a_ (a_ tr tr) (a_ (a_ tr tr) (a_ (a_ tr tr) (a_ (a_ tr tr) tr))))))) (a_ (a_ (a_ (Eq.refl true) tr) (a_ (a_ tr tr) (a_ (a_ (a_ (Eq.refl 8) (a_ (le_ 8 8 rfl) (Eq.refl 0))) tr) tr))) (a_ (a_ (a_ tr tr) (a_ (a_ tr tr) (a_ (a_ tr tr) (a_ (a_ tr tr) (a_ (a_ tr tr) (a_ (a_ tr tr) (a_ (a_ tr tr) (a_ (a_ tr tr) (a_ (a_ (a_ tr (le_ 8 8 rfl)) tr) (a_ (a_ (a_ (parrellaw21_one_tri 3 y7 e6) tr) tr) (a_ (a_ (a_ (conf_Book_Learn_ok y4.2.2 (A8.mk 97 0 0 0 0 0 0 0) y7 y9 e8 (sel [0, 1]) (sel_inj rfl rfl)) (a_ (LO.Le.refl (.var [.map 1])) (a_ (LO.Le.refl (.map true [.int .u8, .int .u8, .int .u8, .int .u8, .int .u8, .int .u8, .int .u8, .int .u8] (encM (fun z_ : A8 (Int) => LV.agg [.int .u8 z_.a0, .int .u8 z_.a1, .int .u8 z_.a2, .int .u8 z_.a3, .int .u8 z_.a4, .int .u8 z_.a5, .int .u8 z_.a6, .int .u8 z_.a7]) v_T_api_Config y4.2.2))) tr))) tr) (a_ (a_ tr tr) (a_ (a_ tr tr) (a_ (a_ tr (a_ (leB c10) tr)) (a_ (a_ tr tr) (a_ (a_ (a_ tr (le_ 8 8 rfl)) tr) (a_ (a_ (a_ (parrellaw21_one_tri 2 y12 e11) tr) tr) (a_ (a_ (a_ (conf_Book_Learn_ok y9.2 (A8.mk 97 0 0 0 0 0 0 0) y12 y14 e13 (sel [0, 1]) (sel_inj rfl rfl)) (a_ (LO.Le.refl (.var [.map 1])) (a_ (LO.Le.refl (.map true [.int .u8, .int .u8, .int .u8, .int .u8, .int .u8, .int .u8, .int .u8, .int .u8] (encM (fun z_ : A8 (Int) => LV.agg [.int .u8 z_.a0, .int .u8 z_.a1, .int .u8 z_.a2, .int .u8 z_.a3, .int .u8 z_.a4, .int .u8 z_.a5, .int .u8 z_.a6, .int .u8 z_.a7]) v_T_api_Config y9.2))) tr))) tr) (a_ (a_ tr tr) (a_ (a_ tr (a_ (leB c15) tr)) tr)))))))))))))))))))) (a_ (a_ (a_ tr tr) (a_ (a_ (a_ tr (le_ 8 8 rfl)) tr) (a_ (a_ (a_ (conf_Book_Of_ok y14.2 (A8.mk 97 0 0 0 0 0 0 0) y17 e16 (sel [0, 1]) (sel_inj rfl rfl)) (a_ (LO.Le.refl (.var [.map 1])) (a_ (LO.Le.refl (.map true [.int .u8, .int .u8, .int .u8, .int .u8, .int .u8, .int .u8, .int .u8, .int .u8] (encM (fun z_ : A8 (Int) => LV.agg [.int .u8 z_.a0, .int .u8 z_.a1, .int .u8 z_.a2, .int .u8 z_.a3, .int .u8 z_.a4, .int .u8 z_.a5, .int .u8 z_.a6, .int .u8 z_.a7]) v_T_api_Config y14.2))) tr))) tr) (a_ (a_ tr tr) (a_ (a_ tr tr) (a_ (a_ tr tr) (a_ (a_ tr tr) (a_ (a_ (a_ (Eq.refl 11) (a_ (le_ 11 11 rfl) (Eq.refl 0))) tr) (a_ (a_ tr tr) tr))))))))) (a_ (a_ (a_ tr tr) (a_ (a_ tr (a_ (leB c18) tr)) (a_ (a_ (a_ tr (le_ 11 11 rfl)) tr) (a_ (a_ (a_ (parrellaw21_one_tri 3 y20 e19) tr) tr) (a_ (a_ tr (a_ (leB (k_T_api_Config y17.1 y20)) tr)) (a_ (a_ tr tr) (a_ (a_ tr (a_ (leB c21) tr)) (a_ tr (a_ tr (a_ tr (a_ tr (a_ (a_ tr tr) (a_ (a_ tr tr) tr))))))))))))) tr)))))) tr) (by kernel_rfl) rfl
        · skip
          obtain rfl := Option.some.inj h
          exact run_ret mixed (L := []) (n := 30) (s := [.reg [], .reg [(0, { call := some (parrellaw21_first_v y2, [], []) }), (1, { call := some ((conf_New_vB y4.2.2).ren (sel [0, 1]), preOf (sel [0, 1]) 0 [], upOf (sel [0, 1]) (conf_New_upB y2 y4.2.2)) })], .reg [], .reg [(9, { call := some (parrellaw21_one_v y7, [], []) }), (10, { call := some ((conf_Book_Learn_v y9).ren (sel [0, 1]), preOf (sel [0, 1]) 0 (conf_Book_Learn_objs y4.2.2 (A8.mk 97 0 0 0 0 0 0 0) y7), upOf (sel [0, 1]) (conf_Book_Learn_up y4.2.2 (A8.mk 97 0 0 0 0 0 0 0) y7 y9)) }), (13, { v := some (.bool false) }), (16, { call := some (parrellaw21_one_v y12, [], []) }), (17, { call := some ((conf_Book_Learn_v y14).ren (sel [0, 1]), preOf (sel [0, 1]) 0 (conf_Book_Learn_objs y9.2 (A8.mk 97 0 0 0 0 0 0 0) y12), upOf (sel [0, 1]) (conf_Book_Learn_up y9.2 (A8.mk 97 0 0 0 0 0 0 0) y12 y14)) }), (19, { v := some (.bool false) })], .reg [(2, { call := some ((conf_Book_Of_v y17).ren (sel [0, 1]), preOf (sel [0, 1]) 0 (conf_Book_Of_objs y14.2 (A8.mk 97 0 0 0 0 0 0 0)), upOf (sel [0, 1]) (conf_Book_Of_up y14.2 (A8.mk 97 0 0 0 0 0 0 0) y17)) })], .reg [(1, { v := some (.bool false) })]])
            (a_ (a_ (a_ (a_ tr tr) tr) (a_ (a_ (a_ (a_ (parrellaw21_first_tri 1 y2 e1) tr) tr) (a_ (a_ (a_ (conf_New_okB y2 y4.2.2 y4.2.1 (altB e3 c5) (sel [0, 1]) (sel_inj rfl rfl)) tr) tr) (a_ (a_ tr tr) (a_ (a_ tr tr) (a_ (a_ tr tr) (a_ (a_ tr tr) (a_ (a_ tr tr) tr))))))) (a_ (a_ (a_ (Eq.refl true) tr) (a_ (a_ tr tr) (a_ (a_ (a_ (Eq.refl 8) (a_ (le_ 8 8 rfl) (Eq.refl 0))) tr) tr))) (a_ (a_ (a_ tr tr) (a_ (a_ tr tr) (a_ (a_ tr tr) (a_ (a_ tr tr) (a_ (a_ tr tr) (a_ (a_ tr tr) (a_ (a_ tr tr) (a_ (a_ tr tr) (a_ (a_ (a_ tr (le_ 8 8 rfl)) tr) (a_ (a_ (a_ (parrellaw21_one_tri 3 y7 e6) tr) tr) (a_ (a_ (a_ (conf_Book_Learn_ok y4.2.2 (A8.mk 97 0 0 0 0 0 0 0) y7 y9 e8 (sel [0, 1]) (sel_inj rfl rfl)) (a_ (LO.Le.refl (.var [.map 1])) (a_ (LO.Le.refl (.map true [.int .u8, .int .u8, .int .u8, .int .u8, .int .u8, .int .u8, .int .u8, .int .u8] (encM (fun z_ : A8 (Int) => LV.agg [.int .u8 z_.a0, .int .u8 z_.a1, .int .u8 z_.a2, .int .u8 z_.a3, .int .u8 z_.a4, .int .u8 z_.a5, .int .u8 z_.a6, .int .u8 z_.a7]) v_T_api_Config y4.2.2))) tr))) tr) (a_ (a_ tr tr) (a_ (a_ tr tr) (a_ (a_ tr (a_ (leB c10) tr)) (a_ (a_ tr tr) (a_ (a_ (a_ tr (le_ 8 8 rfl)) tr) (a_ (a_ (a_ (parrellaw21_one_tri 2 y12 e11) tr) tr) (a_ (a_ (a_ (conf_Book_Learn_ok y9.2 (A8.mk 97 0 0 0 0 0 0 0) y12 y14 e13 (sel [0, 1]) (sel_inj rfl rfl)) (a_ (LO.Le.refl (.var [.map 1])) (a_ (LO.Le.refl (.map true [.int .u8, .int .u8, .int .u8, .int .u8, .int .u8, .int .u8, .int .u8, .int .u8] (encM (fun z_ : A8 (Int) => LV.agg [.int .u8 z_.a0, .int .u8 z_.a1, .int .u8 z_.a2, .int .u8 z_.a3, .int .u8 z_.a4, .int .u8 z_.a5, .int .u8 z_.a6, .int .u8 z_.a7]) v_T_api_Config y9.2))) tr))) tr) (a_ (a_ tr tr) (a_ (a_ tr (a_ (leB c15) tr)) tr)))))))))))))))))))) (a_ (a_ (a_ tr tr) (a_ (a_ (a_ tr (le_ 8 8 rfl)) tr) (a_ (a_ (a_ (conf_Book_Of_ok y14.2 (A8.mk 97 0 0 0 0 0 0 0) y17 e16 (sel [0, 1]) (sel_inj rfl rfl)) (a_ (LO.Le.refl (.var [.map 1])) (a_ (LO.Le.refl (.map true [.int .u8, .int .u8, .int .u8, .int .u8, .int .u8, .int .u8, .int .u8, .int .u8] (encM (fun z_ : A8 (Int) => LV.agg [.int .u8 z_.a0, .int .u8 z_.a1, .int .u8 z_.a2, .int .u8 z_.a3, .int .u8 z_.a4, .int .u8 z_.a5, .int .u8 z_.a6, .int .u8 z_.a7]) v_T_api_Config y14.2))) tr))) tr) (a_ (a_ tr tr) (a_ (a_ tr tr) (a_ (a_ tr tr) (a_ (a_ tr tr) (a_ (a_ (a_ (Eq.refl 11) (a_ (le_ 11 11 rfl) (Eq.refl 0))) tr) (a_ (a_ tr tr) tr))))))))) (a_ (a_ (a_ tr tr) (a_ (a_ tr (a_ (leB c18) tr)) (a_ tr (a_ tr (a_ tr (a_ (a_ tr tr) (a_ (a_ tr tr) (a_ tr (a_ tr (a_ tr (a_ tr (a_ (a_ tr tr) (a_ (a_ tr tr) tr))))))))))))) tr)))))) tr) (by kernel_rfl) rfl

theorem parrellaw21_alive_tri  (r : (Bool)) (h : parrellaw21_alive  = some r) : FnTri Tryd.prog 9 [] [] (parrellaw21_alive_v r) [] := FnTri.none (parrellaw21_alive_ok  r h) rfl rfl

/-- parrel/parrelref05.Name -/

def parrelref05_Name_v (r : (List UInt8) × (Bool)) : LV := .tup [.str r.1, .bool r.2]

def parrelref05_Name_T1 (x_k : A8 (Int)) (x_n : Int) (i : Int) : List LV := [.any, .ptr 0 0 0, .any, .any, .int .i64 x_n, .int .i64 i, .any, .any, .any, .any, .any, .any, .any, .any, .any, .any, .any, .any, .any, .any, .any, .any, .any, .any, .any, .any, .any, .any, .any, .any]

def parrelref05_Name_H1 (x_k : A8 (Int)) (x_n : Int) (i : Int) : Heap := [some (.var [.int .u8 x_k.a0, .int .u8 x_k.a1, .int .u8 x_k.a2, .int .u8 x_k.a3, .int .u8 x_k.a4, .int .u8 x_k.a5, .int .u8 x_k.a6, .int .u8 x_k.a7])]

def parrelref05_Name_T0 (x_k : A8 (Int)) (x_n : Int) : List LV := [.any, .ptr 0 0 0, .any, .any, .int .i64 x_n, .any, .any, .any, .any, .any, .any, .any, .any, .any, .any, .any, .any, .any, .any, .any, .any, .any, .any, .any, .any, .any, .any, .any, .any, .any]

def parrelref05_Name_H0 (x_k : A8 (Int)) (x_n : Int) : Heap := [some (.var [.int .u8 x_k.a0, .int .u8 x_k.a1, .int .u8 x_k.a2, .int .u8 x_k.a3, .int .u8 x_k.a4, .int .u8 x_k.a5, .int .u8 x_k.a6, .int .u8 x_k.a7])]

def parrelref05_Name_l1 (x_k : A8 (Int)) (x_n : Int)  : Nat → (Int) → Option ((List UInt8) × (Bool))
  | 0, _ => none
  | fuel + 1, i =>
    if ((decide (i < 8)) : Bool) then
      if 0 ≤ i ∧ i < 8 then
      if (((A8.get x_k i.toNat) != 0) : Bool) then
        some ([], false)
      else
        parrelref05_Name_l1 x_k x_n  fuel (IntKind.wrap .i64 (i + 1))
      else none
    else
      if ((x_n == 0) : Bool) then
        some ([], false)
      else
        if 0 ≤ (0 : Int) ∧ 0 ≤ x_n ∧ x_n ≤ 8 then
        some ((strI (([x_k.a0, x_k.a1, x_k.a2, x_k.a3, x_k.a4, x_k.a5, x_k.a6, x_k.a7] : List Int).take (x_n.toNat))), true)
        else none

def parrelref05_Name_l0 (x_k : A8 (Int))  : Nat → (Int) → Option ((List UInt8) × (Bool))
  | 0, _ => none
  | fuel + 1, x_n =>
    if ((decide (x_n < 8)) : Bool) then
      if 0 ≤ x_n ∧ x_n < 8 then
      if (((A8.get x_k x_n.toNat) != 0) : Bool) then
        parrelref05_Name_l0 x_k  fuel (IntKind.wrap .i64 (x_n + 1))
      else
        parrelref05_Name_l1 x_k x_n  big x_n
      else none
    else
      parrelref05_Name_l1 x_k x_n  big x_n

def parrelref05_Name (x_k : A8 (Int)) : Option ((List UInt8) × (Bool)) :=
  parrelref05_Name_l0 x_k  big 0

theorem parrelref05_Name_l1_ok {w0 : World} {W : Nat → Prop} {μ0 : Emb} (hμ : ∀ c p, μ0 c = some p → c < 0) (x_k : A8 (Int)) (x_n : Int)  : ∀ (fuel : Nat) (i : Int) (r : (List UInt8) × (Bool)), parrelref05_Name_l1 x_k x_n  fuel i = some r → kont Tryd.prog w0 W μ0 (FnPost Tryd.prog Tryd.f47 0 0 (parrelref05_Name_v r) []) (kAt (bodyOf Tryd.f47) 1) none (parrelref05_Name_T1 x_k x_n i) (parrelref05_Name_H1 x_k x_n i) := by
  intro fuel
  induction fuel with
  | zero => intro i r h; rw [parrelref05_Name_l1] at h; cases h
  | succ fuel ih =>
    intro i r h
    rw [parrelref05_Name_l1] at h
    rcases itb_some h with ⟨cL1_1, h⟩ | ⟨cL1_1, h⟩
    · skip
      obtain ⟨gL1_2, h⟩ := guard_some h
      rcases itb_some h with ⟨cL1_3, h⟩ | ⟨cL1_3, h⟩
      · skip
        obtain rfl := Option.some.inj h
        exact run_ret mixed (L := []) (n := 25) (s := [.go, .reg [(1, { v := some (.bool true) })], .reg [(2, { v := some (.int .u8 (A8.get x_k i.toNat)) }), (3, { v := some (.bool true) })], .reg []])
          (a_ (a_ (a_ (a_ tr tr) (a_ (a_ tr (a_ (leB cL1_1) tr)) tr)) (a_ (a_ (a_ tr tr) (a_ (a_ gL1_2 tr) (a_ (a_ (a_ tr (arrLt (len := 8) gL1_2 0 1 8 rfl rfl)) (a_ (ld8s (cInt .u8) 1 (fun _ => rfl) x_k [] [] 0 rfl i.toNat (lt8N gL1_2) (le_ (0 + 1) 1 rfl)) tr)) (a_ (a_ tr (a_ (leB cL1_3) tr)) tr)))) (a_ (a_ (a_ tr tr) (a_ (a_ tr tr) tr)) tr))) tr) (by kernel_rfl) rfl
      · skip
        exact run_to mixed hμ (L := [0]) (n := 26) (s := [.go, .reg [(1, { v := some (.bool true) })], .reg [(2, { v := some (.int .u8 (A8.get x_k i.toNat)) }), (3, { v := some (.bool false) })], .reg []])
          (a_ (a_ (a_ tr tr) (a_ (a_ tr (a_ (leB cL1_1) tr)) tr)) (a_ (a_ (a_ tr tr) (a_ (a_ gL1_2 tr) (a_ (a_ (a_ tr (arrLt (len := 8) gL1_2 0 1 8 rfl rfl)) (a_ (ld8s (cInt .u8) 1 (fun _ => rfl) x_k [] [] 0 rfl i.toNat (lt8N gL1_2) (le_ (0 + 1) 1 rfl)) tr)) (a_ (a_ tr (a_ (leB cL1_3) tr)) tr)))) (a_ (a_ (a_ tr tr) (a_ (a_ tr tr) (a_ (a_ tr tr) tr))) tr))) (ih _ r h) (by kernel_rfl) ⟨rfl, trivial⟩
    · skip
      rcases itb_some h with ⟨cL1_2, h⟩ | ⟨cL1_2, h⟩
      · skip
        obtain rfl := Option.some.inj h
        exact run_ret mixed (L := []) (n := 24) (s := [.go, .reg [(1, { v := some (.bool false) })], .reg [(1, { v := some (.bool true) })], .reg []])
          (a_ (a_ (a_ (a_ tr tr) (a_ (a_ tr (a_ (leB cL1_1) tr)) tr)) (a_ (a_ (a_ tr tr) (a_ (a_ tr (a_ (leB cL1_2) tr)) tr)) (a_ (a_ (a_ tr tr) (a_ (a_ tr tr) tr)) tr))) tr) (by kernel_rfl) rfl
      · skip
        obtain ⟨gL1_3, h⟩ := guard_some h
        obtain rfl := Option.some.inj h
        exact run_ret mixed (L := []) (n := 25) (s := [.go, .reg [(1, { v := some (.bool false) })], .reg [(1, { v := some (.bool false) })], .reg [(2, { v := some (.str (strI (([x_k.a0, x_k.a1, x_k.a2, x_k.a3, x_k.a4, x_k.a5, x_k.a6, x_k.a7] : List Int).take (x_n.toNat)))) })]])
          (a_ (a_ (a_ (a_ tr tr) (a_ (a_ tr (a_ (leB cL1_1) tr)) tr)) (a_ (a_ (a_ tr tr) (a_ (a_ tr (a_ (leB cL1_2) tr)) tr)) (a_ (a_ (a_ tr tr) (a_ (a_ gL1_3 tr) (a_ (a_ (arr_ob [x_k.a0, x_k.a1, x_k.a2, x_k.a3, x_k.a4, x_k.a5, x_k.a6, x_k.a7] (x_n.toNat) 8 (toN_le (n := 8) gL1_3.2.2) rfl) (a_ (le_arr [x_k.a0, x_k.a1, x_k.a2, x_k.a3, x_k.a4, x_k.a5, x_k.a6, x_k.a7] (x_n.toNat) 8 (toN_le (n := 8) gL1_3.2.2) rfl) tr)) (a_ (a_ tr tr) (a_ (a_ tr tr) tr))))) tr))) tr) (by kernel_rfl) rfl

theorem parrelref05_Name_l0_ok {w0 : World} {W : Nat → Prop} {μ0 : Emb} (hμ : ∀ c p, μ0 c = some p → c < 0) (x_k : A8 (Int))  : ∀ (fuel : Nat) (x_n : Int) (r : (List UInt8) × (Bool)), parrelref05_Name_l0 x_k  fuel x_n = some r → kont Tryd.prog w0 W μ0 (FnPost Tryd.prog Tryd.f47 0 0 (parrelref05_Name_v r) []) (kAt (bodyOf Tryd.f47) 0) none (parrelref05_Name_T0 x_k x_n) (parrelref05_Name_H0 x_k x_n) := by
  intro fuel
  induction fuel with
  | zero => intro x_n r h; rw [parrelref05_Name_l0] at h; cases h
  | succ fuel ih =>
    intro x_n r h
    rw [parrelref05_Name_l0] at h
    rcases itb_some h with ⟨cL0_1, h⟩ | ⟨cL0_1, h⟩
    · skip
      obtain ⟨gL0_2, h⟩ := guard_some h
      rcases itb_some h with ⟨cL0_3, h⟩ | ⟨cL0_3, h⟩
      · skip
        exact run_to mixed hμ (L := [0]) (n := 20) (s := [.go, .reg [(2, { v := some (.bool true) }), (5, { v := some (.int .u8 (A8.get x_k x_n.toNat)) }), (7, { v := some (.bool true) })], .reg []])
          (a_ (a_ (a_ tr tr) (a_ (a_ tr tr) (a_ (a_ tr (a_ (leB cL0_1) tr)) (a_ (a_ tr tr) (a_ (a_ gL0_2 tr) (a_ (a_ (a_ tr (arrLt (len := 8) gL0_2 0 1 8 rfl rfl)) (a_ (ld8s (cInt .u8) 1 (fun _ => rfl) x_k [] [] 0 rfl x_n.toNat (lt8N gL0_2) (le_ (0 + 1) 1 rfl)) tr)) (a_ (a_ tr tr) (a_ (a_ tr (a_ (leB cL0_3) tr)) tr)))))))) (a_ (a_ (a_ tr tr) (a_ (a_ tr tr) (a_ (a_ tr tr) tr))) tr)) (ih _ r h) (by kernel_rfl) ⟨rfl, trivial⟩
      · skip
        exact run_to mixed hμ (L := [0]) (n := 22) (s := [.go, .reg [(2, { v := some (.bool true) }), (5, { v := some (.int .u8 (A8.get x_k x_n.toNat)) }), (7, { v := some (.bool false) })], .reg []])
          (a_ (a_ (a_ tr tr) (a_ (a_ tr tr) (a_ (a_ tr (a_ (leB cL0_1) tr)) (a_ (a_ tr tr) (a_ (a_ gL0_2 tr) (a_ (a_ (a_ tr (arrLt (len := 8) gL0_2 0 1 8 rfl rfl)) (a_ (ld8s (cInt .u8) 1 (fun _ => rfl) x_k [] [] 0 rfl x_n.toNat (lt8N gL0_2) (le_ (0 + 1) 1 rfl)) tr)) (a_ (a_ tr tr) (a_ (a_ tr (a_ (leB cL0_3) tr)) tr)))))))) (a_ (a_ (a_ tr tr) (a_ (a_ tr tr) tr)) tr)) (parrelref05_Name_l1_ok hμ x_k x_n  big _ r h) (by kernel_rfl) ⟨rfl, trivial⟩
    · skip
      exact run_to mixed hμ (L := [0]) (n := 22) (s := [.go, .reg [(2, { v := some (.bool false) })], .reg []])
        (a_ (a_ (a_ tr tr) (a_ (a_ tr tr) (a_ (a_ tr (a_ (leB cL0_1) tr)) (a_ tr (a_ tr (a_ tr (a_ tr (a_ (a_ tr tr) tr)))))))) (a_ (a_ (a_ tr tr) (a_ (a_ tr tr) tr)) tr)) (parrelref05_Name_l1_ok hμ x_k x_n  big _ r h) (by kernel_rfl) ⟨rfl, trivial⟩

theorem parrelref05_Name_ok (x_k : A8 (Int)) (r : (List UInt8) × (Bool)) (h : parrelref05_Name x_k = some r) : ∀ σ, Inj 0 σ → FnTri Tryd.prog 47 (renL σ [.agg [.int .u8 x_k.a0, .int .u8 x_k.a1, .int .u8 x_k.a2, .int .u8 x_k.a3, .int .u8 x_k.a4, .int .u8 x_k.a5, .int .u8 x_k.a6, .int .u8 x_k.a7]]) (preOf σ 0 []) ((parrelref05_Name_v r).ren σ) (upOf σ []) := by
  refine fn_of Tryd.func47 (by kernel_rfl) (by kernel_rfl) (by kernel_rfl) trivial (by kernel_rfl) trivial (by kernel_rfl) ?_
  intro w0 W μ0 hμ
  unfold parrelref05_Name at h
  exact run_to mixed hμ (L := [0]) (n := 18) (s := [.reg [], .reg []])
    (a_ (a_ (a_ tr tr) (a_ (a_ tr tr) (a_ (a_ tr tr) tr))) (a_ (a_ (a_ tr tr) tr) tr)) (parrelref05_Name_l0_ok hμ x_k  big _ r h) (by kernel_rfl) ⟨rfl, trivial⟩

theorem parrelref05_Name_tri (x_k : A8 (Int)) (r : (List UInt8) × (Bool)) (h : parrelref05_Name x_k = some r) : FnTri Tryd.prog 47 [.agg [.int .u8 x_k.a0, .int .u8 x_k.a1, .int .u8 x_k.a2, .int .u8 x_k.a3, .int .u8 x_k.a4, .int .u8 x_k.a5, .int .u8 x_k.a6, .int .u8 x_k.a7]] [] (parrelref05_Name_v r) [] := FnTri.none (parrelref05_Name_ok x_k r h) rfl rfl

/-- parrel/parrelref10.KeyMay -/

def parrelref10_KeyMay_v (r : (Bool)) : LV := .bool r

def parrelref10_KeyMay (x_k : A8 (Int)) : Option ((Bool)) :=
  (parrelref05_Name x_k).bind fun y2 =>
  some y2.2

theorem parrelref10_KeyMay_ok (x_k : A8 (Int)) (r : (Bool)) (h : parrelref10_KeyMay x_k = some r) : ∀ σ, Inj 0 σ → FnTri Tryd.prog 33 (renL σ [.agg [.int .u8 x_k.a0, .int .u8 x_k.a1, .int .u8 x_k.a2, .int .u8 x_k.a3, .int .u8 x_k.a4, .int .u8 x_k.a5, .int .u8 x_k.a6, .int .u8 x_k.a7]]) (preOf σ 0 []) ((parrelref10_KeyMay_v r).ren σ) (upOf σ []) := by
  refine fn_of Tryd.func33 (by kernel_rfl) (by kernel_rfl) (by kernel_rfl) trivial (by kernel_rfl) trivial (by kernel_rfl) ?_
  intro w0 W μ0 hμ
  unfold parrelref10_KeyMay at h
  obtain ⟨y2, e1, h⟩ := bind_some h
  obtain rfl := Option.some.inj h
  exact run_ret mixed (L := []) (n := 18) (s := [.reg [], .reg [(1, { call := some (parrelref05_Name_v y2, [], []) })], .reg []])
    (a_ (a_ (a_ (a_ tr tr) (a_ (a_ tr tr) tr)) (a_ (a_ (a_ (a_ tr (le_ 8 8 rfl)) tr) (a_ (a_ (a_ (parrelref05_Name_tri x_k y2 e1) tr) tr) (a_ (a_ tr tr) (a_ (a_ tr tr) (a_ (a_ tr tr) (a_ (a_ tr tr) (a_ (a_ tr tr) tr))))))) (a_ (a_ (a_ tr tr) (a_ (a_ tr tr) tr)) tr))) tr) (by kernel_rfl) rfl

theorem parrelref10_KeyMay_tri (x_k : A8 (Int)) (r : (Bool)) (h : parrelref10_KeyMay x_k = some r) : FnTri Tryd.prog 33 [.agg [.int .u8 x_k.a0, .int .u8 x_k.a1, .int .u8 x_k.a2, .int .u8 x_k.a3, .int .u8 x_k.a4, .int .u8 x_k.a5, .int .u8 x_k.a6, .int .u8 x_k.a7]] [] (parrelref10_KeyMay_v r) [] := FnTri.none (parrelref10_KeyMay_ok x_k r h) rfl rfl

/-- parrel/parrelref06.Total -/

def parrelref06_Total_v (r : (Int)) : LV := .int .i64 r

def parrelref06_Total_T0 (c : T_api_Config) (x_n : Int) (i : Int) : List LV := [.any, .ptr 0 0 0, .any, .int .i64 x_n, .int .i64 i, .any, .any, .any, .any, .any, .any, .any, .any, .any, .any, .any, .any]

def parrelref06_Total_H0 (c : T_api_Config) (x_n : Int) (i : Int) : Heap := [some (.var (c_T_api_Config c))]

def parrelref06_Total_l0 (c : T_api_Config)  : Nat → (Int) → (Int) → Option ((Int))
  | 0, _, _ => none
  | fuel + 1, x_n, i =>
    if ((decide (i < 8)) : Bool) then
      if 0 ≤ i ∧ i < 8 then
      parrelref06_Total_l0 c  fuel (IntKind.wrap .i64 (x_n + (IntKind.wrap .i64 (A8.get c.f_Votes i.toNat)))) (IntKind.wrap .i64 (i + 1))
      else none
    else
      some x_n

def parrelref06_Total (c : T_api_Config) : Option ((Int)) :=
  parrelref06_Total_l0 c  big 0 0

theorem parrelref06_Total_l0_ok {w0 : World} {W : Nat → Prop} {μ0 : Emb} (hμ : ∀ c p, μ0 c = some p → c < 0) (c : T_api_Config)  : ∀ (fuel : Nat) (x_n : Int) (i : Int) (r : (Int)), parrelref06_Total_l0 c  fuel x_n i = some r → kont Tryd.prog w0 W μ0 (FnPost Tryd.prog Tryd.f43 0 0 (parrelref06_Total_v r) []) (kAt (bodyOf Tryd.f43) 0) none (parrelref06_Total_T0 c x_n i) (parrelref06_Total_H0 c x_n i) := by
  intro fuel
  induction fuel with
  | zero => intro x_n i r h; rw [parrelref06_Total_l0] at h; cases h
  | succ fuel ih =>
    intro x_n i r h
    rw [parrelref06_Total_l0] at h
    rcases itb_some h with ⟨cL0_1, h⟩ | ⟨cL0_1, h⟩
    · skip
      obtain ⟨gL0_2, h⟩ := guard_some h
      exact run_to mixed hμ (L := [0]) (n := 23) (s := [.go, .reg [(1, { v := some (.bool true) })], .reg [(4, { v := some (.int .u8 (A8.get c.f_Votes i.toNat)) })], .reg []])
        (a_ (a_ (a_ tr tr) (a_ (a_ tr (a_ (leB cL0_1) tr)) tr)) (a_ (a_ (a_ tr tr) (a_ (a_ tr tr) (a_ (a_ tr tr) (a_ (a_ gL0_2 tr) (a_ (a_ (a_ tr (arrLt (len := 8) gL0_2 3 1 11 rfl rfl)) (a_ (ld8s (cInt .u8) 1 (fun _ => rfl) c.f_Votes [.int .u32 c.f_Epoch, .int .u8 c.f_R, .int .u8 c.f_W] [] 3 rfl i.toNat (lt8N gL0_2) (le_ (0 + 1) 1 rfl)) tr)) (a_ (a_ tr tr) (a_ (a_ tr tr) (a_ (a_ tr tr) tr)))))))) (a_ (a_ (a_ tr tr) (a_ (a_ tr tr) (a_ (a_ tr tr) tr))) tr))) (ih _ _ r h) (by kernel_rfl) ⟨rfl, trivial⟩
    · skip
      obtain rfl := Option.some.inj h
      exact run_ret mixed (L := []) (n := 19) (s := [.go, .reg [(1, { v := some (.bool false) })], .reg []])
        (a_ (a_ (a_ (a_ tr tr) (a_ (a_ tr (a_ (leB cL0_1) tr)) tr)) (a_ (a_ (a_ tr tr) (a_ (a_ tr tr) tr)) tr)) tr) (by kernel_rfl) rfl

theorem parrelref06_Total_ok (c : T_api_Config) (r : (Int)) (h : parrelref06_Total c = some r) : ∀ σ, Inj 0 σ → FnTri Tryd.prog 43 (renL σ [v_T_api_Config c]) (preOf σ 0 []) ((parrelref06_Total_v r).ren σ) (upOf σ []) := by
  refine fn_of Tryd.func43 (by kernel_rfl) (by kernel_rfl) (by kernel_rfl) trivial (by kernel_rfl) trivial (by kernel_rfl) ?_
  intro w0 W μ0 hμ
  unfold parrelref06_Total at h
  exact run_to mixed hμ (L := [0]) (n := 21) (s := [.reg [], .reg [], .reg []])
    (a_ (a_ (a_ tr tr) (a_ (a_ tr tr) tr)) (a_ (a_ (a_ tr tr) tr) (a_ (a_ (a_ tr tr) tr) tr))) (parrelref06_Total_l0_ok hμ c  big _ _ r h) (by kernel_rfl) ⟨rfl, trivial⟩

theorem parrelref06_Total_tri (c : T_api_Config) (r : (Int)) (h : parrelref06_Total c = some r) : FnTri Tryd.prog 43 [v_T_api_Config c] [] (parrelref06_Total_v r) [] := FnTri.none (parrelref06_Total_ok c r h) rfl rfl

/-- parrel/parrelref06.May -/

def parrelref06_May_v (r : (Bool)) : LV := .bool r

def parrelref06_May_T0 (c : T_api_Config) (y2 : (Int)) (i : Int) : List LV := [.any, .ptr 0 0 0, .any, .int .i64 y2, .int .i64 (IntKind.wrap .i64 c.f_R), .int .i64 (IntKind.wrap .i64 c.f_W), .int .i64 i, .any, .any, .any, .any, .any, .any, .any, .any, .any, .any, .any, .any, .any, .any, .any, .any, .any, .any, .any, .any, .any, .any, .any, .any, .any, .any, .any, .any, .any, .any, .any, .any, .any, .any, .any, .any, .any, .any, .any, .any, .any, .any, .any, .any, .any, .any, .any, .any, .any, .any, .any, .any, .any, .any, .any, .any]

def parrelref06_May_H0 (c : T_api_Config) (y2 : (Int)) (i : Int) : Heap := [some (.var (c_T_api_Config c))]

def parrelref06_May_l0 (c : T_api_Config) (y2 : (Int))  : Nat → (Int) → Option ((Bool))
  | 0, _ => none
  | fuel + 1, i =>
    if ((decide (i < 8)) : Bool) then
      if 0 ≤ i ∧ i < 8 then
      if ((decide (15 < (A8.get c.f_Votes i.toNat))) : Bool) then
        some false
      else
        parrelref06_May_l0 c y2  fuel (IntKind.wrap .i64 (i + 1))
      else none
    else
      if ((decide (1 ≤ c.f_Epoch)) : Bool) then
        if ((decide (c.f_Epoch ≤ 2147483647)) : Bool) then
          if ((decide (1 ≤ (IntKind.wrap .i64 c.f_R))) : Bool) then
            if ((decide (1 ≤ (IntKind.wrap .i64 c.f_W))) : Bool) then
              if ((decide ((IntKind.wrap .i64 c.f_R) ≤ y2)) : Bool) then
                if ((decide ((IntKind.wrap .i64 c.f_W) ≤ y2)) : Bool) then
                  if ((decide (y2 < (IntKind.wrap .i64 ((IntKind.wrap .i64 c.f_R) + (IntKind.wrap .i64 c.f_W))))) : Bool) then
                    some (decide (y2 < (IntKind.wrap .i64 (2 * (IntKind.wrap .i64 c.f_W)))))
                  else
                    some false
                else
                  some false
              else
                some false
            else
              some false
          else
            some false
        else
          some false
      else
        some false

def parrelref06_May (c : T_api_Config) : Option ((Bool)) :=
  (parrelref06_Total c).bind fun y2 =>
  parrelref06_May_l0 c y2  big 0

theorem parrelref06_May_l0_ok {w0 : World} {W : Nat → Prop} {μ0 : Emb} (hμ : ∀ c p, μ0 c = some p → c < 0) (c : T_api_Config) (y2 : (Int))  : ∀ (fuel : Nat) (i : Int) (r : (Bool)), parrelref06_May_l0 c y2  fuel i = some r → kont Tryd.prog w0 W μ0 (FnPost Tryd.prog Tryd.f25 0 0 (parrelref06_May_v r) []) (kAt (bodyOf Tryd.f25) 0) none (parrelref06_May_T0 c y2 i) (parrelref06_May_H0 c y2 i) := by
  intro fuel
  induction fuel with
  | zero => intro i r h; rw [parrelref06_May_l0] at h; cases h
  | succ fuel ih =>
    intro i r h
    rw [parrelref06_May_l0] at h
    rcases itb_some h with ⟨cL0_1, h⟩ | ⟨cL0_1, h⟩
    · skip
      obtain ⟨gL0_2, h⟩ := guard_some h
      rcases itb_some h with ⟨cL0_3, h⟩ | ⟨cL0_3, h⟩
      · skip
        obtain rfl := Option.some.inj h
        exact run_ret mixed (L := []) (n := 25) (s := [.go, .reg [(1, { v := some (.bool true) })], .reg [(3, { v := some (.int .u8 (A8.get c.f_Votes i.toNat)) }), (4, { v := some (.bool true) })], .reg []])
          (a_ (a_ (a_ (a_ tr tr) (a_ (a_ tr (a_ (leB cL0_1) tr)) tr)) (a_ (a_ (a_ tr tr) (a_ (a_ tr tr) (a_ (a_ gL0_2 tr) (a_ (a_ (a_ tr (arrLt (len := 8) gL0_2 3 1 11 rfl rfl)) (a_ (ld8s (cInt .u8) 1 (fun _ => rfl) c.f_Votes [.int .u32 c.f_Epoch, .int .u8 c.f_R, .int .u8 c.f_W] [] 3 rfl i.toNat (lt8N gL0_2) (le_ (0 + 1) 1 rfl)) tr)) (a_ (a_ tr (a_ (leB cL0_3) tr)) tr))))) (a_ (a_ (a_ tr tr) tr) tr))) tr) (by kernel_rfl) rfl
      · skip
        exact run_to mixed hμ (L := [0]) (n := 26) (s := [.go, .reg [(1, { v := some (.bool true) })], .reg [(3, { v := some (.int .u8 (A8.get c.f_Votes i.toNat)) }), (4, { v := some (.bool false) })], .reg []])
          (a_ (a_ (a_ tr tr) (a_ (a_ tr (a_ (leB cL0_1) tr)) tr)) (a_ (a_ (a_ tr tr) (a_ (a_ tr tr) (a_ (a_ gL0_2 tr) (a_ (a_ (a_ tr (arrLt (len := 8) gL0_2 3 1 11 rfl rfl)) (a_ (ld8s (cInt .u8) 1 (fun _ => rfl) c.f_Votes [.int .u32 c.f_Epoch, .int .u8 c.f_R, .int .u8 c.f_W] [] 3 rfl i.toNat (lt8N gL0_2) (le_ (0 + 1) 1 rfl)) tr)) (a_ (a_ tr (a_ (leB cL0_3) tr)) tr))))) (a_ (a_ (a_ tr tr) (a_ (a_ tr tr) (a_ (a_ tr tr) tr))) tr))) (ih _ r h) (by kernel_rfl) ⟨rfl, trivial⟩
    · skip
      rcases itb_some h with ⟨cL0_2, h⟩ | ⟨cL0_2, h⟩
      · skip
        rcases itb_some h with ⟨cL0_3, h⟩ | ⟨cL0_3, h⟩
        · skip
          rcases itb_some h with ⟨cL0_4, h⟩ | ⟨cL0_4, h⟩
          · skip
            rcases itb_some h with ⟨cL0_5, h⟩ | ⟨cL0_5, h⟩
            · skip
              rcases itb_some h with ⟨cL0_6, h⟩ | ⟨cL0_6, h⟩
              · skip
                rcases itb_some h with ⟨cL0_7, h⟩ | ⟨cL0_7, h⟩
                · skip
                  rcases itb_some h with ⟨cL0_8, h⟩ | ⟨cL0_8, h⟩
                  · skip
                    obtain rfl := Option.some.inj h
                    exact run_ret mixed (L := []) (n := 19) (s := [.go, .reg [(1, { v := some (.bool false) })], .reg [(3, { v := some (.bool true) }), (8, { v := some (.bool true) }), (12, { v := some (.bool true) }), (16, { v := some (.bool true) }), (21, { v := some (.bool true) }), (26, { v := some (.bool true) }), (33, { v := some (.bool true) })]])
                      (a_ (a_ (a_ (a_ tr tr) (a_ (a_ tr (a_ (leB cL0_1) tr)) tr)) (a_ (a_ (a_ tr tr) (a_ (a_ (a_ tr (lt_ 0 11 rfl)) tr) (a_ (a_ tr tr) (a_ (a_ tr (a_ (leB cL0_2) tr)) (a_ (a_ tr tr) (a_ (a_ (a_ tr (lt_ 0 11 rfl)) tr) (a_ (a_ tr tr) (a_ (a_ tr tr) (a_ (a_ tr (a_ (leB cL0_3) tr)) (a_ (a_ tr tr) (a_ (a_ tr tr) (a_ (a_ tr tr) (a_ (a_ tr (a_ (leB cL0_4) tr)) (a_ (a_ tr tr) (a_ (a_ tr tr) (a_ (a_ tr tr) (a_ (a_ tr (a_ (leB cL0_5) tr)) (a_ (a_ tr tr) (a_ (a_ tr tr) (a_ (a_ tr tr) (a_ (a_ tr tr) (a_ (a_ tr (a_ (leB cL0_6) tr)) (a_ (a_ tr tr) (a_ (a_ tr tr) (a_ (a_ tr tr) (a_ (a_ tr tr) (a_ (a_ tr (a_ (leB cL0_7) tr)) (a_ (a_ tr tr) (a_ (a_ tr tr) (a_ (a_ tr tr) (a_ (a_ tr tr) (a_ (a_ tr tr) (a_ (a_ tr tr) (a_ (a_ tr (a_ (leB cL0_8) tr)) (a_ (a_ tr tr) (a_ (a_ tr tr) (a_ (a_ tr tr) (a_ (a_ tr tr) (a_ (a_ tr tr) (a_ (a_ tr tr) tr)))))))))))))))))))))))))))))))))))))))) tr)) tr) (by kernel_rfl) rfl
                  · skip
                    obtain rfl := Option.some.inj h
                    exact run_ret mixed (L := []) (n := 19) (s := [.go, .reg [(1, { v := some (.bool false) })], .reg [(3, { v := some (.bool true) }), (8, { v := some (.bool true) }), (12, { v := some (.bool true) }), (16, { v := some (.bool true) }), (21, { v := some (.bool true) }), (26, { v := some (.bool true) }), (33, { v := some (.bool false) })]])
                      (a_ (a_ (a_ (a_ tr tr) (a_ (a_ tr (a_ (leB cL0_1) tr)) tr)) (a_ (a_ (a_ tr tr) (a_ (a_ (a_ tr (lt_ 0 11 rfl)) tr) (a_ (a_ tr tr) (a_ (a_ tr (a_ (leB cL0_2) tr)) (a_ (a_ tr tr) (a_ (a_ (a_ tr (lt_ 0 11 rfl)) tr) (a_ (a_ tr tr) (a_ (a_ tr tr) (a_ (a_ tr (a_ (leB cL0_3) tr)) (a_ (a_ tr tr) (a_ (a_ tr tr) (a_ (a_ tr tr) (a_ (a_ tr (a_ (leB cL0_4) tr)) (a_ (a_ tr tr) (a_ (a_ tr tr) (a_ (a_ tr tr) (a_ (a_ tr (a_ (leB cL0_5) tr)) (a_ (a_ tr tr) (a_ (a_ tr tr) (a_ (a_ tr tr) (a_ (a_ tr tr) (a_ (a_ tr (a_ (leB cL0_6) tr)) (a_ (a_ tr tr) (a_ (a_ tr tr) (a_ (a_ tr tr) (a_ (a_ tr tr) (a_ (a_ tr (a_ (leB cL0_7) tr)) (a_ (a_ tr tr) (a_ (a_ tr tr) (a_ (a_ tr tr) (a_ (a_ tr tr) (a_ (a_ tr tr) (a_ (a_ tr tr) (a_ (a_ tr (a_ (leB cL0_8) tr)) (a_ tr (a_ tr (a_ tr (a_ tr (a_ (a_ tr tr) (a_ (a_ tr tr) tr)))))))))))))))))))))))))))))))))))))))) tr)) tr) (by kernel_rfl) rfl
                · skip
                  obtain rfl := Option.some.inj h
                  exact run_ret mixed (L := []) (n := 19) (s := [.go, .reg [(1, { v := some (.bool false) })], .reg [(3, { v := some (.bool true) }), (8, { v := some (.bool true) }), (12, { v := some (.bool true) }), (16, { v := some (.bool true) }), (21, { v := some (.bool true) }), (26, { v := some (.bool false) })]])
                    (a_ (a_ (a_ (a_ tr tr) (a_ (a_ tr (a_ (leB cL0_1) tr)) tr)) (a_ (a_ (a_ tr tr) (a_ (a_ (a_ tr (lt_ 0 11 rfl)) tr) (a_ (a_ tr tr) (a_ (a_ tr (a_ (leB cL0_2) tr)) (a_ (a_ tr tr) (a_ (a_ (a_ tr (lt_ 0 11 rfl)) tr) (a_ (a_ tr tr) (a_ (a_ tr tr) (a_ (a_ tr (a_ (leB cL0_3) tr)) (a_ (a_ tr tr) (a_ (a_ tr tr) (a_ (a_ tr tr) (a_ (a_ tr (a_ (leB cL0_4) tr)) (a_ (a_ tr tr) (a_ (a_ tr tr) (a_ (a_ tr tr) (a_ (a_ tr (a_ (leB cL0_5) tr)) (a_ (a_ tr tr) (a_ (a_ tr tr) (a_ (a_ tr tr) (a_ (a_ tr tr) (a_ (a_ tr (a_ (leB cL0_6) tr)) (a_ (a_ tr tr) (a_ (a_ tr tr) (a_ (a_ tr tr) (a_ (a_ tr tr) (a_ (a_ tr (a_ (leB cL0_7) tr)) (a_ tr (a_ tr (a_ tr (a_ tr (a_ tr (a_ (a_ tr tr) (a_ (a_ tr tr) (a_ tr (a_ tr (a_ tr (a_ tr (a_ (a_ tr tr) (a_ (a_ tr tr) tr)))))))))))))))))))))))))))))))))))))))) tr)) tr) (by kernel_rfl) rfl
              · skip
                obtain rfl := Option.some.inj h
                exact run_ret mixed (L := []) (n := 19) (s := [.go, .reg [(1, { v := some (.bool false) })], .reg [(3, { v := some (.bool true) }), (8, { v := some (.bool true) }), (12, { v := some (.bool true) }), (16, { v := some (.bool true) }), (21, { v := some (.bool false) })]])
                  (a_ (a_ (a_ (a_ tr tr) (a_ (a_ tr (a_ (leB cL0_1) tr)) tr)) (a_ (a_ (a_ tr tr) (a_ (a_ (a_ tr (lt_ 0 11 rfl)) tr) (a_ (a_ tr tr) (a_ (a_ tr (a_ (leB cL0_2) tr)) (a_ (a_ tr tr) (a_ (a_ (a_ tr (lt_ 0 11 rfl)) tr) (a_ (a_ tr tr) (a_ (a_ tr tr) (a_ (a_ tr (a_ (leB cL0_3) tr)) (a_ (a_ tr tr) (a_ (a_ tr tr) (a_ (a_ tr tr) (a_ (a_ tr (a_ (leB cL0_4) tr)) (a_ (a_ tr tr) (a_ (a_ tr tr) (a_ (a_ tr tr) (a_ (a_ tr (a_ (leB cL0_5) tr)) (a_ (a_ tr tr) (a_ (a_ tr tr) (a_ (a_ tr tr) (a_ (a_ tr tr) (a_ (a_ tr (a_ (leB cL0_6) tr)) (a_ tr (a_ tr (a_ tr (a_ (a_ tr tr) (a_ (a_ tr tr) (a_ tr (a_ tr (a_ tr (a_ tr (a_ tr (a_ (a_ tr tr) (a_ (a_ tr tr) (a_ tr (a_ tr (a_ tr (a_ tr (a_ (a_ tr tr) (a_ (a_ tr tr) tr)))))))))))))))))))))))))))))))))))))))) tr)) tr) (by kernel_rfl) rfl
            · skip
              obtain rfl := Option.some.inj h
              exact run_ret mixed (L := []) (n := 19) (s := [.go, .reg [(1, { v := some (.bool false) })], .reg [(3, { v := some (.bool true) }), (8, { v := some (.bool true) }), (12, { v := some (.bool true) }), (16, { v := some (.bool false) })]])
                (a_ (a_ (a_ (a_ tr tr) (a_ (a_ tr (a_ (leB cL0_1) tr)) tr)) (a_ (a_ (a_ tr tr) (a_ (a_ (a_ tr (lt_ 0 11 rfl)) tr) (a_ (a_ tr tr) (a_ (a_ tr (a_ (leB cL0_2) tr)) (a_ (a_ tr tr) (a_ (a_ (a_ tr (lt_ 0 11 rfl)) tr) (a_ (a_ tr tr) (a_ (a_ tr tr) (a_ (a_ tr (a_ (leB cL0_3) tr)) (a_ (a_ tr tr) (a_ (a_ tr tr) (a_ (a_ tr tr) (a_ (a_ tr (a_ (leB cL0_4) tr)) (a_ (a_ tr tr) (a_ (a_ tr tr) (a_ (a_ tr tr) (a_ (a_ tr (a_ (leB cL0_5) tr)) (a_ tr (a_ tr (a_ tr (a_ (a_ tr tr) (a_ (a_ tr tr) (a_ tr (a_ tr (a_ tr (a_ (a_ tr tr) (a_ (a_ tr tr) (a_ tr (a_ tr (a_ tr (a_ tr (a_ tr (a_ (a_ tr tr) (a_ (a_ tr tr) (a_ tr (a_ tr (a_ tr (a_ tr (a_ (a_ tr tr) (a_ (a_ tr tr) tr)))))))))))))))))))))))))))))))))))))))) tr)) tr) (by kernel_rfl) rfl
          · skip
            obtain rfl := Option.some.inj h
            exact run_ret mixed (L := []) (n := 19) (s := [.go, .reg [(1, { v := some (.bool false) })], .reg [(3, { v := some (.bool true) }), (8, { v := some (.bool true) }), (12, { v := some (.bool false) })]])
              (a_ (a_ (a_ (a_ tr tr) (a_ (a_ tr (a_ (leB cL0_1) tr)) tr)) (a_ (a_ (a_ tr tr) (a_ (a_ (a_ tr (lt_ 0 11 rfl)) tr) (a_ (a_ tr tr) (a_ (a_ tr (a_ (leB cL0_2) tr)) (a_ (a_ tr tr) (a_ (a_ (a_ tr (lt_ 0 11 rfl)) tr) (a_ (a_ tr tr) (a_ (a_ tr tr) (a_ (a_ tr (a_ (leB cL0_3) tr)) (a_ (a_ tr tr) (a_ (a_ tr tr) (a_ (a_ tr tr) (a_ (a_ tr (a_ (leB cL0_4) tr)) (a_ tr (a_ tr (a_ (a_ tr tr) (a_ (a_ tr tr) (a_ tr (a_ tr (a_ tr (a_ (a_ tr tr) (a_ (a_ tr tr) (a_ tr (a_ tr (a_ tr (a_ (a_ tr tr) (a_ (a_ tr tr) (a_ tr (a_ tr (a_ tr (a_ tr (a_ tr (a_ (a_ tr tr) (a_ (a_ tr tr) (a_ tr (a_ tr (a_ tr (a_ tr (a_ (a_ tr tr) (a_ (a_ tr tr) tr)))))))))))))))))))))))))))))))))))))))) tr)) tr) (by kernel_rfl) rfl
        · skip
          obtain rfl := Option.some.inj h
          exact run_ret mixed (L := []) (n := 19) (s := [.go, .reg [(1, { v := some (.bool false) })], .reg [(3, { v := some (.bool true) }), (8, { v := some (.bool false) })]])
            (a_ (a_ (a_ (a_ tr tr) (a_ (a_ tr (a_ (leB cL0_1) tr)) tr)) (a_ (a_ (a_ tr tr) (a_ (a_ (a_ tr (lt_ 0 11 rfl)) tr) (a_ (a_ tr tr) (a_ (a_ tr (a_ (leB cL0_2) tr)) (a_ (a_ tr tr) (a_ (a_ (a_ tr (lt_ 0 11 rfl)) tr) (a_ (a_ tr tr) (a_ (a_ tr tr) (a_ (a_ tr (a_ (leB cL0_3) tr)) (a_ tr (a_ tr (a_ (a_ tr tr) (a_ (a_ tr tr) (a_ tr (a_ tr (a_ (a_ tr tr) (a_ (a_ tr tr) (a_ tr (a_ tr (a_ tr (a_ (a_ tr tr) (a_ (a_ tr tr) (a_ tr (a_ tr (a_ tr (a_ (a_ tr tr) (a_ (a_ tr tr) (a_ tr (a_ tr (a_ tr (a_ tr (a_ tr (a_ (a_ tr tr) (a_ (a_ tr tr) (a_ tr (a_ tr (a_ tr (a_ tr (a_ (a_ tr tr) (a_ (a_ tr tr) tr)))))))))))))))))))))))))))))))))))))))) tr)) tr) (by kernel_rfl) rfl
      · skip
        obtain rfl := Option.some.inj h
        exact run_ret mixed (L := []) (n := 19) (s := [.go, .reg [(1, { v := some (.bool false) })], .reg [(3, { v := some (.bool false) })]])
          (a_ (a_ (a_ (a_ tr tr) (a_ (a_ tr (a_ (leB cL0_1) tr)) tr)) (a_ (a_ (a_ tr tr) (a_ (a_ (a_ tr (lt_ 0 11 rfl)) tr) (a_ (a_ tr tr) (a_ (a_ tr (a_ (leB cL0_2) tr)) (a_ tr (a_ tr (a_ tr (a_ (a_ tr tr) (a_ (a_ tr tr) (a_ tr (a_ tr (a_ (a_ tr tr) (a_ (a_ tr tr) (a_ tr (a_ tr (a_ (a_ tr tr) (a_ (a_ tr tr) (a_ tr (a_ tr (a_ tr (a_ (a_ tr tr) (a_ (a_ tr tr) (a_ tr (a_ tr (a_ tr (a_ (a_ tr tr) (a_ (a_ tr tr) (a_ tr (a_ tr (a_ tr (a_ tr (a_ tr (a_ (a_ tr tr) (a_ (a_ tr tr) (a_ tr (a_ tr (a_ tr (a_ tr (a_ (a_ tr tr) (a_ (a_ tr tr) tr)))))))))))))))))))))))))))))))))))))))) tr)) tr) (by kernel_rfl) rfl

theorem parrelref06_May_ok (c : T_api_Config) (r : (Bool)) (h : parrelref06_May c = some r) : ∀ σ, Inj 0 σ → FnTri Tryd.prog 25 (renL σ [v_T_api_Config c]) (preOf σ 0 []) ((parrelref06_May_v r).ren σ) (upOf σ []) := by
  refine fn_of Tryd.func25 (by kernel_rfl) (by kernel_rfl) (by kernel_rfl) trivial (by kernel_rfl) trivial (by kernel_rfl) ?_
  intro w0 W μ0 hμ
  unfold parrelref06_May at h
  obtain ⟨y2, e1, h⟩ := bind_some h
  exact run_to mixed hμ (L := [0]) (n := 21) (s := [.reg [], .reg [(1, { call := some (parrelref06_Total_v y2, [], []) })], .reg []])
    (a_ (a_ (a_ tr tr) (a_ (a_ tr tr) tr)) (a_ (a_ (a_ (a_ tr (le_ 11 11 rfl)) tr) (a_ (a_ (a_ (parrelref06_Total_tri c y2 e1) tr) tr) (a_ (a_ tr tr) (a_ (a_ (a_ tr (lt_ 1 11 rfl)) tr) (a_ (a_ tr tr) (a_ (a_ tr tr) (a_ (a_ (a_ tr (lt_ 2 11 rfl)) tr) (a_ (a_ tr tr) (a_ (a_ tr tr) (a_ (a_ tr tr) (a_ (a_ tr tr) tr))))))))))) (a_ (a_ (a_ tr tr) tr) tr))) (parrelref06_May_l0_ok hμ c y2  big _ r h) (by kernel_rfl) ⟨rfl, trivial⟩

theorem parrelref06_May_tri (c : T_api_Config) (r : (Bool)) (h : parrelref06_May c = some r) : FnTri Tryd.prog 25 [v_T_api_Config c] [] (parrelref06_May_v r) [] := FnTri.none (parrelref06_May_ok c r h) rfl rfl

/-- parrel/parrelref10.ItemMay -/

def parrelref10_ItemMay_v (r : (Bool)) : LV := .bool r

def parrelref10_ItemMay (i : T_api_Item) : Option ((Bool)) :=
  if ((decide (i.f_Version ≤ 2147483647)) : Bool) then
    if ((decide (((i.f_Value).length : Int) ≤ 64)) : Bool) then
      (parrelref06_May i.f_Conf).bind fun y4 =>
      some y4
    else
      some false
  else
    some false

theorem parrelref10_ItemMay_ok (i : T_api_Item) (r : (Bool)) (h : parrelref10_ItemMay i = some r) : ∀ σ, Inj 0 σ → FnTri Tryd.prog 34 (renL σ [v_T_api_Item i]) (preOf σ 0 []) ((parrelref10_ItemMay_v r).ren σ) (upOf σ []) := by
  refine fn_of Tryd.func34 (by kernel_rfl) (by kernel_rfl) (by kernel_rfl) trivial (by kernel_rfl) trivial (by kernel_rfl) ?_
  intro w0 W μ0 hμ
  unfold parrelref10_ItemMay at h
  rcases itb_some h with ⟨c1, h⟩ | ⟨c1, h⟩
  · skip
    rcases itb_some h with ⟨c2, h⟩ | ⟨c2, h⟩
    · skip
      obtain ⟨y4, e3, h⟩ := bind_some h
      obtain rfl := Option.some.inj h
      exact run_ret mixed (L := []) (n := 15) (s := [.reg [], .reg [(3, { v := some (.bool true) }), (9, { v := some (.bool true) }), (12, { call := some (parrelref06_May_v y4, [], []) })]])
        (a_ (a_ (a_ (a_ tr tr) (a_ (a_ tr tr) tr)) (a_ (a_ (a_ tr tr) (a_ (a_ (a_ tr (lt_ 0 13 rfl)) tr) (a_ (a_ tr tr) (a_ (a_ tr (a_ (leB c1) tr)) (a_ (a_ tr tr) (a_ (a_ (a_ tr (lt_ 1 13 rfl)) tr) (a_ (a_ tr tr) (a_ (a_ tr tr) (a_ (a_ tr tr) (a_ (a_ tr (a_ (leB c2) tr)) (a_ (a_ tr tr) (a_ (a_ (a_ tr (le_ 13 13 rfl)) tr) (a_ (a_ (a_ (parrelref06_May_tri i.f_Conf y4 e3) tr) tr) (a_ (a_ tr tr) (a_ (a_ tr tr) tr))))))))))))))) tr)) tr) (by kernel_rfl) rfl
    · skip
      obtain rfl := Option.some.inj h
      exact run_ret mixed (L := []) (n := 15) (s := [.reg [], .reg [(3, { v := some (.bool true) }), (9, { v := some (.bool false) })]])
        (a_ (a_ (a_ (a_ tr tr) (a_ (a_ tr tr) tr)) (a_ (a_ (a_ tr tr) (a_ (a_ (a_ tr (lt_ 0 13 rfl)) tr) (a_ (a_ tr tr) (a_ (a_ tr (a_ (leB c1) tr)) (a_ (a_ tr tr) (a_ (a_ (a_ tr (lt_ 1 13 rfl)) tr) (a_ (a_ tr tr) (a_ (a_ tr tr) (a_ (a_ tr tr) (a_ (a_ tr (a_ (leB c2) tr)) (a_ tr (a_ tr (a_ tr (a_ (a_ tr tr) (a_ (a_ tr tr) tr))))))))))))))) tr)) tr) (by kernel_rfl) rfl
  · skip
    obtain rfl := Option.some.inj h
    exact run_ret mixed (L := []) (n := 15) (s := [.reg [], .reg [(3, { v := some (.bool false) })]])
      (a_ (a_ (a_ (a_ tr tr) (a_ (a_ tr tr) tr)) (a_ (a_ (a_ tr tr) (a_ (a_ (a_ tr (lt_ 0 13 rfl)) tr) (a_ (a_ tr tr) (a_ (a_ tr (a_ (leB c1) tr)) (a_ tr (a_ tr (a_ tr (a_ tr (a_ (a_ tr tr) (a_ (a_ tr tr) (a_ tr (a_ tr (a_ tr (a_ (a_ tr tr) (a_ (a_ tr tr) tr))))))))))))))) tr)) tr) (by kernel_rfl) rfl

theorem parrelref10_ItemMay_tri (i : T_api_Item) (r : (Bool)) (h : parrelref10_ItemMay i = some r) : FnTri Tryd.prog 34 [v_T_api_Item i] [] (parrelref10_ItemMay_v r) [] := FnTri.none (parrelref10_ItemMay_ok i r h) rfl rfl

/-- (*parrel/parrelref21.Book).find -/

def parrelref21_Book_find_v (r : (Int)) : LV := .int .i64 r

def parrelref21_Book_find_up (b : T_parrelref21_Book) (x_k : A8 (Int)) (r : (Int)) : Upd := [(0, some (.var (c_T_parrelref21_Book b)))]

def parrelref21_Book_find_objs (b : T_parrelref21_Book) (x_k : A8 (Int)) : List LO := [.var (c_T_parrelref21_Book b)]

def parrelref21_Book_find_T0 (b : T_parrelref21_Book) (x_k : A8 (Int)) (i : Int) : List LV := [.ptr 0 0 0, .any, .any, .ptr 1 0 0, .any, .int .i64 i, .any, .any, .any, .any, .any, .any, .any, .any, .any, .any, .any, .any, .any, .any, .any, .any, .any, .any, .any, .any]

def parrelref21_Book_find_H0 (b : T_parrelref21_Book) (x_k : A8 (Int)) (i : Int) : Heap := [some (.var (c_T_parrelref21_Book b)), some (.var [.int .u8 x_k.a0, .int .u8 x_k.a1, .int .u8 x_k.a2, .int .u8 x_k.a3, .int .u8 x_k.a4, .int .u8 x_k.a5, .int .u8 x_k.a6, .int .u8 x_k.a7])]

def parrelref21_Book_find_l0 (b : T_parrelref21_Book) (x_k : A8 (Int))  : Nat → (Int) → Option ((Int))
  | 0, _ => none
  | fuel + 1, i =>
    if ((decide (i < ((b.f_L).length : Int))) : Bool) then
      if 0 ≤ i ∧ i < (((b.f_L).length : Nat) : Int) then
      if ((decide ((b.f_L.getD i.toNat default).f_Key = x_k)) : Bool) then
        some i
      else
        parrelref21_Book_find_l0 b x_k  fuel (IntKind.wrap .i64 (i + 1))
      else none
    else
      some (-1)

def parrelref21_Book_find (b : T_parrelref21_Book) (x_k : A8 (Int)) : Option ((Int)) :=
  parrelref21_Book_find_l0 b x_k  big 0

theorem parrelref21_Book_find_l0_ok {w0 : World} {W : Nat → Prop} {μ0 : Emb} (hμ : ∀ c p, μ0 c = some p → c < 1) (b : T_parrelref21_Book) (x_k : A8 (Int))  : ∀ (fuel : Nat) (i : Int) (r : (Int)), parrelref21_Book_find_l0 b x_k  fuel i = some r → kont Tryd.prog w0 W μ0 (FnPost Tryd.prog Tryd.f35 1 1 (parrelref21_Book_find_v r) (parrelref21_Book_find_up b x_k r)) (kAt (bodyOf Tryd.f35) 0) none (parrelref21_Book_find_T0 b x_k i) (parrelref21_Book_find_H0 b x_k i) := by
  intro fuel
  induction fuel with
  | zero => intro i r h; rw [parrelref21_Book_find_l0] at h; cases h
  | succ fuel ih =>
    intro i r h
    rw [parrelref21_Book_find_l0] at h
    rcases itb_some h with ⟨cL0_1, h⟩ | ⟨cL0_1, h⟩
    · skip
      obtain ⟨gL0_2, h⟩ := guard_some h
      rcases itb_some h with ⟨cL0_3, h⟩ | ⟨cL0_3, h⟩
      · skip
        obtain rfl := Option.some.inj h
        exact run_ret mixed (L := []) (n := 25) (s := [.go, .reg [(6, { v := some (.bool true) })], .reg [(9, { v := some (.bool true) })], .reg []])
          (a_ (a_ (a_ (a_ tr tr) (a_ (a_ tr tr) (a_ (a_ tr tr) (a_ (a_ tr tr) (a_ (a_ (a_ tr (lt_ 0 1 rfl)) tr) (a_ (a_ tr tr) (a_ (a_ tr (a_ (leB cL0_1) tr)) tr))))))) (a_ (a_ (a_ tr tr) (a_ (a_ tr tr) (a_ (a_ tr tr) (a_ (a_ (a_ tr (lt_ 0 1 rfl)) tr) (a_ (a_ tr tr) (a_ (a_ (a_ (Eq.refl 19) gL0_2) tr) (a_ (a_ tr tr) (a_ (a_ (le_ 8 19 rfl) tr) (a_ (a_ (a_ tr (le_ 8 8 rfl)) tr) (a_ (a_ tr (a_ (LV.Le.trans (leB ((k_arr8 .u8) (b.f_L.getD i.toNat default).f_Key x_k)) (leB cL0_3)) tr)) tr)))))))))) (a_ (a_ (a_ tr tr) (a_ (a_ tr tr) tr)) tr))) tr) (by kernel_rfl) rfl
      · skip
        exact run_to mixed hμ (L := [1]) (n := 26) (s := [.go, .reg [(6, { v := some (.bool true) })], .reg [(9, { v := some (.bool false) })], .reg []])
          (a_ (a_ (a_ tr tr) (a_ (a_ tr tr) (a_ (a_ tr tr) (a_ (a_ tr tr) (a_ (a_ (a_ tr (lt_ 0 1 rfl)) tr) (a_ (a_ tr tr) (a_ (a_ tr (a_ (leB cL0_1) tr)) tr))))))) (a_ (a_ (a_ tr tr) (a_ (a_ tr tr) (a_ (a_ tr tr) (a_ (a_ (a_ tr (lt_ 0 1 rfl)) tr) (a_ (a_ tr tr) (a_ (a_ (a_ (Eq.refl 19) gL0_2) tr) (a_ (a_ tr tr) (a_ (a_ (le_ 8 19 rfl) tr) (a_ (a_ (a_ tr (le_ 8 8 rfl)) tr) (a_ (a_ tr (a_ (LV.Le.trans (leB ((k_arr8 .u8) (b.f_L.getD i.toNat default).f_Key x_k)) (leB cL0_3)) tr)) tr)))))))))) (a_ (a_ (a_ tr tr) (a_ (a_ tr tr) (a_ (a_ tr tr) tr))) tr))) (ih _ r h) (by kernel_rfl) ⟨rfl, rfl, trivial⟩
    · skip
      obtain rfl := Option.some.inj h
      exact run_ret mixed (L := []) (n := 19) (s := [.go, .reg [(6, { v := some (.bool false) })], .reg []])
        (a_ (a_ (a_ (a_ tr tr) (a_ (a_ tr tr) (a_ (a_ tr tr) (a_ (a_ tr tr) (a_ (a_ (a_ tr (lt_ 0 1 rfl)) tr) (a_ (a_ tr tr) (a_ (a_ tr (a_ (leB cL0_1) tr)) tr))))))) (a_ (a_ (a_ tr tr) tr) tr)) tr) (by kernel_rfl) rfl

theorem parrelref21_Book_find_ok (b : T_parrelref21_Book) (x_k : A8 (Int)) (r : (Int)) (h : parrelref21_Book_find b x_k = some r) : ∀ σ, Inj 1 σ → FnTri Tryd.prog 35 (renL σ [.ptr 0 0 0, .agg [.int .u8 x_k.a0, .int .u8 x_k.a1, .int .u8 x_k.a2, .int .u8 x_k.a3, .int .u8 x_k.a4, .int .u8 x_k.a5, .int .u8 x_k.a6, .int .u8 x_k.a7]]) (preOf σ 0 (parrelref21_Book_find_objs b x_k)) ((parrelref21_Book_find_v r).ren σ) (upOf σ (parrelref21_Book_find_up b x_k r)) := by
  refine fn_of Tryd.func35 (by kernel_rfl) (by kernel_rfl) (by kernel_rfl) ⟨rfl, trivial⟩ (by kernel_rfl) ⟨rfl, trivial⟩ (by kernel_rfl) ?_
  intro w0 W μ0 hμ
  unfold parrelref21_Book_find at h
  exact run_to mixed hμ (L := [1]) (n := 18) (s := [.reg [], .reg []])
    (a_ (a_ (a_ tr tr) (a_ (a_ tr tr) tr)) (a_ (a_ (a_ tr tr) tr) tr)) (parrelref21_Book_find_l0_ok hμ b x_k  big _ r h) (by kernel_rfl) ⟨rfl, rfl, trivial⟩

/-- parrel/parrelref05.first -/

def parrelref05_first_v (r : (Int)) : LV := .int .i64 r

def parrelref05_first_T0 (a : List (Int)) (b : List (Int)) (i : Int) : List LV := [.ds 1 (a).length (rowF (cInt .u32) default a), .ds 1 (b).length (rowF (cInt .u32) default b), .any, .any, .any, .int .i64 i, .any, .any, .any, .any, .any, .any, .any, .any, .any, .any, .any, .any, .any, .any, .any, .any, .any, .any, .any, .any, .any, .any, .any, .any]

def parrelref05_first_H0 (a : List (Int)) (b : List (Int)) (i : Int) : Heap := []

def parrelref05_first_l0 (a : List (Int)) (b : List (Int))  : Nat → (Int) → Option ((Int))
  | 0, _ => none
  | fuel + 1, i =>
    if ((decide (i < ((a).length : Int))) : Bool) then
      if 0 ≤ i ∧ i < (((a).length : Nat) : Int) then
      if 0 ≤ i ∧ i < (((b).length : Nat) : Int) then
      if ((decide ((a.getD i.toNat default) < (b.getD i.toNat default))) : Bool) then
        some (-1)
      else
        if ((decide ((b.getD i.toNat default) < (a.getD i.toNat default))) : Bool) then
          some 1
        else
          parrelref05_first_l0 a b  fuel (IntKind.wrap .i64 (i + 1))
      else none
      else none
    else
      some 0

def parrelref05_first (a : List (Int)) (b : List (Int)) : Option ((Int)) :=
  parrelref05_first_l0 a b  big 0

theorem parrelref05_first_l0_ok {w0 : World} {W : Nat → Prop} {μ0 : Emb} (hμ : ∀ c p, μ0 c = some p → c < 0) (a : List (Int)) (b : List (Int))  : ∀ (fuel : Nat) (i : Int) (r : (Int)), parrelref05_first_l0 a b  fuel i = some r → kont Tryd.prog w0 W μ0 (FnPost Tryd.prog Tryd.f48 0 0 (parrelref05_first_v r) []) (kAt (bodyOf Tryd.f48) 0) none (parrelref05_first_T0 a b i) (parrelref05_first_H0 a b i) := by
  intro fuel
  induction fuel with
  | zero => intro i r h; rw [parrelref05_first_l0] at h; cases h
  | succ fuel ih =>
    intro i r h
    rw [parrelref05_first_l0] at h
    rcases itb_some h with ⟨cL0_1, h⟩ | ⟨cL0_1, h⟩
    · skip
      obtain ⟨gL0_2, h⟩ := guard_some h
      obtain ⟨gL0_3, h⟩ := guard_some h
      rcases itb_some h with ⟨cL0_4, h⟩ | ⟨cL0_4, h⟩
      · skip
        obtain rfl := Option.some.inj h
        exact run_ret mixed (L := []) (n := 26) (s := [.go, .reg [(3, { v := some (.bool true) })], .reg [(8, { v := some (.bool true) })], .reg []])
          (a_ (a_ (a_ (a_ tr tr) (a_ (a_ tr tr) (a_ (a_ tr tr) (a_ (a_ tr (a_ (leB cL0_1) tr)) tr)))) (a_ (a_ (a_ tr tr) (a_ (a_ tr tr) (a_ (a_ (a_ (Eq.refl 1) gL0_2) tr) (a_ (a_ (lt_ 0 1 rfl) tr) (a_ (a_ tr tr) (a_ (a_ tr tr) (a_ (a_ (a_ (Eq.refl 1) gL0_3) tr) (a_ (a_ (lt_ 0 1 rfl) tr) (a_ (a_ tr (a_ (leB cL0_4) tr)) tr))))))))) (a_ (a_ (a_ tr tr) tr) tr))) tr) (by kernel_rfl) rfl
      · skip
        rcases itb_some h with ⟨cL0_5, h⟩ | ⟨cL0_5, h⟩
        · skip
          obtain rfl := Option.some.inj h
          exact run_ret mixed (L := []) (n := 31) (s := [.go, .reg [(3, { v := some (.bool true) })], .reg [(8, { v := some (.bool false) })], .reg [(8, { v := some (.bool true) })], .reg []])
            (a_ (a_ (a_ (a_ tr tr) (a_ (a_ tr tr) (a_ (a_ tr tr) (a_ (a_ tr (a_ (leB cL0_1) tr)) tr)))) (a_ (a_ (a_ tr tr) (a_ (a_ tr tr) (a_ (a_ (a_ (Eq.refl 1) gL0_2) tr) (a_ (a_ (lt_ 0 1 rfl) tr) (a_ (a_ tr tr) (a_ (a_ tr tr) (a_ (a_ (a_ (Eq.refl 1) gL0_3) tr) (a_ (a_ (lt_ 0 1 rfl) tr) (a_ (a_ tr (a_ (leB cL0_4) tr)) tr))))))))) (a_ (a_ (a_ tr tr) (a_ (a_ tr tr) (a_ (a_ (a_ (Eq.refl 1) gL0_2) tr) (a_ (a_ (lt_ 0 1 rfl) tr) (a_ (a_ tr tr) (a_ (a_ tr tr) (a_ (a_ (a_ (Eq.refl 1) gL0_3) tr) (a_ (a_ (lt_ 0 1 rfl) tr) (a_ (a_ tr (a_ (leB cL0_5) tr)) tr))))))))) (a_ (a_ (a_ tr tr) tr) tr)))) tr) (by kernel_rfl) rfl
        · skip
          exact run_to mixed hμ (L := []) (n := 32) (s := [.go, .reg [(3, { v := some (.bool true) })], .reg [(8, { v := some (.bool false) })], .reg [(8, { v := some (.bool false) })], .reg []])
            (a_ (a_ (a_ tr tr) (a_ (a_ tr tr) (a_ (a_ tr tr) (a_ (a_ tr (a_ (leB cL0_1) tr)) tr)))) (a_ (a_ (a_ tr tr) (a_ (a_ tr tr) (a_ (a_ (a_ (Eq.refl 1) gL0_2) tr) (a_ (a_ (lt_ 0 1 rfl) tr) (a_ (a_ tr tr) (a_ (a_ tr tr) (a_ (a_ (a_ (Eq.refl 1) gL0_3) tr) (a_ (a_ (lt_ 0 1 rfl) tr) (a_ (a_ tr (a_ (leB cL0_4) tr)) tr))))))))) (a_ (a_ (a_ tr tr) (a_ (a_ tr tr) (a_ (a_ (a_ (Eq.refl 1) gL0_2) tr) (a_ (a_ (lt_ 0 1 rfl) tr) (a_ (a_ tr tr) (a_ (a_ tr tr) (a_ (a_ (a_ (Eq.refl 1) gL0_3) tr) (a_ (a_ (lt_ 0 1 rfl) tr) (a_ (a_ tr (a_ (leB cL0_5) tr)) tr))))))))) (a_ (a_ (a_ tr tr) (a_ (a_ tr tr) (a_ (a_ tr tr) tr))) tr)))) (ih _ r h) (by kernel_rfl) trivial
    · skip
      obtain rfl := Option.some.inj h
      exact run_ret mixed (L := []) (n := 19) (s := [.go, .reg [(3, { v := some (.bool false) })], .reg []])
        (a_ (a_ (a_ (a_ tr tr) (a_ (a_ tr tr) (a_ (a_ tr tr) (a_ (a_ tr (a_ (leB cL0_1) tr)) tr)))) (a_ (a_ (a_ tr tr) tr) tr)) tr) (by kernel_rfl) rfl

theorem parrelref05_first_ok (a : List (Int)) (b : List (Int)) (r : (Int)) (h : parrelref05_first a b = some r) : ∀ σ, Inj 0 σ → FnTri Tryd.prog 48 (renL σ [.ds 1 (a).length (rowF (cInt .u32) default a), .ds 1 (b).length (rowF (cInt .u32) default b)]) (preOf σ 0 []) ((parrelref05_first_v r).ren σ) (upOf σ []) := by
  refine fn_of Tryd.func48 (by kernel_rfl) (by kernel_rfl) (by kernel_rfl) trivial (by kernel_rfl) trivial (by kernel_rfl) ?_
  intro w0 W μ0 hμ
  unfold parrelref05_first at h
  exact run_to mixed hμ (L := []) (n := 18) (s := [.reg [], .reg []])
    (a_ (a_ (a_ tr tr) tr) (a_ (a_ (a_ tr tr) tr) tr)) (parrelref05_first_l0_ok hμ a b  big _ r h) (by kernel_rfl) trivial

theorem parrelref05_first_tri (a : List (Int)) (b : List (Int)) (r : (Int)) (h : parrelref05_first a b = some r) : FnTri Tryd.prog 48 [.ds 1 (a).length (rowF (cInt .u32) default a), .ds 1 (b).length (rowF (cInt .u32) default b)] [] (parrelref05_first_v r) [] := FnTri.none (parrelref05_first_ok a b r h) rfl rfl

/-- parrel/parrelref05.Keys -/

def parrelref05_Keys_v (r : (Int)) : LV := .int .i64 r

def parrelref05_Keys_T0 (a : A8 (Int)) (b : A8 (Int)) (i : Int) (l : List (Int)) (l2 : List (Int)) : List LV := [.any, .any, .ptr 0 0 0, .ptr 1 0 0, .any, .gs 2 (l).length, .gs 3 (l2).length, .int .i64 i, .any, .any, .any, .any, .any, .any, .any, .any, .any, .any, .any, .any, .any, .any, .any, .any, .any, .any, .any, .any, .any]

def parrelref05_Keys_H0 (a : A8 (Int)) (b : A8 (Int)) (i : Int) (l : List (Int)) (l2 : List (Int)) : Heap := [some (.var [.int .u8 a.a0, .int .u8 a.a1, .int .u8 a.a2, .int .u8 a.a3, .int .u8 a.a4, .int .u8 a.a5, .int .u8 a.a6, .int .u8 a.a7]), some (.var [.int .u8 b.a0, .int .u8 b.a1, .int .u8 b.a2, .int .u8 b.a3, .int .u8 b.a4, .int .u8 b.a5, .int .u8 b.a6, .int .u8 b.a7]), some (.gr 1 (l).length (rowF (cInt .u32) default l)), some (.gr 1 (l2).length (rowF (cInt .u32) default l2))]

def parrelref05_Keys_l0 (a : A8 (Int)) (b : A8 (Int))  : Nat → (Int) → (List (Int)) → (List (Int)) → Option ((Int))
  | 0, _, _, _ => none
  | fuel + 1, i, l, l2 =>
    if ((decide (i < 8)) : Bool) then
      if 0 ≤ i ∧ i < 8 then
      if ((l).length + (([(IntKind.wrap .u32 (A8.get a i.toNat))] : List (Int))).length) * 4 ≤ 140737488351232 then
      if ((l2).length + (([(IntKind.wrap .u32 (A8.get b i.toNat))] : List (Int))).length) * 4 ≤ 140737488351232 then
      parrelref05_Keys_l0 a b  fuel (IntKind.wrap .i64 (i + 1)) (l ++ ([(IntKind.wrap .u32 (A8.get a i.toNat))] : List (Int))) (l2 ++ ([(IntKind.wrap .u32 (A8.get b i.toNat))] : List (Int)))
      else none
      else none
      else none
    else
      (parrelref05_first l l2).bind fun yL0_3 =>
      some yL0_3

def parrelref05_Keys (a : A8 (Int)) (b : A8 (Int)) : Option ((Int)) :=
  parrelref05_Keys_l0 a b  big 0 ([] : List (Int)) ([] : List (Int))

theorem parrelref05_Keys_l0_ok {w0 : World} {W : Nat → Prop} {μ0 : Emb} (hμ : ∀ c p, μ0 c = some p → c < 0) (a : A8 (Int)) (b : A8 (Int))  : ∀ (fuel : Nat) (i : Int) (l : List (Int)) (l2 : List (Int)) (r : (Int)), parrelref05_Keys_l0 a b  fuel i l l2 = some r → kont Tryd.prog w0 W μ0 (FnPost Tryd.prog Tryd.f36 0 0 (parrelref05_Keys_v r) []) (kAt (bodyOf Tryd.f36) 0) none (parrelref05_Keys_T0 a b i l l2) (parrelref05_Keys_H0 a b i l l2) := by
  intro fuel
  induction fuel with
  | zero => intro i l l2 r h; rw [parrelref05_Keys_l0] at h; cases h
  | succ fuel ih =>
    intro i l l2 r h
    rw [parrelref05_Keys_l0] at h
    rcases itb_some h with ⟨cL0_1, h⟩ | ⟨cL0_1, h⟩
    · skip
      obtain ⟨gL0_2, h⟩ := guard_some h
      obtain ⟨gL0_3, h⟩ := guard_some h
      obtain ⟨gL0_4, h⟩ := guard_some h
      exact run_to mixed hμ (L := [0, 1, 5, 7]) (n := 26) (s := [.go, .reg [(1, { v := some (.bool true) })], .reg [(3, { v := some (.int .u8 (A8.get a i.toNat)) }), (5, { os := [(4, .gr 1 (([(IntKind.wrap .u32 (A8.get a i.toNat))] : List (Int))).length (rowF (cInt .u32) default ([(IntKind.wrap .u32 (A8.get a i.toNat))] : List (Int))))], v := some (.gs 4 (([(IntKind.wrap .u32 (A8.get a i.toNat))] : List (Int))).length) }), (6, { app := 3, os := [(5, .gr 1 ((l ++ ([(IntKind.wrap .u32 (A8.get a i.toNat))] : List (Int)))).length (rowF (cInt .u32) default (l ++ ([(IntKind.wrap .u32 (A8.get a i.toNat))] : List (Int)))))], v := some (.gs 5 ((l ++ ([(IntKind.wrap .u32 (A8.get a i.toNat))] : List (Int)))).length) })], .reg [(3, { v := some (.int .u8 (A8.get b i.toNat)) }), (5, { os := [(6, .gr 1 (([(IntKind.wrap .u32 (A8.get b i.toNat))] : List (Int))).length (rowF (cInt .u32) default ([(IntKind.wrap .u32 (A8.get b i.toNat))] : List (Int))))], v := some (.gs 6 (([(IntKind.wrap .u32 (A8.get b i.toNat))] : List (Int))).length) }), (6, { app := 3, os := [(7, .gr 1 ((l2 ++ ([(IntKind.wrap .u32 (A8.get b i.toNat))] : List (Int)))).length (rowF (cInt .u32) default (l2 ++ ([(IntKind.wrap .u32 (A8.get b i.toNat))] : List (Int)))))], v := some (.gs 7 ((l2 ++ ([(IntKind.wrap .u32 (A8.get b i.toNat))] : List (Int)))).length) })], .reg []])
        (a_ (a_ (a_ tr tr) (a_ (a_ tr (a_ (leB cL0_1) tr)) tr)) (a_ (a_ (a_ tr tr) (a_ (a_ tr tr) (a_ (a_ gL0_2 tr) (a_ (a_ (a_ tr (arrLt (len := 8) gL0_2 0 1 8 rfl rfl)) (a_ (ld8s (cInt .u8) 1 (fun _ => rfl) a [] [] 0 rfl i.toNat (lt8N gL0_2) (le_ (0 + 1) 1 rfl)) tr)) (a_ (a_ tr tr) (a_ (a_ (a_ (Eq.refl true) (a_ (Eq.refl 1) (a_ (lt_ 0 1 rfl) (le_ 1 16777216 rfl)))) (a_ (le_sl_gs 4 1 (some 1) rfl) (a_ (sub_lit (cInt .u32) default 1 (fun _ => rfl) ([(IntKind.wrap .u32 (A8.get a i.toNat))] : List (Int))) tr))) (a_ (a_ (a_ (a_ (Eq.refl 1) (Nat.le_refl (([(IntKind.wrap .u32 (A8.get a i.toNat))] : List (Int))).length)) (a_ (a_ (lt_ 0 1 rfl) (a_ (lt_ 0 4 rfl) (a_ gL0_3 (a_ (Eq.refl 1) (Eq.refl true))))) (a_ (Eq.refl 1) (Nat.le_refl (l).length)))) (a_ (le_gs_app 5 l ([(IntKind.wrap .u32 (A8.get a i.toNat))] : List (Int))) (a_ (sub_app (cInt .u32) default 1 l ([(IntKind.wrap .u32 (A8.get a i.toNat))] : List (Int))) tr))) (a_ (a_ tr tr) tr)))))))) (a_ (a_ (a_ tr tr) (a_ (a_ tr tr) (a_ (a_ gL0_2 tr) (a_ (a_ (a_ tr (arrLt (len := 8) gL0_2 0 1 8 rfl rfl)) (a_ (ld8s (cInt .u8) 1 (fun _ => rfl) b [] [] 0 rfl i.toNat (lt8N gL0_2) (le_ (0 + 1) 1 rfl)) tr)) (a_ (a_ tr tr) (a_ (a_ (a_ (Eq.refl true) (a_ (Eq.refl 1) (a_ (lt_ 0 1 rfl) (le_ 1 16777216 rfl)))) (a_ (le_sl_gs 6 1 (some 1) rfl) (a_ (sub_lit (cInt .u32) default 1 (fun _ => rfl) ([(IntKind.wrap .u32 (A8.get b i.toNat))] : List (Int))) tr))) (a_ (a_ (a_ (a_ (Eq.refl 1) (Nat.le_refl (([(IntKind.wrap .u32 (A8.get b i.toNat))] : List (Int))).length)) (a_ (a_ (lt_ 0 1 rfl) (a_ (lt_ 0 4 rfl) (a_ gL0_4 (a_ (Eq.refl 1) (Eq.refl true))))) (a_ (Eq.refl 1) (Nat.le_refl (l2).length)))) (a_ (le_gs_app 7 l2 ([(IntKind.wrap .u32 (A8.get b i.toNat))] : List (Int))) (a_ (sub_app (cInt .u32) default 1 l2 ([(IntKind.wrap .u32 (A8.get b i.toNat))] : List (Int))) tr))) (a_ (a_ tr tr) tr)))))))) (a_ (a_ (a_ tr tr) (a_ (a_ tr tr) (a_ (a_ tr tr) tr))) tr)))) (ih _ _ _ r h) (by kernel_rfl) ⟨rfl, rfl, fun _ _ => rfl, fun _ _ => rfl, trivial⟩
    · skip
      obtain ⟨yL0_3, eL0_2, h⟩ := bind_some h
      obtain rfl := Option.some.inj h
      exact run_ret mixed (L := []) (n := 21) (s := [.go, .reg [(1, { v := some (.bool false) })], .frz 2, .frz 3, .reg [(2, { call := some (parrelref05_first_v yL0_3, [], []) })]])
        (a_ (a_ (a_ (a_ tr tr) (a_ (a_ tr (a_ (leB cL0_1) tr)) tr)) (a_ (a_ (fz_row (enc := (cInt .u32)) (d := default) (fun _ => rfl) l) (a_ (Nat.le_refl (l).length) tr)) (a_ (a_ (fz_row (enc := (cInt .u32)) (d := default) (fun _ => rfl) l2) (a_ (Nat.le_refl (l2).length) tr)) (a_ (a_ (a_ tr tr) (a_ (a_ tr tr) (a_ (a_ (a_ (parrelref05_first_tri l l2 yL0_3 eL0_2) tr) tr) (a_ (a_ tr tr) tr)))) tr)))) tr) (by kernel_rfl) rfl

theorem parrelref05_Keys_ok (a : A8 (Int)) (b : A8 (Int)) (r : (Int)) (h : parrelref05_Keys a b = some r) : ∀ σ, Inj 0 σ → FnTri Tryd.prog 36 (renL σ [.agg [.int .u8 a.a0, .int .u8 a.a1, .int .u8 a.a2, .int .u8 a.a3, .int .u8 a.a4, .int .u8 a.a5, .int .u8 a.a6, .int .u8 a.a7], .agg [.int .u8 b.a0, .int .u8 b.a1, .int .u8 b.a2, .int .u8 b.a3, .int .u8 b.a4, .int .u8 b.a5, .int .u8 b.a6, .int .u8 b.a7]]) (preOf σ 0 []) ((parrelref05_Keys_v r).ren σ) (upOf σ []) := by
  refine fn_of Tryd.func36 (by kernel_rfl) (by kernel_rfl) (by kernel_rfl) trivial (by kernel_rfl) trivial (by kernel_rfl) ?_
  intro w0 W μ0 hμ
  unfold parrelref05_Keys at h
  exact run_to mixed hμ (L := [0, 1, 2, 3]) (n := 23) (s := [.reg [], .void (.gr 1 (([] : List (Int))).length (rowF (cInt .u32) default ([] : List (Int)))), .void (.gr 1 (([] : List (Int))).length (rowF (cInt .u32) default ([] : List (Int)))), .reg [(0, { v := some (.gs 2 (([] : List (Int))).length) }), (1, { v := some (.gs 3 (([] : List (Int))).length) })], .reg []])
    (a_ (a_ (a_ tr tr) (a_ (a_ tr tr) (a_ (a_ tr tr) tr))) (a_ (Eq.refl 0) (a_ (Eq.refl 0) (a_ (a_ (a_ tr (a_ (le_nil_gs 2) tr)) (a_ (a_ tr (a_ (le_nil_gs 3) tr)) tr)) (a_ (a_ (a_ tr tr) tr) tr))))) (parrelref05_Keys_l0_ok hμ a b  big _ _ _ r h) (by kernel_rfl) ⟨rfl, rfl, fun _ _ => rfl, fun _ _ => rfl, trivial⟩

theorem parrelref05_Keys_tri (a : A8 (Int)) (b : A8 (Int)) (r : (Int)) (h : parrelref05_Keys a b = some r) : FnTri Tryd.prog 36 [.agg [.int .u8 a.a0, .int .u8 a.a1, .int .u8 a.a2, .int .u8 a.a3, .int .u8 a.a4, .int .u8 a.a5, .int .u8 a.a6, .int .u8 a.a7], .agg [.int .u8 b.a0, .int .u8 b.a1, .int .u8 b.a2, .int .u8 b.a3, .int .u8 b.a4, .int .u8 b.a5, .int .u8 b.a6, .int .u8 b.a7]] [] (parrelref05_Keys_v r) [] := FnTri.none (parrelref05_Keys_ok a b r h) rfl rfl

/-- parrel/parrelref21.New -/

def parrelref21_New_v (r : (T_parrelref21_Book) × (Int)) : LV := .tup [v_T_parrelref21_Book r.1, .int .i64 r.2]

def parrelref21_New_T1 (first : List (T_api_Write)) (i : Int) (L : List (T_parrelref21_Known)) (x_k : Int) : List LV := [.ds 21 (first).length (rowF c_T_api_Write default first), .any, .ptr 0 0 0, .any, .ptr 1 0 0, .int .i64 i, .ptr 2 0 0, .int .i64 x_k, .any, .any, .any, .any, .any, .any, .any, .any, .any, .any, .any, .any, .any, .any, .any, .any, .any, .any, .any, .any, .any, .any, .any, .any, .any, .any, .any, .any, .any, .any, .any, .any, .any, .any, .any, .any, .any, .any, .any, .any, .any, .any, .any, .any, .any, .any, .any, .any, .any, .any, .any, .any, .any, .any, .any, .any, .any, .any, .any, .any, .any, .any, .any, .any, .any, .any, .any]

def parrelref21_New_H1 (first : List (T_api_Write)) (i : Int) (L : List (T_parrelref21_Known)) (x_k : Int) : Heap := [some (.var [.nilsl]), some (.var (c_T_parrelref21_Book (T_parrelref21_Book.mk L))), some (.var (c_T_api_Write (first.getD i.toNat default)))]

def parrelref21_New_T0 (first : List (T_api_Write)) (i : Int) (L : List (T_parrelref21_Known)) : List LV := [.ds 21 (first).length (rowF c_T_api_Write default first), .any, .ptr 0 0 0, .any, .ptr 1 0 0, .int .i64 i, .any, .any, .any, .any, .any, .any, .any, .any, .any, .any, .any, .any, .any, .any, .any, .any, .any, .any, .any, .any, .any, .any, .any, .any, .any, .any, .any, .any, .any, .any, .any, .any, .any, .any, .any, .any, .any, .any, .any, .any, .any, .any, .any, .any, .any, .any, .any, .any, .any, .any, .any, .any, .any, .any, .any, .any, .any, .any, .any, .any, .any, .any, .any, .any, .any, .any, .any, .any, .any]

def parrelref21_New_H0 (first : List (T_api_Write)) (i : Int) (L : List (T_parrelref21_Known)) : Heap := [some (.var [.nilsl]), some (.var (c_T_parrelref21_Book (T_parrelref21_Book.mk L)))]

def parrelref21_New_l1 (first : List (T_api_Write)) (i : Int) (L : List (T_parrelref21_Known)) (k0 : (Int) → (List (T_parrelref21_Known)) → Option ((T_parrelref21_Book) × (Int))) : Nat → (Int) → Option ((T_parrelref21_Book) × (Int))
  | 0, _ => none
  | fuel + 1, x_k =>
    if ((decide (x_k < (((T_parrelref21_Book.mk L).f_L).length : Int))) : Bool) then
      if 0 ≤ x_k ∧ x_k < ((((T_parrelref21_Book.mk L).f_L).length : Nat) : Int) then
      (parrelref05_Keys ((T_parrelref21_Book.mk L).f_L.getD x_k.toNat default).f_Key (first.getD i.toNat default).f_Key).bind fun yL1_4 =>
      if ((decide (yL1_4 < 0)) : Bool) then
        parrelref21_New_l1 first i L k0 fuel (IntKind.wrap .i64 (x_k + 1))
      else
        if 0 ≤ (0 : Int) ∧ 0 ≤ x_k ∧ x_k ≤ ((((T_parrelref21_Book.mk L).f_L).length : Nat) : Int) then
        if (0 + (((T_parrelref21_Book.mk L).f_L.take x_k.toNat)).length) * 24 ≤ 140737488351232 then
        if ((((T_parrelref21_Book.mk L).f_L.take x_k.toNat)).length + (([(T_parrelref21_Known.mk (first.getD i.toNat default).f_Key (first.getD i.toNat default).f_Item.f_Conf)] : List (T_parrelref21_Known))).length) * 24 ≤ 140737488351232 then
        if 0 ≤ x_k ∧ x_k ≤ ((((T_parrelref21_Book.mk L).f_L).length : Nat) : Int) ∧ ((((T_parrelref21_Book.mk L).f_L).length : Nat) : Int) ≤ ((((T_parrelref21_Book.mk L).f_L).length : Nat) : Int) then
        if (((((T_parrelref21_Book.mk L).f_L.take x_k.toNat) ++ ([(T_parrelref21_Known.mk (first.getD i.toNat default).f_Key (first.getD i.toNat default).f_Item.f_Conf)] : List (T_parrelref21_Known)))).length + (((T_parrelref21_Book.mk L).f_L.drop x_k.toNat)).length) * 24 ≤ 140737488351232 then
        k0 (IntKind.wrap .i64 (i + 1)) ((((T_parrelref21_Book.mk L).f_L.take x_k.toNat) ++ ([(T_parrelref21_Known.mk (first.getD i.toNat default).f_Key (first.getD i.toNat default).f_Item.f_Conf)] : List (T_parrelref21_Known))) ++ ((T_parrelref21_Book.mk L).f_L.drop x_k.toNat))
        else none
        else none
        else none
        else none
        else none
      else none
    else
      if 0 ≤ (0 : Int) ∧ 0 ≤ x_k ∧ x_k ≤ ((((T_parrelref21_Book.mk L).f_L).length : Nat) : Int) then
      if (0 + (((T_parrelref21_Book.mk L).f_L.take x_k.toNat)).length) * 24 ≤ 140737488351232 then
      if ((((T_parrelref21_Book.mk L).f_L.take x_k.toNat)).length + (([(T_parrelref21_Known.mk (first.getD i.toNat default).f_Key (first.getD i.toNat default).f_Item.f_Conf)] : List (T_parrelref21_Known))).length) * 24 ≤ 140737488351232 then
      if 0 ≤ x_k ∧ x_k ≤ ((((T_parrelref21_Book.mk L).f_L).length : Nat) : Int) ∧ ((((T_parrelref21_Book.mk L).f_L).length : Nat) : Int) ≤ ((((T_parrelref21_Book.mk L).f_L).length : Nat) : Int) then
      if (((((T_parrelref21_Book.mk L).f_L.take x_k.toNat) ++ ([(T_parrelref21_Known.mk (first.getD i.toNat default).f_Key (first.getD i.toNat default).f_Item.f_Conf)] : List (T_parrelref21_Known)))).length + (((T_parrelref21_Book.mk L).f_L.drop x_k.toNat)).length) * 24 ≤ 140737488351232 then
      k0 (IntKind.wrap .i64 (i + 1)) ((((T_parrelref21_Book.mk L).f_L.take x_k.toNat) ++ ([(T_parrelref21_Known.mk (first.getD i.toNat default).f_Key (first.getD i.toNat default).f_Item.f_Conf)] : List (T_parrelref21_Known))) ++ ((T_parrelref21_Book.mk L).f_L.drop x_k.toNat))
      else none
      else none
      else none
      else none
      else none

def parrelref21_New_l0 (first : List (T_api_Write))  : Nat → (Int) → (List (T_parrelref21_Known)) → Option ((T_parrelref21_Book) × (Int))
  | 0, _, _ => none
  | fuel + 1, i, L =>
    if ((decide (i < ((first).length : Int))) : Bool) then
      if 0 ≤ i ∧ i < (((first).length : Nat) : Int) then
      (parrelref10_KeyMay (first.getD i.toNat default).f_Key).bind fun yL0_4 =>
      if ((!yL0_4) : Bool) then
        some ((T_parrelref21_Book.mk ([] : List (T_parrelref21_Known))), 1)
      else
        (parrelref10_ItemMay (first.getD i.toNat default).f_Item).bind fun yL0_7 =>
        if ((!yL0_7) : Bool) then
          some ((T_parrelref21_Book.mk ([] : List (T_parrelref21_Known))), 1)
        else
          (parrelref21_Book_find (T_parrelref21_Book.mk L) (first.getD i.toNat default).f_Key).bind fun yL0_10 =>
          if ((decide (0 ≤ yL0_10)) : Bool) then
            some ((T_parrelref21_Book.mk ([] : List (T_parrelref21_Known))), 1)
          else
            parrelref21_New_l1 first i L (parrelref21_New_l0 first  fuel) big 0
      else none
    else
      some ((T_parrelref21_Book.mk L), 0)

def parrelref21_New (first : List (T_api_Write)) : Option ((T_parrelref21_Book) × (Int)) :=
  parrelref21_New_l0 first  big 0 ([] : List (T_parrelref21_Known))

theorem parrelref21_New_l1_ok {w0 : World} {W : Nat → Prop} {μ0 : Emb} (hμ : ∀ c p, μ0 c = some p → c < 0) (first : List (T_api_Write)) (i : Int) (L : List (T_parrelref21_Known)) (k0 : (Int) → (List (T_parrelref21_Known)) → Option ((T_parrelref21_Book) × (Int))) (hk0 : ∀ (i : Int) (L : List (T_parrelref21_Known)) (r : (T_parrelref21_Book) × (Int)), k0 i L = some r → kont Tryd.prog w0 W μ0 (FnPost Tryd.prog Tryd.f17 0 0 (parrelref21_New_v r) []) (kAt (bodyOf Tryd.f17) 0) none (parrelref21_New_T0 first i L) (parrelref21_New_H0 first i L)) : ∀ (fuel : Nat) (x_k : Int) (r : (T_parrelref21_Book) × (Int)), parrelref21_New_l1 first i L k0 fuel x_k = some r → kont Tryd.prog w0 W μ0 (FnPost Tryd.prog Tryd.f17 0 0 (parrelref21_New_v r) []) (kAt (bodyOf Tryd.f17) 1) none (parrelref21_New_T1 first i L x_k) (parrelref21_New_H1 first i L x_k) := by
  intro fuel
  induction fuel with
  | zero => intro x_k r h; rw [parrelref21_New_l1] at h; cases h
  | succ fuel ih =>
    intro x_k r h
    rw [parrelref21_New_l1] at h
    rcases itb_some h with ⟨cL1_1, h⟩ | ⟨cL1_1, h⟩
    · skip
      obtain ⟨gL1_2, h⟩ := guard_some h
      obtain ⟨yL1_4, eL1_3, h⟩ := bind_some h
      rcases itb_some h with ⟨cL1_5, h⟩ | ⟨cL1_5, h⟩
      · skip
        exact run_to mixed hμ (L := [0, 1, 2]) (n := 20) (s := [.go, .reg [(5, { v := some (.bool true) }), (14, { call := some (parrelref05_Keys_v yL1_4, [], []) }), (16, { v := some (.bool true) })], .reg []])
          (a_ (a_ (a_ tr tr) (a_ (a_ tr tr) (a_ (a_ (a_ tr (lt_ 0 1 rfl)) tr) (a_ (a_ tr tr) (a_ (a_ tr tr) (a_ (a_ tr (a_ (leB cL1_1) tr)) (a_ (a_ tr tr) (a_ (a_ (a_ tr (lt_ 0 1 rfl)) tr) (a_ (a_ tr tr) (a_ (a_ (a_ (Eq.refl 19) gL1_2) tr) (a_ (a_ tr tr) (a_ (a_ (le_ 8 19 rfl) tr) (a_ (a_ tr tr) (a_ (a_ (a_ tr (le_ 8 21 rfl)) tr) (a_ (a_ (a_ (parrelref05_Keys_tri ((T_parrelref21_Book.mk L).f_L.getD x_k.toNat default).f_Key (first.getD i.toNat default).f_Key yL1_4 eL1_3) tr) tr) (a_ (a_ tr tr) (a_ (a_ tr (a_ (leB cL1_5) tr)) tr))))))))))))))))) (a_ (a_ (a_ tr tr) (a_ (a_ tr tr) (a_ (a_ tr tr) tr))) tr)) (ih _ r h) (by kernel_rfl) ⟨rfl, rfl, rfl, trivial⟩
      · skip
        obtain ⟨gL1_6, h⟩ := guard_some h
        obtain ⟨gL1_7, h⟩ := guard_some h
        obtain ⟨gL1_8, h⟩ := guard_some h
        obtain ⟨gL1_9, h⟩ := guard_some h
        obtain ⟨gL1_10, h⟩ := guard_some h
        exact run_to mixed hμ (L := [0, 1]) (n := 22) (s := [.go, .reg [(5, { v := some (.bool true) }), (14, { call := some (parrelref05_Keys_v yL1_4, [], []) }), (16, { v := some (.bool false) })], .reg [(3, { v := some (.ds 19 (((T_parrelref21_Book.mk L).f_L.take x_k.toNat)).length (rowF c_T_parrelref21_Known default ((T_parrelref21_Book.mk L).f_L.take x_k.toNat))) }), (4, { app := 3 }), (11, { os := [(4, .gr 19 (([(T_parrelref21_Known.mk (first.getD i.toNat default).f_Key (first.getD i.toNat default).f_Item.f_Conf)] : List (T_parrelref21_Known))).length (rowF c_T_parrelref21_Known default ([(T_parrelref21_Known.mk (first.getD i.toNat default).f_Key (first.getD i.toNat default).f_Item.f_Conf)] : List (T_parrelref21_Known))))], v := some (.gs 4 (([(T_parrelref21_Known.mk (first.getD i.toNat default).f_Key (first.getD i.toNat default).f_Item.f_Conf)] : List (T_parrelref21_Known))).length) }), (12, { app := 3, os := [(5, .gr 19 ((((T_parrelref21_Book.mk L).f_L.take x_k.toNat) ++ ([(T_parrelref21_Known.mk (first.getD i.toNat default).f_Key (first.getD i.toNat default).f_Item.f_Conf)] : List (T_parrelref21_Known)))).length (rowF c_T_parrelref21_Known default (((T_parrelref21_Book.mk L).f_L.take x_k.toNat) ++ ([(T_parrelref21_Known.mk (first.getD i.toNat default).f_Key (first.getD i.toNat default).f_Item.f_Conf)] : List (T_parrelref21_Known)))))], v := some (.gs 5 ((((T_parrelref21_Book.mk L).f_L.take x_k.toNat) ++ ([(T_parrelref21_Known.mk (first.getD i.toNat default).f_Key (first.getD i.toNat default).f_Item.f_Conf)] : List (T_parrelref21_Known)))).length) }), (16, { v := some (.ds 19 (((T_parrelref21_Book.mk L).f_L.drop x_k.toNat)).length (rowF c_T_parrelref21_Known default ((T_parrelref21_Book.mk L).f_L.drop x_k.toNat))) }), (17, { app := 3, os := [(6, .gr 19 (((((T_parrelref21_Book.mk L).f_L.take x_k.toNat) ++ ([(T_parrelref21_Known.mk (first.getD i.toNat default).f_Key (first.getD i.toNat default).f_Item.f_Conf)] : List (T_parrelref21_Known))) ++ ((T_parrelref21_Book.mk L).f_L.drop x_k.toNat))).length (rowF c_T_parrelref21_Known default ((((T_parrelref21_Book.mk L).f_L.take x_k.toNat) ++ ([(T_parrelref21_Known.mk (first.getD i.toNat default).f_Key (first.getD i.toNat default).f_Item.f_Conf)] : List (T_parrelref21_Known))) ++ ((T_parrelref21_Book.mk L).f_L.drop x_k.toNat))))], v := some (.gs 6 (((((T_parrelref21_Book.mk L).f_L.take x_k.toNat) ++ ([(T_parrelref21_Known.mk (first.getD i.toNat default).f_Key (first.getD i.toNat default).f_Item.f_Conf)] : List (T_parrelref21_Known))) ++ ((T_parrelref21_Book.mk L).f_L.drop x_k.toNat))).length) })], .reg [], .frz 6])
          (a_ (a_ (a_ tr tr) (a_ (a_ tr tr) (a_ (a_ (a_ tr (lt_ 0 1 rfl)) tr) (a_ (a_ tr tr) (a_ (a_ tr tr) (a_ (a_ tr (a_ (leB cL1_1) tr)) (a_ (a_ tr tr) (a_ (a_ (a_ tr (lt_ 0 1 rfl)) tr) (a_ (a_ tr tr) (a_ (a_ (a_ (Eq.refl 19) gL1_2) tr) (a_ (a_ tr tr) (a_ (a_ (le_ 8 19 rfl) tr) (a_ (a_ tr tr) (a_ (a_ (a_ tr (le_ 8 21 rfl)) tr) (a_ (a_ (a_ (parrelref05_Keys_tri ((T_parrelref21_Book.mk L).f_L.getD x_k.toNat default).f_Key (first.getD i.toNat default).f_Key yL1_4 eL1_3) tr) tr) (a_ (a_ tr tr) (a_ (a_ tr (a_ (leB cL1_5) tr)) tr))))))))))))))))) (a_ (a_ (a_ tr tr) (a_ (a_ (a_ tr (lt_ 0 1 rfl)) tr) (a_ (a_ tr tr) (a_ (a_ (a_ (Eq.refl 19) gL1_6) (a_ (le_take c_T_parrelref21_Known default 19 (T_parrelref21_Book.mk L).f_L x_k.toNat (toN_le gL1_6.2.2)) tr)) (a_ (a_ (a_ (Eq.refl 19) (a_ (lt_ 0 19 rfl) (a_ (lt_ 0 24 rfl) (a_ gL1_7 (a_ (Eq.refl 19) (Eq.refl true)))))) tr) (a_ (a_ tr tr) (a_ (a_ (a_ tr (le_ 8 21 rfl)) tr) (a_ (a_ tr tr) (a_ (a_ tr tr) (a_ (a_ (a_ tr (le_ 21 21 rfl)) tr) (a_ (a_ (Eq.refl true) tr) (a_ (a_ (a_ (Eq.refl true) (a_ (Eq.refl 19) (a_ (lt_ 0 19 rfl) (le_ 19 16777216 rfl)))) (a_ (le_sl_gs 4 1 (some 1) rfl) (a_ (sub_lit c_T_parrelref21_Known default 19 (fun _ => rfl) ([(T_parrelref21_Known.mk (first.getD i.toNat default).f_Key (first.getD i.toNat default).f_Item.f_Conf)] : List (T_parrelref21_Known))) tr))) (a_ (a_ (a_ (a_ (Eq.refl 19) (Nat.le_refl (([(T_parrelref21_Known.mk (first.getD i.toNat default).f_Key (first.getD i.toNat default).f_Item.f_Conf)] : List (T_parrelref21_Known))).length)) (a_ (a_ (lt_ 0 19 rfl) (a_ (lt_ 0 24 rfl) (a_ gL1_8 (a_ (Eq.refl 19) (Eq.refl true))))) (a_ (Eq.refl 19) (Nat.le_refl (((T_parrelref21_Book.mk L).f_L.take x_k.toNat)).length)))) (a_ (le_gs_app 5 ((T_parrelref21_Book.mk L).f_L.take x_k.toNat) ([(T_parrelref21_Known.mk (first.getD i.toNat default).f_Key (first.getD i.toNat default).f_Item.f_Conf)] : List (T_parrelref21_Known))) (a_ (sub_app c_T_parrelref21_Known default 19 ((T_parrelref21_Book.mk L).f_L.take x_k.toNat) ([(T_parrelref21_Known.mk (first.getD i.toNat default).f_Key (first.getD i.toNat default).f_Item.f_Conf)] : List (T_parrelref21_Known))) tr))) (a_ (a_ tr tr) (a_ (a_ (a_ tr (lt_ 0 1 rfl)) tr) (a_ (a_ tr tr) (a_ (a_ (a_ (Eq.refl 19) gL1_9) (a_ (le_drop c_T_parrelref21_Known default 19 (T_parrelref21_Book.mk L).f_L x_k.toNat (toN_le gL1_9.2.1)) tr)) (a_ (a_ (a_ (Eq.refl 19) (a_ (a_ (lt_ 0 19 rfl) (a_ (lt_ 0 24 rfl) (a_ gL1_10 (a_ (Eq.refl 19) (Eq.refl true))))) (a_ (Eq.refl 19) (Nat.le_refl ((((T_parrelref21_Book.mk L).f_L.take x_k.toNat) ++ ([(T_parrelref21_Known.mk (first.getD i.toNat default).f_Key (first.getD i.toNat default).f_Item.f_Conf)] : List (T_parrelref21_Known)))).length)))) (a_ (le_gs_app 6 (((T_parrelref21_Book.mk L).f_L.take x_k.toNat) ++ ([(T_parrelref21_Known.mk (first.getD i.toNat default).f_Key (first.getD i.toNat default).f_Item.f_Conf)] : List (T_parrelref21_Known))) ((T_parrelref21_Book.mk L).f_L.drop x_k.toNat)) (a_ (sub_app c_T_parrelref21_Known default 19 (((T_parrelref21_Book.mk L).f_L.take x_k.toNat) ++ ([(T_parrelref21_Known.mk (first.getD i.toNat default).f_Key (first.getD i.toNat default).f_Item.f_Conf)] : List (T_parrelref21_Known))) ((T_parrelref21_Book.mk L).f_L.drop x_k.toNat)) tr))) (a_ (a_ tr tr) (a_ (a_ (a_ (Eq.refl 1) (a_ (le_ 1 1 rfl) (Eq.refl 0))) tr) tr)))))))))))))))))))) (a_ (a_ (a_ tr tr) (a_ (a_ tr tr) (a_ (a_ tr tr) tr))) (a_ (a_ (fz_row (enc := c_T_parrelref21_Known) (d := default) (fun _ => rfl) ((((T_parrelref21_Book.mk L).f_L.take x_k.toNat) ++ ([(T_parrelref21_Known.mk (first.getD i.toNat default).f_Key (first.getD i.toNat default).f_Item.f_Conf)] : List (T_parrelref21_Known))) ++ ((T_parrelref21_Book.mk L).f_L.drop x_k.toNat))) (a_ (Nat.le_refl (((((T_parrelref21_Book.mk L).f_L.take x_k.toNat) ++ ([(T_parrelref21_Known.mk (first.getD i.toNat default).f_Key (first.getD i.toNat default).f_Item.f_Conf)] : List (T_parrelref21_Known))) ++ ((T_parrelref21_Book.mk L).f_L.drop x_k.toNat))).length) (a_ (Nat.le_refl (((((T_parrelref21_Book.mk L).f_L.take x_k.toNat) ++ ([(T_parrelref21_Known.mk (first.getD i.toNat default).f_Key (first.getD i.toNat default).f_Item.f_Conf)] : List (T_parrelref21_Known))) ++ ((T_parrelref21_Book.mk L).f_L.drop x_k.toNat))).length) tr))) tr)))) (hk0 _ _ r h) (by kernel_rfl) ⟨rfl, rfl, trivial⟩
    · skip
      obtain ⟨gL1_2, h⟩ := guard_some h
      obtain ⟨gL1_3, h⟩ := guard_some h
      obtain ⟨gL1_4, h⟩ := guard_some h
      obtain ⟨gL1_5, h⟩ := guard_some h
      obtain ⟨gL1_6, h⟩ := guard_some h
      exact run_to mixed hμ (L := [0, 1]) (n := 22) (s := [.go, .reg [(5, { v := some (.bool false) })], .reg [(3, { v := some (.ds 19 (((T_parrelref21_Book.mk L).f_L.take x_k.toNat)).length (rowF c_T_parrelref21_Known default ((T_parrelref21_Book.mk L).f_L.take x_k.toNat))) }), (4, { app := 3 }), (11, { os := [(4, .gr 19 (([(T_parrelref21_Known.mk (first.getD i.toNat default).f_Key (first.getD i.toNat default).f_Item.f_Conf)] : List (T_parrelref21_Known))).length (rowF c_T_parrelref21_Known default ([(T_parrelref21_Known.mk (first.getD i.toNat default).f_Key (first.getD i.toNat default).f_Item.f_Conf)] : List (T_parrelref21_Known))))], v := some (.gs 4 (([(T_parrelref21_Known.mk (first.getD i.toNat default).f_Key (first.getD i.toNat default).f_Item.f_Conf)] : List (T_parrelref21_Known))).length) }), (12, { app := 3, os := [(5, .gr 19 ((((T_parrelref21_Book.mk L).f_L.take x_k.toNat) ++ ([(T_parrelref21_Known.mk (first.getD i.toNat default).f_Key (first.getD i.toNat default).f_Item.f_Conf)] : List (T_parrelref21_Known)))).length (rowF c_T_parrelref21_Known default (((T_parrelref21_Book.mk L).f_L.take x_k.toNat) ++ ([(T_parrelref21_Known.mk (first.getD i.toNat default).f_Key (first.getD i.toNat default).f_Item.f_Conf)] : List (T_parrelref21_Known)))))], v := some (.gs 5 ((((T_parrelref21_Book.mk L).f_L.take x_k.toNat) ++ ([(T_parrelref21_Known.mk (first.getD i.toNat default).f_Key (first.getD i.toNat default).f_Item.f_Conf)] : List (T_parrelref21_Known)))).length) }), (16, { v := some (.ds 19 (((T_parrelref21_Book.mk L).f_L.drop x_k.toNat)).length (rowF c_T_parrelref21_Known default ((T_parrelref21_Book.mk L).f_L.drop x_k.toNat))) }), (17, { app := 3, os := [(6, .gr 19 (((((T_parrelref21_Book.mk L).f_L.take x_k.toNat) ++ ([(T_parrelref21_Known.mk (first.getD i.toNat default).f_Key (first.getD i.toNat default).f_Item.f_Conf)] : List (T_parrelref21_Known))) ++ ((T_parrelref21_Book.mk L).f_L.drop x_k.toNat))).length (rowF c_T_parrelref21_Known default ((((T_parrelref21_Book.mk L).f_L.take x_k.toNat) ++ ([(T_parrelref21_Known.mk (first.getD i.toNat default).f_Key (first.getD i.toNat default).f_Item.f_Conf)] : List (T_parrelref21_Known))) ++ ((T_parrelref21_Book.mk L).f_L.drop x_k.toNat))))], v := some (.gs 6 (((((T_parrelref21_Book.mk L).f_L.take x_k.toNat) ++ ([(T_parrelref21_Known.mk (first.getD i.toNat default).f_Key (first.getD i.toNat default).f_Item.f_Conf)] : List (T_parrelref21_Known))) ++ ((T_parrelref21_Book.mk L).f_L.drop x_k.toNat))).length) })], .reg [], .frz 6])
        (a_ (a_ (a_ tr tr) (a_ (a_ tr tr) (a_ (a_ (a_ tr (lt_ 0 1 rfl)) tr) (a_ (a_ tr tr) (a_ (a_ tr tr) (a_ (a_ tr (a_ (leB cL1_1) tr)) (a_ tr (a_ tr (a_ tr (a_ tr (a_ tr (a_ tr (a_ tr (a_ tr (a_ tr (a_ tr (a_ (a_ tr tr) tr))))))))))))))))) (a_ (a_ (a_ tr tr) (a_ (a_ (a_ tr (lt_ 0 1 rfl)) tr) (a_ (a_ tr tr) (a_ (a_ (a_ (Eq.refl 19) gL1_2) (a_ (le_take c_T_parrelref21_Known default 19 (T_parrelref21_Book.mk L).f_L x_k.toNat (toN_le gL1_2.2.2)) tr)) (a_ (a_ (a_ (Eq.refl 19) (a_ (lt_ 0 19 rfl) (a_ (lt_ 0 24 rfl) (a_ gL1_3 (a_ (Eq.refl 19) (Eq.refl true)))))) tr) (a_ (a_ tr tr) (a_ (a_ (a_ tr (le_ 8 21 rfl)) tr) (a_ (a_ tr tr) (a_ (a_ tr tr) (a_ (a_ (a_ tr (le_ 21 21 rfl)) tr) (a_ (a_ (Eq.refl true) tr) (a_ (a_ (a_ (Eq.refl true) (a_ (Eq.refl 19) (a_ (lt_ 0 19 rfl) (le_ 19 16777216 rfl)))) (a_ (le_sl_gs 4 1 (some 1) rfl) (a_ (sub_lit c_T_parrelref21_Known default 19 (fun _ => rfl) ([(T_parrelref21_Known.mk (first.getD i.toNat default).f_Key (first.getD i.toNat default).f_Item.f_Conf)] : List (T_parrelref21_Known))) tr))) (a_ (a_ (a_ (a_ (Eq.refl 19) (Nat.le_refl (([(T_parrelref21_Known.mk (first.getD i.toNat default).f_Key (first.getD i.toNat default).f_Item.f_Conf)] : List (T_parrelref21_Known))).length)) (a_ (a_ (lt_ 0 19 rfl) (a_ (lt_ 0 24 rfl) (a_ gL1_4 (a_ (Eq.refl 19) (Eq.refl true))))) (a_ (Eq.refl 19) (Nat.le_refl (((T_parrelref21_Book.mk L).f_L.take x_k.toNat)).length)))) (a_ (le_gs_app 5 ((T_parrelref21_Book.mk L).f_L.take x_k.toNat) ([(T_parrelref21_Known.mk (first.getD i.toNat default).f_Key (first.getD i.toNat default).f_Item.f_Conf)] : List (T_parrelref21_Known))) (a_ (sub_app c_T_parrelref21_Known default 19 ((T_parrelref21_Book.mk L).f_L.take x_k.toNat) ([(T_parrelref21_Known.mk (first.getD i.toNat default).f_Key (first.getD i.toNat default).f_Item.f_Conf)] : List (T_parrelref21_Known))) tr))) (a_ (a_ tr tr) (a_ (a_ (a_ tr (lt_ 0 1 rfl)) tr) (a_ (a_ tr tr) (a_ (a_ (a_ (Eq.refl 19) gL1_5) (a_ (le_drop c_T_parrelref21_Known default 19 (T_parrelref21_Book.mk L).f_L x_k.toNat (toN_le gL1_5.2.1)) tr)) (a_ (a_ (a_ (Eq.refl 19) (a_ (a_ (lt_ 0 19 rfl) (a_ (lt_ 0 24 rfl) (a_ gL1_6 (a_ (Eq.refl 19) (Eq.refl true))))) (a_ (Eq.refl 19) (Nat.le_refl ((((T_parrelref21_Book.mk L).f_L.take x_k.toNat) ++ ([(T_parrelref21_Known.mk (first.getD i.toNat default).f_Key (first.getD i.toNat default).f_Item.f_Conf)] : List (T_parrelref21_Known)))).length)))) (a_ (le_gs_app 6 (((T_parrelref21_Book.mk L).f_L.take x_k.toNat) ++ ([(T_parrelref21_Known.mk (first.getD i.toNat default).f_Key (first.getD i.toNat default).f_Item.f_Conf)] : List (T_parrelref21_Known))) ((T_parrelref21_Book.mk L).f_L.drop x_k.toNat)) (a_ (sub_app c_T_parrelref21_Known default 19 (((T_parrelref21_Book.mk L).f_L.take x_k.toNat) ++ ([(T_parrelref21_Known.mk (first.getD i.toNat default).f_Key (first.getD i.toNat default).f_Item.f_Conf)] : List (T_parrelref21_Known))) ((T_parrelref21_Book.mk L).f_L.drop x_k.toNat)) tr))) (a_ (a_ tr tr) (a_ (a_ (a_ (Eq.refl 1) (a_ (le_ 1 1 rfl) (Eq.refl 0))) tr) tr)))))))))))))))))))) (a_ (a_ (a_ tr tr) (a_ (a_ tr tr) (a_ (a_ tr tr) tr))) (a_ (a_ (fz_row (enc := c_T_parrelref21_Known) (d := default) (fun _ => rfl) ((((T_parrelref21_Book.mk L).f_L.take x_k.toNat) ++ ([(T_parrelref21_Known.mk (first.getD i.toNat default).f_Key (first.getD i.toNat default).f_Item.f_Conf)] : List (T_parrelref21_Known))) ++ ((T_parrelref21_Book.mk L).f_L.drop x_k.toNat))) (a_ (Nat.le_refl (((((T_parrelref21_Book.mk L).f_L.take x_k.toNat) ++ ([(T_parrelref21_Known.mk (first.getD i.toNat default).f_Key (first.getD i.toNat default).f_Item.f_Conf)] : List (T_parrelref21_Known))) ++ ((T_parrelref21_Book.mk L).f_L.drop x_k.toNat))).length) (a_ (Nat.le_refl (((((T_parrelref21_Book.mk L).f_L.take x_k.toNat) ++ ([(T_parrelref21_Known.mk (first.getD i.toNat default).f_Key (first.getD i.toNat default).f_Item.f_Conf)] : List (T_parrelref21_Known))) ++ ((T_parrelref21_Book.mk L).f_L.drop x_k.toNat))).length) tr))) tr)))) (hk0 _ _ r h) (by kernel_rfl) ⟨rfl, rfl, trivial⟩

theorem parrelref21_New_l0_ok {w0 : World} {W : Nat → Prop} {μ0 : Emb} (hμ : ∀ c p, μ0 c = some p → c < 0) (first : List (T_api_Write))  : ∀ (fuel : Nat) (i : Int) (L : List (T_parrelref21_Known)) (r : (T_parrelref21_Book) × (Int)), parrelref21_New_l0 first  fuel i L = some r → kont Tryd.prog w0 W μ0 (FnPost Tryd.prog Tryd.f17 0 0 (parrelref21_New_v r) []) (kAt (bodyOf Tryd.f17) 0) none (parrelref21_New_T0 first i L) (parrelref21_New_H0 first i L) := by
  intro fuel
  induction fuel with
  | zero => intro i L r h; rw [parrelref21_New_l0] at h; cases h
  | succ fuel ih =>
    intro i L r h
    rw [parrelref21_New_l0] at h
    rcases itb_some h with ⟨cL0_1, h⟩ | ⟨cL0_1, h⟩
    · skip
      obtain ⟨gL0_2, h⟩ := guard_some h
      obtain ⟨yL0_4, eL0_3, h⟩ := bind_some h
      rcases itb_some h with ⟨cL0_5, h⟩ | ⟨cL0_5, h⟩
      · skip
        obtain rfl := Option.some.inj h
        exact run_ret mixed (L := []) (n := 30) (s := [.go, .reg [(3, { v := some (.bool true) })], .reg [], .reg [(2, { call := some (parrelref10_KeyMay_v yL0_4, [], []) }), (4, { v := some (.bool true) })], .reg [], .wk [] [(0, .var (c_T_parrelref21_Book (T_parrelref21_Book.mk ([] : List (T_parrelref21_Known)))))]])
          (a_ (a_ (a_ (a_ tr tr) (a_ (a_ tr tr) (a_ (a_ tr tr) (a_ (a_ tr (a_ (leB cL0_1) tr)) tr)))) (a_ (a_ (a_ tr tr) (a_ (a_ tr tr) (a_ (a_ (a_ (Eq.refl 21) gL0_2) tr) (a_ (a_ (le_ 21 21 rfl) tr) (a_ (a_ tr tr) (a_ (a_ (a_ (Eq.refl 21) (a_ (le_ 21 21 rfl) (Eq.refl 0))) tr) tr)))))) (a_ (a_ (a_ tr tr) (a_ (a_ (a_ tr (le_ 8 21 rfl)) tr) (a_ (a_ (a_ (parrelref10_KeyMay_tri (first.getD i.toNat default).f_Key yL0_4 eL0_3) tr) tr) (a_ (a_ tr tr) (a_ (a_ tr (a_ (leB cL0_5) tr)) (a_ tr (a_ tr (a_ tr (a_ tr (a_ (a_ tr tr) (a_ (a_ tr tr) (a_ tr (a_ tr (a_ tr (a_ tr (a_ (a_ tr tr) tr)))))))))))))))) (a_ (a_ (a_ (Eq.refl true) tr) (a_ (a_ (a_ (Eq.refl 1) (a_ (le_ 1 1 rfl) (Eq.refl 0))) tr) (a_ (a_ tr tr) tr))) (a_ (a_ tr (a_ (LO.Sub.var (a := [.nilsl]) (b := [.ds 19 (([] : List (T_parrelref21_Known))).length (rowF c_T_parrelref21_Known default ([] : List (T_parrelref21_Known)))]) (a_ (le_nil_ds 19 (rowF c_T_parrelref21_Known default [])) tr)) tr)) tr))))) (a_ (a_ tr (le_ 1 1 rfl)) tr)) (by kernel_rfl) rfl
      · skip
        obtain ⟨yL0_7, eL0_6, h⟩ := bind_some h
        rcases itb_some h with ⟨cL0_8, h⟩ | ⟨cL0_8, h⟩
        · skip
          obtain rfl := Option.some.inj h
          exact run_ret mixed (L := []) (n := 30) (s := [.go, .reg [(3, { v := some (.bool true) })], .reg [], .reg [(2, { call := some (parrelref10_KeyMay_v yL0_4, [], []) }), (4, { v := some (.bool false) }), (7, { call := some (parrelref10_ItemMay_v yL0_7, [], []) }), (10, { v := some (.bool true) })], .reg [], .wk [] [(0, .var (c_T_parrelref21_Book (T_parrelref21_Book.mk ([] : List (T_parrelref21_Known)))))]])
            (a_ (a_ (a_ (a_ tr tr) (a_ (a_ tr tr) (a_ (a_ tr tr) (a_ (a_ tr (a_ (leB cL0_1) tr)) tr)))) (a_ (a_ (a_ tr tr) (a_ (a_ tr tr) (a_ (a_ (a_ (Eq.refl 21) gL0_2) tr) (a_ (a_ (le_ 21 21 rfl) tr) (a_ (a_ tr tr) (a_ (a_ (a_ (Eq.refl 21) (a_ (le_ 21 21 rfl) (Eq.refl 0))) tr) tr)))))) (a_ (a_ (a_ tr tr) (a_ (a_ (a_ tr (le_ 8 21 rfl)) tr) (a_ (a_ (a_ (parrelref10_KeyMay_tri (first.getD i.toNat default).f_Key yL0_4 eL0_3) tr) tr) (a_ (a_ tr tr) (a_ (a_ tr (a_ (leB cL0_5) tr)) (a_ (a_ tr tr) (a_ (a_ (a_ tr (le_ 21 21 rfl)) tr) (a_ (a_ (a_ (parrelref10_ItemMay_tri (first.getD i.toNat default).f_Item yL0_7 eL0_6) tr) tr) (a_ (a_ tr tr) (a_ (a_ tr tr) (a_ (a_ tr (a_ (leB cL0_8) tr)) (a_ tr (a_ tr (a_ tr (a_ tr (a_ (a_ tr tr) tr)))))))))))))))) (a_ (a_ (a_ (Eq.refl true) tr) (a_ (a_ (a_ (Eq.refl 1) (a_ (le_ 1 1 rfl) (Eq.refl 0))) tr) (a_ (a_ tr tr) tr))) (a_ (a_ tr (a_ (LO.Sub.var (a := [.nilsl]) (b := [.ds 19 (([] : List (T_parrelref21_Known))).length (rowF c_T_parrelref21_Known default ([] : List (T_parrelref21_Known)))]) (a_ (le_nil_ds 19 (rowF c_T_parrelref21_Known default [])) tr)) tr)) tr))))) (a_ (a_ tr (le_ 1 1 rfl)) tr)) (by kernel_rfl) rfl
        · skip
          obtain ⟨yL0_10, eL0_9, h⟩ := bind_some h
          rcases itb_some h with ⟨cL0_11, h⟩ | ⟨cL0_11, h⟩
          · skip
            obtain rfl := Option.some.inj h
            exact run_ret mixed (L := []) (n := 30) (s := [.go, .reg [(3, { v := some (.bool true) })], .reg [], .reg [(2, { call := some (parrelref10_KeyMay_v yL0_4, [], []) }), (4, { v := some (.bool false) }), (7, { call := some (parrelref10_ItemMay_v yL0_7, [], []) }), (10, { v := some (.bool false) }), (13, { call := some ((parrelref21_Book_find_v yL0_10).ren (sel [1]), preOf (sel [1]) 0 (parrelref21_Book_find_objs (T_parrelref21_Book.mk L) (first.getD i.toNat default).f_Key), upOf (sel [1]) (parrelref21_Book_find_up (T_parrelref21_Book.mk L) (first.getD i.toNat default).f_Key yL0_10)) }), (15, { v := some (.bool true) })], .reg [], .wk [] [(0, .var (c_T_parrelref21_Book (T_parrelref21_Book.mk ([] : List (T_parrelref21_Known)))))]])
              (a_ (a_ (a_ (a_ tr tr) (a_ (a_ tr tr) (a_ (a_ tr tr) (a_ (a_ tr (a_ (leB cL0_1) tr)) tr)))) (a_ (a_ (a_ tr tr) (a_ (a_ tr tr) (a_ (a_ (a_ (Eq.refl 21) gL0_2) tr) (a_ (a_ (le_ 21 21 rfl) tr) (a_ (a_ tr tr) (a_ (a_ (a_ (Eq.refl 21) (a_ (le_ 21 21 rfl) (Eq.refl 0))) tr) tr)))))) (a_ (a_ (a_ tr tr) (a_ (a_ (a_ tr (le_ 8 21 rfl)) tr) (a_ (a_ (a_ (parrelref10_KeyMay_tri (first.getD i.toNat default).f_Key yL0_4 eL0_3) tr) tr) (a_ (a_ tr tr) (a_ (a_ tr (a_ (leB cL0_5) tr)) (a_ (a_ tr tr) (a_ (a_ (a_ tr (le_ 21 21 rfl)) tr) (a_ (a_ (a_ (parrelref10_ItemMay_tri (first.getD i.toNat default).f_Item yL0_7 eL0_6) tr) tr) (a_ (a_ tr tr) (a_ (a_ tr tr) (a_ (a_ tr (a_ (leB cL0_8) tr)) (a_ (a_ tr tr) (a_ (a_ (a_ tr (le_ 8 21 rfl)) tr) (a_ (a_ (a_ (parrelref21_Book_find_ok (T_parrelref21_Book.mk L) (first.getD i.toNat default).f_Key yL0_10 eL0_9 (sel [1]) (sel_inj rfl rfl)) (a_ (LO.Le.refl (.var (c_T_parrelref21_Book (T_parrelref21_Book.mk L)))) tr)) tr) (a_ (a_ tr tr) (a_ (a_ tr (a_ (leB cL0_11) tr)) tr)))))))))))))))) (a_ (a_ (a_ (Eq.refl true) tr) (a_ (a_ (a_ (Eq.refl 1) (a_ (le_ 1 1 rfl) (Eq.refl 0))) tr) (a_ (a_ tr tr) tr))) (a_ (a_ tr (a_ (LO.Sub.var (a := [.nilsl]) (b := [.ds 19 (([] : List (T_parrelref21_Known))).length (rowF c_T_parrelref21_Known default ([] : List (T_parrelref21_Known)))]) (a_ (le_nil_ds 19 (rowF c_T_parrelref21_Known default [])) tr)) tr)) tr))))) (a_ (a_ tr (le_ 1 1 rfl)) tr)) (by kernel_rfl) rfl
          · skip
            exact run_to mixed hμ (L := [0, 1, 2]) (n := 33) (s := [.go, .reg [(3, { v := some (.bool true) })], .reg [], .reg [(2, { call := some (parrelref10_KeyMay_v yL0_4, [], []) }), (4, { v := some (.bool false) }), (7, { call := some (parrelref10_ItemMay_v yL0_7, [], []) }), (10, { v := some (.bool false) }), (13, { call := some ((parrelref21_Book_find_v yL0_10).ren (sel [1]), preOf (sel [1]) 0 (parrelref21_Book_find_objs (T_parrelref21_Book.mk L) (first.getD i.toNat default).f_Key), upOf (sel [1]) (parrelref21_Book_find_up (T_parrelref21_Book.mk L) (first.getD i.toNat default).f_Key yL0_10)) }), (15, { v := some (.bool false) })], .reg []])
              (a_ (a_ (a_ tr tr) (a_ (a_ tr tr) (a_ (a_ tr tr) (a_ (a_ tr (a_ (leB cL0_1) tr)) tr)))) (a_ (a_ (a_ tr tr) (a_ (a_ tr tr) (a_ (a_ (a_ (Eq.refl 21) gL0_2) tr) (a_ (a_ (le_ 21 21 rfl) tr) (a_ (a_ tr tr) (a_ (a_ (a_ (Eq.refl 21) (a_ (le_ 21 21 rfl) (Eq.refl 0))) tr) tr)))))) (a_ (a_ (a_ tr tr) (a_ (a_ (a_ tr (le_ 8 21 rfl)) tr) (a_ (a_ (a_ (parrelref10_KeyMay_tri (first.getD i.toNat default).f_Key yL0_4 eL0_3) tr) tr) (a_ (a_ tr tr) (a_ (a_ tr (a_ (leB cL0_5) tr)) (a_ (a_ tr tr) (a_ (a_ (a_ tr (le_ 21 21 rfl)) tr) (a_ (a_ (a_ (parrelref10_ItemMay_tri (first.getD i.toNat default).f_Item yL0_7 eL0_6) tr) tr) (a_ (a_ tr tr) (a_ (a_ tr tr) (a_ (a_ tr (a_ (leB cL0_8) tr)) (a_ (a_ tr tr) (a_ (a_ (a_ tr (le_ 8 21 rfl)) tr) (a_ (a_ (a_ (parrelref21_Book_find_ok (T_parrelref21_Book.mk L) (first.getD i.toNat default).f_Key yL0_10 eL0_9 (sel [1]) (sel_inj rfl rfl)) (a_ (LO.Le.refl (.var (c_T_parrelref21_Book (T_parrelref21_Book.mk L)))) tr)) tr) (a_ (a_ tr tr) (a_ (a_ tr (a_ (leB cL0_11) tr)) tr)))))))))))))))) (a_ (a_ (a_ tr tr) tr) tr)))) (parrelref21_New_l1_ok hμ first i L (parrelref21_New_l0 first  fuel) (fun i L r h => ih i L r h) big _ r h) (by kernel_rfl) ⟨rfl, rfl, rfl, trivial⟩
    · skip
      obtain rfl := Option.some.inj h
      exact run_ret mixed (L := []) (n := 19) (s := [.go, .reg [(3, { v := some (.bool false) })], .reg []])
        (a_ (a_ (a_ (a_ tr tr) (a_ (a_ tr tr) (a_ (a_ tr tr) (a_ (a_ tr (a_ (leB cL0_1) tr)) tr)))) (a_ (a_ (a_ (a_ tr (le_ 1 1 rfl)) tr) (a_ (a_ (a_ (Eq.refl 1) (a_ (le_ 1 1 rfl) (Eq.refl 0))) tr) (a_ (a_ tr tr) tr))) tr)) (a_ (a_ tr (le_ 1 1 rfl)) tr)) (by kernel_rfl) rfl

theorem parrelref21_New_ok (first : List (T_api_Write)) (r : (T_parrelref21_Book) × (Int)) (h : parrelref21_New first = some r) : ∀ σ, Inj 0 σ → FnTri Tryd.prog 17 (renL σ [.ds 21 (first).length (rowF c_T_api_Write default first)]) (preOf σ 0 []) ((parrelref21_New_v r).ren σ) (upOf σ []) := by
  refine fn_of Tryd.func17 (by kernel_rfl) (by kernel_rfl) (by kernel_rfl) trivial (by kernel_rfl) trivial (by kernel_rfl) ?_
  intro w0 W μ0 hμ
  unfold parrelref21_New at h
  exact run_to mixed hμ (L := [0, 1]) (n := 22) (s := [.reg [], .reg [], .reg [], .wk [] [(1, .var (c_T_parrelref21_Book (T_parrelref21_Book.mk ([] : List (T_parrelref21_Known)))))]])
    (a_ (a_ (a_ tr tr) (a_ (a_ tr tr) tr)) (a_ (a_ (a_ (Eq.refl true) tr) (a_ (a_ tr tr) (a_ (a_ (a_ (Eq.refl 1) (a_ (le_ 1 1 rfl) (Eq.refl 0))) tr) tr))) (a_ (a_ (a_ tr tr) tr) (a_ (a_ tr (a_ (LO.Sub.var (a := [.nilsl]) (b := [.ds 19 (([] : List (T_parrelref21_Known))).length (rowF c_T_parrelref21_Known default ([] : List (T_parrelref21_Known)))]) (a_ (le_nil_ds 19 (rowF c_T_parrelref21_Known default [])) tr)) tr)) tr)))) (parrelref21_New_l0_ok hμ first  big _ _ r h) (by kernel_rfl) ⟨rfl, rfl, trivial⟩

theorem parrelref21_New_tri (first : List (T_api_Write)) (r : (T_parrelref21_Book) × (Int)) (h : parrelref21_New first = some r) : FnTri Tryd.prog 17 [.ds 21 (first).length (rowF c_T_api_Write default first)] [] (parrelref21_New_v r) [] := FnTri.none (parrelref21_New_ok first r h) rfl rfl

/-- parrel/parrellaw21.short -/

def parrellaw21_short_v (r : (List (T_parrellaw21_Act))) : LV := .ds 21 (r).length (rowF c_T_parrellaw21_Act default r)

def parrellaw21_short (l : List (T_parrellaw21_Act)) : Option ((List (T_parrellaw21_Act))) :=
  if 0 ≤ (0 : Int) ∧ 0 ≤ (if 60 < ((l).length : Int) then 60 else ((l).length : Int)) ∧ (if 60 < ((l).length : Int) then 60 else ((l).length : Int)) ≤ (((l).length : Nat) : Int) then
  some (l.take ((if 60 < ((l).length : Int) then 60 else ((l).length : Int))).toNat)
  else none

theorem parrellaw21_short_ok (l : List (T_parrellaw21_Act)) (r : (List (T_parrellaw21_Act))) (h : parrellaw21_short l = some r) : ∀ σ, Inj 0 σ → FnTri Tryd.prog 11 (renL σ [.ds 21 (l).length (rowF c_T_parrellaw21_Act default l)]) (preOf σ 0 []) ((parrellaw21_short_v r).ren σ) (upOf σ []) := by
  refine fn_of Tryd.func11 (by kernel_rfl) (by kernel_rfl) (by kernel_rfl) trivial (by kernel_rfl) trivial (by kernel_rfl) ?_
  intro w0 W μ0 hμ
  unfold parrellaw21_short at h
  obtain ⟨g1, h⟩ := guard_some h
  obtain rfl := Option.some.inj h
  exact run_ret mixed (L := []) (n := 15) (s := [.reg [(0, { v := some (.ds 21 (([] : List (T_parrellaw21_Act))).length (rowF c_T_parrellaw21_Act default ([] : List (T_parrellaw21_Act)))) })], .reg [(4, { v := some (.ds 21 ((l.take ((if 60 < ((l).length : Int) then 60 else ((l).length : Int))).toNat)).length (rowF c_T_parrellaw21_Act default (l.take ((if 60 < ((l).length : Int) then 60 else ((l).length : Int))).toNat))) })]])
    (a_ (a_ (a_ (a_ tr (a_ (le_nil_ds 21 (rowF c_T_parrellaw21_Act default [])) tr)) tr) (a_ (a_ (a_ tr tr) (a_ (a_ tr tr) (a_ (a_ tr tr) (a_ (a_ tr tr) (a_ (a_ (a_ (Eq.refl 21) g1) (a_ (le_take c_T_parrellaw21_Act default 21 l ((if 60 < ((l).length : Int) then 60 else ((l).length : Int))).toNat (toN_le g1.2.2)) tr)) (a_ (a_ tr tr) tr)))))) tr)) tr) (by kernel_rfl) rfl

theorem parrellaw21_short_tri (l : List (T_parrellaw21_Act)) (r : (List (T_parrellaw21_Act))) (h : parrellaw21_short l = some r) : FnTri Tryd.prog 11 [.ds 21 (l).length (rowF c_T_parrellaw21_Act default l)] [] (parrellaw21_short_v r) [] := FnTri.none (parrellaw21_short_ok l r h) rfl rfl

/-- parrel/bits.Next -/

def bits_Next_v (r : (Int) × (Int)) : LV := .tup [.int .u32 r.1, .int .i64 r.2]

def bits_Next (x_n : Int) : Option ((Int) × (Int)) :=
  if ((decide (2147483647 ≤ x_n)) : Bool) then
    some (x_n, 17)
  else
    some ((IntKind.wrap .u32 (x_n + 1)), 0)

theorem bits_Next_ok (x_n : Int) (r : (Int) × (Int)) (h : bits_Next x_n = some r) : ∀ σ, Inj 0 σ → FnTri Tryd.prog 37 (renL σ [.int .u32 x_n]) (preOf σ 0 []) ((bits_Next_v r).ren σ) (upOf σ []) := by
  refine fn_of Tryd.func37 (by kernel_rfl) (by kernel_rfl) (by kernel_rfl) trivial (by kernel_rfl) trivial (by kernel_rfl) ?_
  intro w0 W μ0 hμ
  unfold bits_Next at h
  rcases itb_some h with ⟨c1, h⟩ | ⟨c1, h⟩
  · skip
    obtain rfl := Option.some.inj h
    exact run_ret mixed (L := []) (n := 20) (s := [.reg [], .reg [(1, { v := some (.bool true) })], .reg []])
      (a_ (a_ (a_ (a_ tr tr) (a_ (a_ tr tr) tr)) (a_ (a_ (a_ tr tr) (a_ (a_ tr (a_ (leB c1) tr)) tr)) (a_ (a_ (a_ tr tr) (a_ (a_ tr tr) (a_ (a_ tr tr) tr))) tr))) tr) (by kernel_rfl) rfl
  · skip
    obtain rfl := Option.some.inj h
    exact run_ret mixed (L := []) (n := 21) (s := [.reg [], .reg [(1, { v := some (.bool false) })], .reg []])
      (a_ (a_ (a_ (a_ tr tr) (a_ (a_ tr tr) tr)) (a_ (a_ (a_ tr tr) (a_ (a_ tr (a_ (leB c1) tr)) tr)) (a_ (a_ (a_ tr tr) (a_ (a_ tr tr) (a_ (a_ tr tr) (a_ (a_ tr tr) tr)))) tr))) tr) (by kernel_rfl) rfl

theorem bits_Next_tri (x_n : Int) (r : (Int) × (Int)) (h : bits_Next x_n = some r) : FnTri Tryd.prog 37 [.int .u32 x_n] [] (bits_Next_v r) [] := FnTri.none (bits_Next_ok x_n r h) rfl rfl

end
end Go.Proofs.YtgbhbcigjgcedaaDoor.Wk
