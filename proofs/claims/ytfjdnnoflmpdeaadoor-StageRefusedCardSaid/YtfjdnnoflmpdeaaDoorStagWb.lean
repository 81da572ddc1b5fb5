/- Printed by tr.py: Go functions as Lean functions, with the proofs that they walk so. -/
import Derived.Test.YtfjdnnoflmpdeaaDoorStagWa
namespace Go.Proofs.YtfjdnnoflmpdeaaDoor.Wk
open Go Go.Cn Go.RowKit
set_option maxRecDepth 100000
set_option maxHeartbeats 4000000
set_option linter.unusedVariables false
set_option linter.unusedSimpArgs false
noncomputable section
/-- (*parrel/stage.Stage).Put -/

def stage_Stage_Put_2_v (r : (Int) × (List (T_api_Tx × T_stage_prepared)) × (List (A8 (Int) × T_api_Tx))) : LV := .int .i64 r.1

def stage_Stage_Put_2_up (all : List (T_api_Tx × T_stage_prepared)) (owners : List (A8 (Int) × T_api_Tx)) (t : T_api_Tx) (g : T_api_Reg) (l : List (T_api_Write)) (r : (Int) × (List (T_api_Tx × T_stage_prepared)) × (List (A8 (Int) × T_api_Tx))) : Upd := [(0, some (.var [.map 1, .map 2])), (1, some (.map true [.int .u8, .int .u32, .int .u32] (encM v_T_api_Tx v_T_stage_prepared r.2.1))), (2, some (.map true [.int .u8, .int .u8, .int .u8, .int .u8, .int .u8, .int .u8, .int .u8, .int .u8] (encM (fun z_ : A8 (Int) => LV.agg [.int .u8 z_.a0, .int .u8 z_.a1, .int .u8 z_.a2, .int .u8 z_.a3, .int .u8 z_.a4, .int .u8 z_.a5, .int .u8 z_.a6, .int .u8 z_.a7]) v_T_api_Tx r.2.2))), (3, some (.gr 21 (l).length (rowF c_T_api_Write default l)))]

def stage_Stage_Put_2_objs (all : List (T_api_Tx × T_stage_prepared)) (owners : List (A8 (Int) × T_api_Tx)) (t : T_api_Tx) (g : T_api_Reg) (l : List (T_api_Write)) : List LO := [.var [.map 1, .map 2], .map true [.int .u8, .int .u32, .int .u32] (encM v_T_api_Tx v_T_stage_prepared all), .map true [.int .u8, .int .u8, .int .u8, .int .u8, .int .u8, .int .u8, .int .u8, .int .u8] (encM (fun z_ : A8 (Int) => LV.agg [.int .u8 z_.a0, .int .u8 z_.a1, .int .u8 z_.a2, .int .u8 z_.a3, .int .u8 z_.a4, .int .u8 z_.a5, .int .u8 z_.a6, .int .u8 z_.a7]) v_T_api_Tx owners), .gr 21 (l).length (rowF c_T_api_Write default l)]

def stage_Stage_Put_2_T1 (all : List (T_api_Tx × T_stage_prepared)) (t : T_api_Tx) (g : T_api_Reg) (l : List (T_api_Write)) (yL0_4 : (List (T_api_Write))) (t82 : Int) (m : List (A8 (Int) × T_api_Tx)) : List LV := [.ptr 0 0 0, .any, .any, .any, .any, .ptr 4 0 0, .any, .any, .any, .any, .any, .any, .any, .any, .any, .any, .any, .any, .any, .any, .any, .any, .any, .any, .any, .any, .any, .any, .any, .any, .any, .any, .any, .any, .any, .any, .any, .any, .any, .any, .any, .any, .any, .any, .any, .any, .any, .any, .any, .any, .any, .any, .any, .any, .any, .any, .any, .any, .any, .any, .any, .any, .any, .any, .any, .any, .any, .any, .any, .any, .any, .any, .any, .any, .any, .any, .any, .any, .any, .any, .gs 3 (l).length, .int .i64 ((l).length : Int), .int .i64 t82, .any, .any, .any, .any, .any, .any, .any, .any, .any, .any, .any]

def stage_Stage_Put_2_H1 (all : List (T_api_Tx × T_stage_prepared)) (t : T_api_Tx) (g : T_api_Reg) (l : List (T_api_Write)) (yL0_4 : (List (T_api_Write))) (t82 : Int) (m : List (A8 (Int) × T_api_Tx)) : Heap := [some (.var [.map 1, .map 2]), some (.map true [.int .u8, .int .u32, .int .u32] (encM v_T_api_Tx v_T_stage_prepared (mset all t (T_stage_prepared.mk g yL0_4)))), some (.map true [.int .u8, .int .u8, .int .u8, .int .u8, .int .u8, .int .u8, .int .u8, .int .u8] (encM (fun z_ : A8 (Int) => LV.agg [.int .u8 z_.a0, .int .u8 z_.a1, .int .u8 z_.a2, .int .u8 z_.a3, .int .u8 z_.a4, .int .u8 z_.a5, .int .u8 z_.a6, .int .u8 z_.a7]) v_T_api_Tx m)), some (.gr 21 (l).length (rowF c_T_api_Write default l)), some (.var (c_T_api_Tx t))]

def stage_Stage_Put_2_T0 (all : List (T_api_Tx × T_stage_prepared)) (owners : List (A8 (Int) × T_api_Tx)) (t : T_api_Tx) (g : T_api_Reg) (l : List (T_api_Write)) (t49 : Int) : List LV := [.ptr 0 0 0, .any, .any, .gs 3 (l).length, .any, .ptr 4 0 0, .ptr 5 0 0, .any, .any, .any, .any, .any, .any, .any, .any, .any, .any, .any, .any, .any, .any, .any, .any, .any, .any, .any, .any, .any, .any, .any, .any, .any, .any, .any, .any, .any, .any, .any, .any, .any, .any, .any, .any, .any, .any, .any, .any, .gs 3 (l).length, .int .i64 ((l).length : Int), .int .i64 t49, .any, .any, .any, .any, .any, .any, .any, .any, .any, .any, .any, .any, .any, .any, .any, .any, .any, .any, .any, .any, .any, .any, .any, .any, .any, .any, .any, .any, .any, .any, .any, .any, .any, .any, .any, .any, .any, .any, .any, .any, .any, .any, .any, .any]

def stage_Stage_Put_2_H0 (all : List (T_api_Tx × T_stage_prepared)) (owners : List (A8 (Int) × T_api_Tx)) (t : T_api_Tx) (g : T_api_Reg) (l : List (T_api_Write)) (t49 : Int) : Heap := [some (.var [.map 1, .map 2]), some (.map true [.int .u8, .int .u32, .int .u32] (encM v_T_api_Tx v_T_stage_prepared all)), some (.map true [.int .u8, .int .u8, .int .u8, .int .u8, .int .u8, .int .u8, .int .u8, .int .u8] (encM (fun z_ : A8 (Int) => LV.agg [.int .u8 z_.a0, .int .u8 z_.a1, .int .u8 z_.a2, .int .u8 z_.a3, .int .u8 z_.a4, .int .u8 z_.a5, .int .u8 z_.a6, .int .u8 z_.a7]) v_T_api_Tx owners)), some (.gr 21 (l).length (rowF c_T_api_Write default l)), some (.var (c_T_api_Tx t)), some (.var (c_T_api_Reg g))]

def stage_Stage_Put_2_l1 (all : List (T_api_Tx × T_stage_prepared)) (owners : List (A8 (Int) × T_api_Tx)) (t : T_api_Tx) (g : T_api_Reg) (l : List (T_api_Write)) (yL0_4 : (List (T_api_Write)))  : Nat → (Int) → (List (A8 (Int) × T_api_Tx)) → Option ((Int) × (List (T_api_Tx × T_stage_prepared)) × (List (A8 (Int) × T_api_Tx)))
  | 0, _, _ => none
  | fuel + 1, t82, m =>
    if ((decide (t82 < ((l).length : Int))) : Bool) then
      if 0 ≤ t82 ∧ t82 < (((l).length : Nat) : Int) then
      stage_Stage_Put_2_l1 all owners t g l yL0_4  fuel (IntKind.wrap .i64 (t82 + 1)) (mset m (l.getD t82.toNat default).f_Key t)
      else none
    else
      some (0, (mset all t (T_stage_prepared.mk g yL0_4)), m)

def stage_Stage_Put_2_l0 (all : List (T_api_Tx × T_stage_prepared)) (owners : List (A8 (Int) × T_api_Tx)) (t : T_api_Tx) (g : T_api_Reg) (l : List (T_api_Write))  : Nat → (Int) → Option ((Int) × (List (T_api_Tx × T_stage_prepared)) × (List (A8 (Int) × T_api_Tx)))
  | 0, _ => none
  | fuel + 1, t49 =>
    if ((decide (t49 < ((l).length : Int))) : Bool) then
      if 0 ≤ t49 ∧ t49 < (((l).length : Nat) : Int) then
      if (((mget owners (l.getD t49.toNat default).f_Key).isSome) : Bool) then
        some (11, all, owners)
      else
        stage_Stage_Put_2_l0 all owners t g l  fuel (IntKind.wrap .i64 (t49 + 1))
      else none
    else
      if ((((all).length : Int) == 64) : Bool) then
        some (5, all, owners)
      else
        (slices_Clone_api_Write_api_Write_3 l).bind fun yL0_4 =>
        stage_Stage_Put_2_l1 all owners t g l yL0_4  big 0 owners

def stage_Stage_Put_2 (all : List (T_api_Tx × T_stage_prepared)) (owners : List (A8 (Int) × T_api_Tx)) (t : T_api_Tx) (g : T_api_Reg) (l : List (T_api_Write)) : Option ((Int) × (List (T_api_Tx × T_stage_prepared)) × (List (A8 (Int) × T_api_Tx))) :=
  (stage_Stage_ok all owners).bind fun y2 =>
  (stage_may_2 t g l).bind fun y4 =>
  if ((!y4) : Bool) then
    some (1, all, owners)
  else
    if (((mget all t).isSome) : Bool) then
      if ((decide (((mget all t).getD default).f_reg = g)) : Bool) then
        (slices_Equal_api_Write_api_Write_2 ((mget all t).getD default).f_writes l).bind fun y9 =>
        if (y9 : Bool) then
          some (0, all, owners)
        else
          some (7, all, owners)
      else
        some (7, all, owners)
    else
      stage_Stage_Put_2_l0 all owners t g l  big 0

theorem stage_Stage_Put_2_l1_ok {w0 : World} {W : Nat → Prop} {μ0 : Emb} (hμ : ∀ c p, μ0 c = some p → c < 4) (all : List (T_api_Tx × T_stage_prepared)) (owners : List (A8 (Int) × T_api_Tx)) (t : T_api_Tx) (g : T_api_Reg) (l : List (T_api_Write)) (yL0_4 : (List (T_api_Write)))  : ∀ (fuel : Nat) (t82 : Int) (m : List (A8 (Int) × T_api_Tx)) (r : (Int) × (List (T_api_Tx × T_stage_prepared)) × (List (A8 (Int) × T_api_Tx))), stage_Stage_Put_2_l1 all owners t g l yL0_4  fuel t82 m = some r → kont Tryd.prog w0 W μ0 (FnPost Tryd.prog Tryd.f10 4 4 (stage_Stage_Put_2_v r) (stage_Stage_Put_2_up all owners t g l r)) (kAt (bodyOf Tryd.f10) 1) none (stage_Stage_Put_2_T1 all t g l yL0_4 t82 m) (stage_Stage_Put_2_H1 all t g l yL0_4 t82 m) := by
  intro fuel
  induction fuel with
  | zero => intro t82 m r h; rw [stage_Stage_Put_2_l1] at h; cases h
  | succ fuel ih =>
    intro t82 m r h
    rw [stage_Stage_Put_2_l1] at h
    rcases itb_some h with ⟨cL1_1, h⟩ | ⟨cL1_1, h⟩
    · skip
      obtain ⟨gL1_2, h⟩ := guard_some h
      exact run_to mixed hμ (L := [4]) (n := 26) (s := [.go, .reg [(0, { v := some (.bool true) })], .reg [], .reg [(7, { os := [(2, .map true [.int .u8, .int .u8, .int .u8, .int .u8, .int .u8, .int .u8, .int .u8, .int .u8] (encM (fun z_ : A8 (Int) => LV.agg [.int .u8 z_.a0, .int .u8 z_.a1, .int .u8 z_.a2, .int .u8 z_.a3, .int .u8 z_.a4, .int .u8 z_.a5, .int .u8 z_.a6, .int .u8 z_.a7]) v_T_api_Tx (mset m (l.getD t82.toNat default).f_Key t)))] })], .reg []])
        (a_ (a_ (a_ tr (a_ (leB cL1_1) tr)) tr) (a_ (a_ (a_ (a_ (Eq.refl 21) gL1_2) tr) (a_ (a_ (a_ (ltN gL1_2) (le_ 21 21 rfl)) tr) (r1_ (a_ (a_ (a_ (Eq.refl 21) (a_ (le_ 21 21 rfl) (Eq.refl 0))) tr) tr)))) (a_ (r1_ (r2_ (a_ (a_ (a_ tr (lt_ 1 2 rfl)) tr) (r1_ (a_ (a_ (a_ tr (le_ 8 21 rfl)) tr) (a_ (a_ (a_ tr (le_ 3 3 rfl)) tr) (a_ (a_ (a_ (Eq.refl true) (Eq.refl true)) (a_ (sub_upd (fun z_ : A8 (Int) => LV.agg [.int .u8 z_.a0, .int .u8 z_.a1, .int .u8 z_.a2, .int .u8 z_.a3, .int .u8 z_.a4, .int .u8 z_.a5, .int .u8 z_.a6, .int .u8 z_.a7]) v_T_api_Tx (k_arr8 .u8) true [.int .u8, .int .u8, .int .u8, .int .u8, .int .u8, .int .u8, .int .u8, .int .u8] m (l.getD t82.toNat default).f_Key t) tr)) tr))))))) (a_ (r2_ tr) tr)))) (ih _ _ r h) (by as_aux_lemma => kernel_rfl) ⟨rfl, trivial, trivial, fun _ _ => rfl, rfl, trivial⟩
    · skip
      obtain rfl := Option.some.inj h
      exact run_ret mixed (L := []) (n := 19) (s := [.go, .reg [(0, { v := some (.bool false) })], .reg []])
        (a_ (a_ (a_ (a_ tr (a_ (leB cL1_1) tr)) tr) (a_ (r1_ tr) tr)) tr) (by as_aux_lemma => kernel_rfl) rfl

theorem stage_Stage_Put_2_l0_ok {w0 : World} {W : Nat → Prop} {μ0 : Emb} (hμ : ∀ c p, μ0 c = some p → c < 4) (all : List (T_api_Tx × T_stage_prepared)) (owners : List (A8 (Int) × T_api_Tx)) (t : T_api_Tx) (g : T_api_Reg) (l : List (T_api_Write))  : ∀ (fuel : Nat) (t49 : Int) (r : (Int) × (List (T_api_Tx × T_stage_prepared)) × (List (A8 (Int) × T_api_Tx))), stage_Stage_Put_2_l0 all owners t g l  fuel t49 = some r → kont Tryd.prog w0 W μ0 (FnPost Tryd.prog Tryd.f10 4 4 (stage_Stage_Put_2_v r) (stage_Stage_Put_2_up all owners t g l r)) (kAt (bodyOf Tryd.f10) 0) none (stage_Stage_Put_2_T0 all owners t g l t49) (stage_Stage_Put_2_H0 all owners t g l t49) := by
  intro fuel
  induction fuel with
  | zero => intro t49 r h; rw [stage_Stage_Put_2_l0] at h; cases h
  | succ fuel ih =>
    intro t49 r h
    rw [stage_Stage_Put_2_l0] at h
    rcases itb_some h with ⟨cL0_1, h⟩ | ⟨cL0_1, h⟩
    · skip
      obtain ⟨gL0_2, h⟩ := guard_some h
      rcases itb_some h with ⟨cL0_3, h⟩ | ⟨cL0_3, h⟩
      · skip
        obtain rfl := Option.some.inj h
        exact run_ret mixed (L := []) (n := 31) (s := [.go, .reg [(0, { v := some (.bool true) })], .reg [], .reg [(6, { look := ((mget owners (l.getD t49.toNat default).f_Key).map v_T_api_Tx), v := some (.tup [v_T_api_Tx ((mget owners (l.getD t49.toNat default).f_Key).getD default), .bool ((mget owners (l.getD t49.toNat default).f_Key).isSome)]) })], .reg [(0, { v := some (.bool true) })], .reg []])
          (a_ (a_ (a_ (a_ tr (a_ (leB cL0_1) tr)) tr) (a_ (a_ (a_ (a_ (Eq.refl 21) gL0_2) tr) (a_ (a_ (a_ (ltN gL0_2) (le_ 21 21 rfl)) tr) (r1_ (a_ (a_ (a_ (Eq.refl 21) (a_ (le_ 21 21 rfl) (Eq.refl 0))) tr) tr)))) (a_ (r1_ (r2_ (a_ (a_ (a_ tr (lt_ 1 2 rfl)) tr) (r1_ (a_ (a_ (a_ tr (le_ 8 21 rfl)) tr) (a_ (a_ (a_ (Eq.refl true) (findE_enc (fun z_ : A8 (Int) => LV.agg [.int .u8 z_.a0, .int .u8 z_.a1, .int .u8 z_.a2, .int .u8 z_.a3, .int .u8 z_.a4, .int .u8 z_.a5, .int .u8 z_.a6, .int .u8 z_.a7]) v_T_api_Tx (k_arr8 .u8) owners (l.getD t49.toNat default).f_Key)) (a_ (le_lookok v_T_api_Tx (mget owners (l.getD t49.toNat default).f_Key) default) tr)) (r4_ (a_ (a_ (a_ (Eq.refl 3) (a_ (le_ 3 3 rfl) (Eq.refl 0))) tr) (r1_ tr))))))))) (a_ (a_ (a_ tr (a_ (leB cL0_3) tr)) tr) (a_ (r1_ tr) tr))))) tr) (by as_aux_lemma => kernel_rfl) rfl
      · skip
        exact run_to mixed hμ (L := [4, 5]) (n := 32) (s := [.go, .reg [(0, { v := some (.bool true) })], .reg [], .reg [(6, { look := ((mget owners (l.getD t49.toNat default).f_Key).map v_T_api_Tx), v := some (.tup [v_T_api_Tx ((mget owners (l.getD t49.toNat default).f_Key).getD default), .bool ((mget owners (l.getD t49.toNat default).f_Key).isSome)]) })], .reg [(0, { v := some (.bool false) })], .reg []])
          (a_ (a_ (a_ tr (a_ (leB cL0_1) tr)) tr) (a_ (a_ (a_ (a_ (Eq.refl 21) gL0_2) tr) (a_ (a_ (a_ (ltN gL0_2) (le_ 21 21 rfl)) tr) (r1_ (a_ (a_ (a_ (Eq.refl 21) (a_ (le_ 21 21 rfl) (Eq.refl 0))) tr) tr)))) (a_ (r1_ (r2_ (a_ (a_ (a_ tr (lt_ 1 2 rfl)) tr) (r1_ (a_ (a_ (a_ tr (le_ 8 21 rfl)) tr) (a_ (a_ (a_ (Eq.refl true) (findE_enc (fun z_ : A8 (Int) => LV.agg [.int .u8 z_.a0, .int .u8 z_.a1, .int .u8 z_.a2, .int .u8 z_.a3, .int .u8 z_.a4, .int .u8 z_.a5, .int .u8 z_.a6, .int .u8 z_.a7]) v_T_api_Tx (k_arr8 .u8) owners (l.getD t49.toNat default).f_Key)) (a_ (le_lookok v_T_api_Tx (mget owners (l.getD t49.toNat default).f_Key) default) tr)) (r4_ (a_ (a_ (a_ (Eq.refl 3) (a_ (le_ 3 3 rfl) (Eq.refl 0))) tr) (r1_ tr))))))))) (a_ (a_ (a_ tr (a_ (leB cL0_3) tr)) tr) (a_ (r2_ tr) tr))))) (ih _ r h) (by as_aux_lemma => kernel_rfl) ⟨rfl, trivial, trivial, fun _ _ => rfl, rfl, rfl, trivial⟩
    · skip
      rcases itb_some h with ⟨cL0_2, h⟩ | ⟨cL0_2, h⟩
      · skip
        obtain rfl := Option.some.inj h
        exact run_ret mixed (L := []) (n := 24) (s := [.go, .reg [(0, { v := some (.bool false) })], .reg [(4, { v := some (.int .i64 ((all).length : Int)) }), (5, { v := some (.bool true) })], .reg []])
          (a_ (a_ (a_ (a_ tr (a_ (leB cL0_1) tr)) tr) (a_ (r1_ (r2_ (a_ (a_ (a_ tr (lt_ 0 2 rfl)) tr) (a_ (a_ tr (a_ (le_maplen v_T_api_Tx v_T_stage_prepared all) tr)) (a_ (a_ tr (a_ (leB cL0_2) tr)) tr))))) (a_ (r1_ tr) tr))) tr) (by as_aux_lemma => kernel_rfl) rfl
      · skip
        obtain ⟨yL0_4, eL0_3, h⟩ := bind_some h
        exact run_to mixed hμ (L := [4]) (n := 31) (s := [.go, .reg [(0, { v := some (.bool false) })], .reg [(4, { v := some (.int .i64 ((all).length : Int)) }), (5, { v := some (.bool false) })], .reg [(7, { call := some ((slices_Clone_api_Write_api_Write_3_v yL0_4).ren (sel [3]), preOf (sel [3]) 0 (slices_Clone_api_Write_api_Write_3_objs l), upOf (sel [3]) (slices_Clone_api_Write_api_Write_3_up l yL0_4)) }), (9, { os := [(1, .map true [.int .u8, .int .u32, .int .u32] (encM v_T_api_Tx v_T_stage_prepared (mset all t (T_stage_prepared.mk g yL0_4))))] })], .reg []])
          (a_ (a_ (a_ tr (a_ (leB cL0_1) tr)) tr) (a_ (r1_ (r2_ (a_ (a_ (a_ tr (lt_ 0 2 rfl)) tr) (a_ (a_ tr (a_ (le_maplen v_T_api_Tx v_T_stage_prepared all) tr)) (a_ (a_ tr (a_ (leB cL0_2) tr)) tr))))) (a_ (r1_ (r2_ (a_ (a_ (a_ tr (lt_ 0 2 rfl)) tr) (a_ (a_ (a_ tr (le_ 3 3 rfl)) tr) (a_ (a_ (a_ tr (le_ 2 2 rfl)) tr) (r1_ (a_ (a_ (a_ (slices_Clone_api_Write_api_Write_3_ok l yL0_4 eL0_3 (sel [3]) (sel_inj rfl rfl)) (a_ (LO.Le.refl (.gr 21 (l).length (rowF c_T_api_Write default l))) tr)) tr) (a_ (a_ (Eq.refl true) tr) (a_ (a_ (a_ (Eq.refl true) (Eq.refl true)) (a_ (sub_upd v_T_api_Tx v_T_stage_prepared k_T_api_Tx true [.int .u8, .int .u32, .int .u32] all t (T_stage_prepared.mk g yL0_4)) tr)) tr))))))))) (a_ (r1_ (r2_ tr)) tr)))) (stage_Stage_Put_2_l1_ok hμ all owners t g l yL0_4  big _ _ r h) (by as_aux_lemma => kernel_rfl) ⟨rfl, trivial, trivial, fun _ _ => rfl, rfl, trivial⟩

theorem stage_Stage_Put_2_ok (all : List (T_api_Tx × T_stage_prepared)) (owners : List (A8 (Int) × T_api_Tx)) (t : T_api_Tx) (g : T_api_Reg) (l : List (T_api_Write)) (r : (Int) × (List (T_api_Tx × T_stage_prepared)) × (List (A8 (Int) × T_api_Tx))) (h : stage_Stage_Put_2 all owners t g l = some r) : ∀ σ, Inj 4 σ → FnTri Tryd.prog 10 (renL σ [.ptr 0 0 0, v_T_api_Tx t, v_T_api_Reg g, .gs 3 (l).length]) (preOf σ 0 (stage_Stage_Put_2_objs all owners t g l)) ((stage_Stage_Put_2_v r).ren σ) (upOf σ (stage_Stage_Put_2_up all owners t g l r)) := by
  refine fn_of Tryd.func10 (by kernel_rfl) (by kernel_rfl) (by kernel_rfl) ⟨rfl, trivial, trivial, fun _ _ => rfl, trivial⟩ (by kernel_rfl) ⟨rfl, trivial, trivial, fun _ _ => rfl, trivial⟩ (by kernel_rfl) ?_
  intro w0 W μ0 hμ
  unfold stage_Stage_Put_2 at h
  obtain ⟨y2, e1, h⟩ := bind_some h
  obtain ⟨y4, e3, h⟩ := bind_some h
  rcases itb_some h with ⟨c5, h⟩ | ⟨c5, h⟩
  · skip
    obtain rfl := Option.some.inj h
    exact run_ret mixed (L := []) (n := 25) (s := [.reg [], .reg [(1, { call := some ((stage_Stage_ok_v y2).ren (sel [0, 1, 2]), preOf (sel [0, 1, 2]) 0 (stage_Stage_ok_objs all owners), upOf (sel [0, 1, 2]) (stage_Stage_ok_up all owners y2)) })], .reg [(3, { call := some ((stage_may_2_v y4).ren (sel [3]), preOf (sel [3]) 0 (stage_may_2_objs t g l), upOf (sel [3]) (stage_may_2_up t g l y4)) }), (5, { v := some (.bool true) })], .reg []])
      (a_ (a_ (r1_ (r2_ tr)) (a_ (r1_ (a_ (a_ (a_ (stage_Stage_ok_ok all owners y2 e1 (sel [0, 1, 2]) (sel_inj rfl rfl)) (a_ (LO.Le.refl (.var [.map 1, .map 2])) (a_ (LO.Le.refl (.map true [.int .u8, .int .u32, .int .u32] (encM v_T_api_Tx v_T_stage_prepared all))) (a_ (LO.Le.refl (.map true [.int .u8, .int .u8, .int .u8, .int .u8, .int .u8, .int .u8, .int .u8, .int .u8] (encM (fun z_ : A8 (Int) => LV.agg [.int .u8 z_.a0, .int .u8 z_.a1, .int .u8 z_.a2, .int .u8 z_.a3, .int .u8 z_.a4, .int .u8 z_.a5, .int .u8 z_.a6, .int .u8 z_.a7]) v_T_api_Tx owners))) tr)))) tr) (r2_ tr))) (a_ (a_ (a_ (a_ tr (le_ 3 3 rfl)) tr) (a_ (a_ (a_ tr (le_ 2 2 rfl)) tr) (r1_ (a_ (a_ (a_ (stage_may_2_ok t g l y4 e3 (sel [3]) (sel_inj rfl rfl)) (a_ (LO.Le.refl (.gr 21 (l).length (rowF c_T_api_Write default l))) tr)) tr) (r1_ (a_ (a_ tr (a_ (leB c5) tr)) tr)))))) (a_ (r1_ tr) tr)))) tr) (by as_aux_lemma => kernel_rfl) rfl
  · skip
    rcases itb_some h with ⟨c6, h⟩ | ⟨c6, h⟩
    · skip
      rcases itb_some h with ⟨c7, h⟩ | ⟨c7, h⟩
      · skip
        obtain ⟨y9, e8, h⟩ := bind_some h
        rcases itb_some h with ⟨c10, h⟩ | ⟨c10, h⟩
        · skip
          obtain rfl := Option.some.inj h
          exact run_ret mixed (L := []) (n := 40) (s := [.reg [], .reg [(1, { call := some ((stage_Stage_ok_v y2).ren (sel [0, 1, 2]), preOf (sel [0, 1, 2]) 0 (stage_Stage_ok_objs all owners), upOf (sel [0, 1, 2]) (stage_Stage_ok_up all owners y2)) })], .reg [(3, { call := some ((stage_may_2_v y4).ren (sel [3]), preOf (sel [3]) 0 (stage_may_2_objs t g l), upOf (sel [3]) (stage_may_2_up t g l y4)) }), (5, { v := some (.bool false) })], .reg [(5, { look := ((mget all t).map v_T_stage_prepared), v := some (.tup [v_T_stage_prepared ((mget all t).getD default), .bool ((mget all t).isSome)]) })], .reg [(0, { v := some (.bool true) })], .reg [(3, { v := some (.bool (decide (((mget all t).getD default).f_reg = g))) }), (4, { v := some (.bool true) }), (8, { call := some ((slices_Equal_api_Write_api_Write_2_v y9).ren (sel [3]), preOf (sel [3]) 0 (slices_Equal_api_Write_api_Write_2_objs ((mget all t).getD default).f_writes l), upOf (sel [3]) (slices_Equal_api_Write_api_Write_2_up ((mget all t).getD default).f_writes l y9)) }), (9, { v := some (.bool true) })], .reg []])
            (a_ (a_ (r1_ (r2_ tr)) (a_ (r1_ (a_ (a_ (a_ (stage_Stage_ok_ok all owners y2 e1 (sel [0, 1, 2]) (sel_inj rfl rfl)) (a_ (LO.Le.refl (.var [.map 1, .map 2])) (a_ (LO.Le.refl (.map true [.int .u8, .int .u32, .int .u32] (encM v_T_api_Tx v_T_stage_prepared all))) (a_ (LO.Le.refl (.map true [.int .u8, .int .u8, .int .u8, .int .u8, .int .u8, .int .u8, .int .u8, .int .u8] (encM (fun z_ : A8 (Int) => LV.agg [.int .u8 z_.a0, .int .u8 z_.a1, .int .u8 z_.a2, .int .u8 z_.a3, .int .u8 z_.a4, .int .u8 z_.a5, .int .u8 z_.a6, .int .u8 z_.a7]) v_T_api_Tx owners))) tr)))) tr) (r2_ tr))) (a_ (a_ (a_ (a_ tr (le_ 3 3 rfl)) tr) (a_ (a_ (a_ tr (le_ 2 2 rfl)) tr) (r1_ (a_ (a_ (a_ (stage_may_2_ok t g l y4 e3 (sel [3]) (sel_inj rfl rfl)) (a_ (LO.Le.refl (.gr 21 (l).length (rowF c_T_api_Write default l))) tr)) tr) (r1_ (a_ (a_ tr (a_ (leB c5) tr)) tr)))))) (a_ (r1_ (r2_ (a_ (a_ (a_ tr (lt_ 0 2 rfl)) tr) (a_ (a_ (a_ tr (le_ 3 3 rfl)) tr) (a_ (a_ (a_ (Eq.refl true) (findE_enc v_T_api_Tx v_T_stage_prepared k_T_api_Tx all t)) (a_ (le_lookok0 v_T_stage_prepared (mget all t) default (le_agg (l := [.int .u32 0, .int .u32 0, .nilsl]) (m := [.int .u32 (default : T_stage_prepared).f_reg.f_Boot, .int .u32 (default : T_stage_prepared).f_reg.f_N, .ds 21 ((default : T_stage_prepared).f_writes).length (rowF c_T_api_Write default (default : T_stage_prepared).f_writes)]) (a_ (LV.Le.refl (.int .u32 0)) (a_ (LV.Le.refl (.int .u32 0)) (a_ (le_nil_ds 21 (rowF c_T_api_Write default [])) tr))))) tr)) (r4_ (a_ (a_ (a_ (Eq.refl 3) (a_ (le_ 3 3 rfl) (Eq.refl 0))) tr) (r1_ tr)))))))) (a_ (a_ (a_ tr (a_ (leB c6) tr)) tr) (a_ (r1_ (a_ (a_ (a_ tr (le_ 2 3 rfl)) tr) (a_ (a_ (a_ tr (le_ 2 2 rfl)) tr) (a_ (a_ tr (a_ (leB (k_T_api_Reg ((mget all t).getD default).f_reg g)) tr)) (a_ (a_ tr (a_ (leB c7) tr)) (r1_ (a_ (a_ (a_ tr (lt_ 2 3 rfl)) tr) (r1_ (a_ (a_ (a_ (slices_Equal_api_Write_api_Write_2_ok ((mget all t).getD default).f_writes l y9 e8 (sel [3]) (sel_inj rfl rfl)) (a_ (LO.Le.refl (.gr 21 (l).length (rowF c_T_api_Write default l))) tr)) tr) (a_ (a_ tr (a_ (leB c10) tr)) tr)))))))))) (a_ (r1_ tr) tr))))))) tr) (by as_aux_lemma => kernel_rfl) rfl
        · skip
          obtain rfl := Option.some.inj h
          exact run_ret mixed (L := []) (n := 41) (s := [.reg [], .reg [(1, { call := some ((stage_Stage_ok_v y2).ren (sel [0, 1, 2]), preOf (sel [0, 1, 2]) 0 (stage_Stage_ok_objs all owners), upOf (sel [0, 1, 2]) (stage_Stage_ok_up all owners y2)) })], .reg [(3, { call := some ((stage_may_2_v y4).ren (sel [3]), preOf (sel [3]) 0 (stage_may_2_objs t g l), upOf (sel [3]) (stage_may_2_up t g l y4)) }), (5, { v := some (.bool false) })], .reg [(5, { look := ((mget all t).map v_T_stage_prepared), v := some (.tup [v_T_stage_prepared ((mget all t).getD default), .bool ((mget all t).isSome)]) })], .reg [(0, { v := some (.bool true) })], .reg [(3, { v := some (.bool (decide (((mget all t).getD default).f_reg = g))) }), (4, { v := some (.bool true) }), (8, { call := some ((slices_Equal_api_Write_api_Write_2_v y9).ren (sel [3]), preOf (sel [3]) 0 (slices_Equal_api_Write_api_Write_2_objs ((mget all t).getD default).f_writes l), upOf (sel [3]) (slices_Equal_api_Write_api_Write_2_up ((mget all t).getD default).f_writes l y9)) }), (9, { v := some (.bool false) })], .reg []])
            (a_ (a_ (r1_ (r2_ tr)) (a_ (r1_ (a_ (a_ (a_ (stage_Stage_ok_ok all owners y2 e1 (sel [0, 1, 2]) (sel_inj rfl rfl)) (a_ (LO.Le.refl (.var [.map 1, .map 2])) (a_ (LO.Le.refl (.map true [.int .u8, .int .u32, .int .u32] (encM v_T_api_Tx v_T_stage_prepared all))) (a_ (LO.Le.refl (.map true [.int .u8, .int .u8, .int .u8, .int .u8, .int .u8, .int .u8, .int .u8, .int .u8] (encM (fun z_ : A8 (Int) => LV.agg [.int .u8 z_.a0, .int .u8 z_.a1, .int .u8 z_.a2, .int .u8 z_.a3, .int .u8 z_.a4, .int .u8 z_.a5, .int .u8 z_.a6, .int .u8 z_.a7]) v_T_api_Tx owners))) tr)))) tr) (r2_ tr))) (a_ (a_ (a_ (a_ tr (le_ 3 3 rfl)) tr) (a_ (a_ (a_ tr (le_ 2 2 rfl)) tr) (r1_ (a_ (a_ (a_ (stage_may_2_ok t g l y4 e3 (sel [3]) (sel_inj rfl rfl)) (a_ (LO.Le.refl (.gr 21 (l).length (rowF c_T_api_Write default l))) tr)) tr) (r1_ (a_ (a_ tr (a_ (leB c5) tr)) tr)))))) (a_ (r1_ (r2_ (a_ (a_ (a_ tr (lt_ 0 2 rfl)) tr) (a_ (a_ (a_ tr (le_ 3 3 rfl)) tr) (a_ (a_ (a_ (Eq.refl true) (findE_enc v_T_api_Tx v_T_stage_prepared k_T_api_Tx all t)) (a_ (le_lookok0 v_T_stage_prepared (mget all t) default (le_agg (l := [.int .u32 0, .int .u32 0, .nilsl]) (m := [.int .u32 (default : T_stage_prepared).f_reg.f_Boot, .int .u32 (default : T_stage_prepared).f_reg.f_N, .ds 21 ((default : T_stage_prepared).f_writes).length (rowF c_T_api_Write default (default : T_stage_prepared).f_writes)]) (a_ (LV.Le.refl (.int .u32 0)) (a_ (LV.Le.refl (.int .u32 0)) (a_ (le_nil_ds 21 (rowF c_T_api_Write default [])) tr))))) tr)) (r4_ (a_ (a_ (a_ (Eq.refl 3) (a_ (le_ 3 3 rfl) (Eq.refl 0))) tr) (r1_ tr)))))))) (a_ (a_ (a_ tr (a_ (leB c6) tr)) tr) (a_ (r1_ (a_ (a_ (a_ tr (le_ 2 3 rfl)) tr) (a_ (a_ (a_ tr (le_ 2 2 rfl)) tr) (a_ (a_ tr (a_ (leB (k_T_api_Reg ((mget all t).getD default).f_reg g)) tr)) (a_ (a_ tr (a_ (leB c7) tr)) (r1_ (a_ (a_ (a_ tr (lt_ 2 3 rfl)) tr) (r1_ (a_ (a_ (a_ (slices_Equal_api_Write_api_Write_2_ok ((mget all t).getD default).f_writes l y9 e8 (sel [3]) (sel_inj rfl rfl)) (a_ (LO.Le.refl (.gr 21 (l).length (rowF c_T_api_Write default l))) tr)) tr) (a_ (a_ tr (a_ (leB c10) tr)) tr)))))))))) (a_ (r1_ tr) tr))))))) tr) (by as_aux_lemma => kernel_rfl) rfl
      · skip
        obtain rfl := Option.some.inj h
        exact run_ret mixed (L := []) (n := 41) (s := [.reg [], .reg [(1, { call := some ((stage_Stage_ok_v y2).ren (sel [0, 1, 2]), preOf (sel [0, 1, 2]) 0 (stage_Stage_ok_objs all owners), upOf (sel [0, 1, 2]) (stage_Stage_ok_up all owners y2)) })], .reg [(3, { call := some ((stage_may_2_v y4).ren (sel [3]), preOf (sel [3]) 0 (stage_may_2_objs t g l), upOf (sel [3]) (stage_may_2_up t g l y4)) }), (5, { v := some (.bool false) })], .reg [(5, { look := ((mget all t).map v_T_stage_prepared), v := some (.tup [v_T_stage_prepared ((mget all t).getD default), .bool ((mget all t).isSome)]) })], .reg [(0, { v := some (.bool true) })], .reg [(3, { v := some (.bool (decide (((mget all t).getD default).f_reg = g))) }), (4, { v := some (.bool false) })], .reg []])
          (a_ (a_ (r1_ (r2_ tr)) (a_ (r1_ (a_ (a_ (a_ (stage_Stage_ok_ok all owners y2 e1 (sel [0, 1, 2]) (sel_inj rfl rfl)) (a_ (LO.Le.refl (.var [.map 1, .map 2])) (a_ (LO.Le.refl (.map true [.int .u8, .int .u32, .int .u32] (encM v_T_api_Tx v_T_stage_prepared all))) (a_ (LO.Le.refl (.map true [.int .u8, .int .u8, .int .u8, .int .u8, .int .u8, .int .u8, .int .u8, .int .u8] (encM (fun z_ : A8 (Int) => LV.agg [.int .u8 z_.a0, .int .u8 z_.a1, .int .u8 z_.a2, .int .u8 z_.a3, .int .u8 z_.a4, .int .u8 z_.a5, .int .u8 z_.a6, .int .u8 z_.a7]) v_T_api_Tx owners))) tr)))) tr) (r2_ tr))) (a_ (a_ (a_ (a_ tr (le_ 3 3 rfl)) tr) (a_ (a_ (a_ tr (le_ 2 2 rfl)) tr) (r1_ (a_ (a_ (a_ (stage_may_2_ok t g l y4 e3 (sel [3]) (sel_inj rfl rfl)) (a_ (LO.Le.refl (.gr 21 (l).length (rowF c_T_api_Write default l))) tr)) tr) (r1_ (a_ (a_ tr (a_ (leB c5) tr)) tr)))))) (a_ (r1_ (r2_ (a_ (a_ (a_ tr (lt_ 0 2 rfl)) tr) (a_ (a_ (a_ tr (le_ 3 3 rfl)) tr) (a_ (a_ (a_ (Eq.refl true) (findE_enc v_T_api_Tx v_T_stage_prepared k_T_api_Tx all t)) (a_ (le_lookok0 v_T_stage_prepared (mget all t) default (le_agg (l := [.int .u32 0, .int .u32 0, .nilsl]) (m := [.int .u32 (default : T_stage_prepared).f_reg.f_Boot, .int .u32 (default : T_stage_prepared).f_reg.f_N, .ds 21 ((default : T_stage_prepared).f_writes).length (rowF c_T_api_Write default (default : T_stage_prepared).f_writes)]) (a_ (LV.Le.refl (.int .u32 0)) (a_ (LV.Le.refl (.int .u32 0)) (a_ (le_nil_ds 21 (rowF c_T_api_Write default [])) tr))))) tr)) (r4_ (a_ (a_ (a_ (Eq.refl 3) (a_ (le_ 3 3 rfl) (Eq.refl 0))) tr) (r1_ tr)))))))) (a_ (a_ (a_ tr (a_ (leB c6) tr)) tr) (a_ (r1_ (a_ (a_ (a_ tr (le_ 2 3 rfl)) tr) (a_ (a_ (a_ tr (le_ 2 2 rfl)) tr) (a_ (a_ tr (a_ (leB (k_T_api_Reg ((mget all t).getD default).f_reg g)) tr)) (a_ (a_ tr (a_ (leB c7) tr)) (t4_ (r1_ tr))))))) (a_ (r1_ tr) tr))))))) tr) (by as_aux_lemma => kernel_rfl) rfl
    · skip
      exact run_to mixed hμ (L := [4, 5]) (n := 39) (s := [.reg [], .reg [(1, { call := some ((stage_Stage_ok_v y2).ren (sel [0, 1, 2]), preOf (sel [0, 1, 2]) 0 (stage_Stage_ok_objs all owners), upOf (sel [0, 1, 2]) (stage_Stage_ok_up all owners y2)) })], .reg [(3, { call := some ((stage_may_2_v y4).ren (sel [3]), preOf (sel [3]) 0 (stage_may_2_objs t g l), upOf (sel [3]) (stage_may_2_up t g l y4)) }), (5, { v := some (.bool false) })], .reg [(5, { look := ((mget all t).map v_T_stage_prepared), v := some (.tup [v_T_stage_prepared ((mget all t).getD default), .bool ((mget all t).isSome)]) })], .reg [(0, { v := some (.bool false) })], .reg []])
        (a_ (r1_ (r2_ tr)) (a_ (r1_ (a_ (a_ (a_ (stage_Stage_ok_ok all owners y2 e1 (sel [0, 1, 2]) (sel_inj rfl rfl)) (a_ (LO.Le.refl (.var [.map 1, .map 2])) (a_ (LO.Le.refl (.map true [.int .u8, .int .u32, .int .u32] (encM v_T_api_Tx v_T_stage_prepared all))) (a_ (LO.Le.refl (.map true [.int .u8, .int .u8, .int .u8, .int .u8, .int .u8, .int .u8, .int .u8, .int .u8] (encM (fun z_ : A8 (Int) => LV.agg [.int .u8 z_.a0, .int .u8 z_.a1, .int .u8 z_.a2, .int .u8 z_.a3, .int .u8 z_.a4, .int .u8 z_.a5, .int .u8 z_.a6, .int .u8 z_.a7]) v_T_api_Tx owners))) tr)))) tr) (r2_ tr))) (a_ (a_ (a_ (a_ tr (le_ 3 3 rfl)) tr) (a_ (a_ (a_ tr (le_ 2 2 rfl)) tr) (r1_ (a_ (a_ (a_ (stage_may_2_ok t g l y4 e3 (sel [3]) (sel_inj rfl rfl)) (a_ (LO.Le.refl (.gr 21 (l).length (rowF c_T_api_Write default l))) tr)) tr) (r1_ (a_ (a_ tr (a_ (leB c5) tr)) tr)))))) (a_ (r1_ (r2_ (a_ (a_ (a_ tr (lt_ 0 2 rfl)) tr) (a_ (a_ (a_ tr (le_ 3 3 rfl)) tr) (a_ (a_ (a_ (Eq.refl true) (findE_enc v_T_api_Tx v_T_stage_prepared k_T_api_Tx all t)) (a_ (le_lookok0 v_T_stage_prepared (mget all t) default (le_agg (l := [.int .u32 0, .int .u32 0, .nilsl]) (m := [.int .u32 (default : T_stage_prepared).f_reg.f_Boot, .int .u32 (default : T_stage_prepared).f_reg.f_N, .ds 21 ((default : T_stage_prepared).f_writes).length (rowF c_T_api_Write default (default : T_stage_prepared).f_writes)]) (a_ (LV.Le.refl (.int .u32 0)) (a_ (LV.Le.refl (.int .u32 0)) (a_ (le_nil_ds 21 (rowF c_T_api_Write default [])) tr))))) tr)) (r4_ (a_ (a_ (a_ (Eq.refl 3) (a_ (le_ 3 3 rfl) (Eq.refl 0))) tr) (r1_ tr)))))))) (a_ (a_ (a_ tr (a_ (leB c6) tr)) tr) (a_ (r1_ (r2_ tr)) tr)))))) (stage_Stage_Put_2_l0_ok hμ all owners t g l  big _ r h) (by as_aux_lemma => kernel_rfl) ⟨rfl, trivial, trivial, fun _ _ => rfl, rfl, rfl, trivial⟩

/-- slices.Clone[[]parrel/api.Write,parrel/api.Write] -/

def slices_Clone_api_Write_api_Write_o_v (r : (List (T_api_Write))) : LV := .gs 0 (r).length

def slices_Clone_api_Write_api_Write_o_up (s : List (T_api_Write)) (r : (List (T_api_Write))) : Upd := [(0, some (.gr 21 (r).length (rowF c_T_api_Write default r)))]

def slices_Clone_api_Write_api_Write_o (s : List (T_api_Write)) : Option ((List (T_api_Write))) :=
  if 0 < 0 + (s).length then
  if (0 + (s).length) * 48 ≤ 140737488351232 then
  some s
  else none
  else none

theorem slices_Clone_api_Write_api_Write_o_ok (s : List (T_api_Write)) (r : (List (T_api_Write))) (h : slices_Clone_api_Write_api_Write_o s = some r) : ∀ σ, Inj 1 σ → FnTri Tryd.prog 27 (renL σ [.dn 21 (s).length (rowF c_T_api_Write default s)]) (preOf σ 0 []) ((slices_Clone_api_Write_api_Write_o_v r).ren σ) (upOf σ (slices_Clone_api_Write_api_Write_o_up s r)) := by
  refine fn_of Tryd.func27 (by kernel_rfl) (by kernel_rfl) (by kernel_rfl) trivial (by kernel_rfl) ⟨fun _ _ => rfl, trivial⟩ (by kernel_rfl) ?_
  intro w0 W μ0 hμ
  unfold slices_Clone_api_Write_api_Write_o at h
  obtain ⟨g1, h⟩ := guard_some h
  obtain ⟨g2, h⟩ := guard_some h
  obtain rfl := Option.some.inj h
  exact run_ret mixed (L := [1]) (n := 21) (s := [.reg [(0, { v := some (.ds 21 (([] : List (T_api_Write))).length (rowF c_T_api_Write default ([] : List (T_api_Write)))) })], .reg [], .reg [(0, { os := [(0, .row 21 ([] : List (T_api_Write)).length (rowF c_T_api_Write default []) true)] }), (2, { app := 5, os := [(1, .gr 21 (s).length (rowF c_T_api_Write default s))], v := some (.gs 1 (s).length) })]])
    (a_ (a_ (a_ (a_ tr (a_ (le_nil_ds 21 (rowF c_T_api_Write default [])) tr)) tr) (a_ (r2_ tr) (a_ (a_ (a_ (a_ (Eq.refl true) (a_ (Eq.refl 21) (a_ (lt_ 0 21 rfl) (le_ 0 16777216 rfl)))) (a_ (sub_litr c_T_api_Write default 21 (fun _ => rfl) []) tr)) (r1_ (a_ (a_ (a_ (Eq.refl 21) (a_ (a_ (Eq.refl 21) (Nat.le_refl 0)) (a_ (Eq.refl 0) (a_ (a_ (lt_ 0 21 rfl) (a_ (lt_ 0 48 rfl) (a_ g2 (a_ (Eq.refl 21) (Eq.refl true))))) g1)))) (a_ (le_gs_app 1 [] s) (a_ (sub_appF c_T_api_Write default 21 [] s (fun q_ => rowF c_T_api_Write default ([] : List (T_api_Write)) (0 + q_)) (fun q hq => absurd hq (Nat.not_lt_zero q))) tr))) (r1_ tr)))) tr))) tr) (by as_aux_lemma => kernel_rfl) rfl

/-- (*parrel/stage.Stage).Writes -/

def stage_Stage_Writes_vA (r : (T_api_Reg) × (Bool)) : LV := .tup [.ds 21 (([] : List (T_api_Write))).length (rowF c_T_api_Write default ([] : List (T_api_Write))), v_T_api_Reg r.1, .bool r.2]

def stage_Stage_Writes_upA (all : List (T_api_Tx × T_stage_prepared)) (owners : List (A8 (Int) × T_api_Tx)) (t : T_api_Tx) (r : (T_api_Reg) × (Bool)) : Upd := [(0, some (.var [.map 1, .map 2])), (1, some (.map true [.int .u8, .int .u32, .int .u32] (encM v_T_api_Tx v_T_stage_prepared all))), (2, some (.map true [.int .u8, .int .u8, .int .u8, .int .u8, .int .u8, .int .u8, .int .u8, .int .u8] (encM (fun z_ : A8 (Int) => LV.agg [.int .u8 z_.a0, .int .u8 z_.a1, .int .u8 z_.a2, .int .u8 z_.a3, .int .u8 z_.a4, .int .u8 z_.a5, .int .u8 z_.a6, .int .u8 z_.a7]) v_T_api_Tx owners)))]

def stage_Stage_Writes_vB (r : (T_api_Reg) × (Bool) × (List (T_api_Write))) : LV := .tup [.gs 3 (r.2.2).length, v_T_api_Reg r.1, .bool r.2.1]

def stage_Stage_Writes_upB (all : List (T_api_Tx × T_stage_prepared)) (owners : List (A8 (Int) × T_api_Tx)) (t : T_api_Tx) (r : (T_api_Reg) × (Bool) × (List (T_api_Write))) : Upd := [(0, some (.var [.map 1, .map 2])), (1, some (.map true [.int .u8, .int .u32, .int .u32] (encM v_T_api_Tx v_T_stage_prepared all))), (2, some (.map true [.int .u8, .int .u8, .int .u8, .int .u8, .int .u8, .int .u8, .int .u8, .int .u8] (encM (fun z_ : A8 (Int) => LV.agg [.int .u8 z_.a0, .int .u8 z_.a1, .int .u8 z_.a2, .int .u8 z_.a3, .int .u8 z_.a4, .int .u8 z_.a5, .int .u8 z_.a6, .int .u8 z_.a7]) v_T_api_Tx owners))), (3, some (.gr 21 (r.2.2).length (rowF c_T_api_Write default r.2.2)))]

def stage_Stage_Writes_objs (all : List (T_api_Tx × T_stage_prepared)) (owners : List (A8 (Int) × T_api_Tx)) (t : T_api_Tx) : List LO := [.var [.map 1, .map 2], .map true [.int .u8, .int .u32, .int .u32] (encM v_T_api_Tx v_T_stage_prepared all), .map true [.int .u8, .int .u8, .int .u8, .int .u8, .int .u8, .int .u8, .int .u8, .int .u8] (encM (fun z_ : A8 (Int) => LV.agg [.int .u8 z_.a0, .int .u8 z_.a1, .int .u8 z_.a2, .int .u8 z_.a3, .int .u8 z_.a4, .int .u8 z_.a5, .int .u8 z_.a6, .int .u8 z_.a7]) v_T_api_Tx owners)]

def stage_Stage_Writes (all : List (T_api_Tx × T_stage_prepared)) (owners : List (A8 (Int) × T_api_Tx)) (t : T_api_Tx) : Option (Bool × ((T_api_Reg) × (Bool)) × ((T_api_Reg) × (Bool) × (List (T_api_Write)))) :=
  (stage_Stage_ok all owners).bind fun y2 =>
  if (((((mget all t).getD default).f_writes).length == 0) : Bool) then
    if (0 + (((mget all t).getD default).f_writes).length) * 48 ≤ 140737488351232 then
    some (true, (((mget all t).getD default).f_reg, ((mget all t).isSome)), default)
    else none
  else
    (slices_Clone_api_Write_api_Write_o ((mget all t).getD default).f_writes).bind fun y5 =>
    some (false, default, (((mget all t).getD default).f_reg, ((mget all t).isSome), y5))

theorem stage_Stage_Writes_okA (all : List (T_api_Tx × T_stage_prepared)) (owners : List (A8 (Int) × T_api_Tx)) (t : T_api_Tx) (r : (T_api_Reg) × (Bool)) (r_ : (T_api_Reg) × (Bool) × (List (T_api_Write))) (h : stage_Stage_Writes all owners t = some (true, r, r_)) : ∀ σ, Inj 3 σ → FnTri Tryd.prog 18 (renL σ [.ptr 0 0 0, v_T_api_Tx t]) (preOf σ 0 (stage_Stage_Writes_objs all owners t)) ((stage_Stage_Writes_vA r).ren σ) (upOf σ (stage_Stage_Writes_upA all owners t r)) := by
  refine fn_of Tryd.func18 (by kernel_rfl) (by kernel_rfl) (by kernel_rfl) ⟨rfl, trivial, trivial, trivial⟩ (by kernel_rfl) ⟨rfl, trivial, trivial, trivial⟩ (by kernel_rfl) ?_
  intro w0 W μ0 hμ
  unfold stage_Stage_Writes at h
  obtain ⟨y2, e1, h⟩ := bind_some h
  rcases itb_some h with ⟨c3, h⟩ | ⟨c3, h⟩
  · skip
    obtain ⟨g4, h⟩ := guard_some h
    have h := congrArg (fun z => z.2.1) (Option.some.inj h)
    dsimp only at h
    subst h
    exact run_ret mixed (L := []) (n := 24) (s := [.reg [(1, { v := some (.ds 21 (([] : List (T_api_Write))).length (rowF c_T_api_Write default ([] : List (T_api_Write)))) })], .reg [(1, { call := some ((stage_Stage_ok_v y2).ren (sel [0, 1, 2]), preOf (sel [0, 1, 2]) 0 (stage_Stage_ok_objs all owners), upOf (sel [0, 1, 2]) (stage_Stage_ok_up all owners y2)) })], .reg [(5, { look := ((mget all t).map v_T_stage_prepared), v := some (.tup [v_T_stage_prepared ((mget all t).getD default), .bool ((mget all t).isSome)]) })], .reg [(2, { v := some (.ds 21 (([] : List (T_api_Write))).length (rowF c_T_api_Write default ([] : List (T_api_Write)))), call := some (.ds 21 (((mget all t).getD default).f_writes).length (rowF c_T_api_Write default ((mget all t).getD default).f_writes), [], []) })]])
      (a_ (a_ (r1_ (a_ (a_ tr (a_ (le_nil_ds 21 (rowF c_T_api_Write default [])) tr)) (r2_ tr))) (a_ (r1_ (a_ (a_ (a_ (stage_Stage_ok_ok all owners y2 e1 (sel [0, 1, 2]) (sel_inj rfl rfl)) (a_ (LO.Le.refl (.var [.map 1, .map 2])) (a_ (LO.Le.refl (.map true [.int .u8, .int .u32, .int .u32] (encM v_T_api_Tx v_T_stage_prepared all))) (a_ (LO.Le.refl (.map true [.int .u8, .int .u8, .int .u8, .int .u8, .int .u8, .int .u8, .int .u8, .int .u8] (encM (fun z_ : A8 (Int) => LV.agg [.int .u8 z_.a0, .int .u8 z_.a1, .int .u8 z_.a2, .int .u8 z_.a3, .int .u8 z_.a4, .int .u8 z_.a5, .int .u8 z_.a6, .int .u8 z_.a7]) v_T_api_Tx owners))) tr)))) tr) (r1_ tr))) (a_ (r1_ (r2_ (a_ (a_ (a_ tr (lt_ 0 2 rfl)) tr) (a_ (a_ (a_ tr (le_ 3 3 rfl)) tr) (a_ (a_ (a_ (Eq.refl true) (findE_enc v_T_api_Tx v_T_stage_prepared k_T_api_Tx all t)) (a_ (le_lookok0 v_T_stage_prepared (mget all t) default (le_agg (l := [.int .u32 0, .int .u32 0, .nilsl]) (m := [.int .u32 (default : T_stage_prepared).f_reg.f_Boot, .int .u32 (default : T_stage_prepared).f_reg.f_N, .ds 21 ((default : T_stage_prepared).f_writes).length (rowF c_T_api_Write default (default : T_stage_prepared).f_writes)]) (a_ (LV.Le.refl (.int .u32 0)) (a_ (LV.Le.refl (.int .u32 0)) (a_ (le_nil_ds 21 (rowF c_T_api_Write default [])) tr))))) tr)) (r4_ (a_ (a_ (a_ (Eq.refl 3) (a_ (le_ 3 3 rfl) (Eq.refl 0))) tr) (r1_ tr)))))))) (a_ (r1_ (a_ (a_ (a_ tr (lt_ 2 3 rfl)) tr) (a_ (a_ (a_ (slices_Clone_api_Write_api_Write_c ((mget all t).getD default).f_writes g4) tr) (a_ (le_ds_nil c_T_api_Write default 21 ((mget all t).getD default).f_writes c3) tr)) (r1_ (a_ (a_ (a_ tr (le_ 2 3 rfl)) tr) (r2_ (a_ (a_ (a_ (Eq.refl 2) (a_ (le_ 2 2 rfl) (Eq.refl 0))) tr) (r1_ tr)))))))) tr)))) (a_ (a_ tr (le_ 2 2 rfl)) tr)) (by as_aux_lemma => kernel_rfl) rfl
  · skip
    obtain ⟨y5, e4, h⟩ := bind_some h
    cases h

theorem stage_Stage_Writes_okB (all : List (T_api_Tx × T_stage_prepared)) (owners : List (A8 (Int) × T_api_Tx)) (t : T_api_Tx) (r : (T_api_Reg) × (Bool) × (List (T_api_Write))) (r_ : (T_api_Reg) × (Bool)) (h : stage_Stage_Writes all owners t = some (false, r_, r)) : ∀ σ, Inj 4 σ → FnTri Tryd.prog 18 (renL σ [.ptr 0 0 0, v_T_api_Tx t]) (preOf σ 0 (stage_Stage_Writes_objs all owners t)) ((stage_Stage_Writes_vB r).ren σ) (upOf σ (stage_Stage_Writes_upB all owners t r)) := by
  refine fn_of Tryd.func18 (by kernel_rfl) (by kernel_rfl) (by kernel_rfl) ⟨rfl, trivial, trivial, trivial⟩ (by kernel_rfl) ⟨rfl, trivial, trivial, fun _ _ => rfl, trivial⟩ (by kernel_rfl) ?_
  intro w0 W μ0 hμ
  unfold stage_Stage_Writes at h
  obtain ⟨y2, e1, h⟩ := bind_some h
  rcases itb_some h with ⟨c3, h⟩ | ⟨c3, h⟩
  · skip
    obtain ⟨g4, h⟩ := guard_some h
    cases h
  · skip
    obtain ⟨y5, e4, h⟩ := bind_some h
    have h := congrArg (fun z => z.2.2) (Option.some.inj h)
    dsimp only at h
    subst h
    exact run_ret mixed (L := [6]) (n := 24) (s := [.reg [(1, { v := some (.ds 21 (([] : List (T_api_Write))).length (rowF c_T_api_Write default ([] : List (T_api_Write)))) })], .reg [(1, { call := some ((stage_Stage_ok_v y2).ren (sel [0, 1, 2]), preOf (sel [0, 1, 2]) 0 (stage_Stage_ok_objs all owners), upOf (sel [0, 1, 2]) (stage_Stage_ok_up all owners y2)) })], .reg [(5, { look := ((mget all t).map v_T_stage_prepared), v := some (.tup [v_T_stage_prepared ((mget all t).getD default), .bool ((mget all t).isSome)]) })], .reg [(2, { call := some ((slices_Clone_api_Write_api_Write_o_v y5).ren (sel [6]), preOf (sel [6]) 0 [], upOf (sel [6]) (slices_Clone_api_Write_api_Write_o_up ((mget all t).getD default).f_writes y5)) })]])
      (a_ (a_ (r1_ (a_ (a_ tr (a_ (le_nil_ds 21 (rowF c_T_api_Write default [])) tr)) (r2_ tr))) (a_ (r1_ (a_ (a_ (a_ (stage_Stage_ok_ok all owners y2 e1 (sel [0, 1, 2]) (sel_inj rfl rfl)) (a_ (LO.Le.refl (.var [.map 1, .map 2])) (a_ (LO.Le.refl (.map true [.int .u8, .int .u32, .int .u32] (encM v_T_api_Tx v_T_stage_prepared all))) (a_ (LO.Le.refl (.map true [.int .u8, .int .u8, .int .u8, .int .u8, .int .u8, .int .u8, .int .u8, .int .u8] (encM (fun z_ : A8 (Int) => LV.agg [.int .u8 z_.a0, .int .u8 z_.a1, .int .u8 z_.a2, .int .u8 z_.a3, .int .u8 z_.a4, .int .u8 z_.a5, .int .u8 z_.a6, .int .u8 z_.a7]) v_T_api_Tx owners))) tr)))) tr) (r1_ tr))) (a_ (r1_ (r2_ (a_ (a_ (a_ tr (lt_ 0 2 rfl)) tr) (a_ (a_ (a_ tr (le_ 3 3 rfl)) tr) (a_ (a_ (a_ (Eq.refl true) (findE_enc v_T_api_Tx v_T_stage_prepared k_T_api_Tx all t)) (a_ (le_lookok0 v_T_stage_prepared (mget all t) default (le_agg (l := [.int .u32 0, .int .u32 0, .nilsl]) (m := [.int .u32 (default : T_stage_prepared).f_reg.f_Boot, .int .u32 (default : T_stage_prepared).f_reg.f_N, .ds 21 ((default : T_stage_prepared).f_writes).length (rowF c_T_api_Write default (default : T_stage_prepared).f_writes)]) (a_ (LV.Le.refl (.int .u32 0)) (a_ (LV.Le.refl (.int .u32 0)) (a_ (le_nil_ds 21 (rowF c_T_api_Write default [])) tr))))) tr)) (r4_ (a_ (a_ (a_ (Eq.refl 3) (a_ (le_ 3 3 rfl) (Eq.refl 0))) tr) (r1_ tr)))))))) (a_ (r1_ (a_ (a_ (a_ tr (lt_ 2 3 rfl)) tr) (a_ (a_ (a_ (tri_dn_ds c3 (slices_Clone_api_Write_api_Write_o_ok ((mget all t).getD default).f_writes y5 e4 (sel [6]) (sel_inj rfl rfl))) tr) tr) (r1_ (a_ (a_ (a_ tr (le_ 2 3 rfl)) tr) (r2_ (a_ (a_ (a_ (Eq.refl 2) (a_ (le_ 2 2 rfl) (Eq.refl 0))) tr) (r1_ tr)))))))) tr)))) (a_ (a_ tr (le_ 2 2 rfl)) tr)) (by as_aux_lemma => kernel_rfl) rfl

/-- parrel/parrelref05.Same -/

def parrelref05_Same_v (r : (Bool)) : LV := .bool r

def parrelref05_Same_T0 (a : List (T_api_Tx)) (b : List (T_api_Tx)) (i : Int) : List LV := [.ds 3 (a).length (rowF c_T_api_Tx default a), .ds 3 (b).length (rowF c_T_api_Tx default b), .any, .any, .any, .int .i64 i, .any, .any, .any, .any, .any, .any, .any, .any, .any, .any, .any, .any, .any, .any, .any, .any, .any, .any, .any, .any]

def parrelref05_Same_H0 (a : List (T_api_Tx)) (b : List (T_api_Tx)) (i : Int) : Heap := []

def parrelref05_Same_l0 (a : List (T_api_Tx)) (b : List (T_api_Tx))  : Nat → (Int) → Option ((Bool))
  | 0, _ => none
  | fuel + 1, i =>
    if ((decide (i < ((a).length : Int))) : Bool) then
      if 0 ≤ i ∧ i < (((a).length : Nat) : Int) then
      if 0 ≤ i ∧ i < (((b).length : Nat) : Int) then
      if ((!decide ((a.getD i.toNat default) = (b.getD i.toNat default))) : Bool) then
        some false
      else
        parrelref05_Same_l0 a b  fuel (IntKind.wrap .i64 (i + 1))
      else none
      else none
    else
      some true

def parrelref05_Same (a : List (T_api_Tx)) (b : List (T_api_Tx)) : Option ((Bool)) :=
  if ((((a).length : Int) != ((b).length : Int)) : Bool) then
    some false
  else
    parrelref05_Same_l0 a b  big 0

theorem parrelref05_Same_l0_ok {w0 : World} {W : Nat → Prop} {μ0 : Emb} (hμ : ∀ c p, μ0 c = some p → c < 0) (a : List (T_api_Tx)) (b : List (T_api_Tx))  : ∀ (fuel : Nat) (i : Int) (r : (Bool)), parrelref05_Same_l0 a b  fuel i = some r → kont Tryd.prog w0 W μ0 (FnPost Tryd.prog Tryd.f20 0 0 (parrelref05_Same_v r) []) (kAt (bodyOf Tryd.f20) 0) none (parrelref05_Same_T0 a b i) (parrelref05_Same_H0 a b i) := by
  intro fuel
  induction fuel with
  | zero => intro i r h; rw [parrelref05_Same_l0] at h; cases h
  | succ fuel ih =>
    intro i r h
    rw [parrelref05_Same_l0] at h
    rcases itb_some h with ⟨cL0_1, h⟩ | ⟨cL0_1, h⟩
    · skip
      obtain ⟨gL0_2, h⟩ := guard_some h
      obtain ⟨gL0_3, h⟩ := guard_some h
      rcases itb_some h with ⟨cL0_4, h⟩ | ⟨cL0_4, h⟩
      · skip
        obtain rfl := Option.some.inj h
        exact run_ret mixed (L := []) (n := 25) (s := [.go, .reg [(3, { v := some (.bool true) })], .reg [(8, { v := some (.bool true) })], .reg []])
          (a_ (a_ (r1_ (r2_ (a_ (a_ tr (a_ (leB cL0_1) tr)) tr))) (a_ (r2_ (a_ (a_ (a_ (Eq.refl 3) gL0_2) tr) (a_ (a_ (le_ 3 3 rfl) tr) (r2_ (a_ (a_ (a_ (Eq.refl 3) gL0_3) tr) (a_ (a_ (le_ 3 3 rfl) tr) (a_ (a_ tr (a_ (LV.Le.trans (leB (congrArg not (k_T_api_Tx (a.getD i.toNat default) (b.getD i.toNat default)))) (leB cL0_4)) tr)) tr))))))) (a_ (r1_ tr) tr))) tr) (by as_aux_lemma => kernel_rfl) rfl
      · skip
        exact run_to mixed hμ (L := []) (n := 26) (s := [.go, .reg [(3, { v := some (.bool true) })], .reg [(8, { v := some (.bool false) })], .reg []])
          (a_ (r1_ (r2_ (a_ (a_ tr (a_ (leB cL0_1) tr)) tr))) (a_ (r2_ (a_ (a_ (a_ (Eq.refl 3) gL0_2) tr) (a_ (a_ (le_ 3 3 rfl) tr) (r2_ (a_ (a_ (a_ (Eq.refl 3) gL0_3) tr) (a_ (a_ (le_ 3 3 rfl) tr) (a_ (a_ tr (a_ (LV.Le.trans (leB (congrArg not (k_T_api_Tx (a.getD i.toNat default) (b.getD i.toNat default)))) (leB cL0_4)) tr)) tr))))))) (a_ (r1_ (r2_ tr)) tr))) (ih _ r h) (by as_aux_lemma => kernel_rfl) trivial
    · skip
      obtain rfl := Option.some.inj h
      exact run_ret mixed (L := []) (n := 19) (s := [.go, .reg [(3, { v := some (.bool false) })], .reg []])
        (a_ (a_ (r1_ (r2_ (a_ (a_ tr (a_ (leB cL0_1) tr)) tr))) (a_ (r1_ tr) tr)) tr) (by as_aux_lemma => kernel_rfl) rfl

theorem parrelref05_Same_ok (a : List (T_api_Tx)) (b : List (T_api_Tx)) (r : (Bool)) (h : parrelref05_Same a b = some r) : ∀ σ, Inj 0 σ → FnTri Tryd.prog 20 (renL σ [.ds 3 (a).length (rowF c_T_api_Tx default a), .ds 3 (b).length (rowF c_T_api_Tx default b)]) (preOf σ 0 []) ((parrelref05_Same_v r).ren σ) (upOf σ []) := by
  refine fn_of Tryd.func20 (by kernel_rfl) (by kernel_rfl) (by kernel_rfl) trivial (by kernel_rfl) trivial (by kernel_rfl) ?_
  intro w0 W μ0 hμ
  unfold parrelref05_Same at h
  rcases itb_some h with ⟨c1, h⟩ | ⟨c1, h⟩
  · skip
    obtain rfl := Option.some.inj h
    exact run_ret mixed (L := []) (n := 20) (s := [.reg [], .reg [(4, { v := some (.bool true) })], .reg []])
      (a_ (a_ (r1_ tr) (a_ (r4_ (a_ (a_ tr (a_ (leB c1) tr)) tr)) (a_ (r1_ tr) tr))) tr) (by as_aux_lemma => kernel_rfl) rfl
  · skip
    exact run_to mixed hμ (L := []) (n := 24) (s := [.reg [], .reg [(4, { v := some (.bool false) })], .reg []])
      (a_ (r1_ tr) (a_ (r4_ (a_ (a_ tr (a_ (leB c1) tr)) tr)) (a_ (r1_ tr) tr))) (parrelref05_Same_l0_ok hμ a b  big _ r h) (by as_aux_lemma => kernel_rfl) trivial

theorem parrelref05_Same_tri (a : List (T_api_Tx)) (b : List (T_api_Tx)) (r : (Bool)) (h : parrelref05_Same a b = some r) : FnTri Tryd.prog 20 [.ds 3 (a).length (rowF c_T_api_Tx default a), .ds 3 (b).length (rowF c_T_api_Tx default b)] [] (parrelref05_Same_v r) [] := FnTri.none (parrelref05_Same_ok a b r h) rfl rfl

/-- parrel/parrelref10.SameWrites -/

def parrelref10_SameWrites_2_v (r : (Bool)) : LV := .bool r

def parrelref10_SameWrites_2_up (a : List (T_api_Write)) (b : List (T_api_Write)) (r : (Bool)) : Upd := [(0, some (.gr 21 (a).length (rowF c_T_api_Write default a)))]

def parrelref10_SameWrites_2_objs (a : List (T_api_Write)) (b : List (T_api_Write)) : List LO := [.gr 21 (a).length (rowF c_T_api_Write default a)]

def parrelref10_SameWrites_2_T0 (a : List (T_api_Write)) (b : List (T_api_Write)) (i : Int) : List LV := [.gs 0 (a).length, .ds 21 (b).length (rowF c_T_api_Write default b), .any, .any, .any, .int .i64 i, .any, .any, .any, .any, .any, .any, .any, .any, .any, .any, .any, .any, .any, .any, .any, .any, .any, .any, .any, .any]

def parrelref10_SameWrites_2_H0 (a : List (T_api_Write)) (b : List (T_api_Write)) (i : Int) : Heap := [some (.gr 21 (a).length (rowF c_T_api_Write default a))]

def parrelref10_SameWrites_2_l0 (a : List (T_api_Write)) (b : List (T_api_Write))  : Nat → (Int) → Option ((Bool))
  | 0, _ => none
  | fuel + 1, i =>
    if ((decide (i < ((a).length : Int))) : Bool) then
      if 0 ≤ i ∧ i < (((a).length : Nat) : Int) then
      if 0 ≤ i ∧ i < (((b).length : Nat) : Int) then
      if ((!decide ((a.getD i.toNat default) = (b.getD i.toNat default))) : Bool) then
        some false
      else
        parrelref10_SameWrites_2_l0 a b  fuel (IntKind.wrap .i64 (i + 1))
      else none
      else none
    else
      some true

def parrelref10_SameWrites_2 (a : List (T_api_Write)) (b : List (T_api_Write)) : Option ((Bool)) :=
  if ((((a).length : Int) != ((b).length : Int)) : Bool) then
    some false
  else
    parrelref10_SameWrites_2_l0 a b  big 0

theorem parrelref10_SameWrites_2_l0_ok {w0 : World} {W : Nat → Prop} {μ0 : Emb} (hμ : ∀ c p, μ0 c = some p → c < 1) (a : List (T_api_Write)) (b : List (T_api_Write))  : ∀ (fuel : Nat) (i : Int) (r : (Bool)), parrelref10_SameWrites_2_l0 a b  fuel i = some r → kont Tryd.prog w0 W μ0 (FnPost Tryd.prog Tryd.f15 1 1 (parrelref10_SameWrites_2_v r) (parrelref10_SameWrites_2_up a b r)) (kAt (bodyOf Tryd.f15) 0) none (parrelref10_SameWrites_2_T0 a b i) (parrelref10_SameWrites_2_H0 a b i) := by
  intro fuel
  induction fuel with
  | zero => intro i r h; rw [parrelref10_SameWrites_2_l0] at h; cases h
  | succ fuel ih =>
    intro i r h
    rw [parrelref10_SameWrites_2_l0] at h
    rcases itb_some h with ⟨cL0_1, h⟩ | ⟨cL0_1, h⟩
    · skip
      obtain ⟨gL0_2, h⟩ := guard_some h
      obtain ⟨gL0_3, h⟩ := guard_some h
      rcases itb_some h with ⟨cL0_4, h⟩ | ⟨cL0_4, h⟩
      · skip
        obtain rfl := Option.some.inj h
        exact run_ret mixed (L := []) (n := 25) (s := [.go, .reg [(3, { v := some (.bool true) })], .reg [(8, { v := some (.bool true) })], .reg []])
          (a_ (a_ (r1_ (r2_ (a_ (a_ tr (a_ (leB cL0_1) tr)) tr))) (a_ (r2_ (a_ (a_ (a_ (Eq.refl 21) gL0_2) tr) (a_ (a_ (a_ (ltN gL0_2) (le_ 21 21 rfl)) tr) (r2_ (a_ (a_ (a_ (Eq.refl 21) gL0_3) tr) (a_ (a_ (le_ 21 21 rfl) tr) (a_ (a_ tr (a_ (LV.Le.trans (leB (congrArg not (k_T_api_Write (a.getD i.toNat default) (b.getD i.toNat default)))) (leB cL0_4)) tr)) tr))))))) (a_ (r1_ tr) tr))) tr) (by as_aux_lemma => kernel_rfl) rfl
      · skip
        exact run_to mixed hμ (L := []) (n := 26) (s := [.go, .reg [(3, { v := some (.bool true) })], .reg [(8, { v := some (.bool false) })], .reg []])
          (a_ (r1_ (r2_ (a_ (a_ tr (a_ (leB cL0_1) tr)) tr))) (a_ (r2_ (a_ (a_ (a_ (Eq.refl 21) gL0_2) tr) (a_ (a_ (a_ (ltN gL0_2) (le_ 21 21 rfl)) tr) (r2_ (a_ (a_ (a_ (Eq.refl 21) gL0_3) tr) (a_ (a_ (le_ 21 21 rfl) tr) (a_ (a_ tr (a_ (LV.Le.trans (leB (congrArg not (k_T_api_Write (a.getD i.toNat default) (b.getD i.toNat default)))) (leB cL0_4)) tr)) tr))))))) (a_ (r1_ (r2_ tr)) tr))) (ih _ r h) (by as_aux_lemma => kernel_rfl) ⟨fun _ _ => rfl, trivial⟩
    · skip
      obtain rfl := Option.some.inj h
      exact run_ret mixed (L := []) (n := 19) (s := [.go, .reg [(3, { v := some (.bool false) })], .reg []])
        (a_ (a_ (r1_ (r2_ (a_ (a_ tr (a_ (leB cL0_1) tr)) tr))) (a_ (r1_ tr) tr)) tr) (by as_aux_lemma => kernel_rfl) rfl

theorem parrelref10_SameWrites_2_ok (a : List (T_api_Write)) (b : List (T_api_Write)) (r : (Bool)) (h : parrelref10_SameWrites_2 a b = some r) : ∀ σ, Inj 1 σ → FnTri Tryd.prog 15 (renL σ [.gs 0 (a).length, .ds 21 (b).length (rowF c_T_api_Write default b)]) (preOf σ 0 (parrelref10_SameWrites_2_objs a b)) ((parrelref10_SameWrites_2_v r).ren σ) (upOf σ (parrelref10_SameWrites_2_up a b r)) := by
  refine fn_of Tryd.func15 (by kernel_rfl) (by kernel_rfl) (by kernel_rfl) ⟨fun _ _ => rfl, trivial⟩ (by kernel_rfl) ⟨fun _ _ => rfl, trivial⟩ (by kernel_rfl) ?_
  intro w0 W μ0 hμ
  unfold parrelref10_SameWrites_2 at h
  rcases itb_some h with ⟨c1, h⟩ | ⟨c1, h⟩
  · skip
    obtain rfl := Option.some.inj h
    exact run_ret mixed (L := []) (n := 20) (s := [.reg [], .reg [(4, { v := some (.bool true) })], .reg []])
      (a_ (a_ (r1_ tr) (a_ (r4_ (a_ (a_ tr (a_ (leB c1) tr)) tr)) (a_ (r1_ tr) tr))) tr) (by as_aux_lemma => kernel_rfl) rfl
  · skip
    exact run_to mixed hμ (L := []) (n := 24) (s := [.reg [], .reg [(4, { v := some (.bool false) })], .reg []])
      (a_ (r1_ tr) (a_ (r4_ (a_ (a_ tr (a_ (leB c1) tr)) tr)) (a_ (r1_ tr) tr))) (parrelref10_SameWrites_2_l0_ok hμ a b  big _ r h) (by as_aux_lemma => kernel_rfl) ⟨fun _ _ => rfl, trivial⟩

/-- (*parrel/stage.Stage).ok -/

def stage_Stage_ok_2_v (r : Unit) : LV := .bool false

def stage_Stage_ok_2  : Option (Unit) :=
  some ()

theorem stage_Stage_ok_2_ok  (r : Unit) (h : stage_Stage_ok_2  = some r) : ∀ σ, Inj 0 σ → FnTri Tryd.prog 24 (renL σ [.nilptr]) (preOf σ 0 []) ((stage_Stage_ok_2_v r).ren σ) (upOf σ []) := by
  refine fn_of Tryd.func24 (by kernel_rfl) (by kernel_rfl) (by kernel_rfl) trivial (by kernel_rfl) trivial (by kernel_rfl) ?_
  intro w0 W μ0 hμ
  unfold stage_Stage_ok_2 at h
  obtain rfl := Option.some.inj h
  exact run_ret mixed (L := []) (n := 15) (s := [.reg [], .reg []])
    (a_ (a_ (r1_ tr) (a_ (r1_ (r2_ (a_ tr (t4_ (r2_ tr))))) tr)) tr) (by as_aux_lemma => kernel_rfl) rfl

theorem stage_Stage_ok_2_tri  (r : Unit) (h : stage_Stage_ok_2  = some r) : FnTri Tryd.prog 24 [.nilptr] [] (stage_Stage_ok_2_v r) [] := FnTri.none (stage_Stage_ok_2_ok  r h) rfl rfl

/-- (*parrel/stage.Stage).Take -/

def stage_Stage_Take_2_v (r : Unit) : LV := .tup [.ds 21 (([] : List (T_api_Write))).length (rowF c_T_api_Write default ([] : List (T_api_Write))), .int .i64 2]

def stage_Stage_Take_2 (t : T_api_Tx) : Option (Unit) :=
  (stage_Stage_ok_2).bind fun y2 =>
  some ()

theorem stage_Stage_Take_2_ok (t : T_api_Tx) (r : Unit) (h : stage_Stage_Take_2 t = some r) : ∀ σ, Inj 0 σ → FnTri Tryd.prog 13 (renL σ [.nilptr, v_T_api_Tx t]) (preOf σ 0 []) ((stage_Stage_Take_2_v r).ren σ) (upOf σ []) := by
  refine fn_of Tryd.func13 (by kernel_rfl) (by kernel_rfl) (by kernel_rfl) trivial (by kernel_rfl) trivial (by kernel_rfl) ?_
  intro w0 W μ0 hμ
  unfold stage_Stage_Take_2 at h
  obtain ⟨y2, e1, h⟩ := bind_some h
  obtain rfl := Option.some.inj h
  exact run_ret mixed (L := []) (n := 20) (s := [.reg [(1, { v := some (.ds 21 (([] : List (T_api_Write))).length (rowF c_T_api_Write default ([] : List (T_api_Write)))) })], .reg [(1, { call := some (stage_Stage_ok_2_v y2, [], []) })], .reg [(0, { v := some (.ds 21 (([] : List (T_api_Write))).length (rowF c_T_api_Write default ([] : List (T_api_Write)))) })]])
    (a_ (a_ (r1_ (a_ (a_ tr (a_ (le_nil_ds 21 (rowF c_T_api_Write default [])) tr)) (r1_ tr))) (a_ (r1_ (a_ (a_ (a_ (stage_Stage_ok_2_tri  y2 e1) tr) tr) (r1_ tr))) (a_ (a_ (a_ tr (a_ (le_nil_ds 21 (rowF c_T_api_Write default [])) tr)) (r1_ tr)) tr))) tr) (by as_aux_lemma => kernel_rfl) rfl

theorem stage_Stage_Take_2_tri (t : T_api_Tx) (r : Unit) (h : stage_Stage_Take_2 t = some r) : FnTri Tryd.prog 13 [.nilptr, v_T_api_Tx t] [] (stage_Stage_Take_2_v r) [] := FnTri.none (stage_Stage_Take_2_ok t r h) rfl rfl

/-- (*parrel/stage.Stage).Writes -/

def stage_Stage_Writes_2_v (r : (T_api_Reg)) : LV := .tup [.ds 21 (([] : List (T_api_Write))).length (rowF c_T_api_Write default ([] : List (T_api_Write))), v_T_api_Reg r, .bool false]

def stage_Stage_Writes_2 (t : T_api_Tx) : Option ((T_api_Reg)) :=
  (stage_Stage_ok_2).bind fun y2 =>
  some (T_api_Reg.mk 0 0)

theorem stage_Stage_Writes_2_ok (t : T_api_Tx) (r : (T_api_Reg)) (h : stage_Stage_Writes_2 t = some r) : ∀ σ, Inj 0 σ → FnTri Tryd.prog 18 (renL σ [.nilptr, v_T_api_Tx t]) (preOf σ 0 []) ((stage_Stage_Writes_2_v r).ren σ) (upOf σ []) := by
  refine fn_of Tryd.func18 (by kernel_rfl) (by kernel_rfl) (by kernel_rfl) trivial (by kernel_rfl) trivial (by kernel_rfl) ?_
  intro w0 W μ0 hμ
  unfold stage_Stage_Writes_2 at h
  obtain ⟨y2, e1, h⟩ := bind_some h
  obtain rfl := Option.some.inj h
  exact run_ret mixed (L := []) (n := 20) (s := [.reg [(1, { v := some (.ds 21 (([] : List (T_api_Write))).length (rowF c_T_api_Write default ([] : List (T_api_Write)))) })], .reg [(1, { call := some (stage_Stage_ok_2_v y2, [], []) })], .reg [(1, { v := some (.ds 21 (([] : List (T_api_Write))).length (rowF c_T_api_Write default ([] : List (T_api_Write)))) })]])
    (a_ (a_ (r1_ (a_ (a_ tr (a_ (le_nil_ds 21 (rowF c_T_api_Write default [])) tr)) (r2_ tr))) (a_ (r1_ (a_ (a_ (a_ (stage_Stage_ok_2_tri  y2 e1) tr) tr) (r1_ tr))) (a_ (a_ (a_ (Eq.refl true) tr) (a_ (a_ tr (a_ (le_nil_ds 21 (rowF c_T_api_Write default [])) tr)) (a_ (a_ (a_ (Eq.refl 2) (a_ (le_ 2 2 rfl) (Eq.refl 0))) tr) (r1_ tr)))) tr))) (a_ (a_ tr (le_ 2 2 rfl)) tr)) (by as_aux_lemma => kernel_rfl) rfl

theorem stage_Stage_Writes_2_tri (t : T_api_Tx) (r : (T_api_Reg)) (h : stage_Stage_Writes_2 t = some r) : FnTri Tryd.prog 18 [.nilptr, v_T_api_Tx t] [] (stage_Stage_Writes_2_v r) [] := FnTri.none (stage_Stage_Writes_2_ok t r h) rfl rfl

/-- (*parrel/stage.Stage).Owner -/

def stage_Stage_Owner_2_v (r : (T_api_Tx)) : LV := .tup [v_T_api_Tx r, .bool false]

def stage_Stage_Owner_2 (x_k : A8 (Int)) : Option ((T_api_Tx)) :=
  (stage_Stage_ok_2).bind fun y2 =>
  some (T_api_Tx.mk 0 0 0)

theorem stage_Stage_Owner_2_ok (x_k : A8 (Int)) (r : (T_api_Tx)) (h : stage_Stage_Owner_2 x_k = some r) : ∀ σ, Inj 0 σ → FnTri Tryd.prog 14 (renL σ [.nilptr, .agg [.int .u8 x_k.a0, .int .u8 x_k.a1, .int .u8 x_k.a2, .int .u8 x_k.a3, .int .u8 x_k.a4, .int .u8 x_k.a5, .int .u8 x_k.a6, .int .u8 x_k.a7]]) (preOf σ 0 []) ((stage_Stage_Owner_2_v r).ren σ) (upOf σ []) := by
  refine fn_of Tryd.func14 (by kernel_rfl) (by kernel_rfl) (by kernel_rfl) trivial (by kernel_rfl) trivial (by kernel_rfl) ?_
  intro w0 W μ0 hμ
  unfold stage_Stage_Owner_2 at h
  obtain ⟨y2, e1, h⟩ := bind_some h
  obtain rfl := Option.some.inj h
  exact run_ret mixed (L := []) (n := 20) (s := [.reg [], .reg [(1, { call := some (stage_Stage_ok_2_v y2, [], []) })], .reg []])
    (a_ (a_ (r1_ (r2_ tr)) (a_ (r1_ (a_ (a_ (a_ (stage_Stage_ok_2_tri  y2 e1) tr) tr) (r1_ tr))) (a_ (a_ (a_ (Eq.refl true) tr) (a_ (a_ (a_ (Eq.refl 3) (a_ (le_ 3 3 rfl) (Eq.refl 0))) tr) (r1_ tr))) tr))) (a_ (a_ tr (le_ 3 3 rfl)) tr)) (by as_aux_lemma => kernel_rfl) rfl

theorem stage_Stage_Owner_2_tri (x_k : A8 (Int)) (r : (T_api_Tx)) (h : stage_Stage_Owner_2 x_k = some r) : FnTri Tryd.prog 14 [.nilptr, .agg [.int .u8 x_k.a0, .int .u8 x_k.a1, .int .u8 x_k.a2, .int .u8 x_k.a3, .int .u8 x_k.a4, .int .u8 x_k.a5, .int .u8 x_k.a6, .int .u8 x_k.a7]] [] (stage_Stage_Owner_2_v r) [] := FnTri.none (stage_Stage_Owner_2_ok x_k r h) rfl rfl

/-- (*parrel/stage.Stage).Put -/

def stage_Stage_Put_3_v (r : Unit) : LV := .int .i64 2

def stage_Stage_Put_3 (t : T_api_Tx) (g : T_api_Reg) (l : List (T_api_Write)) : Option (Unit) :=
  (stage_Stage_ok_2).bind fun y2 =>
  some ()

theorem stage_Stage_Put_3_ok (t : T_api_Tx) (g : T_api_Reg) (l : List (T_api_Write)) (r : Unit) (h : stage_Stage_Put_3 t g l = some r) : ∀ σ, Inj 0 σ → FnTri Tryd.prog 10 (renL σ [.nilptr, v_T_api_Tx t, v_T_api_Reg g, .ds 21 (l).length (rowF c_T_api_Write default l)]) (preOf σ 0 []) ((stage_Stage_Put_3_v r).ren σ) (upOf σ []) := by
  refine fn_of Tryd.func10 (by kernel_rfl) (by kernel_rfl) (by kernel_rfl) trivial (by kernel_rfl) trivial (by kernel_rfl) ?_
  intro w0 W μ0 hμ
  unfold stage_Stage_Put_3 at h
  obtain ⟨y2, e1, h⟩ := bind_some h
  obtain rfl := Option.some.inj h
  exact run_ret mixed (L := []) (n := 21) (s := [.reg [], .reg [(1, { call := some (stage_Stage_ok_2_v y2, [], []) })], .reg []])
    (a_ (a_ (r1_ (r2_ tr)) (a_ (r1_ (a_ (a_ (a_ (stage_Stage_ok_2_tri  y2 e1) tr) tr) (r2_ tr))) (a_ (r1_ tr) tr))) tr) (by as_aux_lemma => kernel_rfl) rfl

theorem stage_Stage_Put_3_tri (t : T_api_Tx) (g : T_api_Reg) (l : List (T_api_Write)) (r : Unit) (h : stage_Stage_Put_3 t g l = some r) : FnTri Tryd.prog 10 [.nilptr, v_T_api_Tx t, v_T_api_Reg g, .ds 21 (l).length (rowF c_T_api_Write default l)] [] (stage_Stage_Put_3_v r) [] := FnTri.none (stage_Stage_Put_3_ok t g l r h) rfl rfl

/-- (*parrel/stage.Stage).All -/

def stage_Stage_All_2_v (r : Unit) : LV := .ds 3 (([] : List (T_api_Tx))).length (rowF c_T_api_Tx default ([] : List (T_api_Tx)))

def stage_Stage_All_2  : Option (Unit) :=
  (stage_Stage_ok_2).bind fun y2 =>
  some ()

theorem stage_Stage_All_2_ok  (r : Unit) (h : stage_Stage_All_2  = some r) : ∀ σ, Inj 0 σ → FnTri Tryd.prog 11 (renL σ [.nilptr]) (preOf σ 0 []) ((stage_Stage_All_2_v r).ren σ) (upOf σ []) := by
  refine fn_of Tryd.func11 (by kernel_rfl) (by kernel_rfl) (by kernel_rfl) trivial (by kernel_rfl) trivial (by kernel_rfl) ?_
  intro w0 W μ0 hμ
  unfold stage_Stage_All_2 at h
  obtain ⟨y2, e1, h⟩ := bind_some h
  obtain rfl := Option.some.inj h
  exact run_ret mixed (L := []) (n := 20) (s := [.reg [(0, { v := some (.ds 3 (([] : List (T_api_Tx))).length (rowF c_T_api_Tx default ([] : List (T_api_Tx)))) })], .reg [(1, { call := some (stage_Stage_ok_2_v y2, [], []) })], .reg [(0, { v := some (.ds 3 (([] : List (T_api_Tx))).length (rowF c_T_api_Tx default ([] : List (T_api_Tx)))) })]])
    (a_ (a_ (a_ (a_ tr (a_ (le_nil_ds 3 (rowF c_T_api_Tx default [])) tr)) tr) (a_ (r1_ (a_ (a_ (a_ (stage_Stage_ok_2_tri  y2 e1) tr) tr) (r1_ tr))) (a_ (a_ (a_ tr (a_ (le_nil_ds 3 (rowF c_T_api_Tx default [])) tr)) tr) tr))) tr) (by as_aux_lemma => kernel_rfl) rfl

theorem stage_Stage_All_2_tri  (r : Unit) (h : stage_Stage_All_2  = some r) : FnTri Tryd.prog 11 [.nilptr] [] (stage_Stage_All_2_v r) [] := FnTri.none (stage_Stage_All_2_ok  r h) rfl rfl

/-- (*parrel/stage.Stage).ok -/

def stage_Stage_ok_3_v (r : Unit) : LV := .bool false

def stage_Stage_ok_3_up  (r : Unit) : Upd := [(0, some (.var [.nilmap, .nilmap]))]

def stage_Stage_ok_3_objs  : List LO := [.var [.nilmap, .nilmap]]

def stage_Stage_ok_3  : Option (Unit) :=
  some ()

theorem stage_Stage_ok_3_ok  (r : Unit) (h : stage_Stage_ok_3  = some r) : ∀ σ, Inj 1 σ → FnTri Tryd.prog 24 (renL σ [.ptr 0 0 0]) (preOf σ 0 (stage_Stage_ok_3_objs )) ((stage_Stage_ok_3_v r).ren σ) (upOf σ (stage_Stage_ok_3_up  r)) := by
  refine fn_of Tryd.func24 (by kernel_rfl) (by kernel_rfl) (by kernel_rfl) ⟨rfl, trivial⟩ (by kernel_rfl) ⟨rfl, trivial⟩ (by kernel_rfl) ?_
  intro w0 W μ0 hμ
  unfold stage_Stage_ok_3 at h
  obtain rfl := Option.some.inj h
  exact run_ret mixed (L := []) (n := 15) (s := [.reg [], .reg []])
    (a_ (a_ (r1_ tr) (a_ (r2_ (r4_ (a_ (a_ (a_ tr (lt_ 0 2 rfl)) tr) (r1_ (r2_ tr))))) tr)) tr) (by as_aux_lemma => kernel_rfl) rfl

/-- (*parrel/stage.Stage).Take -/

def stage_Stage_Take_3_v (r : Unit) : LV := .tup [.ds 21 (([] : List (T_api_Write))).length (rowF c_T_api_Write default ([] : List (T_api_Write))), .int .i64 2]

def stage_Stage_Take_3_up (t : T_api_Tx) (r : Unit) : Upd := [(0, some (.var [.nilmap, .nilmap]))]

def stage_Stage_Take_3_objs (t : T_api_Tx) : List LO := [.var [.nilmap, .nilmap]]

def stage_Stage_Take_3 (t : T_api_Tx) : Option (Unit) :=
  (stage_Stage_ok_3).bind fun y2 =>
  some ()

theorem stage_Stage_Take_3_ok (t : T_api_Tx) (r : Unit) (h : stage_Stage_Take_3 t = some r) : ∀ σ, Inj 1 σ → FnTri Tryd.prog 13 (renL σ [.ptr 0 0 0, v_T_api_Tx t]) (preOf σ 0 (stage_Stage_Take_3_objs t)) ((stage_Stage_Take_3_v r).ren σ) (upOf σ (stage_Stage_Take_3_up t r)) := by
  refine fn_of Tryd.func13 (by kernel_rfl) (by kernel_rfl) (by kernel_rfl) ⟨rfl, trivial⟩ (by kernel_rfl) ⟨rfl, trivial⟩ (by kernel_rfl) ?_
  intro w0 W μ0 hμ
  unfold stage_Stage_Take_3 at h
  obtain ⟨y2, e1, h⟩ := bind_some h
  obtain rfl := Option.some.inj h
  exact run_ret mixed (L := []) (n := 20) (s := [.reg [(1, { v := some (.ds 21 (([] : List (T_api_Write))).length (rowF c_T_api_Write default ([] : List (T_api_Write)))) })], .reg [(1, { call := some ((stage_Stage_ok_3_v y2).ren (sel [0]), preOf (sel [0]) 0 (stage_Stage_ok_3_objs ), upOf (sel [0]) (stage_Stage_ok_3_up  y2)) })], .reg [(0, { v := some (.ds 21 (([] : List (T_api_Write))).length (rowF c_T_api_Write default ([] : List (T_api_Write)))) })]])
    (a_ (a_ (r1_ (a_ (a_ tr (a_ (le_nil_ds 21 (rowF c_T_api_Write default [])) tr)) (r1_ tr))) (a_ (r1_ (a_ (a_ (a_ (stage_Stage_ok_3_ok  y2 e1 (sel [0]) (sel_inj rfl rfl)) (a_ (LO.Le.refl (.var [.nilmap, .nilmap])) tr)) tr) (r1_ tr))) (a_ (a_ (a_ tr (a_ (le_nil_ds 21 (rowF c_T_api_Write default [])) tr)) (r1_ tr)) tr))) tr) (by as_aux_lemma => kernel_rfl) rfl

/-- (*parrel/stage.Stage).Writes -/

def stage_Stage_Writes_3_v (r : (T_api_Reg)) : LV := .tup [.ds 21 (([] : List (T_api_Write))).length (rowF c_T_api_Write default ([] : List (T_api_Write))), v_T_api_Reg r, .bool false]

def stage_Stage_Writes_3_up (t : T_api_Tx) (r : (T_api_Reg)) : Upd := [(0, some (.var [.nilmap, .nilmap]))]

def stage_Stage_Writes_3_objs (t : T_api_Tx) : List LO := [.var [.nilmap, .nilmap]]

def stage_Stage_Writes_3 (t : T_api_Tx) : Option ((T_api_Reg)) :=
  (stage_Stage_ok_3).bind fun y2 =>
  some (T_api_Reg.mk 0 0)

theorem stage_Stage_Writes_3_ok (t : T_api_Tx) (r : (T_api_Reg)) (h : stage_Stage_Writes_3 t = some r) : ∀ σ, Inj 1 σ → FnTri Tryd.prog 18 (renL σ [.ptr 0 0 0, v_T_api_Tx t]) (preOf σ 0 (stage_Stage_Writes_3_objs t)) ((stage_Stage_Writes_3_v r).ren σ) (upOf σ (stage_Stage_Writes_3_up t r)) := by
  refine fn_of Tryd.func18 (by kernel_rfl) (by kernel_rfl) (by kernel_rfl) ⟨rfl, trivial⟩ (by kernel_rfl) ⟨rfl, trivial⟩ (by kernel_rfl) ?_
  intro w0 W μ0 hμ
  unfold stage_Stage_Writes_3 at h
  obtain ⟨y2, e1, h⟩ := bind_some h
  obtain rfl := Option.some.inj h
  exact run_ret mixed (L := []) (n := 20) (s := [.reg [(1, { v := some (.ds 21 (([] : List (T_api_Write))).length (rowF c_T_api_Write default ([] : List (T_api_Write)))) })], .reg [(1, { call := some ((stage_Stage_ok_3_v y2).ren (sel [0]), preOf (sel [0]) 0 (stage_Stage_ok_3_objs ), upOf (sel [0]) (stage_Stage_ok_3_up  y2)) })], .reg [(1, { v := some (.ds 21 (([] : List (T_api_Write))).length (rowF c_T_api_Write default ([] : List (T_api_Write)))) })]])
    (a_ (a_ (r1_ (a_ (a_ tr (a_ (le_nil_ds 21 (rowF c_T_api_Write default [])) tr)) (r2_ tr))) (a_ (r1_ (a_ (a_ (a_ (stage_Stage_ok_3_ok  y2 e1 (sel [0]) (sel_inj rfl rfl)) (a_ (LO.Le.refl (.var [.nilmap, .nilmap])) tr)) tr) (r1_ tr))) (a_ (a_ (a_ (Eq.refl true) tr) (a_ (a_ tr (a_ (le_nil_ds 21 (rowF c_T_api_Write default [])) tr)) (a_ (a_ (a_ (Eq.refl 2) (a_ (le_ 2 2 rfl) (Eq.refl 0))) tr) (r1_ tr)))) tr))) (a_ (a_ tr (le_ 2 2 rfl)) tr)) (by as_aux_lemma => kernel_rfl) rfl

/-- (*parrel/stage.Stage).Owner -/

def stage_Stage_Owner_3_v (r : (T_api_Tx)) : LV := .tup [v_T_api_Tx r, .bool false]

def stage_Stage_Owner_3_up (x_k : A8 (Int)) (r : (T_api_Tx)) : Upd := [(0, some (.var [.nilmap, .nilmap]))]

def stage_Stage_Owner_3_objs (x_k : A8 (Int)) : List LO := [.var [.nilmap, .nilmap]]

def stage_Stage_Owner_3 (x_k : A8 (Int)) : Option ((T_api_Tx)) :=
  (stage_Stage_ok_3).bind fun y2 =>
  some (T_api_Tx.mk 0 0 0)

theorem stage_Stage_Owner_3_ok (x_k : A8 (Int)) (r : (T_api_Tx)) (h : stage_Stage_Owner_3 x_k = some r) : ∀ σ, Inj 1 σ → FnTri Tryd.prog 14 (renL σ [.ptr 0 0 0, .agg [.int .u8 x_k.a0, .int .u8 x_k.a1, .int .u8 x_k.a2, .int .u8 x_k.a3, .int .u8 x_k.a4, .int .u8 x_k.a5, .int .u8 x_k.a6, .int .u8 x_k.a7]]) (preOf σ 0 (stage_Stage_Owner_3_objs x_k)) ((stage_Stage_Owner_3_v r).ren σ) (upOf σ (stage_Stage_Owner_3_up x_k r)) := by
  refine fn_of Tryd.func14 (by kernel_rfl) (by kernel_rfl) (by kernel_rfl) ⟨rfl, trivial⟩ (by kernel_rfl) ⟨rfl, trivial⟩ (by kernel_rfl) ?_
  intro w0 W μ0 hμ
  unfold stage_Stage_Owner_3 at h
  obtain ⟨y2, e1, h⟩ := bind_some h
  obtain rfl := Option.some.inj h
  exact run_ret mixed (L := []) (n := 20) (s := [.reg [], .reg [(1, { call := some ((stage_Stage_ok_3_v y2).ren (sel [0]), preOf (sel [0]) 0 (stage_Stage_ok_3_objs ), upOf (sel [0]) (stage_Stage_ok_3_up  y2)) })], .reg []])
    (a_ (a_ (r1_ (r2_ tr)) (a_ (r1_ (a_ (a_ (a_ (stage_Stage_ok_3_ok  y2 e1 (sel [0]) (sel_inj rfl rfl)) (a_ (LO.Le.refl (.var [.nilmap, .nilmap])) tr)) tr) (r1_ tr))) (a_ (a_ (a_ (Eq.refl true) tr) (a_ (a_ (a_ (Eq.refl 3) (a_ (le_ 3 3 rfl) (Eq.refl 0))) tr) (r1_ tr))) tr))) (a_ (a_ tr (le_ 3 3 rfl)) tr)) (by as_aux_lemma => kernel_rfl) rfl

/-- (*parrel/stage.Stage).Put -/

def stage_Stage_Put_4_v (r : Unit) : LV := .int .i64 2

def stage_Stage_Put_4_up (t : T_api_Tx) (g : T_api_Reg) (l : List (T_api_Write)) (r : Unit) : Upd := [(0, some (.var [.nilmap, .nilmap]))]

def stage_Stage_Put_4_objs (t : T_api_Tx) (g : T_api_Reg) (l : List (T_api_Write)) : List LO := [.var [.nilmap, .nilmap]]

def stage_Stage_Put_4 (t : T_api_Tx) (g : T_api_Reg) (l : List (T_api_Write)) : Option (Unit) :=
  (stage_Stage_ok_3).bind fun y2 =>
  some ()

theorem stage_Stage_Put_4_ok (t : T_api_Tx) (g : T_api_Reg) (l : List (T_api_Write)) (r : Unit) (h : stage_Stage_Put_4 t g l = some r) : ∀ σ, Inj 1 σ → FnTri Tryd.prog 10 (renL σ [.ptr 0 0 0, v_T_api_Tx t, v_T_api_Reg g, .ds 21 (l).length (rowF c_T_api_Write default l)]) (preOf σ 0 (stage_Stage_Put_4_objs t g l)) ((stage_Stage_Put_4_v r).ren σ) (upOf σ (stage_Stage_Put_4_up t g l r)) := by
  refine fn_of Tryd.func10 (by kernel_rfl) (by kernel_rfl) (by kernel_rfl) ⟨rfl, trivial⟩ (by kernel_rfl) ⟨rfl, trivial⟩ (by kernel_rfl) ?_
  intro w0 W μ0 hμ
  unfold stage_Stage_Put_4 at h
  obtain ⟨y2, e1, h⟩ := bind_some h
  obtain rfl := Option.some.inj h
  exact run_ret mixed (L := []) (n := 21) (s := [.reg [], .reg [(1, { call := some ((stage_Stage_ok_3_v y2).ren (sel [0]), preOf (sel [0]) 0 (stage_Stage_ok_3_objs ), upOf (sel [0]) (stage_Stage_ok_3_up  y2)) })], .reg []])
    (a_ (a_ (r1_ (r2_ tr)) (a_ (r1_ (a_ (a_ (a_ (stage_Stage_ok_3_ok  y2 e1 (sel [0]) (sel_inj rfl rfl)) (a_ (LO.Le.refl (.var [.nilmap, .nilmap])) tr)) tr) (r2_ tr))) (a_ (r1_ tr) tr))) tr) (by as_aux_lemma => kernel_rfl) rfl

/-- (*parrel/stage.Stage).All -/

def stage_Stage_All_3_v (r : Unit) : LV := .ds 3 (([] : List (T_api_Tx))).length (rowF c_T_api_Tx default ([] : List (T_api_Tx)))

def stage_Stage_All_3_up  (r : Unit) : Upd := [(0, some (.var [.nilmap, .nilmap]))]

def stage_Stage_All_3_objs  : List LO := [.var [.nilmap, .nilmap]]

def stage_Stage_All_3  : Option (Unit) :=
  (stage_Stage_ok_3).bind fun y2 =>
  some ()

theorem stage_Stage_All_3_ok  (r : Unit) (h : stage_Stage_All_3  = some r) : ∀ σ, Inj 1 σ → FnTri Tryd.prog 11 (renL σ [.ptr 0 0 0]) (preOf σ 0 (stage_Stage_All_3_objs )) ((stage_Stage_All_3_v r).ren σ) (upOf σ (stage_Stage_All_3_up  r)) := by
  refine fn_of Tryd.func11 (by kernel_rfl) (by kernel_rfl) (by kernel_rfl) ⟨rfl, trivial⟩ (by kernel_rfl) ⟨rfl, trivial⟩ (by kernel_rfl) ?_
  intro w0 W μ0 hμ
  unfold stage_Stage_All_3 at h
  obtain ⟨y2, e1, h⟩ := bind_some h
  obtain rfl := Option.some.inj h
  exact run_ret mixed (L := []) (n := 20) (s := [.reg [(0, { v := some (.ds 3 (([] : List (T_api_Tx))).length (rowF c_T_api_Tx default ([] : List (T_api_Tx)))) })], .reg [(1, { call := some ((stage_Stage_ok_3_v y2).ren (sel [0]), preOf (sel [0]) 0 (stage_Stage_ok_3_objs ), upOf (sel [0]) (stage_Stage_ok_3_up  y2)) })], .reg [(0, { v := some (.ds 3 (([] : List (T_api_Tx))).length (rowF c_T_api_Tx default ([] : List (T_api_Tx)))) })]])
    (a_ (a_ (a_ (a_ tr (a_ (le_nil_ds 3 (rowF c_T_api_Tx default [])) tr)) tr) (a_ (r1_ (a_ (a_ (a_ (stage_Stage_ok_3_ok  y2 e1 (sel [0]) (sel_inj rfl rfl)) (a_ (LO.Le.refl (.var [.nilmap, .nilmap])) tr)) tr) (r1_ tr))) (a_ (a_ (a_ tr (a_ (le_nil_ds 3 (rowF c_T_api_Tx default [])) tr)) tr) tr))) tr) (by as_aux_lemma => kernel_rfl) rfl

end
end Go.Proofs.YtfjdnnoflmpdeaaDoor.Wk
