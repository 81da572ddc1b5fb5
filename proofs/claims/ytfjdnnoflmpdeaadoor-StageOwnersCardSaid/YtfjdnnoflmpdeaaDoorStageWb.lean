/- Printed by tr.py: Go functions as Lean functions, with the proofs that they walk so. -/
import Derived.Test.YtfjdnnoflmpdeaaDoorStageWa
namespace Go.Proofs.YtfjdnnoflmpdeaaDoor.Wk
open Go Go.Cn Go.RowKit
set_option maxRecDepth 100000
set_option maxHeartbeats 4000000
set_option linter.unusedVariables false
set_option linter.unusedSimpArgs false
noncomputable section
/-- parrel/parrellaw14.StageBack -/

def parrellaw14_StageBack_v (r : (Bool)) : LV := .bool r

def parrellaw14_StageBack_T1 (one : T_parrellaw14_Act) (yL0_3 : (List (T_api_Write)) × (Int) × (List (T_api_Tx × T_stage_prepared)) × (List (A8 (Int) × T_api_Tx))) (t86 : Int) : List LV := [.any, .any, .ptr 0 0 0, .any, .any, .ptr 1 0 0, .any, .any, .ds 21 (yL0_3.1).length (rowF c_T_api_Write default yL0_3.1), .int .i64 yL0_3.2.1, .any, .any, .any, .any, .any, .any, .any, .any, .any, .any, .any, .any, .any, .any, .any, .any, .any, .any, .any, .any, .any, .any, .any, .any, .any, .any, .any, .any, .any, .any, .any, .any, .any, .any, .any, .any, .any, .any, .any, .any, .any, .any, .any, .any, .any, .any, .any, .any, .any, .any, .any, .any, .any, .any, .any, .any, .any, .any, .any, .any, .any, .any, .any, .any, .any, .any, .any, .any, .any, .any, .any, .any, .any, .any, .ds 21 (one.f_Writes).length (rowF c_T_api_Write default one.f_Writes), .int .i64 ((one.f_Writes).length : Int), .int .i64 t86, .any, .any, .any, .any, .any, .any, .any, .any, .any, .any, .any, .any, .any, .any, .any, .any, .any, .any, .any, .any, .any, .any, .any, .any, .any, .any, .any, .any, .any, .any, .any, .any, .any, .any]

def parrellaw14_StageBack_H1 (one : T_parrellaw14_Act) (yL0_3 : (List (T_api_Write)) × (Int) × (List (T_api_Tx × T_stage_prepared)) × (List (A8 (Int) × T_api_Tx))) (t86 : Int) : Heap := [some (.var (c_T_parrellaw14_Act one)), some (.var [.map 2, .map 3]), some (.map true [.int .u8, .int .u32, .int .u32] (encM v_T_api_Tx v_T_stage_prepared yL0_3.2.2.1)), some (.map true [.int .u8, .int .u8, .int .u8, .int .u8, .int .u8, .int .u8, .int .u8, .int .u8] (encM (fun z_ : A8 (Int) => LV.agg [.int .u8 z_.a0, .int .u8 z_.a1, .int .u8 z_.a2, .int .u8 z_.a3, .int .u8 z_.a4, .int .u8 z_.a5, .int .u8 z_.a6, .int .u8 z_.a7]) v_T_api_Tx yL0_3.2.2.2))]

def parrellaw14_StageBack_T0 (one : T_parrellaw14_Act) (y13 : (List (T_parrellaw14_Act))) (t52 : Int) (m : List (T_api_Tx × T_stage_prepared)) (m2 : List (A8 (Int) × T_api_Tx)) : List LV := [.any, .any, .ptr 0 0 0, .any, .any, .ptr 1 0 0, .any, .any, .any, .any, .any, .any, .any, .any, .any, .any, .any, .any, .any, .any, .any, .any, .any, .any, .any, .any, .any, .any, .any, .any, .any, .any, .any, .any, .any, .any, .any, .any, .any, .any, .any, .any, .any, .any, .any, .any, .any, .any, .any, .any, .ds 7 (y13).length (rowF c_T_parrellaw14_Act default y13), .int .i64 ((y13).length : Int), .int .i64 t52, .any, .any, .any, .any, .any, .any, .any, .any, .any, .any, .any, .any, .any, .any, .any, .any, .any, .any, .any, .any, .any, .any, .any, .any, .any, .any, .any, .any, .any, .any, .any, .any, .any, .any, .any, .any, .any, .any, .any, .any, .any, .any, .any, .any, .any, .any, .any, .any, .any, .any, .any, .any, .any, .any, .any, .any, .any, .any, .any, .any, .any, .any, .any, .any, .any, .any, .any, .any]

def parrellaw14_StageBack_H0 (one : T_parrellaw14_Act) (y13 : (List (T_parrellaw14_Act))) (t52 : Int) (m : List (T_api_Tx × T_stage_prepared)) (m2 : List (A8 (Int) × T_api_Tx)) : Heap := [some (.var (c_T_parrellaw14_Act one)), some (.var [.map 2, .map 3]), some (.map true [.int .u8, .int .u32, .int .u32] (encM v_T_api_Tx v_T_stage_prepared m)), some (.map true [.int .u8, .int .u8, .int .u8, .int .u8, .int .u8, .int .u8, .int .u8, .int .u8] (encM (fun z_ : A8 (Int) => LV.agg [.int .u8 z_.a0, .int .u8 z_.a1, .int .u8 z_.a2, .int .u8 z_.a3, .int .u8 z_.a4, .int .u8 z_.a5, .int .u8 z_.a6, .int .u8 z_.a7]) v_T_api_Tx m2))]

def parrellaw14_StageBack_l1 (one : T_parrellaw14_Act) (yL0_3 : (List (T_api_Write)) × (Int) × (List (T_api_Tx × T_stage_prepared)) × (List (A8 (Int) × T_api_Tx)))  : Nat → (Int) → Option ((Bool))
  | 0, _ => none
  | fuel + 1, t86 =>
    if ((decide (t86 < ((one.f_Writes).length : Int))) : Bool) then
      if 0 ≤ t86 ∧ t86 < (((one.f_Writes).length : Nat) : Int) then
      (stage_Stage_Owner yL0_3.2.2.1 yL0_3.2.2.2 (one.f_Writes.getD t86.toNat default).f_Key).bind fun yL1_4 =>
      if (yL1_4.2 : Bool) then
        some false
      else
        parrellaw14_StageBack_l1 one yL0_3  fuel (IntKind.wrap .i64 (t86 + 1))
      else none
    else
      (stage_Stage_Take yL0_3.2.2.1 yL0_3.2.2.2 one.f_Tx).bind fun yL1_3 =>
      (parrelref10_SameWrites yL0_3.1 one.f_Writes).bind fun yL1_5 =>
      if (yL1_5 : Bool) then
        if ((yL0_3.2.1 == 0) : Bool) then
          if ((yL1_3.2.1 == 6) : Bool) then
            (parrellaw14_alive).bind fun yL1_10 =>
            some yL1_10
          else
            some false
        else
          some false
      else
        some false

def parrellaw14_StageBack_l0 (one : T_parrellaw14_Act) (y13 : (List (T_parrellaw14_Act)))  : Nat → (Int) → (List (T_api_Tx × T_stage_prepared)) → (List (A8 (Int) × T_api_Tx)) → Option ((Bool))
  | 0, _, _, _ => none
  | fuel + 1, t52, m, m2 =>
    if ((decide (t52 < ((y13).length : Int))) : Bool) then
      if 0 ≤ t52 ∧ t52 < (((y13).length : Nat) : Int) then
      if ((decide ((y13.getD t52.toNat default).f_Tx = one.f_Tx)) : Bool) then
        parrellaw14_StageBack_l0 one y13  fuel (IntKind.wrap .i64 (t52 + 1)) m m2
      else
        if ((y13.getD t52.toNat default).f_Take : Bool) then
          (stage_Stage_Take m m2 (y13.getD t52.toNat default).f_Tx).bind fun yL0_6 =>
          parrellaw14_StageBack_l0 one y13  fuel (IntKind.wrap .i64 (t52 + 1)) yL0_6.2.2.1 yL0_6.2.2.2
        else
          (stage_Stage_Put m m2 (y13.getD t52.toNat default).f_Tx (y13.getD t52.toNat default).f_Reg (y13.getD t52.toNat default).f_Writes).bind fun yL0_6 =>
          parrellaw14_StageBack_l0 one y13  fuel (IntKind.wrap .i64 (t52 + 1)) yL0_6.2.1 yL0_6.2.2
      else none
    else
      (stage_Stage_Take m m2 one.f_Tx).bind fun yL0_3 =>
      parrellaw14_StageBack_l1 one yL0_3  big 0

def parrellaw14_StageBack (one : T_parrellaw14_Act) (script : List (T_parrellaw14_Act)) : Option ((Bool)) :=
  (stage_New).bind fun y2 =>
  (parrellaw14_far script).bind fun y4 =>
  if (y4 : Bool) then
    (parrellaw14_alive).bind fun y7 =>
    some y7
  else
    (parrellaw14_far ([one])).bind fun y7 =>
    if (y7 : Bool) then
      (parrellaw14_alive).bind fun y10 =>
      some y10
    else
      (stage_Stage_Put y2.1 y2.2 one.f_Tx one.f_Reg one.f_Writes).bind fun y10 =>
      if ((y10.1 != 0) : Bool) then
        (stage_Stage_All y10.2.1 y10.2.2).bind fun y13 =>
        if ((((y13).length : Int) == 0) : Bool) then
          (parrellaw14_alive).bind fun y16 =>
          some y16
        else
          some false
      else
        (parrellaw14_short script).bind fun y13 =>
        parrellaw14_StageBack_l0 one y13  big 0 y10.2.1 y10.2.2

theorem parrellaw14_StageBack_l1_ok {w0 : World} {W : Nat → Prop} {μ0 : Emb} (hμ : ∀ c p, μ0 c = some p → c < 0) (one : T_parrellaw14_Act) (yL0_3 : (List (T_api_Write)) × (Int) × (List (T_api_Tx × T_stage_prepared)) × (List (A8 (Int) × T_api_Tx)))  : ∀ (fuel : Nat) (t86 : Int) (r : (Bool)), parrellaw14_StageBack_l1 one yL0_3  fuel t86 = some r → kont Tryd.prog w0 W μ0 (FnPost Tryd.prog Tryd.f3 0 0 (parrellaw14_StageBack_v r) []) (kAt (bodyOf Tryd.f3) 1) none (parrellaw14_StageBack_T1 one yL0_3 t86) (parrellaw14_StageBack_H1 one yL0_3 t86) := by
  intro fuel
  induction fuel with
  | zero => intro t86 r h; rw [parrellaw14_StageBack_l1] at h; cases h
  | succ fuel ih =>
    intro t86 r h
    rw [parrellaw14_StageBack_l1] at h
    rcases itb_some h with ⟨cL1_1, h⟩ | ⟨cL1_1, h⟩
    · skip
      obtain ⟨gL1_2, h⟩ := guard_some h
      obtain ⟨yL1_4, eL1_3, h⟩ := bind_some h
      rcases itb_some h with ⟨cL1_5, h⟩ | ⟨cL1_5, h⟩
      · skip
        obtain rfl := Option.some.inj h
        exact run_ret mixed (L := []) (n := 31) (s := [.go, .reg [(0, { v := some (.bool true) })], .reg [], .reg [(3, { call := some ((stage_Stage_Owner_v yL1_4).ren (sel [1, 2, 3]), preOf (sel [1, 2, 3]) 0 (stage_Stage_Owner_objs yL0_3.2.2.1 yL0_3.2.2.2 (one.f_Writes.getD t86.toNat default).f_Key), upOf (sel [1, 2, 3]) (stage_Stage_Owner_up yL0_3.2.2.1 yL0_3.2.2.2 (one.f_Writes.getD t86.toNat default).f_Key yL1_4)) })], .reg [(0, { v := some (.bool true) })], .reg []])
          (a_ (a_ (a_ (a_ tr (a_ (leB cL1_1) tr)) tr) (a_ (a_ (a_ (a_ (Eq.refl 21) gL1_2) tr) (a_ (a_ (le_ 21 21 rfl) tr) (a_ (a_ tr tr) (a_ (a_ (a_ (Eq.refl 21) (a_ (le_ 21 21 rfl) (Eq.refl 0))) tr) tr)))) (a_ (a_ (a_ tr tr) (a_ (a_ tr tr) (a_ (a_ (a_ tr (le_ 8 21 rfl)) tr) (a_ (a_ (a_ (stage_Stage_Owner_ok yL0_3.2.2.1 yL0_3.2.2.2 (one.f_Writes.getD t86.toNat default).f_Key yL1_4 eL1_3 (sel [1, 2, 3]) (sel_inj rfl rfl)) (a_ (LO.Le.refl (.var [.map 2, .map 3])) (a_ (LO.Le.refl (.map true [.int .u8, .int .u32, .int .u32] (encM v_T_api_Tx v_T_stage_prepared yL0_3.2.2.1))) (a_ (LO.Le.refl (.map true [.int .u8, .int .u8, .int .u8, .int .u8, .int .u8, .int .u8, .int .u8, .int .u8] (encM (fun z_ : A8 (Int) => LV.agg [.int .u8 z_.a0, .int .u8 z_.a1, .int .u8 z_.a2, .int .u8 z_.a3, .int .u8 z_.a4, .int .u8 z_.a5, .int .u8 z_.a6, .int .u8 z_.a7]) v_T_api_Tx yL0_3.2.2.2))) tr)))) tr) (a_ (a_ tr tr) (a_ (a_ tr tr) (a_ (a_ tr tr) (a_ (a_ tr tr) (a_ (a_ (a_ (Eq.refl 3) (a_ (le_ 3 3 rfl) (Eq.refl 0))) tr) (a_ (a_ tr tr) tr)))))))))) (a_ (a_ (a_ tr (a_ (leB cL1_5) tr)) tr) (a_ (a_ (a_ tr tr) tr) tr))))) tr) (by kernel_rfl) rfl
      · skip
        exact run_to mixed hμ (L := [0, 1, 2, 3]) (n := 32) (s := [.go, .reg [(0, { v := some (.bool true) })], .reg [], .reg [(3, { call := some ((stage_Stage_Owner_v yL1_4).ren (sel [1, 2, 3]), preOf (sel [1, 2, 3]) 0 (stage_Stage_Owner_objs yL0_3.2.2.1 yL0_3.2.2.2 (one.f_Writes.getD t86.toNat default).f_Key), upOf (sel [1, 2, 3]) (stage_Stage_Owner_up yL0_3.2.2.1 yL0_3.2.2.2 (one.f_Writes.getD t86.toNat default).f_Key yL1_4)) })], .reg [(0, { v := some (.bool false) })], .reg []])
          (a_ (a_ (a_ tr (a_ (leB cL1_1) tr)) tr) (a_ (a_ (a_ (a_ (Eq.refl 21) gL1_2) tr) (a_ (a_ (le_ 21 21 rfl) tr) (a_ (a_ tr tr) (a_ (a_ (a_ (Eq.refl 21) (a_ (le_ 21 21 rfl) (Eq.refl 0))) tr) tr)))) (a_ (a_ (a_ tr tr) (a_ (a_ tr tr) (a_ (a_ (a_ tr (le_ 8 21 rfl)) tr) (a_ (a_ (a_ (stage_Stage_Owner_ok yL0_3.2.2.1 yL0_3.2.2.2 (one.f_Writes.getD t86.toNat default).f_Key yL1_4 eL1_3 (sel [1, 2, 3]) (sel_inj rfl rfl)) (a_ (LO.Le.refl (.var [.map 2, .map 3])) (a_ (LO.Le.refl (.map true [.int .u8, .int .u32, .int .u32] (encM v_T_api_Tx v_T_stage_prepared yL0_3.2.2.1))) (a_ (LO.Le.refl (.map true [.int .u8, .int .u8, .int .u8, .int .u8, .int .u8, .int .u8, .int .u8, .int .u8] (encM (fun z_ : A8 (Int) => LV.agg [.int .u8 z_.a0, .int .u8 z_.a1, .int .u8 z_.a2, .int .u8 z_.a3, .int .u8 z_.a4, .int .u8 z_.a5, .int .u8 z_.a6, .int .u8 z_.a7]) v_T_api_Tx yL0_3.2.2.2))) tr)))) tr) (a_ (a_ tr tr) (a_ (a_ tr tr) (a_ (a_ tr tr) (a_ (a_ tr tr) (a_ (a_ (a_ (Eq.refl 3) (a_ (le_ 3 3 rfl) (Eq.refl 0))) tr) (a_ (a_ tr tr) tr)))))))))) (a_ (a_ (a_ tr (a_ (leB cL1_5) tr)) tr) (a_ (a_ (a_ tr tr) (a_ (a_ tr tr) tr)) tr))))) (ih _ r h) (by kernel_rfl) ⟨rfl, rfl, trivial, trivial, trivial⟩
    · skip
      obtain ⟨yL1_3, eL1_2, h⟩ := bind_some h
      obtain ⟨yL1_5, eL1_4, h⟩ := bind_some h
      rcases itb_some h with ⟨cL1_6, h⟩ | ⟨cL1_6, h⟩
      · skip
        rcases itb_some h with ⟨cL1_7, h⟩ | ⟨cL1_7, h⟩
        · skip
          rcases itb_some h with ⟨cL1_8, h⟩ | ⟨cL1_8, h⟩
          · skip
            obtain ⟨yL1_10, eL1_9, h⟩ := bind_some h
            obtain rfl := Option.some.inj h
            exact run_ret mixed (L := []) (n := 22) (s := [.go, .reg [(0, { v := some (.bool false) })], .reg [(3, { call := some ((stage_Stage_Take_v yL1_3).ren (sel [1, 2, 3]), preOf (sel [1, 2, 3]) 0 (stage_Stage_Take_objs yL0_3.2.2.1 yL0_3.2.2.2 one.f_Tx), upOf (sel [1, 2, 3]) (stage_Stage_Take_up yL0_3.2.2.1 yL0_3.2.2.2 one.f_Tx yL1_3)) })], .reg [(3, { call := some (parrelref10_SameWrites_v yL1_5, [], []) }), (4, { v := some (.bool true) }), (8, { v := some (.bool true) }), (12, { v := some (.bool true) }), (13, { call := some (parrellaw14_alive_v yL1_10, [], []) })]])
              (a_ (a_ (a_ (a_ tr (a_ (leB cL1_1) tr)) tr) (a_ (a_ (a_ tr tr) (a_ (a_ tr tr) (a_ (a_ (a_ tr (le_ 4 7 rfl)) tr) (a_ (a_ (a_ (stage_Stage_Take_ok yL0_3.2.2.1 yL0_3.2.2.2 one.f_Tx yL1_3 eL1_2 (sel [1, 2, 3]) (sel_inj rfl rfl)) (a_ (LO.Le.refl (.var [.map 2, .map 3])) (a_ (LO.Le.refl (.map true [.int .u8, .int .u32, .int .u32] (encM v_T_api_Tx v_T_stage_prepared yL0_3.2.2.1))) (a_ (LO.Le.refl (.map true [.int .u8, .int .u8, .int .u8, .int .u8, .int .u8, .int .u8, .int .u8, .int .u8] (encM (fun z_ : A8 (Int) => LV.agg [.int .u8 z_.a0, .int .u8 z_.a1, .int .u8 z_.a2, .int .u8 z_.a3, .int .u8 z_.a4, .int .u8 z_.a5, .int .u8 z_.a6, .int .u8 z_.a7]) v_T_api_Tx yL0_3.2.2.2))) tr)))) tr) (a_ (a_ tr tr) (a_ (a_ tr tr) (a_ (a_ tr tr) (a_ (a_ tr tr) (a_ (a_ tr tr) tr))))))))) (a_ (a_ (a_ tr tr) (a_ (a_ tr tr) (a_ (a_ (a_ tr (lt_ 6 7 rfl)) tr) (a_ (a_ (a_ (parrelref10_SameWrites_tri yL0_3.1 one.f_Writes yL1_5 eL1_4) tr) tr) (a_ (a_ tr (a_ (leB cL1_6) tr)) (a_ (a_ tr tr) (a_ (a_ tr tr) (a_ (a_ tr tr) (a_ (a_ tr (a_ (leB cL1_7) tr)) (a_ (a_ tr tr) (a_ (a_ tr tr) (a_ (a_ tr tr) (a_ (a_ tr (a_ (leB cL1_8) tr)) (a_ (a_ (a_ (parrellaw14_alive_tri  yL1_10 eL1_9) tr) tr) (a_ (a_ tr tr) (a_ (a_ tr tr) tr)))))))))))))))) tr))) tr) (by kernel_rfl) rfl
          · skip
            obtain rfl := Option.some.inj h
            exact run_ret mixed (L := []) (n := 22) (s := [.go, .reg [(0, { v := some (.bool false) })], .reg [(3, { call := some ((stage_Stage_Take_v yL1_3).ren (sel [1, 2, 3]), preOf (sel [1, 2, 3]) 0 (stage_Stage_Take_objs yL0_3.2.2.1 yL0_3.2.2.2 one.f_Tx), upOf (sel [1, 2, 3]) (stage_Stage_Take_up yL0_3.2.2.1 yL0_3.2.2.2 one.f_Tx yL1_3)) })], .reg [(3, { call := some (parrelref10_SameWrites_v yL1_5, [], []) }), (4, { v := some (.bool true) }), (8, { v := some (.bool true) }), (12, { v := some (.bool false) })]])
              (a_ (a_ (a_ (a_ tr (a_ (leB cL1_1) tr)) tr) (a_ (a_ (a_ tr tr) (a_ (a_ tr tr) (a_ (a_ (a_ tr (le_ 4 7 rfl)) tr) (a_ (a_ (a_ (stage_Stage_Take_ok yL0_3.2.2.1 yL0_3.2.2.2 one.f_Tx yL1_3 eL1_2 (sel [1, 2, 3]) (sel_inj rfl rfl)) (a_ (LO.Le.refl (.var [.map 2, .map 3])) (a_ (LO.Le.refl (.map true [.int .u8, .int .u32, .int .u32] (encM v_T_api_Tx v_T_stage_prepared yL0_3.2.2.1))) (a_ (LO.Le.refl (.map true [.int .u8, .int .u8, .int .u8, .int .u8, .int .u8, .int .u8, .int .u8, .int .u8] (encM (fun z_ : A8 (Int) => LV.agg [.int .u8 z_.a0, .int .u8 z_.a1, .int .u8 z_.a2, .int .u8 z_.a3, .int .u8 z_.a4, .int .u8 z_.a5, .int .u8 z_.a6, .int .u8 z_.a7]) v_T_api_Tx yL0_3.2.2.2))) tr)))) tr) (a_ (a_ tr tr) (a_ (a_ tr tr) (a_ (a_ tr tr) (a_ (a_ tr tr) (a_ (a_ tr tr) tr))))))))) (a_ (a_ (a_ tr tr) (a_ (a_ tr tr) (a_ (a_ (a_ tr (lt_ 6 7 rfl)) tr) (a_ (a_ (a_ (parrelref10_SameWrites_tri yL0_3.1 one.f_Writes yL1_5 eL1_4) tr) tr) (a_ (a_ tr (a_ (leB cL1_6) tr)) (a_ (a_ tr tr) (a_ (a_ tr tr) (a_ (a_ tr tr) (a_ (a_ tr (a_ (leB cL1_7) tr)) (a_ (a_ tr tr) (a_ (a_ tr tr) (a_ (a_ tr tr) (a_ (a_ tr (a_ (leB cL1_8) tr)) (a_ tr (a_ (a_ tr tr) (a_ (a_ tr tr) tr)))))))))))))))) tr))) tr) (by kernel_rfl) rfl
        · skip
          obtain rfl := Option.some.inj h
          exact run_ret mixed (L := []) (n := 22) (s := [.go, .reg [(0, { v := some (.bool false) })], .reg [(3, { call := some ((stage_Stage_Take_v yL1_3).ren (sel [1, 2, 3]), preOf (sel [1, 2, 3]) 0 (stage_Stage_Take_objs yL0_3.2.2.1 yL0_3.2.2.2 one.f_Tx), upOf (sel [1, 2, 3]) (stage_Stage_Take_up yL0_3.2.2.1 yL0_3.2.2.2 one.f_Tx yL1_3)) })], .reg [(3, { call := some (parrelref10_SameWrites_v yL1_5, [], []) }), (4, { v := some (.bool true) }), (8, { v := some (.bool false) })]])
            (a_ (a_ (a_ (a_ tr (a_ (leB cL1_1) tr)) tr) (a_ (a_ (a_ tr tr) (a_ (a_ tr tr) (a_ (a_ (a_ tr (le_ 4 7 rfl)) tr) (a_ (a_ (a_ (stage_Stage_Take_ok yL0_3.2.2.1 yL0_3.2.2.2 one.f_Tx yL1_3 eL1_2 (sel [1, 2, 3]) (sel_inj rfl rfl)) (a_ (LO.Le.refl (.var [.map 2, .map 3])) (a_ (LO.Le.refl (.map true [.int .u8, .int .u32, .int .u32] (encM v_T_api_Tx v_T_stage_prepared yL0_3.2.2.1))) (a_ (LO.Le.refl (.map true [.int .u8, .int .u8, .int .u8, .int .u8, .int .u8, .int .u8, .int .u8, .int .u8] (encM (fun z_ : A8 (Int) => LV.agg [.int .u8 z_.a0, .int .u8 z_.a1, .int .u8 z_.a2, .int .u8 z_.a3, .int .u8 z_.a4, .int .u8 z_.a5, .int .u8 z_.a6, .int .u8 z_.a7]) v_T_api_Tx yL0_3.2.2.2))) tr)))) tr) (a_ (a_ tr tr) (a_ (a_ tr tr) (a_ (a_ tr tr) (a_ (a_ tr tr) (a_ (a_ tr tr) tr))))))))) (a_ (a_ (a_ tr tr) (a_ (a_ tr tr) (a_ (a_ (a_ tr (lt_ 6 7 rfl)) tr) (a_ (a_ (a_ (parrelref10_SameWrites_tri yL0_3.1 one.f_Writes yL1_5 eL1_4) tr) tr) (a_ (a_ tr (a_ (leB cL1_6) tr)) (a_ (a_ tr tr) (a_ (a_ tr tr) (a_ (a_ tr tr) (a_ (a_ tr (a_ (leB cL1_7) tr)) (a_ tr (a_ tr (a_ (a_ tr tr) (a_ (a_ tr tr) (a_ tr (a_ (a_ tr tr) (a_ (a_ tr tr) tr)))))))))))))))) tr))) tr) (by kernel_rfl) rfl
      · skip
        obtain rfl := Option.some.inj h
        exact run_ret mixed (L := []) (n := 22) (s := [.go, .reg [(0, { v := some (.bool false) })], .reg [(3, { call := some ((stage_Stage_Take_v yL1_3).ren (sel [1, 2, 3]), preOf (sel [1, 2, 3]) 0 (stage_Stage_Take_objs yL0_3.2.2.1 yL0_3.2.2.2 one.f_Tx), upOf (sel [1, 2, 3]) (stage_Stage_Take_up yL0_3.2.2.1 yL0_3.2.2.2 one.f_Tx yL1_3)) })], .reg [(3, { call := some (parrelref10_SameWrites_v yL1_5, [], []) }), (4, { v := some (.bool false) })]])
          (a_ (a_ (a_ (a_ tr (a_ (leB cL1_1) tr)) tr) (a_ (a_ (a_ tr tr) (a_ (a_ tr tr) (a_ (a_ (a_ tr (le_ 4 7 rfl)) tr) (a_ (a_ (a_ (stage_Stage_Take_ok yL0_3.2.2.1 yL0_3.2.2.2 one.f_Tx yL1_3 eL1_2 (sel [1, 2, 3]) (sel_inj rfl rfl)) (a_ (LO.Le.refl (.var [.map 2, .map 3])) (a_ (LO.Le.refl (.map true [.int .u8, .int .u32, .int .u32] (encM v_T_api_Tx v_T_stage_prepared yL0_3.2.2.1))) (a_ (LO.Le.refl (.map true [.int .u8, .int .u8, .int .u8, .int .u8, .int .u8, .int .u8, .int .u8, .int .u8] (encM (fun z_ : A8 (Int) => LV.agg [.int .u8 z_.a0, .int .u8 z_.a1, .int .u8 z_.a2, .int .u8 z_.a3, .int .u8 z_.a4, .int .u8 z_.a5, .int .u8 z_.a6, .int .u8 z_.a7]) v_T_api_Tx yL0_3.2.2.2))) tr)))) tr) (a_ (a_ tr tr) (a_ (a_ tr tr) (a_ (a_ tr tr) (a_ (a_ tr tr) (a_ (a_ tr tr) tr))))))))) (a_ (a_ (a_ tr tr) (a_ (a_ tr tr) (a_ (a_ (a_ tr (lt_ 6 7 rfl)) tr) (a_ (a_ (a_ (parrelref10_SameWrites_tri yL0_3.1 one.f_Writes yL1_5 eL1_4) tr) tr) (a_ (a_ tr (a_ (leB cL1_6) tr)) (a_ tr (a_ tr (a_ (a_ tr tr) (a_ (a_ tr tr) (a_ tr (a_ tr (a_ (a_ tr tr) (a_ (a_ tr tr) (a_ tr (a_ (a_ tr tr) (a_ (a_ tr tr) tr)))))))))))))))) tr))) tr) (by kernel_rfl) rfl

theorem parrellaw14_StageBack_l0_ok {w0 : World} {W : Nat → Prop} {μ0 : Emb} (hμ : ∀ c p, μ0 c = some p → c < 0) (one : T_parrellaw14_Act) (y13 : (List (T_parrellaw14_Act)))  : ∀ (fuel : Nat) (t52 : Int) (m : List (T_api_Tx × T_stage_prepared)) (m2 : List (A8 (Int) × T_api_Tx)) (r : (Bool)), parrellaw14_StageBack_l0 one y13  fuel t52 m m2 = some r → kont Tryd.prog w0 W μ0 (FnPost Tryd.prog Tryd.f3 0 0 (parrellaw14_StageBack_v r) []) (kAt (bodyOf Tryd.f3) 0) none (parrellaw14_StageBack_T0 one y13 t52 m m2) (parrellaw14_StageBack_H0 one y13 t52 m m2) := by
  intro fuel
  induction fuel with
  | zero => intro t52 m m2 r h; rw [parrellaw14_StageBack_l0] at h; cases h
  | succ fuel ih =>
    intro t52 m m2 r h
    rw [parrellaw14_StageBack_l0] at h
    rcases itb_some h with ⟨cL0_1, h⟩ | ⟨cL0_1, h⟩
    · skip
      obtain ⟨gL0_2, h⟩ := guard_some h
      rcases itb_some h with ⟨cL0_3, h⟩ | ⟨cL0_3, h⟩
      · skip
        exact run_to mixed hμ (L := [0, 1, 2, 3]) (n := 29) (s := [.go, .reg [(0, { v := some (.bool true) })], .reg [], .reg [(4, { v := some (.bool true) })], .reg []])
          (a_ (a_ (a_ tr (a_ (leB cL0_1) tr)) tr) (a_ (a_ (a_ (a_ (Eq.refl 7) gL0_2) tr) (a_ (a_ (le_ 7 7 rfl) tr) (a_ (a_ tr tr) (a_ (a_ (a_ (Eq.refl 7) (a_ (le_ 7 7 rfl) (Eq.refl 0))) tr) tr)))) (a_ (a_ (a_ tr tr) (a_ (a_ (a_ tr (le_ 4 7 rfl)) tr) (a_ (a_ tr tr) (a_ (a_ (a_ tr (le_ 4 7 rfl)) tr) (a_ (a_ tr (a_ (LV.Le.trans (leB (k_T_api_Tx (y13.getD t52.toNat default).f_Tx one.f_Tx)) (leB cL0_3)) tr)) tr))))) (a_ (a_ (a_ tr tr) (a_ (a_ tr tr) tr)) tr)))) (ih _ _ _ r h) (by kernel_rfl) ⟨rfl, rfl, trivial, trivial, trivial⟩
      · skip
        rcases itb_some h with ⟨cL0_4, h⟩ | ⟨cL0_4, h⟩
        · skip
          obtain ⟨yL0_6, eL0_5, h⟩ := bind_some h
          exact run_to mixed hμ (L := [0, 1, 2, 3]) (n := 36) (s := [.go, .reg [(0, { v := some (.bool true) })], .reg [], .reg [(4, { v := some (.bool false) })], .reg [(1, { v := some (.bool true) })], .reg [(3, { call := some ((stage_Stage_Take_v yL0_6).ren (sel [1, 2, 3]), preOf (sel [1, 2, 3]) 0 (stage_Stage_Take_objs m m2 (y13.getD t52.toNat default).f_Tx), upOf (sel [1, 2, 3]) (stage_Stage_Take_up m m2 (y13.getD t52.toNat default).f_Tx yL0_6)) })], .reg []])
            (a_ (a_ (a_ tr (a_ (leB cL0_1) tr)) tr) (a_ (a_ (a_ (a_ (Eq.refl 7) gL0_2) tr) (a_ (a_ (le_ 7 7 rfl) tr) (a_ (a_ tr tr) (a_ (a_ (a_ (Eq.refl 7) (a_ (le_ 7 7 rfl) (Eq.refl 0))) tr) tr)))) (a_ (a_ (a_ tr tr) (a_ (a_ (a_ tr (le_ 4 7 rfl)) tr) (a_ (a_ tr tr) (a_ (a_ (a_ tr (le_ 4 7 rfl)) tr) (a_ (a_ tr (a_ (LV.Le.trans (leB (k_T_api_Tx (y13.getD t52.toNat default).f_Tx one.f_Tx)) (leB cL0_3)) tr)) tr))))) (a_ (a_ (a_ tr tr) (a_ (a_ (a_ tr (lt_ 0 7 rfl)) (a_ (leB cL0_4) tr)) tr)) (a_ (a_ (a_ tr tr) (a_ (a_ tr tr) (a_ (a_ (a_ tr (le_ 4 7 rfl)) tr) (a_ (a_ (a_ (stage_Stage_Take_ok m m2 (y13.getD t52.toNat default).f_Tx yL0_6 eL0_5 (sel [1, 2, 3]) (sel_inj rfl rfl)) (a_ (LO.Le.refl (.var [.map 2, .map 3])) (a_ (LO.Le.refl (.map true [.int .u8, .int .u32, .int .u32] (encM v_T_api_Tx v_T_stage_prepared m))) (a_ (LO.Le.refl (.map true [.int .u8, .int .u8, .int .u8, .int .u8, .int .u8, .int .u8, .int .u8, .int .u8] (encM (fun z_ : A8 (Int) => LV.agg [.int .u8 z_.a0, .int .u8 z_.a1, .int .u8 z_.a2, .int .u8 z_.a3, .int .u8 z_.a4, .int .u8 z_.a5, .int .u8 z_.a6, .int .u8 z_.a7]) v_T_api_Tx m2))) tr)))) tr) tr)))) (a_ (a_ (a_ tr tr) (a_ (a_ tr tr) tr)) tr)))))) (ih _ _ _ r h) (by kernel_rfl) ⟨rfl, rfl, trivial, trivial, trivial⟩
        · skip
          obtain ⟨yL0_6, eL0_5, h⟩ := bind_some h
          exact run_to mixed hμ (L := [0, 1, 2, 3]) (n := 36) (s := [.go, .reg [(0, { v := some (.bool true) })], .reg [], .reg [(4, { v := some (.bool false) })], .reg [(1, { v := some (.bool false) })], .reg [(7, { call := some ((stage_Stage_Put_v yL0_6).ren (sel [1, 2, 3]), preOf (sel [1, 2, 3]) 0 (stage_Stage_Put_objs m m2 (y13.getD t52.toNat default).f_Tx (y13.getD t52.toNat default).f_Reg (y13.getD t52.toNat default).f_Writes), upOf (sel [1, 2, 3]) (stage_Stage_Put_up m m2 (y13.getD t52.toNat default).f_Tx (y13.getD t52.toNat default).f_Reg (y13.getD t52.toNat default).f_Writes yL0_6)) })], .reg []])
            (a_ (a_ (a_ tr (a_ (leB cL0_1) tr)) tr) (a_ (a_ (a_ (a_ (Eq.refl 7) gL0_2) tr) (a_ (a_ (le_ 7 7 rfl) tr) (a_ (a_ tr tr) (a_ (a_ (a_ (Eq.refl 7) (a_ (le_ 7 7 rfl) (Eq.refl 0))) tr) tr)))) (a_ (a_ (a_ tr tr) (a_ (a_ (a_ tr (le_ 4 7 rfl)) tr) (a_ (a_ tr tr) (a_ (a_ (a_ tr (le_ 4 7 rfl)) tr) (a_ (a_ tr (a_ (LV.Le.trans (leB (k_T_api_Tx (y13.getD t52.toNat default).f_Tx one.f_Tx)) (leB cL0_3)) tr)) tr))))) (a_ (a_ (a_ tr tr) (a_ (a_ (a_ tr (lt_ 0 7 rfl)) (a_ (leB cL0_4) tr)) tr)) (a_ (a_ (a_ tr tr) (a_ (a_ tr tr) (a_ (a_ (a_ tr (le_ 4 7 rfl)) tr) (a_ (a_ tr tr) (a_ (a_ (a_ tr (le_ 6 7 rfl)) tr) (a_ (a_ tr tr) (a_ (a_ (a_ tr (lt_ 6 7 rfl)) tr) (a_ (a_ (a_ (stage_Stage_Put_ok m m2 (y13.getD t52.toNat default).f_Tx (y13.getD t52.toNat default).f_Reg (y13.getD t52.toNat default).f_Writes yL0_6 eL0_5 (sel [1, 2, 3]) (sel_inj rfl rfl)) (a_ (LO.Le.refl (.var [.map 2, .map 3])) (a_ (LO.Le.refl (.map true [.int .u8, .int .u32, .int .u32] (encM v_T_api_Tx v_T_stage_prepared m))) (a_ (LO.Le.refl (.map true [.int .u8, .int .u8, .int .u8, .int .u8, .int .u8, .int .u8, .int .u8, .int .u8] (encM (fun z_ : A8 (Int) => LV.agg [.int .u8 z_.a0, .int .u8 z_.a1, .int .u8 z_.a2, .int .u8 z_.a3, .int .u8 z_.a4, .int .u8 z_.a5, .int .u8 z_.a6, .int .u8 z_.a7]) v_T_api_Tx m2))) tr)))) tr) tr)))))))) (a_ (a_ (a_ tr tr) (a_ (a_ tr tr) tr)) tr)))))) (ih _ _ _ r h) (by kernel_rfl) ⟨rfl, rfl, trivial, trivial, trivial⟩
    · skip
      obtain ⟨yL0_3, eL0_2, h⟩ := bind_some h
      exact run_to mixed hμ (L := [0, 1, 2, 3]) (n := 25) (s := [.go, .reg [(0, { v := some (.bool false) })], .reg [(3, { call := some ((stage_Stage_Take_v yL0_3).ren (sel [1, 2, 3]), preOf (sel [1, 2, 3]) 0 (stage_Stage_Take_objs m m2 one.f_Tx), upOf (sel [1, 2, 3]) (stage_Stage_Take_up m m2 one.f_Tx yL0_3)) })], .reg []])
        (a_ (a_ (a_ tr (a_ (leB cL0_1) tr)) tr) (a_ (a_ (a_ tr tr) (a_ (a_ tr tr) (a_ (a_ (a_ tr (le_ 4 7 rfl)) tr) (a_ (a_ (a_ (stage_Stage_Take_ok m m2 one.f_Tx yL0_3 eL0_2 (sel [1, 2, 3]) (sel_inj rfl rfl)) (a_ (LO.Le.refl (.var [.map 2, .map 3])) (a_ (LO.Le.refl (.map true [.int .u8, .int .u32, .int .u32] (encM v_T_api_Tx v_T_stage_prepared m))) (a_ (LO.Le.refl (.map true [.int .u8, .int .u8, .int .u8, .int .u8, .int .u8, .int .u8, .int .u8, .int .u8] (encM (fun z_ : A8 (Int) => LV.agg [.int .u8 z_.a0, .int .u8 z_.a1, .int .u8 z_.a2, .int .u8 z_.a3, .int .u8 z_.a4, .int .u8 z_.a5, .int .u8 z_.a6, .int .u8 z_.a7]) v_T_api_Tx m2))) tr)))) tr) (a_ (a_ tr tr) (a_ (a_ tr tr) (a_ (a_ tr tr) (a_ (a_ tr tr) (a_ (a_ tr tr) tr))))))))) (a_ (a_ (a_ tr tr) (a_ (a_ (a_ tr (lt_ 6 7 rfl)) tr) (a_ (a_ tr tr) (a_ (a_ tr tr) tr)))) tr))) (parrellaw14_StageBack_l1_ok hμ one yL0_3  big _ r h) (by kernel_rfl) ⟨rfl, rfl, trivial, trivial, trivial⟩

theorem parrellaw14_StageBack_ok (one : T_parrellaw14_Act) (script : List (T_parrellaw14_Act)) (r : (Bool)) (h : parrellaw14_StageBack one script = some r) : ∀ σ, Inj 0 σ → FnTri Tryd.prog 3 (renL σ [v_T_parrellaw14_Act one, .ds 7 (script).length (rowF c_T_parrellaw14_Act default script)]) (preOf σ 0 []) ((parrellaw14_StageBack_v r).ren σ) (upOf σ []) := by
  refine fn_of Tryd.func3 (by kernel_rfl) (by kernel_rfl) (by kernel_rfl) trivial (by kernel_rfl) trivial (by kernel_rfl) ?_
  intro w0 W μ0 hμ
  unfold parrellaw14_StageBack at h
  obtain ⟨y2, e1, h⟩ := bind_some h
  obtain ⟨y4, e3, h⟩ := bind_some h
  rcases itb_some h with ⟨c5, h⟩ | ⟨c5, h⟩
  · skip
    obtain ⟨y7, e6, h⟩ := bind_some h
    obtain rfl := Option.some.inj h
    exact run_ret mixed (L := []) (n := 23) (s := [.reg [], .reg [(0, { call := some ((stage_New_v y2).ren (sel [1, 2, 3]), preOf (sel [1, 2, 3]) 0 [], upOf (sel [1, 2, 3]) (stage_New_up  y2)) })], .reg [(4, { call := some (parrellaw14_far_v y4, [], []) }), (6, { v := some (.bool true) })], .reg [(3, { call := some (parrellaw14_alive_v y7, [], []) })]])
      (a_ (a_ (a_ (a_ tr tr) (a_ (a_ tr tr) tr)) (a_ (a_ (a_ (a_ (stage_New_ok  y2 e1 (sel [1, 2, 3]) (sel_inj rfl rfl)) tr) tr) (a_ (a_ tr tr) tr)) (a_ (a_ (a_ tr tr) (a_ (a_ tr tr) (a_ (a_ tr tr) (a_ (a_ tr tr) (a_ (a_ (a_ (parrellaw14_far_tri script y4 e3) tr) tr) (a_ (a_ tr tr) (a_ (a_ tr (a_ (leB c5) tr)) (a_ tr (a_ tr (a_ tr (a_ (a_ tr tr) tr))))))))))) (a_ (a_ (a_ tr tr) (a_ (a_ tr tr) (a_ (a_ tr tr) (a_ (a_ (a_ (parrellaw14_alive_tri  y7 e6) tr) tr) (a_ (a_ tr tr) (a_ (a_ tr tr) tr)))))) tr)))) tr) (by kernel_rfl) rfl
  · skip
    obtain ⟨y7, e6, h⟩ := bind_some h
    rcases itb_some h with ⟨c8, h⟩ | ⟨c8, h⟩
    · skip
      obtain ⟨y10, e9, h⟩ := bind_some h
      obtain rfl := Option.some.inj h
      exact run_ret mixed (L := []) (n := 23) (s := [.reg [], .reg [(0, { call := some ((stage_New_v y2).ren (sel [1, 2, 3]), preOf (sel [1, 2, 3]) 0 [], upOf (sel [1, 2, 3]) (stage_New_up  y2)) })], .reg [(4, { call := some (parrellaw14_far_v y4, [], []) }), (6, { v := some (.bool false) }), (8, { os := [(4, .gr 7 ([one]).length (rowF c_T_parrellaw14_Act default [one]))], v := some (.gs 4 ([one]).length), fz := true }), (9, { call := some (parrellaw14_far_v y7, [], []) }), (10, { v := some (.bool true) })], .reg [(3, { call := some (parrellaw14_alive_v y10, [], []) })]])
        (a_ (a_ (a_ (a_ tr tr) (a_ (a_ tr tr) tr)) (a_ (a_ (a_ (a_ (stage_New_ok  y2 e1 (sel [1, 2, 3]) (sel_inj rfl rfl)) tr) tr) (a_ (a_ tr tr) tr)) (a_ (a_ (a_ tr tr) (a_ (a_ tr tr) (a_ (a_ tr tr) (a_ (a_ tr tr) (a_ (a_ (a_ (parrellaw14_far_tri script y4 e3) tr) tr) (a_ (a_ tr tr) (a_ (a_ tr (a_ (leB c5) tr)) (a_ (a_ (a_ tr (le_ 7 7 rfl)) tr) (a_ (a_ (a_ (a_ (Eq.refl true) (a_ (Eq.refl 7) (a_ (lt_ 0 7 rfl) (le_ 7 16777216 rfl)))) (a_ (le_sl_gs 4 1 (some 1) rfl) (a_ (sub_lit c_T_parrellaw14_Act default 7 (fun _ => rfl) [one]) tr))) (a_ (Nat.le_refl ([one]).length) (fz_row (enc := c_T_parrellaw14_Act) (d := default) (fun _ => rfl) [one]))) (a_ (a_ (a_ (parrellaw14_far_tri ([one]) y7 e6) tr) tr) (a_ (a_ tr (a_ (leB c8) tr)) tr))))))))))) (a_ (a_ (a_ tr tr) (a_ (a_ tr tr) (a_ (a_ tr tr) (a_ (a_ (a_ (parrellaw14_alive_tri  y10 e9) tr) tr) (a_ (a_ tr tr) (a_ (a_ tr tr) tr)))))) tr)))) tr) (by kernel_rfl) rfl
    · skip
      obtain ⟨y10, e9, h⟩ := bind_some h
      rcases itb_some h with ⟨c11, h⟩ | ⟨c11, h⟩
      · skip
        obtain ⟨y13, e12, h⟩ := bind_some h
        rcases itb_some h with ⟨c14, h⟩ | ⟨c14, h⟩
        · skip
          obtain ⟨y16, e15, h⟩ := bind_some h
          obtain rfl := Option.some.inj h
          exact run_ret mixed (L := []) (n := 29) (s := [.reg [], .reg [(0, { call := some ((stage_New_v y2).ren (sel [1, 2, 3]), preOf (sel [1, 2, 3]) 0 [], upOf (sel [1, 2, 3]) (stage_New_up  y2)) })], .reg [(4, { call := some (parrellaw14_far_v y4, [], []) }), (6, { v := some (.bool false) }), (8, { os := [(4, .gr 7 ([one]).length (rowF c_T_parrellaw14_Act default [one]))], v := some (.gs 4 ([one]).length), fz := true }), (9, { call := some (parrellaw14_far_v y7, [], []) }), (10, { v := some (.bool false) })], .reg [(7, { call := some ((stage_Stage_Put_v y10).ren (sel [1, 2, 3]), preOf (sel [1, 2, 3]) 0 (stage_Stage_Put_objs y2.1 y2.2 one.f_Tx one.f_Reg one.f_Writes), upOf (sel [1, 2, 3]) (stage_Stage_Put_up y2.1 y2.2 one.f_Tx one.f_Reg one.f_Writes y10)) }), (8, { v := some (.bool true) })], .reg [(1, { call := some ((stage_Stage_All_v y13).ren (sel [1, 2, 3]), preOf (sel [1, 2, 3]) 0 (stage_Stage_All_objs y10.2.1 y10.2.2), upOf (sel [1, 2, 3]) (stage_Stage_All_up y10.2.1 y10.2.2 y13)) }), (4, { v := some (.bool true) }), (5, { call := some (parrellaw14_alive_v y16, [], []) })]])
            (a_ (a_ (a_ (a_ tr tr) (a_ (a_ tr tr) tr)) (a_ (a_ (a_ (a_ (stage_New_ok  y2 e1 (sel [1, 2, 3]) (sel_inj rfl rfl)) tr) tr) (a_ (a_ tr tr) tr)) (a_ (a_ (a_ tr tr) (a_ (a_ tr tr) (a_ (a_ tr tr) (a_ (a_ tr tr) (a_ (a_ (a_ (parrellaw14_far_tri script y4 e3) tr) tr) (a_ (a_ tr tr) (a_ (a_ tr (a_ (leB c5) tr)) (a_ (a_ (a_ tr (le_ 7 7 rfl)) tr) (a_ (a_ (a_ (a_ (Eq.refl true) (a_ (Eq.refl 7) (a_ (lt_ 0 7 rfl) (le_ 7 16777216 rfl)))) (a_ (le_sl_gs 4 1 (some 1) rfl) (a_ (sub_lit c_T_parrellaw14_Act default 7 (fun _ => rfl) [one]) tr))) (a_ (Nat.le_refl ([one]).length) (fz_row (enc := c_T_parrellaw14_Act) (d := default) (fun _ => rfl) [one]))) (a_ (a_ (a_ (parrellaw14_far_tri ([one]) y7 e6) tr) tr) (a_ (a_ tr (a_ (leB c8) tr)) tr))))))))))) (a_ (a_ (a_ tr tr) (a_ (a_ tr tr) (a_ (a_ (a_ tr (le_ 4 7 rfl)) tr) (a_ (a_ tr tr) (a_ (a_ (a_ tr (le_ 6 7 rfl)) tr) (a_ (a_ tr tr) (a_ (a_ (a_ tr (lt_ 6 7 rfl)) tr) (a_ (a_ (a_ (stage_Stage_Put_ok y2.1 y2.2 one.f_Tx one.f_Reg one.f_Writes y10 e9 (sel [1, 2, 3]) (sel_inj rfl rfl)) (a_ (LO.Le.refl (.var [.map 2, .map 3])) (a_ (LO.Le.refl (.map true [.int .u8, .int .u32, .int .u32] (encM v_T_api_Tx v_T_stage_prepared y2.1))) (a_ (LO.Le.refl (.map true [.int .u8, .int .u8, .int .u8, .int .u8, .int .u8, .int .u8, .int .u8, .int .u8] (encM (fun z_ : A8 (Int) => LV.agg [.int .u8 z_.a0, .int .u8 z_.a1, .int .u8 z_.a2, .int .u8 z_.a3, .int .u8 z_.a4, .int .u8 z_.a5, .int .u8 z_.a6, .int .u8 z_.a7]) v_T_api_Tx y2.2))) tr)))) tr) (a_ (a_ tr (a_ (leB c11) tr)) tr))))))))) (a_ (a_ (a_ tr tr) (a_ (a_ (a_ (stage_Stage_All_ok y10.2.1 y10.2.2 y13 e12 (sel [1, 2, 3]) (sel_inj rfl rfl)) (a_ (LO.Le.refl (.var [.map 2, .map 3])) (a_ (LO.Le.refl (.map true [.int .u8, .int .u32, .int .u32] (encM v_T_api_Tx v_T_stage_prepared y10.2.1))) (a_ (LO.Le.refl (.map true [.int .u8, .int .u8, .int .u8, .int .u8, .int .u8, .int .u8, .int .u8, .int .u8] (encM (fun z_ : A8 (Int) => LV.agg [.int .u8 z_.a0, .int .u8 z_.a1, .int .u8 z_.a2, .int .u8 z_.a3, .int .u8 z_.a4, .int .u8 z_.a5, .int .u8 z_.a6, .int .u8 z_.a7]) v_T_api_Tx y10.2.2))) tr)))) tr) (a_ (a_ tr tr) (a_ (a_ tr tr) (a_ (a_ tr (a_ (leB c14) tr)) (a_ (a_ (a_ (parrellaw14_alive_tri  y16 e15) tr) tr) (a_ (a_ tr tr) (a_ (a_ tr tr) tr)))))))) tr))))) tr) (by kernel_rfl) rfl
        · skip
          obtain rfl := Option.some.inj h
          exact run_ret mixed (L := []) (n := 29) (s := [.reg [], .reg [(0, { call := some ((stage_New_v y2).ren (sel [1, 2, 3]), preOf (sel [1, 2, 3]) 0 [], upOf (sel [1, 2, 3]) (stage_New_up  y2)) })], .reg [(4, { call := some (parrellaw14_far_v y4, [], []) }), (6, { v := some (.bool false) }), (8, { os := [(4, .gr 7 ([one]).length (rowF c_T_parrellaw14_Act default [one]))], v := some (.gs 4 ([one]).length), fz := true }), (9, { call := some (parrellaw14_far_v y7, [], []) }), (10, { v := some (.bool false) })], .reg [(7, { call := some ((stage_Stage_Put_v y10).ren (sel [1, 2, 3]), preOf (sel [1, 2, 3]) 0 (stage_Stage_Put_objs y2.1 y2.2 one.f_Tx one.f_Reg one.f_Writes), upOf (sel [1, 2, 3]) (stage_Stage_Put_up y2.1 y2.2 one.f_Tx one.f_Reg one.f_Writes y10)) }), (8, { v := some (.bool true) })], .reg [(1, { call := some ((stage_Stage_All_v y13).ren (sel [1, 2, 3]), preOf (sel [1, 2, 3]) 0 (stage_Stage_All_objs y10.2.1 y10.2.2), upOf (sel [1, 2, 3]) (stage_Stage_All_up y10.2.1 y10.2.2 y13)) }), (4, { v := some (.bool false) })]])
            (a_ (a_ (a_ (a_ tr tr) (a_ (a_ tr tr) tr)) (a_ (a_ (a_ (a_ (stage_New_ok  y2 e1 (sel [1, 2, 3]) (sel_inj rfl rfl)) tr) tr) (a_ (a_ tr tr) tr)) (a_ (a_ (a_ tr tr) (a_ (a_ tr tr) (a_ (a_ tr tr) (a_ (a_ tr tr) (a_ (a_ (a_ (parrellaw14_far_tri script y4 e3) tr) tr) (a_ (a_ tr tr) (a_ (a_ tr (a_ (leB c5) tr)) (a_ (a_ (a_ tr (le_ 7 7 rfl)) tr) (a_ (a_ (a_ (a_ (Eq.refl true) (a_ (Eq.refl 7) (a_ (lt_ 0 7 rfl) (le_ 7 16777216 rfl)))) (a_ (le_sl_gs 4 1 (some 1) rfl) (a_ (sub_lit c_T_parrellaw14_Act default 7 (fun _ => rfl) [one]) tr))) (a_ (Nat.le_refl ([one]).length) (fz_row (enc := c_T_parrellaw14_Act) (d := default) (fun _ => rfl) [one]))) (a_ (a_ (a_ (parrellaw14_far_tri ([one]) y7 e6) tr) tr) (a_ (a_ tr (a_ (leB c8) tr)) tr))))))))))) (a_ (a_ (a_ tr tr) (a_ (a_ tr tr) (a_ (a_ (a_ tr (le_ 4 7 rfl)) tr) (a_ (a_ tr tr) (a_ (a_ (a_ tr (le_ 6 7 rfl)) tr) (a_ (a_ tr tr) (a_ (a_ (a_ tr (lt_ 6 7 rfl)) tr) (a_ (a_ (a_ (stage_Stage_Put_ok y2.1 y2.2 one.f_Tx one.f_Reg one.f_Writes y10 e9 (sel [1, 2, 3]) (sel_inj rfl rfl)) (a_ (LO.Le.refl (.var [.map 2, .map 3])) (a_ (LO.Le.refl (.map true [.int .u8, .int .u32, .int .u32] (encM v_T_api_Tx v_T_stage_prepared y2.1))) (a_ (LO.Le.refl (.map true [.int .u8, .int .u8, .int .u8, .int .u8, .int .u8, .int .u8, .int .u8, .int .u8] (encM (fun z_ : A8 (Int) => LV.agg [.int .u8 z_.a0, .int .u8 z_.a1, .int .u8 z_.a2, .int .u8 z_.a3, .int .u8 z_.a4, .int .u8 z_.a5, .int .u8 z_.a6, .int .u8 z_.a7]) v_T_api_Tx y2.2))) tr)))) tr) (a_ (a_ tr (a_ (leB c11) tr)) tr))))))))) (a_ (a_ (a_ tr tr) (a_ (a_ (a_ (stage_Stage_All_ok y10.2.1 y10.2.2 y13 e12 (sel [1, 2, 3]) (sel_inj rfl rfl)) (a_ (LO.Le.refl (.var [.map 2, .map 3])) (a_ (LO.Le.refl (.map true [.int .u8, .int .u32, .int .u32] (encM v_T_api_Tx v_T_stage_prepared y10.2.1))) (a_ (LO.Le.refl (.map true [.int .u8, .int .u8, .int .u8, .int .u8, .int .u8, .int .u8, .int .u8, .int .u8] (encM (fun z_ : A8 (Int) => LV.agg [.int .u8 z_.a0, .int .u8 z_.a1, .int .u8 z_.a2, .int .u8 z_.a3, .int .u8 z_.a4, .int .u8 z_.a5, .int .u8 z_.a6, .int .u8 z_.a7]) v_T_api_Tx y10.2.2))) tr)))) tr) (a_ (a_ tr tr) (a_ (a_ tr tr) (a_ (a_ tr (a_ (leB c14) tr)) (a_ tr (a_ (a_ tr tr) (a_ (a_ tr tr) tr)))))))) tr))))) tr) (by kernel_rfl) rfl
      · skip
        obtain ⟨y13, e12, h⟩ := bind_some h
        exact run_to mixed hμ (L := [0, 1, 2, 3]) (n := 33) (s := [.reg [], .reg [(0, { call := some ((stage_New_v y2).ren (sel [1, 2, 3]), preOf (sel [1, 2, 3]) 0 [], upOf (sel [1, 2, 3]) (stage_New_up  y2)) })], .reg [(4, { call := some (parrellaw14_far_v y4, [], []) }), (6, { v := some (.bool false) }), (8, { os := [(4, .gr 7 ([one]).length (rowF c_T_parrellaw14_Act default [one]))], v := some (.gs 4 ([one]).length), fz := true }), (9, { call := some (parrellaw14_far_v y7, [], []) }), (10, { v := some (.bool false) })], .reg [(7, { call := some ((stage_Stage_Put_v y10).ren (sel [1, 2, 3]), preOf (sel [1, 2, 3]) 0 (stage_Stage_Put_objs y2.1 y2.2 one.f_Tx one.f_Reg one.f_Writes), upOf (sel [1, 2, 3]) (stage_Stage_Put_up y2.1 y2.2 one.f_Tx one.f_Reg one.f_Writes y10)) }), (8, { v := some (.bool false) })], .reg [(1, { call := some (parrellaw14_short_v y13, [], []) })]])
          (a_ (a_ (a_ tr tr) (a_ (a_ tr tr) tr)) (a_ (a_ (a_ (a_ (stage_New_ok  y2 e1 (sel [1, 2, 3]) (sel_inj rfl rfl)) tr) tr) (a_ (a_ tr tr) tr)) (a_ (a_ (a_ tr tr) (a_ (a_ tr tr) (a_ (a_ tr tr) (a_ (a_ tr tr) (a_ (a_ (a_ (parrellaw14_far_tri script y4 e3) tr) tr) (a_ (a_ tr tr) (a_ (a_ tr (a_ (leB c5) tr)) (a_ (a_ (a_ tr (le_ 7 7 rfl)) tr) (a_ (a_ (a_ (a_ (Eq.refl true) (a_ (Eq.refl 7) (a_ (lt_ 0 7 rfl) (le_ 7 16777216 rfl)))) (a_ (le_sl_gs 4 1 (some 1) rfl) (a_ (sub_lit c_T_parrellaw14_Act default 7 (fun _ => rfl) [one]) tr))) (a_ (Nat.le_refl ([one]).length) (fz_row (enc := c_T_parrellaw14_Act) (d := default) (fun _ => rfl) [one]))) (a_ (a_ (a_ (parrellaw14_far_tri ([one]) y7 e6) tr) tr) (a_ (a_ tr (a_ (leB c8) tr)) tr))))))))))) (a_ (a_ (a_ tr tr) (a_ (a_ tr tr) (a_ (a_ (a_ tr (le_ 4 7 rfl)) tr) (a_ (a_ tr tr) (a_ (a_ (a_ tr (le_ 6 7 rfl)) tr) (a_ (a_ tr tr) (a_ (a_ (a_ tr (lt_ 6 7 rfl)) tr) (a_ (a_ (a_ (stage_Stage_Put_ok y2.1 y2.2 one.f_Tx one.f_Reg one.f_Writes y10 e9 (sel [1, 2, 3]) (sel_inj rfl rfl)) (a_ (LO.Le.refl (.var [.map 2, .map 3])) (a_ (LO.Le.refl (.map true [.int .u8, .int .u32, .int .u32] (encM v_T_api_Tx v_T_stage_prepared y2.1))) (a_ (LO.Le.refl (.map true [.int .u8, .int .u8, .int .u8, .int .u8, .int .u8, .int .u8, .int .u8, .int .u8] (encM (fun z_ : A8 (Int) => LV.agg [.int .u8 z_.a0, .int .u8 z_.a1, .int .u8 z_.a2, .int .u8 z_.a3, .int .u8 z_.a4, .int .u8 z_.a5, .int .u8 z_.a6, .int .u8 z_.a7]) v_T_api_Tx y2.2))) tr)))) tr) (a_ (a_ tr (a_ (leB c11) tr)) tr))))))))) (a_ (a_ (a_ tr tr) (a_ (a_ (a_ (parrellaw14_short_tri script y13 e12) tr) tr) (a_ (a_ tr tr) (a_ (a_ tr tr) tr)))) tr))))) (parrellaw14_StageBack_l0_ok hμ one y13  big _ _ _ r h) (by kernel_rfl) ⟨rfl, rfl, trivial, trivial, trivial⟩

theorem parrellaw14_StageBack_tri (one : T_parrellaw14_Act) (script : List (T_parrellaw14_Act)) (r : (Bool)) (h : parrellaw14_StageBack one script = some r) : FnTri Tryd.prog 3 [v_T_parrellaw14_Act one, .ds 7 (script).length (rowF c_T_parrellaw14_Act default script)] [] (parrellaw14_StageBack_v r) [] := FnTri.none (parrellaw14_StageBack_ok one script r h) rfl rfl

/-- (*parrel/parrelref14.Stage).find -/

def parrelref14_Stage_find_v (r : (Int)) : LV := .int .i64 r

def parrelref14_Stage_find_up (s : T_parrelref14_Stage) (t : T_api_Tx) (r : (Int)) : Upd := [(0, some (.var (c_T_parrelref14_Stage s)))]

def parrelref14_Stage_find_objs (s : T_parrelref14_Stage) (t : T_api_Tx) : List LO := [.var (c_T_parrelref14_Stage s)]

def parrelref14_Stage_find_T0 (s : T_parrelref14_Stage) (t : T_api_Tx) (i : Int) : List LV := [.ptr 0 0 0, .any, .any, .ptr 1 0 0, .any, .int .i64 i, .any, .any, .any, .any, .any, .any, .any, .any, .any, .any, .any, .any, .any, .any, .any, .any, .any, .any, .any, .any]

def parrelref14_Stage_find_H0 (s : T_parrelref14_Stage) (t : T_api_Tx) (i : Int) : Heap := [some (.var (c_T_parrelref14_Stage s)), some (.var (c_T_api_Tx t))]

def parrelref14_Stage_find_l0 (s : T_parrelref14_Stage) (t : T_api_Tx)  : Nat → (Int) → Option ((Int))
  | 0, _ => none
  | fuel + 1, i =>
    if ((decide (i < ((s.f_L).length : Int))) : Bool) then
      if 0 ≤ i ∧ i < (((s.f_L).length : Nat) : Int) then
      if ((decide ((s.f_L.getD i.toNat default).f_Tx = t)) : Bool) then
        some i
      else
        parrelref14_Stage_find_l0 s t  fuel (IntKind.wrap .i64 (i + 1))
      else none
    else
      some (-1)

def parrelref14_Stage_find (s : T_parrelref14_Stage) (t : T_api_Tx) : Option ((Int)) :=
  parrelref14_Stage_find_l0 s t  big 0

theorem parrelref14_Stage_find_l0_ok {w0 : World} {W : Nat → Prop} {μ0 : Emb} (hμ : ∀ c p, μ0 c = some p → c < 1) (s : T_parrelref14_Stage) (t : T_api_Tx)  : ∀ (fuel : Nat) (i : Int) (r : (Int)), parrelref14_Stage_find_l0 s t  fuel i = some r → kont Tryd.prog w0 W μ0 (FnPost Tryd.prog Tryd.f31 1 1 (parrelref14_Stage_find_v r) (parrelref14_Stage_find_up s t r)) (kAt (bodyOf Tryd.f31) 0) none (parrelref14_Stage_find_T0 s t i) (parrelref14_Stage_find_H0 s t i) := by
  intro fuel
  induction fuel with
  | zero => intro i r h; rw [parrelref14_Stage_find_l0] at h; cases h
  | succ fuel ih =>
    intro i r h
    rw [parrelref14_Stage_find_l0] at h
    rcases itb_some h with ⟨cL0_1, h⟩ | ⟨cL0_1, h⟩
    · skip
      obtain ⟨gL0_2, h⟩ := guard_some h
      rcases itb_some h with ⟨cL0_3, h⟩ | ⟨cL0_3, h⟩
      · skip
        obtain rfl := Option.some.inj h
        exact run_ret mixed (L := []) (n := 25) (s := [.go, .reg [(6, { v := some (.bool true) })], .reg [(9, { v := some (.bool true) })], .reg []])
          (a_ (a_ (a_ (a_ tr tr) (a_ (a_ tr tr) (a_ (a_ tr tr) (a_ (a_ tr tr) (a_ (a_ (a_ tr (lt_ 0 1 rfl)) tr) (a_ (a_ tr tr) (a_ (a_ tr (a_ (leB cL0_1) tr)) tr))))))) (a_ (a_ (a_ tr tr) (a_ (a_ tr tr) (a_ (a_ tr tr) (a_ (a_ (a_ tr (lt_ 0 1 rfl)) tr) (a_ (a_ tr tr) (a_ (a_ (a_ (Eq.refl 6) gL0_2) tr) (a_ (a_ tr tr) (a_ (a_ (le_ 3 6 rfl) tr) (a_ (a_ (a_ tr (le_ 3 3 rfl)) tr) (a_ (a_ tr (a_ (LV.Le.trans (leB (k_T_api_Tx (s.f_L.getD i.toNat default).f_Tx t)) (leB cL0_3)) tr)) tr)))))))))) (a_ (a_ (a_ tr tr) (a_ (a_ tr tr) tr)) tr))) tr) (by kernel_rfl) rfl
      · skip
        exact run_to mixed hμ (L := [1]) (n := 26) (s := [.go, .reg [(6, { v := some (.bool true) })], .reg [(9, { v := some (.bool false) })], .reg []])
          (a_ (a_ (a_ tr tr) (a_ (a_ tr tr) (a_ (a_ tr tr) (a_ (a_ tr tr) (a_ (a_ (a_ tr (lt_ 0 1 rfl)) tr) (a_ (a_ tr tr) (a_ (a_ tr (a_ (leB cL0_1) tr)) tr))))))) (a_ (a_ (a_ tr tr) (a_ (a_ tr tr) (a_ (a_ tr tr) (a_ (a_ (a_ tr (lt_ 0 1 rfl)) tr) (a_ (a_ tr tr) (a_ (a_ (a_ (Eq.refl 6) gL0_2) tr) (a_ (a_ tr tr) (a_ (a_ (le_ 3 6 rfl) tr) (a_ (a_ (a_ tr (le_ 3 3 rfl)) tr) (a_ (a_ tr (a_ (LV.Le.trans (leB (k_T_api_Tx (s.f_L.getD i.toNat default).f_Tx t)) (leB cL0_3)) tr)) tr)))))))))) (a_ (a_ (a_ tr tr) (a_ (a_ tr tr) (a_ (a_ tr tr) tr))) tr))) (ih _ r h) (by kernel_rfl) ⟨rfl, rfl, trivial⟩
    · skip
      obtain rfl := Option.some.inj h
      exact run_ret mixed (L := []) (n := 19) (s := [.go, .reg [(6, { v := some (.bool false) })], .reg []])
        (a_ (a_ (a_ (a_ tr tr) (a_ (a_ tr tr) (a_ (a_ tr tr) (a_ (a_ tr tr) (a_ (a_ (a_ tr (lt_ 0 1 rfl)) tr) (a_ (a_ tr tr) (a_ (a_ tr (a_ (leB cL0_1) tr)) tr))))))) (a_ (a_ (a_ tr tr) tr) tr)) tr) (by kernel_rfl) rfl

theorem parrelref14_Stage_find_ok (s : T_parrelref14_Stage) (t : T_api_Tx) (r : (Int)) (h : parrelref14_Stage_find s t = some r) : ∀ σ, Inj 1 σ → FnTri Tryd.prog 31 (renL σ [.ptr 0 0 0, v_T_api_Tx t]) (preOf σ 0 (parrelref14_Stage_find_objs s t)) ((parrelref14_Stage_find_v r).ren σ) (upOf σ (parrelref14_Stage_find_up s t r)) := by
  refine fn_of Tryd.func31 (by kernel_rfl) (by kernel_rfl) (by kernel_rfl) ⟨rfl, trivial⟩ (by kernel_rfl) ⟨rfl, trivial⟩ (by kernel_rfl) ?_
  intro w0 W μ0 hμ
  unfold parrelref14_Stage_find at h
  exact run_to mixed hμ (L := [1]) (n := 18) (s := [.reg [], .reg []])
    (a_ (a_ (a_ tr tr) (a_ (a_ tr tr) tr)) (a_ (a_ (a_ tr tr) tr) tr)) (parrelref14_Stage_find_l0_ok hμ s t  big _ r h) (by kernel_rfl) ⟨rfl, rfl, trivial⟩

/-- (*parrel/parrelref14.Stage).Take -/

def parrelref14_Stage_Take_v (r : (List (T_api_Write)) × (Int) × (List (T_parrelref14_One))) : LV := .tup [.ds 21 (r.1).length (rowF c_T_api_Write default r.1), .int .i64 r.2.1]

def parrelref14_Stage_Take_up (s : T_parrelref14_Stage) (t : T_api_Tx) (r : (List (T_api_Write)) × (Int) × (List (T_parrelref14_One))) : Upd := [(0, some (.var (c_T_parrelref14_Stage (T_parrelref14_Stage.mk r.2.2))))]

def parrelref14_Stage_Take_objs (s : T_parrelref14_Stage) (t : T_api_Tx) : List LO := [.var (c_T_parrelref14_Stage s)]

def parrelref14_Stage_Take (s : T_parrelref14_Stage) (t : T_api_Tx) : Option ((List (T_api_Write)) × (Int) × (List (T_parrelref14_One))) :=
  (parrelref14_Stage_find s t).bind fun y2 =>
  if ((decide (y2 < 0)) : Bool) then
    some (([] : List (T_api_Write)), 6, s.f_L)
  else
    if 0 ≤ y2 ∧ y2 < (((s.f_L).length : Nat) : Int) then
    if 0 ≤ (0 : Int) ∧ 0 ≤ y2 ∧ y2 ≤ (((s.f_L).length : Nat) : Int) then
    if (0 + ((s.f_L.take y2.toNat)).length) * 48 ≤ 140737488351232 then
    if 0 ≤ (IntKind.wrap .i64 (y2 + 1)) ∧ (IntKind.wrap .i64 (y2 + 1)) ≤ (((s.f_L).length : Nat) : Int) ∧ (((s.f_L).length : Nat) : Int) ≤ (((s.f_L).length : Nat) : Int) then
    if (((s.f_L.take y2.toNat)).length + ((s.f_L.drop ((IntKind.wrap .i64 (y2 + 1))).toNat)).length) * 48 ≤ 140737488351232 then
    some ((s.f_L.getD y2.toNat default).f_Writes, 0, ((s.f_L.take y2.toNat) ++ (s.f_L.drop ((IntKind.wrap .i64 (y2 + 1))).toNat)))
    else none
    else none
    else none
    else none
    else none

theorem parrelref14_Stage_Take_ok (s : T_parrelref14_Stage) (t : T_api_Tx) (r : (List (T_api_Write)) × (Int) × (List (T_parrelref14_One))) (h : parrelref14_Stage_Take s t = some r) : ∀ σ, Inj 1 σ → FnTri Tryd.prog 16 (renL σ [.ptr 0 0 0, v_T_api_Tx t]) (preOf σ 0 (parrelref14_Stage_Take_objs s t)) ((parrelref14_Stage_Take_v r).ren σ) (upOf σ (parrelref14_Stage_Take_up s t r)) := by
  refine fn_of Tryd.func16 (by kernel_rfl) (by kernel_rfl) (by kernel_rfl) ⟨rfl, trivial⟩ (by kernel_rfl) ⟨rfl, trivial⟩ (by kernel_rfl) ?_
  intro w0 W μ0 hμ
  unfold parrelref14_Stage_Take at h
  obtain ⟨y2, e1, h⟩ := bind_some h
  rcases itb_some h with ⟨c3, h⟩ | ⟨c3, h⟩
  · skip
    obtain rfl := Option.some.inj h
    exact run_ret mixed (L := []) (n := 23) (s := [.reg [(1, { v := some (.ds 21 (([] : List (T_api_Write))).length (rowF c_T_api_Write default ([] : List (T_api_Write)))) })], .reg [(2, { call := some ((parrelref14_Stage_find_v y2).ren (sel [0]), preOf (sel [0]) 0 (parrelref14_Stage_find_objs s t), upOf (sel [0]) (parrelref14_Stage_find_up s t y2)) })], .reg [(1, { v := some (.bool true) })], .reg [(0, { v := some (.ds 21 (([] : List (T_api_Write))).length (rowF c_T_api_Write default ([] : List (T_api_Write)))) })]])
      (a_ (a_ (a_ (a_ tr tr) (a_ (a_ tr (a_ (le_nil_ds 21 (rowF c_T_api_Write default [])) tr)) (a_ (a_ tr tr) tr))) (a_ (a_ (a_ tr tr) (a_ (a_ (a_ tr (le_ 3 3 rfl)) tr) (a_ (a_ (a_ (parrelref14_Stage_find_ok s t y2 e1 (sel [0]) (sel_inj rfl rfl)) (a_ (LO.Le.refl (.var (c_T_parrelref14_Stage s))) tr)) tr) (a_ (a_ tr tr) tr)))) (a_ (a_ (a_ tr tr) (a_ (a_ tr (a_ (leB c3) tr)) tr)) (a_ (a_ (a_ tr (a_ (le_nil_ds 21 (rowF c_T_api_Write default [])) tr)) (a_ (a_ tr tr) tr)) tr)))) tr) (by kernel_rfl) rfl
  · skip
    obtain ⟨g4, h⟩ := guard_some h
    obtain ⟨g5, h⟩ := guard_some h
    obtain ⟨g6, h⟩ := guard_some h
    obtain ⟨g7, h⟩ := guard_some h
    obtain ⟨g8, h⟩ := guard_some h
    obtain rfl := Option.some.inj h
    exact run_ret mixed (L := []) (n := 31) (s := [.reg [(1, { v := some (.ds 21 (([] : List (T_api_Write))).length (rowF c_T_api_Write default ([] : List (T_api_Write)))) })], .reg [(2, { call := some ((parrelref14_Stage_find_v y2).ren (sel [0]), preOf (sel [0]) 0 (parrelref14_Stage_find_objs s t), upOf (sel [0]) (parrelref14_Stage_find_up s t y2)) })], .reg [(1, { v := some (.bool false) })], .reg [], .reg [(6, { v := some (.ds 6 ((s.f_L.take y2.toNat)).length (rowF c_T_parrelref14_One default (s.f_L.take y2.toNat))) }), (7, { app := 3 }), (14, { v := some (.ds 6 ((s.f_L.drop ((IntKind.wrap .i64 (y2 + 1))).toNat)).length (rowF c_T_parrelref14_One default (s.f_L.drop ((IntKind.wrap .i64 (y2 + 1))).toNat))) }), (15, { app := 3, os := [(3, .gr 6 (((s.f_L.take y2.toNat) ++ (s.f_L.drop ((IntKind.wrap .i64 (y2 + 1))).toNat))).length (rowF c_T_parrelref14_One default ((s.f_L.take y2.toNat) ++ (s.f_L.drop ((IntKind.wrap .i64 (y2 + 1))).toNat))))], v := some (.gs 3 (((s.f_L.take y2.toNat) ++ (s.f_L.drop ((IntKind.wrap .i64 (y2 + 1))).toNat))).length) })], .reg [], .frz 3])
      (a_ (a_ (a_ (a_ tr tr) (a_ (a_ tr (a_ (le_nil_ds 21 (rowF c_T_api_Write default [])) tr)) (a_ (a_ tr tr) tr))) (a_ (a_ (a_ tr tr) (a_ (a_ (a_ tr (le_ 3 3 rfl)) tr) (a_ (a_ (a_ (parrelref14_Stage_find_ok s t y2 e1 (sel [0]) (sel_inj rfl rfl)) (a_ (LO.Le.refl (.var (c_T_parrelref14_Stage s))) tr)) tr) (a_ (a_ tr tr) tr)))) (a_ (a_ (a_ tr tr) (a_ (a_ tr (a_ (leB c3) tr)) tr)) (a_ (a_ (a_ tr tr) (a_ (a_ tr tr) (a_ (a_ tr tr) (a_ (a_ (a_ tr (lt_ 0 1 rfl)) tr) (a_ (a_ tr tr) (a_ (a_ (a_ (Eq.refl 6) g4) tr) (a_ (a_ tr tr) (a_ (a_ (lt_ 0 1 rfl) tr) (a_ (a_ tr tr) tr))))))))) (a_ (a_ (a_ tr tr) (a_ (a_ tr tr) (a_ (a_ tr tr) (a_ (a_ tr tr) (a_ (a_ (a_ tr (lt_ 0 1 rfl)) tr) (a_ (a_ tr tr) (a_ (a_ (a_ (Eq.refl 6) g5) (a_ (le_take c_T_parrelref14_One default 6 s.f_L y2.toNat (toN_le g5.2.2)) tr)) (a_ (a_ (a_ (Eq.refl 6) (a_ (lt_ 0 6 rfl) (a_ (lt_ 0 48 rfl) (a_ g6 (a_ (Eq.refl 6) (Eq.refl true)))))) tr) (a_ (a_ tr tr) (a_ (a_ tr tr) (a_ (a_ tr tr) (a_ (a_ (a_ tr (lt_ 0 1 rfl)) tr) (a_ (a_ tr tr) (a_ (a_ tr tr) (a_ (a_ (a_ (Eq.refl 6) g7) (a_ (le_drop c_T_parrelref14_One default 6 s.f_L ((IntKind.wrap .i64 (y2 + 1))).toNat (toN_le g7.2.1)) tr)) (a_ (a_ (a_ (Eq.refl 6) (a_ (a_ (lt_ 0 6 rfl) (a_ (lt_ 0 48 rfl) (a_ g8 (a_ (Eq.refl 6) (Eq.refl true))))) (a_ (Eq.refl 6) (Nat.le_refl ((s.f_L.take y2.toNat)).length)))) (a_ (le_gs_app 3 (s.f_L.take y2.toNat) (s.f_L.drop ((IntKind.wrap .i64 (y2 + 1))).toNat)) (a_ (sub_app c_T_parrelref14_One default 6 (s.f_L.take y2.toNat) (s.f_L.drop ((IntKind.wrap .i64 (y2 + 1))).toNat)) tr))) (a_ (a_ tr tr) (a_ (a_ tr tr) (a_ (a_ (a_ (Eq.refl 1) (a_ (le_ 1 1 rfl) (Eq.refl 0))) tr) tr))))))))))))))))))) (a_ (a_ (a_ tr tr) (a_ (a_ tr tr) (a_ (a_ tr tr) tr))) (a_ (a_ (fz_row (enc := c_T_parrelref14_One) (d := default) (fun _ => rfl) ((s.f_L.take y2.toNat) ++ (s.f_L.drop ((IntKind.wrap .i64 (y2 + 1))).toNat))) (a_ (Nat.le_refl (((s.f_L.take y2.toNat) ++ (s.f_L.drop ((IntKind.wrap .i64 (y2 + 1))).toNat))).length) (a_ (Nat.le_refl (((s.f_L.take y2.toNat) ++ (s.f_L.drop ((IntKind.wrap .i64 (y2 + 1))).toNat))).length) tr))) tr))))))) tr) (by kernel_rfl) rfl

/-- (*parrel/stage.Stage).Writes -/

def stage_Stage_Writes_v (r : (List (T_api_Write)) × (T_api_Reg) × (Bool)) : LV := .tup [.ds 21 (r.1).length (rowF c_T_api_Write default r.1), v_T_api_Reg r.2.1, .bool r.2.2]

def stage_Stage_Writes_up (all : List (T_api_Tx × T_stage_prepared)) (owners : List (A8 (Int) × T_api_Tx)) (t : T_api_Tx) (r : (List (T_api_Write)) × (T_api_Reg) × (Bool)) : Upd := [(0, some (.var [.map 1, .map 2])), (1, some (.map true [.int .u8, .int .u32, .int .u32] (encM v_T_api_Tx v_T_stage_prepared all))), (2, some (.map true [.int .u8, .int .u8, .int .u8, .int .u8, .int .u8, .int .u8, .int .u8, .int .u8] (encM (fun z_ : A8 (Int) => LV.agg [.int .u8 z_.a0, .int .u8 z_.a1, .int .u8 z_.a2, .int .u8 z_.a3, .int .u8 z_.a4, .int .u8 z_.a5, .int .u8 z_.a6, .int .u8 z_.a7]) v_T_api_Tx owners)))]

def stage_Stage_Writes_objs (all : List (T_api_Tx × T_stage_prepared)) (owners : List (A8 (Int) × T_api_Tx)) (t : T_api_Tx) : List LO := [.var [.map 1, .map 2], .map true [.int .u8, .int .u32, .int .u32] (encM v_T_api_Tx v_T_stage_prepared all), .map true [.int .u8, .int .u8, .int .u8, .int .u8, .int .u8, .int .u8, .int .u8, .int .u8] (encM (fun z_ : A8 (Int) => LV.agg [.int .u8 z_.a0, .int .u8 z_.a1, .int .u8 z_.a2, .int .u8 z_.a3, .int .u8 z_.a4, .int .u8 z_.a5, .int .u8 z_.a6, .int .u8 z_.a7]) v_T_api_Tx owners)]

def stage_Stage_Writes (all : List (T_api_Tx × T_stage_prepared)) (owners : List (A8 (Int) × T_api_Tx)) (t : T_api_Tx) : Option ((List (T_api_Write)) × (T_api_Reg) × (Bool)) :=
  (stage_Stage_ok all owners).bind fun y2 =>
  if (0 + (((mget all t).getD default).f_writes).length) * 48 ≤ 140737488351232 then
  some (((mget all t).getD default).f_writes, ((mget all t).getD default).f_reg, ((mget all t).isSome))
  else none

theorem stage_Stage_Writes_ok (all : List (T_api_Tx × T_stage_prepared)) (owners : List (A8 (Int) × T_api_Tx)) (t : T_api_Tx) (r : (List (T_api_Write)) × (T_api_Reg) × (Bool)) (h : stage_Stage_Writes all owners t = some r) : ∀ σ, Inj 3 σ → FnTri Tryd.prog 18 (renL σ [.ptr 0 0 0, v_T_api_Tx t]) (preOf σ 0 (stage_Stage_Writes_objs all owners t)) ((stage_Stage_Writes_v r).ren σ) (upOf σ (stage_Stage_Writes_up all owners t r)) := by
  refine fn_of Tryd.func18 (by kernel_rfl) (by kernel_rfl) (by kernel_rfl) ⟨rfl, trivial, trivial, trivial⟩ (by kernel_rfl) ⟨rfl, trivial, trivial, trivial⟩ (by kernel_rfl) ?_
  intro w0 W μ0 hμ
  unfold stage_Stage_Writes at h
  obtain ⟨y2, e1, h⟩ := bind_some h
  obtain ⟨g3, h⟩ := guard_some h
  obtain rfl := Option.some.inj h
  exact run_ret mixed (L := []) (n := 24) (s := [.reg [(1, { v := some (.ds 21 (([] : List (T_api_Write))).length (rowF c_T_api_Write default ([] : List (T_api_Write)))) })], .reg [(1, { call := some ((stage_Stage_ok_v y2).ren (sel [0, 1, 2]), preOf (sel [0, 1, 2]) 0 (stage_Stage_ok_objs all owners), upOf (sel [0, 1, 2]) (stage_Stage_ok_up all owners y2)) })], .reg [(5, { look := ((mget all t).map v_T_stage_prepared), v := some (.tup [v_T_stage_prepared ((mget all t).getD default), .bool ((mget all t).isSome)]) })], .reg [(2, { call := some (.ds 21 (((mget all t).getD default).f_writes).length (rowF c_T_api_Write default ((mget all t).getD default).f_writes), [], []) })]])
    (a_ (a_ (a_ (a_ tr tr) (a_ (a_ tr (a_ (le_nil_ds 21 (rowF c_T_api_Write default [])) tr)) (a_ (a_ tr tr) (a_ (a_ tr tr) tr)))) (a_ (a_ (a_ tr tr) (a_ (a_ (a_ (stage_Stage_ok_ok all owners y2 e1 (sel [0, 1, 2]) (sel_inj rfl rfl)) (a_ (LO.Le.refl (.var [.map 1, .map 2])) (a_ (LO.Le.refl (.map true [.int .u8, .int .u32, .int .u32] (encM v_T_api_Tx v_T_stage_prepared all))) (a_ (LO.Le.refl (.map true [.int .u8, .int .u8, .int .u8, .int .u8, .int .u8, .int .u8, .int .u8, .int .u8] (encM (fun z_ : A8 (Int) => LV.agg [.int .u8 z_.a0, .int .u8 z_.a1, .int .u8 z_.a2, .int .u8 z_.a3, .int .u8 z_.a4, .int .u8 z_.a5, .int .u8 z_.a6, .int .u8 z_.a7]) v_T_api_Tx owners))) tr)))) tr) (a_ (a_ tr tr) tr))) (a_ (a_ (a_ tr tr) (a_ (a_ tr tr) (a_ (a_ tr tr) (a_ (a_ (a_ tr (lt_ 0 2 rfl)) tr) (a_ (a_ (a_ tr (le_ 3 3 rfl)) tr) (a_ (a_ (a_ (Eq.refl true) (findE_enc v_T_api_Tx v_T_stage_prepared k_T_api_Tx all t)) (a_ (le_lookok0 v_T_stage_prepared (mget all t) default (le_agg (l := [.int .u32 0, .int .u32 0, .nilsl]) (m := [.int .u32 (default : T_stage_prepared).f_reg.f_Boot, .int .u32 (default : T_stage_prepared).f_reg.f_N, .ds 21 ((default : T_stage_prepared).f_writes).length (rowF c_T_api_Write default (default : T_stage_prepared).f_writes)]) (a_ (LV.Le.refl (.int .u32 0)) (a_ (LV.Le.refl (.int .u32 0)) (a_ (le_nil_ds 21 (rowF c_T_api_Write default [])) tr))))) tr)) (a_ (a_ tr tr) (a_ (a_ tr tr) (a_ (a_ tr tr) (a_ (a_ tr tr) (a_ (a_ (a_ (Eq.refl 3) (a_ (le_ 3 3 rfl) (Eq.refl 0))) tr) (a_ (a_ tr tr) tr)))))))))))) (a_ (a_ (a_ tr tr) (a_ (a_ (a_ tr (lt_ 2 3 rfl)) tr) (a_ (a_ (a_ (slices_Clone_api_Write_api_Write_c ((mget all t).getD default).f_writes g3) tr) tr) (a_ (a_ tr tr) (a_ (a_ (a_ tr (le_ 2 3 rfl)) tr) (a_ (a_ tr tr) (a_ (a_ tr tr) (a_ (a_ (a_ (Eq.refl 2) (a_ (le_ 2 2 rfl) (Eq.refl 0))) tr) (a_ (a_ tr tr) tr))))))))) tr)))) (a_ (a_ tr (le_ 2 2 rfl)) tr)) (by kernel_rfl) rfl

/-- (*parrel/parrelref14.Stage).Writes -/

def parrelref14_Stage_Writes_v (r : (List (T_api_Write)) × (T_api_Reg) × (Bool)) : LV := .tup [.ds 21 (r.1).length (rowF c_T_api_Write default r.1), v_T_api_Reg r.2.1, .bool r.2.2]

def parrelref14_Stage_Writes_up (s : T_parrelref14_Stage) (t : T_api_Tx) (r : (List (T_api_Write)) × (T_api_Reg) × (Bool)) : Upd := [(0, some (.var (c_T_parrelref14_Stage s)))]

def parrelref14_Stage_Writes_objs (s : T_parrelref14_Stage) (t : T_api_Tx) : List LO := [.var (c_T_parrelref14_Stage s)]

def parrelref14_Stage_Writes (s : T_parrelref14_Stage) (t : T_api_Tx) : Option ((List (T_api_Write)) × (T_api_Reg) × (Bool)) :=
  (parrelref14_Stage_find s t).bind fun y2 =>
  if ((decide (y2 < 0)) : Bool) then
    some (([] : List (T_api_Write)), (T_api_Reg.mk 0 0), false)
  else
    if 0 ≤ y2 ∧ y2 < (((s.f_L).length : Nat) : Int) then
    some ((s.f_L.getD y2.toNat default).f_Writes, (s.f_L.getD y2.toNat default).f_Reg, true)
    else none

theorem parrelref14_Stage_Writes_ok (s : T_parrelref14_Stage) (t : T_api_Tx) (r : (List (T_api_Write)) × (T_api_Reg) × (Bool)) (h : parrelref14_Stage_Writes s t = some r) : ∀ σ, Inj 1 σ → FnTri Tryd.prog 19 (renL σ [.ptr 0 0 0, v_T_api_Tx t]) (preOf σ 0 (parrelref14_Stage_Writes_objs s t)) ((parrelref14_Stage_Writes_v r).ren σ) (upOf σ (parrelref14_Stage_Writes_up s t r)) := by
  refine fn_of Tryd.func19 (by kernel_rfl) (by kernel_rfl) (by kernel_rfl) ⟨rfl, trivial⟩ (by kernel_rfl) ⟨rfl, trivial⟩ (by kernel_rfl) ?_
  intro w0 W μ0 hμ
  unfold parrelref14_Stage_Writes at h
  obtain ⟨y2, e1, h⟩ := bind_some h
  rcases itb_some h with ⟨c3, h⟩ | ⟨c3, h⟩
  · skip
    obtain rfl := Option.some.inj h
    exact run_ret mixed (L := []) (n := 23) (s := [.reg [(1, { v := some (.ds 21 (([] : List (T_api_Write))).length (rowF c_T_api_Write default ([] : List (T_api_Write)))) })], .reg [(2, { call := some ((parrelref14_Stage_find_v y2).ren (sel [0]), preOf (sel [0]) 0 (parrelref14_Stage_find_objs s t), upOf (sel [0]) (parrelref14_Stage_find_up s t y2)) })], .reg [(1, { v := some (.bool true) })], .reg [(1, { v := some (.ds 21 (([] : List (T_api_Write))).length (rowF c_T_api_Write default ([] : List (T_api_Write)))) })]])
      (a_ (a_ (a_ (a_ tr tr) (a_ (a_ tr (a_ (le_nil_ds 21 (rowF c_T_api_Write default [])) tr)) (a_ (a_ tr tr) (a_ (a_ tr tr) tr)))) (a_ (a_ (a_ tr tr) (a_ (a_ (a_ tr (le_ 3 3 rfl)) tr) (a_ (a_ (a_ (parrelref14_Stage_find_ok s t y2 e1 (sel [0]) (sel_inj rfl rfl)) (a_ (LO.Le.refl (.var (c_T_parrelref14_Stage s))) tr)) tr) (a_ (a_ tr tr) tr)))) (a_ (a_ (a_ tr tr) (a_ (a_ tr (a_ (leB c3) tr)) tr)) (a_ (a_ (a_ (Eq.refl true) tr) (a_ (a_ tr (a_ (le_nil_ds 21 (rowF c_T_api_Write default [])) tr)) (a_ (a_ (a_ (Eq.refl 2) (a_ (le_ 2 2 rfl) (Eq.refl 0))) tr) (a_ (a_ tr tr) tr)))) tr)))) (a_ (a_ tr (le_ 2 2 rfl)) tr)) (by kernel_rfl) rfl
  · skip
    obtain ⟨g4, h⟩ := guard_some h
    obtain rfl := Option.some.inj h
    exact run_ret mixed (L := []) (n := 24) (s := [.reg [(1, { v := some (.ds 21 (([] : List (T_api_Write))).length (rowF c_T_api_Write default ([] : List (T_api_Write)))) })], .reg [(2, { call := some ((parrelref14_Stage_find_v y2).ren (sel [0]), preOf (sel [0]) 0 (parrelref14_Stage_find_objs s t), upOf (sel [0]) (parrelref14_Stage_find_up s t y2)) })], .reg [(1, { v := some (.bool false) })], .reg []])
      (a_ (a_ (a_ (a_ tr tr) (a_ (a_ tr (a_ (le_nil_ds 21 (rowF c_T_api_Write default [])) tr)) (a_ (a_ tr tr) (a_ (a_ tr tr) tr)))) (a_ (a_ (a_ tr tr) (a_ (a_ (a_ tr (le_ 3 3 rfl)) tr) (a_ (a_ (a_ (parrelref14_Stage_find_ok s t y2 e1 (sel [0]) (sel_inj rfl rfl)) (a_ (LO.Le.refl (.var (c_T_parrelref14_Stage s))) tr)) tr) (a_ (a_ tr tr) tr)))) (a_ (a_ (a_ tr tr) (a_ (a_ tr (a_ (leB c3) tr)) tr)) (a_ (a_ (a_ tr tr) (a_ (a_ tr tr) (a_ (a_ tr tr) (a_ (a_ (a_ tr (lt_ 0 1 rfl)) tr) (a_ (a_ tr tr) (a_ (a_ (a_ (Eq.refl 6) g4) tr) (a_ (a_ tr tr) (a_ (a_ (lt_ 0 1 rfl) tr) (a_ (a_ tr tr) (a_ (a_ tr tr) (a_ (a_ tr tr) (a_ (a_ (a_ tr (lt_ 0 1 rfl)) tr) (a_ (a_ tr tr) (a_ (a_ (a_ (Eq.refl 6) g4) tr) (a_ (a_ tr tr) (a_ (a_ (le_ 2 3 rfl) tr) (a_ (a_ tr tr) (a_ (a_ (a_ (Eq.refl 2) (a_ (le_ 2 2 rfl) (Eq.refl 0))) tr) (a_ (a_ tr tr) tr))))))))))))))))))) tr)))) (a_ (a_ tr (le_ 2 2 rfl)) tr)) (by kernel_rfl) rfl

/-- (*parrel/parrelref14.Stage).All -/

def parrelref14_Stage_All_v (r : (List (T_api_Tx))) : LV := .ds 3 (r).length (rowF c_T_api_Tx default r)

def parrelref14_Stage_All_up (s : T_parrelref14_Stage) (r : (List (T_api_Tx))) : Upd := [(0, some (.var (c_T_parrelref14_Stage s)))]

def parrelref14_Stage_All_objs (s : T_parrelref14_Stage) : List LO := [.var (c_T_parrelref14_Stage s)]

def parrelref14_Stage_All_T0 (s : T_parrelref14_Stage) (i : Int) (l : List (T_api_Tx)) : List LV := [.ptr 0 0 0, .any, .any, .gs 1 (l).length, .int .i64 i, .any, .any, .any, .any, .any, .any, .any, .any, .any, .any, .any, .any, .any, .any, .any, .any, .any, .any, .any, .any, .any]

def parrelref14_Stage_All_H0 (s : T_parrelref14_Stage) (i : Int) (l : List (T_api_Tx)) : Heap := [some (.var (c_T_parrelref14_Stage s)), some (.gr 3 (l).length (rowF c_T_api_Tx default l))]

def parrelref14_Stage_All_l0 (s : T_parrelref14_Stage)  : Nat → (Int) → (List (T_api_Tx)) → Option ((List (T_api_Tx)))
  | 0, _, _ => none
  | fuel + 1, i, l =>
    if ((decide (i < ((s.f_L).length : Int))) : Bool) then
      if 0 ≤ i ∧ i < (((s.f_L).length : Nat) : Int) then
      if ((l).length + ([(s.f_L.getD i.toNat default).f_Tx]).length) * 12 ≤ 140737488351232 then
      parrelref14_Stage_All_l0 s  fuel (IntKind.wrap .i64 (i + 1)) (l ++ [(s.f_L.getD i.toNat default).f_Tx])
      else none
      else none
    else
      some l

def parrelref14_Stage_All (s : T_parrelref14_Stage) : Option ((List (T_api_Tx))) :=
  parrelref14_Stage_All_l0 s  big 0 ([] : List (T_api_Tx))

theorem parrelref14_Stage_All_l0_ok {w0 : World} {W : Nat → Prop} {μ0 : Emb} (hμ : ∀ c p, μ0 c = some p → c < 1) (s : T_parrelref14_Stage)  : ∀ (fuel : Nat) (i : Int) (l : List (T_api_Tx)) (r : (List (T_api_Tx))), parrelref14_Stage_All_l0 s  fuel i l = some r → kont Tryd.prog w0 W μ0 (FnPost Tryd.prog Tryd.f21 1 1 (parrelref14_Stage_All_v r) (parrelref14_Stage_All_up s r)) (kAt (bodyOf Tryd.f21) 0) none (parrelref14_Stage_All_T0 s i l) (parrelref14_Stage_All_H0 s i l) := by
  intro fuel
  induction fuel with
  | zero => intro i l r h; rw [parrelref14_Stage_All_l0] at h; cases h
  | succ fuel ih =>
    intro i l r h
    rw [parrelref14_Stage_All_l0] at h
    rcases itb_some h with ⟨cL0_1, h⟩ | ⟨cL0_1, h⟩
    · skip
      obtain ⟨gL0_2, h⟩ := guard_some h
      obtain ⟨gL0_3, h⟩ := guard_some h
      exact run_to mixed hμ (L := [3]) (n := 23) (s := [.go, .reg [(6, { v := some (.bool true) })], .reg [(9, { os := [(2, .gr 3 ([(s.f_L.getD i.toNat default).f_Tx]).length (rowF c_T_api_Tx default [(s.f_L.getD i.toNat default).f_Tx]))], v := some (.gs 2 ([(s.f_L.getD i.toNat default).f_Tx]).length) }), (10, { app := 3, os := [(3, .gr 3 ((l ++ [(s.f_L.getD i.toNat default).f_Tx])).length (rowF c_T_api_Tx default (l ++ [(s.f_L.getD i.toNat default).f_Tx])))], v := some (.gs 3 ((l ++ [(s.f_L.getD i.toNat default).f_Tx])).length) })], .reg []])
        (a_ (a_ (a_ tr tr) (a_ (a_ tr tr) (a_ (a_ tr tr) (a_ (a_ tr tr) (a_ (a_ (a_ tr (lt_ 0 1 rfl)) tr) (a_ (a_ tr tr) (a_ (a_ tr (a_ (leB cL0_1) tr)) tr))))))) (a_ (a_ (a_ tr tr) (a_ (a_ tr tr) (a_ (a_ tr tr) (a_ (a_ tr tr) (a_ (a_ (a_ tr (lt_ 0 1 rfl)) tr) (a_ (a_ tr tr) (a_ (a_ (a_ (Eq.refl 6) gL0_2) tr) (a_ (a_ tr tr) (a_ (a_ (le_ 3 6 rfl) tr) (a_ (a_ (a_ (Eq.refl true) (a_ (Eq.refl 3) (a_ (lt_ 0 3 rfl) (le_ 3 16777216 rfl)))) (a_ (le_sl_gs 2 1 (some 1) rfl) (a_ (sub_lit c_T_api_Tx default 3 (fun _ => rfl) [(s.f_L.getD i.toNat default).f_Tx]) tr))) (a_ (a_ (a_ (a_ (Eq.refl 3) (Nat.le_refl ([(s.f_L.getD i.toNat default).f_Tx]).length)) (a_ (a_ (lt_ 0 3 rfl) (a_ (lt_ 0 12 rfl) (a_ gL0_3 (a_ (Eq.refl 3) (Eq.refl true))))) (a_ (Eq.refl 3) (Nat.le_refl (l).length)))) (a_ (le_gs_app 3 l [(s.f_L.getD i.toNat default).f_Tx]) (a_ (sub_app c_T_api_Tx default 3 l [(s.f_L.getD i.toNat default).f_Tx]) tr))) (a_ (a_ tr tr) tr)))))))))))) (a_ (a_ (a_ tr tr) (a_ (a_ tr tr) (a_ (a_ tr tr) tr))) tr))) (ih _ _ r h) (by kernel_rfl) ⟨rfl, fun _ _ => rfl, trivial⟩
    · skip
      obtain rfl := Option.some.inj h
      exact run_ret mixed (L := []) (n := 20) (s := [.go, .reg [(6, { v := some (.bool false) })], .reg [], .frz 1])
        (a_ (a_ (a_ (a_ tr tr) (a_ (a_ tr tr) (a_ (a_ tr tr) (a_ (a_ tr tr) (a_ (a_ (a_ tr (lt_ 0 1 rfl)) tr) (a_ (a_ tr tr) (a_ (a_ tr (a_ (leB cL0_1) tr)) tr))))))) (a_ (a_ (a_ tr tr) (a_ (a_ tr tr) tr)) (a_ (a_ (fz_row (enc := c_T_api_Tx) (d := default) (fun _ => rfl) l) (a_ (Nat.le_refl (l).length) (a_ (Nat.le_refl (l).length) (a_ (Nat.le_refl (l).length) tr)))) tr))) tr) (by kernel_rfl) rfl

theorem parrelref14_Stage_All_ok (s : T_parrelref14_Stage) (r : (List (T_api_Tx))) (h : parrelref14_Stage_All s = some r) : ∀ σ, Inj 1 σ → FnTri Tryd.prog 21 (renL σ [.ptr 0 0 0]) (preOf σ 0 (parrelref14_Stage_All_objs s)) ((parrelref14_Stage_All_v r).ren σ) (upOf σ (parrelref14_Stage_All_up s r)) := by
  refine fn_of Tryd.func21 (by kernel_rfl) (by kernel_rfl) (by kernel_rfl) ⟨rfl, trivial⟩ (by kernel_rfl) ⟨rfl, trivial⟩ (by kernel_rfl) ?_
  intro w0 W μ0 hμ
  unfold parrelref14_Stage_All at h
  exact run_to mixed hμ (L := [1]) (n := 22) (s := [.reg [(0, { v := some (.ds 3 (([] : List (T_api_Tx))).length (rowF c_T_api_Tx default ([] : List (T_api_Tx)))) })], .void (.gr 3 (([] : List (T_api_Tx))).length (rowF c_T_api_Tx default ([] : List (T_api_Tx)))), .reg [(0, { v := some (.gs 1 (([] : List (T_api_Tx))).length) })], .reg []])
    (a_ (a_ (a_ tr (a_ (le_nil_ds 3 (rowF c_T_api_Tx default [])) tr)) tr) (a_ (Eq.refl 0) (a_ (a_ (a_ tr (a_ (le_nil_gs 1) tr)) tr) (a_ (a_ (a_ tr tr) tr) tr)))) (parrelref14_Stage_All_l0_ok hμ s  big _ _ r h) (by kernel_rfl) ⟨rfl, fun _ _ => rfl, trivial⟩

/-- parrel/parrelref05.Same -/

def parrelref05_Same_v (r : (Bool)) : LV := .bool r

def parrelref05_Same_T0 (a : List (T_api_Tx)) (b : List (T_api_Tx)) (i : Int) : List LV := [.ds 3 (a).length (rowF c_T_api_Tx default a), .ds 3 (b).length (rowF c_T_api_Tx default b), .any, .any, .any, .int .i64 i, .any, .any, .any, .any, .any, .any, .any, .any, .any, .any, .any, .any, .any, .any, .any, .any, .any, .any, .any, .any]

def parrelref05_Same_H0 (a : List (T_api_Tx)) (b : List (T_api_Tx)) (i : Int) : Heap := []

def parrelref05_Same_l0 (a : List (T_api_Tx)) (b : List (T_api_Tx))  : Nat → (Int) → Option ((Bool))
  | 0, _ => none
  | fuel + 1, i =>
    if ((decide (i < ((a).length : Int))) : Bool) then
      if 0 ≤ i ∧ i < (((a).length : Nat) : Int) then
      if 0 ≤ i ∧ i < (((b).length : Nat) : Int) then
      if ((!decide ((a.getD i.toNat default) = (b.getD i.toNat default))) : Bool) then
        some false
      else
        parrelref05_Same_l0 a b  fuel (IntKind.wrap .i64 (i + 1))
      else none
      else none
    else
      some true

def parrelref05_Same (a : List (T_api_Tx)) (b : List (T_api_Tx)) : Option ((Bool)) :=
  if ((((a).length : Int) != ((b).length : Int)) : Bool) then
    some false
  else
    parrelref05_Same_l0 a b  big 0

theorem parrelref05_Same_l0_ok {w0 : World} {W : Nat → Prop} {μ0 : Emb} (hμ : ∀ c p, μ0 c = some p → c < 0) (a : List (T_api_Tx)) (b : List (T_api_Tx))  : ∀ (fuel : Nat) (i : Int) (r : (Bool)), parrelref05_Same_l0 a b  fuel i = some r → kont Tryd.prog w0 W μ0 (FnPost Tryd.prog Tryd.f20 0 0 (parrelref05_Same_v r) []) (kAt (bodyOf Tryd.f20) 0) none (parrelref05_Same_T0 a b i) (parrelref05_Same_H0 a b i) := by
  intro fuel
  induction fuel with
  | zero => intro i r h; rw [parrelref05_Same_l0] at h; cases h
  | succ fuel ih =>
    intro i r h
    rw [parrelref05_Same_l0] at h
    rcases itb_some h with ⟨cL0_1, h⟩ | ⟨cL0_1, h⟩
    · skip
      obtain ⟨gL0_2, h⟩ := guard_some h
      obtain ⟨gL0_3, h⟩ := guard_some h
      rcases itb_some h with ⟨cL0_4, h⟩ | ⟨cL0_4, h⟩
      · skip
        obtain rfl := Option.some.inj h
        exact run_ret mixed (L := []) (n := 25) (s := [.go, .reg [(3, { v := some (.bool true) })], .reg [(8, { v := some (.bool true) })], .reg []])
          (a_ (a_ (a_ (a_ tr tr) (a_ (a_ tr tr) (a_ (a_ tr tr) (a_ (a_ tr (a_ (leB cL0_1) tr)) tr)))) (a_ (a_ (a_ tr tr) (a_ (a_ tr tr) (a_ (a_ (a_ (Eq.refl 3) gL0_2) tr) (a_ (a_ (le_ 3 3 rfl) tr) (a_ (a_ tr tr) (a_ (a_ tr tr) (a_ (a_ (a_ (Eq.refl 3) gL0_3) tr) (a_ (a_ (le_ 3 3 rfl) tr) (a_ (a_ tr (a_ (LV.Le.trans (leB (congrArg not (k_T_api_Tx (a.getD i.toNat default) (b.getD i.toNat default)))) (leB cL0_4)) tr)) tr))))))))) (a_ (a_ (a_ tr tr) tr) tr))) tr) (by kernel_rfl) rfl
      · skip
        exact run_to mixed hμ (L := []) (n := 26) (s := [.go, .reg [(3, { v := some (.bool true) })], .reg [(8, { v := some (.bool false) })], .reg []])
          (a_ (a_ (a_ tr tr) (a_ (a_ tr tr) (a_ (a_ tr tr) (a_ (a_ tr (a_ (leB cL0_1) tr)) tr)))) (a_ (a_ (a_ tr tr) (a_ (a_ tr tr) (a_ (a_ (a_ (Eq.refl 3) gL0_2) tr) (a_ (a_ (le_ 3 3 rfl) tr) (a_ (a_ tr tr) (a_ (a_ tr tr) (a_ (a_ (a_ (Eq.refl 3) gL0_3) tr) (a_ (a_ (le_ 3 3 rfl) tr) (a_ (a_ tr (a_ (LV.Le.trans (leB (congrArg not (k_T_api_Tx (a.getD i.toNat default) (b.getD i.toNat default)))) (leB cL0_4)) tr)) tr))))))))) (a_ (a_ (a_ tr tr) (a_ (a_ tr tr) (a_ (a_ tr tr) tr))) tr))) (ih _ r h) (by kernel_rfl) trivial
    · skip
      obtain rfl := Option.some.inj h
      exact run_ret mixed (L := []) (n := 19) (s := [.go, .reg [(3, { v := some (.bool false) })], .reg []])
        (a_ (a_ (a_ (a_ tr tr) (a_ (a_ tr tr) (a_ (a_ tr tr) (a_ (a_ tr (a_ (leB cL0_1) tr)) tr)))) (a_ (a_ (a_ tr tr) tr) tr)) tr) (by kernel_rfl) rfl

theorem parrelref05_Same_ok (a : List (T_api_Tx)) (b : List (T_api_Tx)) (r : (Bool)) (h : parrelref05_Same a b = some r) : ∀ σ, Inj 0 σ → FnTri Tryd.prog 20 (renL σ [.ds 3 (a).length (rowF c_T_api_Tx default a), .ds 3 (b).length (rowF c_T_api_Tx default b)]) (preOf σ 0 []) ((parrelref05_Same_v r).ren σ) (upOf σ []) := by
  refine fn_of Tryd.func20 (by kernel_rfl) (by kernel_rfl) (by kernel_rfl) trivial (by kernel_rfl) trivial (by kernel_rfl) ?_
  intro w0 W μ0 hμ
  unfold parrelref05_Same at h
  rcases itb_some h with ⟨c1, h⟩ | ⟨c1, h⟩
  · skip
    obtain rfl := Option.some.inj h
    exact run_ret mixed (L := []) (n := 20) (s := [.reg [], .reg [(4, { v := some (.bool true) })], .reg []])
      (a_ (a_ (a_ (a_ tr tr) tr) (a_ (a_ (a_ tr tr) (a_ (a_ tr tr) (a_ (a_ tr tr) (a_ (a_ tr tr) (a_ (a_ tr (a_ (leB c1) tr)) tr))))) (a_ (a_ (a_ tr tr) tr) tr))) tr) (by kernel_rfl) rfl
  · skip
    exact run_to mixed hμ (L := []) (n := 24) (s := [.reg [], .reg [(4, { v := some (.bool false) })], .reg []])
      (a_ (a_ (a_ tr tr) tr) (a_ (a_ (a_ tr tr) (a_ (a_ tr tr) (a_ (a_ tr tr) (a_ (a_ tr tr) (a_ (a_ tr (a_ (leB c1) tr)) tr))))) (a_ (a_ (a_ tr tr) tr) tr))) (parrelref05_Same_l0_ok hμ a b  big _ r h) (by kernel_rfl) trivial

theorem parrelref05_Same_tri (a : List (T_api_Tx)) (b : List (T_api_Tx)) (r : (Bool)) (h : parrelref05_Same a b = some r) : FnTri Tryd.prog 20 [.ds 3 (a).length (rowF c_T_api_Tx default a), .ds 3 (b).length (rowF c_T_api_Tx default b)] [] (parrelref05_Same_v r) [] := FnTri.none (parrelref05_Same_ok a b r h) rfl rfl

/-- parrel/parrelref05.count -/

def parrelref05_count_v (r : (Bool)) : LV := .bool r

def parrelref05_count (x_n : Int) : Option ((Bool)) :=
  if ((decide (1 ≤ x_n)) : Bool) then
    some (decide (x_n ≤ 2147483647))
  else
    some false

theorem parrelref05_count_ok (x_n : Int) (r : (Bool)) (h : parrelref05_count x_n = some r) : ∀ σ, Inj 0 σ → FnTri Tryd.prog 45 (renL σ [.int .u32 x_n]) (preOf σ 0 []) ((parrelref05_count_v r).ren σ) (upOf σ []) := by
  refine fn_of Tryd.func45 (by kernel_rfl) (by kernel_rfl) (by kernel_rfl) trivial (by kernel_rfl) trivial (by kernel_rfl) ?_
  intro w0 W μ0 hμ
  unfold parrelref05_count at h
  rcases itb_some h with ⟨c1, h⟩ | ⟨c1, h⟩
  · skip
    obtain rfl := Option.some.inj h
    exact run_ret mixed (L := []) (n := 15) (s := [.reg [], .reg [(2, { v := some (.bool true) })]])
      (a_ (a_ (a_ (a_ tr tr) tr) (a_ (a_ (a_ tr tr) (a_ (a_ tr tr) (a_ (a_ tr (a_ (leB c1) tr)) (a_ (a_ tr tr) (a_ (a_ tr tr) (a_ (a_ tr tr) (a_ (a_ tr tr) tr))))))) tr)) tr) (by kernel_rfl) rfl
  · skip
    obtain rfl := Option.some.inj h
    exact run_ret mixed (L := []) (n := 15) (s := [.reg [], .reg [(2, { v := some (.bool false) })]])
      (a_ (a_ (a_ (a_ tr tr) tr) (a_ (a_ (a_ tr tr) (a_ (a_ tr tr) (a_ (a_ tr (a_ (leB c1) tr)) (a_ tr (a_ tr (a_ (a_ tr tr) (a_ (a_ tr tr) tr))))))) tr)) tr) (by kernel_rfl) rfl

theorem parrelref05_count_tri (x_n : Int) (r : (Bool)) (h : parrelref05_count x_n = some r) : FnTri Tryd.prog 45 [.int .u32 x_n] [] (parrelref05_count_v r) [] := FnTri.none (parrelref05_count_ok x_n r h) rfl rfl

/-- parrel/parrelref05.TxMay -/

def parrelref05_TxMay_v (r : (Bool)) : LV := .bool r

def parrelref05_TxMay (t : T_api_Tx) : Option ((Bool)) :=
  if ((decide (t.f_Node < 8)) : Bool) then
    (parrelref05_count t.f_Boot).bind fun y3 =>
    if (y3 : Bool) then
      (parrelref05_count t.f_Num).bind fun y6 =>
      some y6
    else
      some false
  else
    some false

theorem parrelref05_TxMay_ok (t : T_api_Tx) (r : (Bool)) (h : parrelref05_TxMay t = some r) : ∀ σ, Inj 0 σ → FnTri Tryd.prog 32 (renL σ [v_T_api_Tx t]) (preOf σ 0 []) ((parrelref05_TxMay_v r).ren σ) (upOf σ []) := by
  refine fn_of Tryd.func32 (by kernel_rfl) (by kernel_rfl) (by kernel_rfl) trivial (by kernel_rfl) trivial (by kernel_rfl) ?_
  intro w0 W μ0 hμ
  unfold parrelref05_TxMay at h
  rcases itb_some h with ⟨c1, h⟩ | ⟨c1, h⟩
  · skip
    obtain ⟨y3, e2, h⟩ := bind_some h
    rcases itb_some h with ⟨c4, h⟩ | ⟨c4, h⟩
    · skip
      obtain ⟨y6, e5, h⟩ := bind_some h
      obtain rfl := Option.some.inj h
      exact run_ret mixed (L := []) (n := 15) (s := [.reg [], .reg [(3, { v := some (.bool true) }), (6, { call := some (parrelref05_count_v y3, [], []) }), (8, { v := some (.bool true) }), (11, { call := some (parrelref05_count_v y6, [], []) })]])
        (a_ (a_ (a_ (a_ tr tr) (a_ (a_ tr tr) tr)) (a_ (a_ (a_ tr tr) (a_ (a_ (a_ tr (lt_ 0 3 rfl)) tr) (a_ (a_ tr tr) (a_ (a_ tr (a_ (leB c1) tr)) (a_ (a_ tr tr) (a_ (a_ (a_ tr (lt_ 1 3 rfl)) tr) (a_ (a_ (a_ (parrelref05_count_tri t.f_Boot y3 e2) tr) tr) (a_ (a_ tr tr) (a_ (a_ tr (a_ (leB c4) tr)) (a_ (a_ tr tr) (a_ (a_ (a_ tr (lt_ 2 3 rfl)) tr) (a_ (a_ (a_ (parrelref05_count_tri t.f_Num y6 e5) tr) tr) (a_ (a_ tr tr) (a_ (a_ tr tr) tr)))))))))))))) tr)) tr) (by kernel_rfl) rfl
    · skip
      obtain rfl := Option.some.inj h
      exact run_ret mixed (L := []) (n := 15) (s := [.reg [], .reg [(3, { v := some (.bool true) }), (6, { call := some (parrelref05_count_v y3, [], []) }), (8, { v := some (.bool false) })]])
        (a_ (a_ (a_ (a_ tr tr) (a_ (a_ tr tr) tr)) (a_ (a_ (a_ tr tr) (a_ (a_ (a_ tr (lt_ 0 3 rfl)) tr) (a_ (a_ tr tr) (a_ (a_ tr (a_ (leB c1) tr)) (a_ (a_ tr tr) (a_ (a_ (a_ tr (lt_ 1 3 rfl)) tr) (a_ (a_ (a_ (parrelref05_count_tri t.f_Boot y3 e2) tr) tr) (a_ (a_ tr tr) (a_ (a_ tr (a_ (leB c4) tr)) (a_ tr (a_ tr (a_ tr (a_ (a_ tr tr) (a_ (a_ tr tr) tr)))))))))))))) tr)) tr) (by kernel_rfl) rfl
  · skip
    obtain rfl := Option.some.inj h
    exact run_ret mixed (L := []) (n := 15) (s := [.reg [], .reg [(3, { v := some (.bool false) })]])
      (a_ (a_ (a_ (a_ tr tr) (a_ (a_ tr tr) tr)) (a_ (a_ (a_ tr tr) (a_ (a_ (a_ tr (lt_ 0 3 rfl)) tr) (a_ (a_ tr tr) (a_ (a_ tr (a_ (leB c1) tr)) (a_ tr (a_ tr (a_ tr (a_ (a_ tr tr) (a_ (a_ tr tr) (a_ tr (a_ tr (a_ tr (a_ (a_ tr tr) (a_ (a_ tr tr) tr)))))))))))))) tr)) tr) (by kernel_rfl) rfl

theorem parrelref05_TxMay_tri (t : T_api_Tx) (r : (Bool)) (h : parrelref05_TxMay t = some r) : FnTri Tryd.prog 32 [v_T_api_Tx t] [] (parrelref05_TxMay_v r) [] := FnTri.none (parrelref05_TxMay_ok t r h) rfl rfl

/-- parrel/parrelref05.RegMay -/

def parrelref05_RegMay_v (r : (Bool)) : LV := .bool r

def parrelref05_RegMay (g : T_api_Reg) : Option ((Bool)) :=
  (parrelref05_count g.f_Boot).bind fun y2 =>
  if (y2 : Bool) then
    (parrelref05_count g.f_N).bind fun y5 =>
    some y5
  else
    some false

theorem parrelref05_RegMay_ok (g : T_api_Reg) (r : (Bool)) (h : parrelref05_RegMay g = some r) : ∀ σ, Inj 0 σ → FnTri Tryd.prog 33 (renL σ [v_T_api_Reg g]) (preOf σ 0 []) ((parrelref05_RegMay_v r).ren σ) (upOf σ []) := by
  refine fn_of Tryd.func33 (by kernel_rfl) (by kernel_rfl) (by kernel_rfl) trivial (by kernel_rfl) trivial (by kernel_rfl) ?_
  intro w0 W μ0 hμ
  unfold parrelref05_RegMay at h
  obtain ⟨y2, e1, h⟩ := bind_some h
  rcases itb_some h with ⟨c3, h⟩ | ⟨c3, h⟩
  · skip
    obtain ⟨y5, e4, h⟩ := bind_some h
    obtain rfl := Option.some.inj h
    exact run_ret mixed (L := []) (n := 15) (s := [.reg [], .reg [(2, { call := some (parrelref05_count_v y2, [], []) }), (3, { v := some (.bool true) }), (6, { call := some (parrelref05_count_v y5, [], []) })]])
      (a_ (a_ (a_ (a_ tr tr) (a_ (a_ tr tr) tr)) (a_ (a_ (a_ tr tr) (a_ (a_ (a_ tr (lt_ 0 2 rfl)) tr) (a_ (a_ (a_ (parrelref05_count_tri g.f_Boot y2 e1) tr) tr) (a_ (a_ tr (a_ (leB c3) tr)) (a_ (a_ tr tr) (a_ (a_ (a_ tr (lt_ 1 2 rfl)) tr) (a_ (a_ (a_ (parrelref05_count_tri g.f_N y5 e4) tr) tr) (a_ (a_ tr tr) (a_ (a_ tr tr) tr))))))))) tr)) tr) (by kernel_rfl) rfl
  · skip
    obtain rfl := Option.some.inj h
    exact run_ret mixed (L := []) (n := 15) (s := [.reg [], .reg [(2, { call := some (parrelref05_count_v y2, [], []) }), (3, { v := some (.bool false) })]])
      (a_ (a_ (a_ (a_ tr tr) (a_ (a_ tr tr) tr)) (a_ (a_ (a_ tr tr) (a_ (a_ (a_ tr (lt_ 0 2 rfl)) tr) (a_ (a_ (a_ (parrelref05_count_tri g.f_Boot y2 e1) tr) tr) (a_ (a_ tr (a_ (leB c3) tr)) (a_ tr (a_ tr (a_ tr (a_ (a_ tr tr) (a_ (a_ tr tr) tr))))))))) tr)) tr) (by kernel_rfl) rfl

theorem parrelref05_RegMay_tri (g : T_api_Reg) (r : (Bool)) (h : parrelref05_RegMay g = some r) : FnTri Tryd.prog 33 [v_T_api_Reg g] [] (parrelref05_RegMay_v r) [] := FnTri.none (parrelref05_RegMay_ok g r h) rfl rfl

/-- parrel/parrelref05.Name -/

def parrelref05_Name_v (r : (List UInt8) × (Bool)) : LV := .tup [.str r.1, .bool r.2]

def parrelref05_Name_T1 (x_k : A8 (Int)) (x_n : Int) (i : Int) : List LV := [.any, .ptr 0 0 0, .any, .any, .int .i64 x_n, .int .i64 i, .any, .any, .any, .any, .any, .any, .any, .any, .any, .any, .any, .any, .any, .any, .any, .any, .any, .any, .any, .any, .any, .any, .any, .any]

def parrelref05_Name_H1 (x_k : A8 (Int)) (x_n : Int) (i : Int) : Heap := [some (.var [.int .u8 x_k.a0, .int .u8 x_k.a1, .int .u8 x_k.a2, .int .u8 x_k.a3, .int .u8 x_k.a4, .int .u8 x_k.a5, .int .u8 x_k.a6, .int .u8 x_k.a7])]

def parrelref05_Name_T0 (x_k : A8 (Int)) (x_n : Int) : List LV := [.any, .ptr 0 0 0, .any, .any, .int .i64 x_n, .any, .any, .any, .any, .any, .any, .any, .any, .any, .any, .any, .any, .any, .any, .any, .any, .any, .any, .any, .any, .any, .any, .any, .any, .any]

def parrelref05_Name_H0 (x_k : A8 (Int)) (x_n : Int) : Heap := [some (.var [.int .u8 x_k.a0, .int .u8 x_k.a1, .int .u8 x_k.a2, .int .u8 x_k.a3, .int .u8 x_k.a4, .int .u8 x_k.a5, .int .u8 x_k.a6, .int .u8 x_k.a7])]

def parrelref05_Name_l1 (x_k : A8 (Int)) (x_n : Int)  : Nat → (Int) → Option ((List UInt8) × (Bool))
  | 0, _ => none
  | fuel + 1, i =>
    if ((decide (i < 8)) : Bool) then
      if 0 ≤ i ∧ i < 8 then
      if (((A8.get x_k i.toNat) != 0) : Bool) then
        some ([], false)
      else
        parrelref05_Name_l1 x_k x_n  fuel (IntKind.wrap .i64 (i + 1))
      else none
    else
      if ((x_n == 0) : Bool) then
        some ([], false)
      else
        if 0 ≤ (0 : Int) ∧ 0 ≤ x_n ∧ x_n ≤ 8 then
        some ((strI (([x_k.a0, x_k.a1, x_k.a2, x_k.a3, x_k.a4, x_k.a5, x_k.a6, x_k.a7] : List Int).take (x_n.toNat))), true)
        else none

def parrelref05_Name_l0 (x_k : A8 (Int))  : Nat → (Int) → Option ((List UInt8) × (Bool))
  | 0, _ => none
  | fuel + 1, x_n =>
    if ((decide (x_n < 8)) : Bool) then
      if 0 ≤ x_n ∧ x_n < 8 then
      if (((A8.get x_k x_n.toNat) != 0) : Bool) then
        parrelref05_Name_l0 x_k  fuel (IntKind.wrap .i64 (x_n + 1))
      else
        parrelref05_Name_l1 x_k x_n  big x_n
      else none
    else
      parrelref05_Name_l1 x_k x_n  big x_n

def parrelref05_Name (x_k : A8 (Int)) : Option ((List UInt8) × (Bool)) :=
  parrelref05_Name_l0 x_k  big 0

theorem parrelref05_Name_l1_ok {w0 : World} {W : Nat → Prop} {μ0 : Emb} (hμ : ∀ c p, μ0 c = some p → c < 0) (x_k : A8 (Int)) (x_n : Int)  : ∀ (fuel : Nat) (i : Int) (r : (List UInt8) × (Bool)), parrelref05_Name_l1 x_k x_n  fuel i = some r → kont Tryd.prog w0 W μ0 (FnPost Tryd.prog Tryd.f60 0 0 (parrelref05_Name_v r) []) (kAt (bodyOf Tryd.f60) 1) none (parrelref05_Name_T1 x_k x_n i) (parrelref05_Name_H1 x_k x_n i) := by
  intro fuel
  induction fuel with
  | zero => intro i r h; rw [parrelref05_Name_l1] at h; cases h
  | succ fuel ih =>
    intro i r h
    rw [parrelref05_Name_l1] at h
    rcases itb_some h with ⟨cL1_1, h⟩ | ⟨cL1_1, h⟩
    · skip
      obtain ⟨gL1_2, h⟩ := guard_some h
      rcases itb_some h with ⟨cL1_3, h⟩ | ⟨cL1_3, h⟩
      · skip
        obtain rfl := Option.some.inj h
        exact run_ret mixed (L := []) (n := 25) (s := [.go, .reg [(1, { v := some (.bool true) })], .reg [(2, { v := some (.int .u8 (A8.get x_k i.toNat)) }), (3, { v := some (.bool true) })], .reg []])
          (a_ (a_ (a_ (a_ tr tr) (a_ (a_ tr (a_ (leB cL1_1) tr)) tr)) (a_ (a_ (a_ tr tr) (a_ (a_ gL1_2 tr) (a_ (a_ (a_ tr (arrLt (len := 8) gL1_2 0 1 8 rfl rfl)) (a_ (ld8s (cInt .u8) 1 (fun _ => rfl) x_k [] [] 0 rfl i.toNat (lt8N gL1_2) (le_ (0 + 1) 1 rfl)) tr)) (a_ (a_ tr (a_ (leB cL1_3) tr)) tr)))) (a_ (a_ (a_ tr tr) (a_ (a_ tr tr) tr)) tr))) tr) (by kernel_rfl) rfl
      · skip
        exact run_to mixed hμ (L := [0]) (n := 26) (s := [.go, .reg [(1, { v := some (.bool true) })], .reg [(2, { v := some (.int .u8 (A8.get x_k i.toNat)) }), (3, { v := some (.bool false) })], .reg []])
          (a_ (a_ (a_ tr tr) (a_ (a_ tr (a_ (leB cL1_1) tr)) tr)) (a_ (a_ (a_ tr tr) (a_ (a_ gL1_2 tr) (a_ (a_ (a_ tr (arrLt (len := 8) gL1_2 0 1 8 rfl rfl)) (a_ (ld8s (cInt .u8) 1 (fun _ => rfl) x_k [] [] 0 rfl i.toNat (lt8N gL1_2) (le_ (0 + 1) 1 rfl)) tr)) (a_ (a_ tr (a_ (leB cL1_3) tr)) tr)))) (a_ (a_ (a_ tr tr) (a_ (a_ tr tr) (a_ (a_ tr tr) tr))) tr))) (ih _ r h) (by kernel_rfl) ⟨rfl, trivial⟩
    · skip
      rcases itb_some h with ⟨cL1_2, h⟩ | ⟨cL1_2, h⟩
      · skip
        obtain rfl := Option.some.inj h
        exact run_ret mixed (L := []) (n := 24) (s := [.go, .reg [(1, { v := some (.bool false) })], .reg [(1, { v := some (.bool true) })], .reg []])
          (a_ (a_ (a_ (a_ tr tr) (a_ (a_ tr (a_ (leB cL1_1) tr)) tr)) (a_ (a_ (a_ tr tr) (a_ (a_ tr (a_ (leB cL1_2) tr)) tr)) (a_ (a_ (a_ tr tr) (a_ (a_ tr tr) tr)) tr))) tr) (by kernel_rfl) rfl
      · skip
        obtain ⟨gL1_3, h⟩ := guard_some h
        obtain rfl := Option.some.inj h
        exact run_ret mixed (L := []) (n := 25) (s := [.go, .reg [(1, { v := some (.bool false) })], .reg [(1, { v := some (.bool false) })], .reg [(2, { v := some (.str (strI (([x_k.a0, x_k.a1, x_k.a2, x_k.a3, x_k.a4, x_k.a5, x_k.a6, x_k.a7] : List Int).take (x_n.toNat)))) })]])
          (a_ (a_ (a_ (a_ tr tr) (a_ (a_ tr (a_ (leB cL1_1) tr)) tr)) (a_ (a_ (a_ tr tr) (a_ (a_ tr (a_ (leB cL1_2) tr)) tr)) (a_ (a_ (a_ tr tr) (a_ (a_ gL1_3 tr) (a_ (a_ (arr_ob [x_k.a0, x_k.a1, x_k.a2, x_k.a3, x_k.a4, x_k.a5, x_k.a6, x_k.a7] (x_n.toNat) 8 (toN_le (n := 8) gL1_3.2.2) rfl) (a_ (le_arr [x_k.a0, x_k.a1, x_k.a2, x_k.a3, x_k.a4, x_k.a5, x_k.a6, x_k.a7] (x_n.toNat) 8 (toN_le (n := 8) gL1_3.2.2) rfl) tr)) (a_ (a_ tr tr) (a_ (a_ tr tr) tr))))) tr))) tr) (by kernel_rfl) rfl

theorem parrelref05_Name_l0_ok {w0 : World} {W : Nat → Prop} {μ0 : Emb} (hμ : ∀ c p, μ0 c = some p → c < 0) (x_k : A8 (Int))  : ∀ (fuel : Nat) (x_n : Int) (r : (List UInt8) × (Bool)), parrelref05_Name_l0 x_k  fuel x_n = some r → kont Tryd.prog w0 W μ0 (FnPost Tryd.prog Tryd.f60 0 0 (parrelref05_Name_v r) []) (kAt (bodyOf Tryd.f60) 0) none (parrelref05_Name_T0 x_k x_n) (parrelref05_Name_H0 x_k x_n) := by
  intro fuel
  induction fuel with
  | zero => intro x_n r h; rw [parrelref05_Name_l0] at h; cases h
  | succ fuel ih =>
    intro x_n r h
    rw [parrelref05_Name_l0] at h
    rcases itb_some h with ⟨cL0_1, h⟩ | ⟨cL0_1, h⟩
    · skip
      obtain ⟨gL0_2, h⟩ := guard_some h
      rcases itb_some h with ⟨cL0_3, h⟩ | ⟨cL0_3, h⟩
      · skip
        exact run_to mixed hμ (L := [0]) (n := 20) (s := [.go, .reg [(2, { v := some (.bool true) }), (5, { v := some (.int .u8 (A8.get x_k x_n.toNat)) }), (7, { v := some (.bool true) })], .reg []])
          (a_ (a_ (a_ tr tr) (a_ (a_ tr tr) (a_ (a_ tr (a_ (leB cL0_1) tr)) (a_ (a_ tr tr) (a_ (a_ gL0_2 tr) (a_ (a_ (a_ tr (arrLt (len := 8) gL0_2 0 1 8 rfl rfl)) (a_ (ld8s (cInt .u8) 1 (fun _ => rfl) x_k [] [] 0 rfl x_n.toNat (lt8N gL0_2) (le_ (0 + 1) 1 rfl)) tr)) (a_ (a_ tr tr) (a_ (a_ tr (a_ (leB cL0_3) tr)) tr)))))))) (a_ (a_ (a_ tr tr) (a_ (a_ tr tr) (a_ (a_ tr tr) tr))) tr)) (ih _ r h) (by kernel_rfl) ⟨rfl, trivial⟩
      · skip
        exact run_to mixed hμ (L := [0]) (n := 22) (s := [.go, .reg [(2, { v := some (.bool true) }), (5, { v := some (.int .u8 (A8.get x_k x_n.toNat)) }), (7, { v := some (.bool false) })], .reg []])
          (a_ (a_ (a_ tr tr) (a_ (a_ tr tr) (a_ (a_ tr (a_ (leB cL0_1) tr)) (a_ (a_ tr tr) (a_ (a_ gL0_2 tr) (a_ (a_ (a_ tr (arrLt (len := 8) gL0_2 0 1 8 rfl rfl)) (a_ (ld8s (cInt .u8) 1 (fun _ => rfl) x_k [] [] 0 rfl x_n.toNat (lt8N gL0_2) (le_ (0 + 1) 1 rfl)) tr)) (a_ (a_ tr tr) (a_ (a_ tr (a_ (leB cL0_3) tr)) tr)))))))) (a_ (a_ (a_ tr tr) (a_ (a_ tr tr) tr)) tr)) (parrelref05_Name_l1_ok hμ x_k x_n  big _ r h) (by kernel_rfl) ⟨rfl, trivial⟩
    · skip
      exact run_to mixed hμ (L := [0]) (n := 22) (s := [.go, .reg [(2, { v := some (.bool false) })], .reg []])
        (a_ (a_ (a_ tr tr) (a_ (a_ tr tr) (a_ (a_ tr (a_ (leB cL0_1) tr)) (a_ tr (a_ tr (a_ tr (a_ tr (a_ (a_ tr tr) tr)))))))) (a_ (a_ (a_ tr tr) (a_ (a_ tr tr) tr)) tr)) (parrelref05_Name_l1_ok hμ x_k x_n  big _ r h) (by kernel_rfl) ⟨rfl, trivial⟩

theorem parrelref05_Name_ok (x_k : A8 (Int)) (r : (List UInt8) × (Bool)) (h : parrelref05_Name x_k = some r) : ∀ σ, Inj 0 σ → FnTri Tryd.prog 60 (renL σ [.agg [.int .u8 x_k.a0, .int .u8 x_k.a1, .int .u8 x_k.a2, .int .u8 x_k.a3, .int .u8 x_k.a4, .int .u8 x_k.a5, .int .u8 x_k.a6, .int .u8 x_k.a7]]) (preOf σ 0 []) ((parrelref05_Name_v r).ren σ) (upOf σ []) := by
  refine fn_of Tryd.func60 (by kernel_rfl) (by kernel_rfl) (by kernel_rfl) trivial (by kernel_rfl) trivial (by kernel_rfl) ?_
  intro w0 W μ0 hμ
  unfold parrelref05_Name at h
  exact run_to mixed hμ (L := [0]) (n := 18) (s := [.reg [], .reg []])
    (a_ (a_ (a_ tr tr) (a_ (a_ tr tr) (a_ (a_ tr tr) tr))) (a_ (a_ (a_ tr tr) tr) tr)) (parrelref05_Name_l0_ok hμ x_k  big _ r h) (by kernel_rfl) ⟨rfl, trivial⟩

theorem parrelref05_Name_tri (x_k : A8 (Int)) (r : (List UInt8) × (Bool)) (h : parrelref05_Name x_k = some r) : FnTri Tryd.prog 60 [.agg [.int .u8 x_k.a0, .int .u8 x_k.a1, .int .u8 x_k.a2, .int .u8 x_k.a3, .int .u8 x_k.a4, .int .u8 x_k.a5, .int .u8 x_k.a6, .int .u8 x_k.a7]] [] (parrelref05_Name_v r) [] := FnTri.none (parrelref05_Name_ok x_k r h) rfl rfl

/-- parrel/parrelref10.KeyMay -/

def parrelref10_KeyMay_v (r : (Bool)) : LV := .bool r

def parrelref10_KeyMay (x_k : A8 (Int)) : Option ((Bool)) :=
  (parrelref05_Name x_k).bind fun y2 =>
  some y2.2

theorem parrelref10_KeyMay_ok (x_k : A8 (Int)) (r : (Bool)) (h : parrelref10_KeyMay x_k = some r) : ∀ σ, Inj 0 σ → FnTri Tryd.prog 46 (renL σ [.agg [.int .u8 x_k.a0, .int .u8 x_k.a1, .int .u8 x_k.a2, .int .u8 x_k.a3, .int .u8 x_k.a4, .int .u8 x_k.a5, .int .u8 x_k.a6, .int .u8 x_k.a7]]) (preOf σ 0 []) ((parrelref10_KeyMay_v r).ren σ) (upOf σ []) := by
  refine fn_of Tryd.func46 (by kernel_rfl) (by kernel_rfl) (by kernel_rfl) trivial (by kernel_rfl) trivial (by kernel_rfl) ?_
  intro w0 W μ0 hμ
  unfold parrelref10_KeyMay at h
  obtain ⟨y2, e1, h⟩ := bind_some h
  obtain rfl := Option.some.inj h
  exact run_ret mixed (L := []) (n := 18) (s := [.reg [], .reg [(1, { call := some (parrelref05_Name_v y2, [], []) })], .reg []])
    (a_ (a_ (a_ (a_ tr tr) (a_ (a_ tr tr) tr)) (a_ (a_ (a_ (a_ tr (le_ 8 8 rfl)) tr) (a_ (a_ (a_ (parrelref05_Name_tri x_k y2 e1) tr) tr) (a_ (a_ tr tr) (a_ (a_ tr tr) (a_ (a_ tr tr) (a_ (a_ tr tr) (a_ (a_ tr tr) tr))))))) (a_ (a_ (a_ tr tr) (a_ (a_ tr tr) tr)) tr))) tr) (by kernel_rfl) rfl

theorem parrelref10_KeyMay_tri (x_k : A8 (Int)) (r : (Bool)) (h : parrelref10_KeyMay x_k = some r) : FnTri Tryd.prog 46 [.agg [.int .u8 x_k.a0, .int .u8 x_k.a1, .int .u8 x_k.a2, .int .u8 x_k.a3, .int .u8 x_k.a4, .int .u8 x_k.a5, .int .u8 x_k.a6, .int .u8 x_k.a7]] [] (parrelref10_KeyMay_v r) [] := FnTri.none (parrelref10_KeyMay_ok x_k r h) rfl rfl

/-- parrel/parrelref06.Total -/

def parrelref06_Total_v (r : (Int)) : LV := .int .i64 r

def parrelref06_Total_T0 (c : T_api_Config) (x_n : Int) (i : Int) : List LV := [.any, .ptr 0 0 0, .any, .int .i64 x_n, .int .i64 i, .any, .any, .any, .any, .any, .any, .any, .any, .any, .any, .any, .any]

def parrelref06_Total_H0 (c : T_api_Config) (x_n : Int) (i : Int) : Heap := [some (.var (c_T_api_Config c))]

def parrelref06_Total_l0 (c : T_api_Config)  : Nat → (Int) → (Int) → Option ((Int))
  | 0, _, _ => none
  | fuel + 1, x_n, i =>
    if ((decide (i < 8)) : Bool) then
      if 0 ≤ i ∧ i < 8 then
      parrelref06_Total_l0 c  fuel (IntKind.wrap .i64 (x_n + (IntKind.wrap .i64 (A8.get c.f_Votes i.toNat)))) (IntKind.wrap .i64 (i + 1))
      else none
    else
      some x_n

def parrelref06_Total (c : T_api_Config) : Option ((Int)) :=
  parrelref06_Total_l0 c  big 0 0

theorem parrelref06_Total_l0_ok {w0 : World} {W : Nat → Prop} {μ0 : Emb} (hμ : ∀ c p, μ0 c = some p → c < 0) (c : T_api_Config)  : ∀ (fuel : Nat) (x_n : Int) (i : Int) (r : (Int)), parrelref06_Total_l0 c  fuel x_n i = some r → kont Tryd.prog w0 W μ0 (FnPost Tryd.prog Tryd.f75 0 0 (parrelref06_Total_v r) []) (kAt (bodyOf Tryd.f75) 0) none (parrelref06_Total_T0 c x_n i) (parrelref06_Total_H0 c x_n i) := by
  intro fuel
  induction fuel with
  | zero => intro x_n i r h; rw [parrelref06_Total_l0] at h; cases h
  | succ fuel ih =>
    intro x_n i r h
    rw [parrelref06_Total_l0] at h
    rcases itb_some h with ⟨cL0_1, h⟩ | ⟨cL0_1, h⟩
    · skip
      obtain ⟨gL0_2, h⟩ := guard_some h
      exact run_to mixed hμ (L := [0]) (n := 23) (s := [.go, .reg [(1, { v := some (.bool true) })], .reg [(4, { v := some (.int .u8 (A8.get c.f_Votes i.toNat)) })], .reg []])
        (a_ (a_ (a_ tr tr) (a_ (a_ tr (a_ (leB cL0_1) tr)) tr)) (a_ (a_ (a_ tr tr) (a_ (a_ tr tr) (a_ (a_ tr tr) (a_ (a_ gL0_2 tr) (a_ (a_ (a_ tr (arrLt (len := 8) gL0_2 3 1 11 rfl rfl)) (a_ (ld8s (cInt .u8) 1 (fun _ => rfl) c.f_Votes [.int .u32 c.f_Epoch, .int .u8 c.f_R, .int .u8 c.f_W] [] 3 rfl i.toNat (lt8N gL0_2) (le_ (0 + 1) 1 rfl)) tr)) (a_ (a_ tr tr) (a_ (a_ tr tr) (a_ (a_ tr tr) tr)))))))) (a_ (a_ (a_ tr tr) (a_ (a_ tr tr) (a_ (a_ tr tr) tr))) tr))) (ih _ _ r h) (by kernel_rfl) ⟨rfl, trivial⟩
    · skip
      obtain rfl := Option.some.inj h
      exact run_ret mixed (L := []) (n := 19) (s := [.go, .reg [(1, { v := some (.bool false) })], .reg []])
        (a_ (a_ (a_ (a_ tr tr) (a_ (a_ tr (a_ (leB cL0_1) tr)) tr)) (a_ (a_ (a_ tr tr) (a_ (a_ tr tr) tr)) tr)) tr) (by kernel_rfl) rfl

theorem parrelref06_Total_ok (c : T_api_Config) (r : (Int)) (h : parrelref06_Total c = some r) : ∀ σ, Inj 0 σ → FnTri Tryd.prog 75 (renL σ [v_T_api_Config c]) (preOf σ 0 []) ((parrelref06_Total_v r).ren σ) (upOf σ []) := by
  refine fn_of Tryd.func75 (by kernel_rfl) (by kernel_rfl) (by kernel_rfl) trivial (by kernel_rfl) trivial (by kernel_rfl) ?_
  intro w0 W μ0 hμ
  unfold parrelref06_Total at h
  exact run_to mixed hμ (L := [0]) (n := 21) (s := [.reg [], .reg [], .reg []])
    (a_ (a_ (a_ tr tr) (a_ (a_ tr tr) tr)) (a_ (a_ (a_ tr tr) tr) (a_ (a_ (a_ tr tr) tr) tr))) (parrelref06_Total_l0_ok hμ c  big _ _ r h) (by kernel_rfl) ⟨rfl, trivial⟩

theorem parrelref06_Total_tri (c : T_api_Config) (r : (Int)) (h : parrelref06_Total c = some r) : FnTri Tryd.prog 75 [v_T_api_Config c] [] (parrelref06_Total_v r) [] := FnTri.none (parrelref06_Total_ok c r h) rfl rfl

/-- parrel/parrelref06.May -/

def parrelref06_May_v (r : (Bool)) : LV := .bool r

def parrelref06_May_T0 (c : T_api_Config) (y2 : (Int)) (i : Int) : List LV := [.any, .ptr 0 0 0, .any, .int .i64 y2, .int .i64 (IntKind.wrap .i64 c.f_R), .int .i64 (IntKind.wrap .i64 c.f_W), .int .i64 i, .any, .any, .any, .any, .any, .any, .any, .any, .any, .any, .any, .any, .any, .any, .any, .any, .any, .any, .any, .any, .any, .any, .any, .any, .any, .any, .any, .any, .any, .any, .any, .any, .any, .any, .any, .any, .any, .any, .any, .any, .any, .any, .any, .any, .any, .any, .any, .any, .any, .any, .any, .any, .any, .any, .any, .any]

def parrelref06_May_H0 (c : T_api_Config) (y2 : (Int)) (i : Int) : Heap := [some (.var (c_T_api_Config c))]

def parrelref06_May_l0 (c : T_api_Config) (y2 : (Int))  : Nat → (Int) → Option ((Bool))
  | 0, _ => none
  | fuel + 1, i =>
    if ((decide (i < 8)) : Bool) then
      if 0 ≤ i ∧ i < 8 then
      if ((decide (15 < (A8.get c.f_Votes i.toNat))) : Bool) then
        some false
      else
        parrelref06_May_l0 c y2  fuel (IntKind.wrap .i64 (i + 1))
      else none
    else
      if ((decide (1 ≤ c.f_Epoch)) : Bool) then
        if ((decide (c.f_Epoch ≤ 2147483647)) : Bool) then
          if ((decide (1 ≤ (IntKind.wrap .i64 c.f_R))) : Bool) then
            if ((decide (1 ≤ (IntKind.wrap .i64 c.f_W))) : Bool) then
              if ((decide ((IntKind.wrap .i64 c.f_R) ≤ y2)) : Bool) then
                if ((decide ((IntKind.wrap .i64 c.f_W) ≤ y2)) : Bool) then
                  if ((decide (y2 < (IntKind.wrap .i64 ((IntKind.wrap .i64 c.f_R) + (IntKind.wrap .i64 c.f_W))))) : Bool) then
                    some (decide (y2 < (IntKind.wrap .i64 (2 * (IntKind.wrap .i64 c.f_W)))))
                  else
                    some false
                else
                  some false
              else
                some false
            else
              some false
          else
            some false
        else
          some false
      else
        some false

def parrelref06_May (c : T_api_Config) : Option ((Bool)) :=
  (parrelref06_Total c).bind fun y2 =>
  parrelref06_May_l0 c y2  big 0

theorem parrelref06_May_l0_ok {w0 : World} {W : Nat → Prop} {μ0 : Emb} (hμ : ∀ c p, μ0 c = some p → c < 0) (c : T_api_Config) (y2 : (Int))  : ∀ (fuel : Nat) (i : Int) (r : (Bool)), parrelref06_May_l0 c y2  fuel i = some r → kont Tryd.prog w0 W μ0 (FnPost Tryd.prog Tryd.f61 0 0 (parrelref06_May_v r) []) (kAt (bodyOf Tryd.f61) 0) none (parrelref06_May_T0 c y2 i) (parrelref06_May_H0 c y2 i) := by
  intro fuel
  induction fuel with
  | zero => intro i r h; rw [parrelref06_May_l0] at h; cases h
  | succ fuel ih =>
    intro i r h
    rw [parrelref06_May_l0] at h
    rcases itb_some h with ⟨cL0_1, h⟩ | ⟨cL0_1, h⟩
    · skip
      obtain ⟨gL0_2, h⟩ := guard_some h
      rcases itb_some h with ⟨cL0_3, h⟩ | ⟨cL0_3, h⟩
      · skip
        obtain rfl := Option.some.inj h
        exact run_ret mixed (L := []) (n := 25) (s := [.go, .reg [(1, { v := some (.bool true) })], .reg [(3, { v := some (.int .u8 (A8.get c.f_Votes i.toNat)) }), (4, { v := some (.bool true) })], .reg []])
          (a_ (a_ (a_ (a_ tr tr) (a_ (a_ tr (a_ (leB cL0_1) tr)) tr)) (a_ (a_ (a_ tr tr) (a_ (a_ tr tr) (a_ (a_ gL0_2 tr) (a_ (a_ (a_ tr (arrLt (len := 8) gL0_2 3 1 11 rfl rfl)) (a_ (ld8s (cInt .u8) 1 (fun _ => rfl) c.f_Votes [.int .u32 c.f_Epoch, .int .u8 c.f_R, .int .u8 c.f_W] [] 3 rfl i.toNat (lt8N gL0_2) (le_ (0 + 1) 1 rfl)) tr)) (a_ (a_ tr (a_ (leB cL0_3) tr)) tr))))) (a_ (a_ (a_ tr tr) tr) tr))) tr) (by kernel_rfl) rfl
      · skip
        exact run_to mixed hμ (L := [0]) (n := 26) (s := [.go, .reg [(1, { v := some (.bool true) })], .reg [(3, { v := some (.int .u8 (A8.get c.f_Votes i.toNat)) }), (4, { v := some (.bool false) })], .reg []])
          (a_ (a_ (a_ tr tr) (a_ (a_ tr (a_ (leB cL0_1) tr)) tr)) (a_ (a_ (a_ tr tr) (a_ (a_ tr tr) (a_ (a_ gL0_2 tr) (a_ (a_ (a_ tr (arrLt (len := 8) gL0_2 3 1 11 rfl rfl)) (a_ (ld8s (cInt .u8) 1 (fun _ => rfl) c.f_Votes [.int .u32 c.f_Epoch, .int .u8 c.f_R, .int .u8 c.f_W] [] 3 rfl i.toNat (lt8N gL0_2) (le_ (0 + 1) 1 rfl)) tr)) (a_ (a_ tr (a_ (leB cL0_3) tr)) tr))))) (a_ (a_ (a_ tr tr) (a_ (a_ tr tr) (a_ (a_ tr tr) tr))) tr))) (ih _ r h) (by kernel_rfl) ⟨rfl, trivial⟩
    · skip
      rcases itb_some h with ⟨cL0_2, h⟩ | ⟨cL0_2, h⟩
      · skip
        rcases itb_some h with ⟨cL0_3, h⟩ | ⟨cL0_3, h⟩
        · skip
          rcases itb_some h with ⟨cL0_4, h⟩ | ⟨cL0_4, h⟩
          · skip
            rcases itb_some h with ⟨cL0_5, h⟩ | ⟨cL0_5, h⟩
            · skip
              rcases itb_some h with ⟨cL0_6, h⟩ | ⟨cL0_6, h⟩
              · skip
                rcases itb_some h with ⟨cL0_7, h⟩ | ⟨cL0_7, h⟩
                · skip
                  rcases itb_some h with ⟨cL0_8, h⟩ | ⟨cL0_8, h⟩
                  · skip
                    obtain rfl := Option.some.inj h
                    exact run_ret mixed (L := []) (n := 19) (s := [.go, .reg [(1, { v := some (.bool false) })], .reg [(3, { v := some (.bool true) }), (8, { v := some (.bool true) }), (12, { v := some (.bool true) }), (16, { v := some (.bool true) }), (21, { v := some (.bool true) }), (26, { v := some (.bool true) }), (33, { v := some (.bool true) })]])
                      (a_ (a_ (a_ (a_ tr tr) (a_ (a_ tr (a_ (leB cL0_1) tr)) tr)) (a_ (a_ (a_ tr tr) (a_ (a_ (a_ tr (lt_ 0 11 rfl)) tr) (a_ (a_ tr tr) (a_ (a_ tr (a_ (leB cL0_2) tr)) (a_ (a_ tr tr) (a_ (a_ (a_ tr (lt_ 0 11 rfl)) tr) (a_ (a_ tr tr) (a_ (a_ tr tr) (a_ (a_ tr (a_ (leB cL0_3) tr)) (a_ (a_ tr tr) (a_ (a_ tr tr) (a_ (a_ tr tr) (a_ (a_ tr (a_ (leB cL0_4) tr)) (a_ (a_ tr tr) (a_ (a_ tr tr) (a_ (a_ tr tr) (a_ (a_ tr (a_ (leB cL0_5) tr)) (a_ (a_ tr tr) (a_ (a_ tr tr) (a_ (a_ tr tr) (a_ (a_ tr tr) (a_ (a_ tr (a_ (leB cL0_6) tr)) (a_ (a_ tr tr) (a_ (a_ tr tr) (a_ (a_ tr tr) (a_ (a_ tr tr) (a_ (a_ tr (a_ (leB cL0_7) tr)) (a_ (a_ tr tr) (a_ (a_ tr tr) (a_ (a_ tr tr) (a_ (a_ tr tr) (a_ (a_ tr tr) (a_ (a_ tr tr) (a_ (a_ tr (a_ (leB cL0_8) tr)) (a_ (a_ tr tr) (a_ (a_ tr tr) (a_ (a_ tr tr) (a_ (a_ tr tr) (a_ (a_ tr tr) (a_ (a_ tr tr) tr)))))))))))))))))))))))))))))))))))))))) tr)) tr) (by kernel_rfl) rfl
                  · skip
                    obtain rfl := Option.some.inj h
                    exact run_ret mixed (L := []) (n := 19) (s := [.go, .reg [(1, { v := some (.bool false) })], .reg [(3, { v := some (.bool true) }), (8, { v := some (.bool true) }), (12, { v := some (.bool true) }), (16, { v := some (.bool true) }), (21, { v := some (.bool true) }), (26, { v := some (.bool true) }), (33, { v := some (.bool false) })]])
                      (a_ (a_ (a_ (a_ tr tr) (a_ (a_ tr (a_ (leB cL0_1) tr)) tr)) (a_ (a_ (a_ tr tr) (a_ (a_ (a_ tr (lt_ 0 11 rfl)) tr) (a_ (a_ tr tr) (a_ (a_ tr (a_ (leB cL0_2) tr)) (a_ (a_ tr tr) (a_ (a_ (a_ tr (lt_ 0 11 rfl)) tr) (a_ (a_ tr tr) (a_ (a_ tr tr) (a_ (a_ tr (a_ (leB cL0_3) tr)) (a_ (a_ tr tr) (a_ (a_ tr tr) (a_ (a_ tr tr) (a_ (a_ tr (a_ (leB cL0_4) tr)) (a_ (a_ tr tr) (a_ (a_ tr tr) (a_ (a_ tr tr) (a_ (a_ tr (a_ (leB cL0_5) tr)) (a_ (a_ tr tr) (a_ (a_ tr tr) (a_ (a_ tr tr) (a_ (a_ tr tr) (a_ (a_ tr (a_ (leB cL0_6) tr)) (a_ (a_ tr tr) (a_ (a_ tr tr) (a_ (a_ tr tr) (a_ (a_ tr tr) (a_ (a_ tr (a_ (leB cL0_7) tr)) (a_ (a_ tr tr) (a_ (a_ tr tr) (a_ (a_ tr tr) (a_ (a_ tr tr) (a_ (a_ tr tr) (a_ (a_ tr tr) (a_ (a_ tr (a_ (leB cL0_8) tr)) (a_ tr (a_ tr (a_ tr (a_ tr (a_ (a_ tr tr) (a_ (a_ tr tr) tr)))))))))))))))))))))))))))))))))))))))) tr)) tr) (by kernel_rfl) rfl
                · skip
                  obtain rfl := Option.some.inj h
                  exact run_ret mixed (L := []) (n := 19) (s := [.go, .reg [(1, { v := some (.bool false) })], .reg [(3, { v := some (.bool true) }), (8, { v := some (.bool true) }), (12, { v := some (.bool true) }), (16, { v := some (.bool true) }), (21, { v := some (.bool true) }), (26, { v := some (.bool false) })]])
                    (a_ (a_ (a_ (a_ tr tr) (a_ (a_ tr (a_ (leB cL0_1) tr)) tr)) (a_ (a_ (a_ tr tr) (a_ (a_ (a_ tr (lt_ 0 11 rfl)) tr) (a_ (a_ tr tr) (a_ (a_ tr (a_ (leB cL0_2) tr)) (a_ (a_ tr tr) (a_ (a_ (a_ tr (lt_ 0 11 rfl)) tr) (a_ (a_ tr tr) (a_ (a_ tr tr) (a_ (a_ tr (a_ (leB cL0_3) tr)) (a_ (a_ tr tr) (a_ (a_ tr tr) (a_ (a_ tr tr) (a_ (a_ tr (a_ (leB cL0_4) tr)) (a_ (a_ tr tr) (a_ (a_ tr tr) (a_ (a_ tr tr) (a_ (a_ tr (a_ (leB cL0_5) tr)) (a_ (a_ tr tr) (a_ (a_ tr tr) (a_ (a_ tr tr) (a_ (a_ tr tr) (a_ (a_ tr (a_ (leB cL0_6) tr)) (a_ (a_ tr tr) (a_ (a_ tr tr) (a_ (a_ tr tr) (a_ (a_ tr tr) (a_ (a_ tr (a_ (leB cL0_7) tr)) (a_ tr (a_ tr (a_ tr (a_ tr (a_ tr (a_ (a_ tr tr) (a_ (a_ tr tr) (a_ tr (a_ tr (a_ tr (a_ tr (a_ (a_ tr tr) (a_ (a_ tr tr) tr)))))))))))))))))))))))))))))))))))))))) tr)) tr) (by kernel_rfl) rfl
              · skip
                obtain rfl := Option.some.inj h
                exact run_ret mixed (L := []) (n := 19) (s := [.go, .reg [(1, { v := some (.bool false) })], .reg [(3, { v := some (.bool true) }), (8, { v := some (.bool true) }), (12, { v := some (.bool true) }), (16, { v := some (.bool true) }), (21, { v := some (.bool false) })]])
                  (a_ (a_ (a_ (a_ tr tr) (a_ (a_ tr (a_ (leB cL0_1) tr)) tr)) (a_ (a_ (a_ tr tr) (a_ (a_ (a_ tr (lt_ 0 11 rfl)) tr) (a_ (a_ tr tr) (a_ (a_ tr (a_ (leB cL0_2) tr)) (a_ (a_ tr tr) (a_ (a_ (a_ tr (lt_ 0 11 rfl)) tr) (a_ (a_ tr tr) (a_ (a_ tr tr) (a_ (a_ tr (a_ (leB cL0_3) tr)) (a_ (a_ tr tr) (a_ (a_ tr tr) (a_ (a_ tr tr) (a_ (a_ tr (a_ (leB cL0_4) tr)) (a_ (a_ tr tr) (a_ (a_ tr tr) (a_ (a_ tr tr) (a_ (a_ tr (a_ (leB cL0_5) tr)) (a_ (a_ tr tr) (a_ (a_ tr tr) (a_ (a_ tr tr) (a_ (a_ tr tr) (a_ (a_ tr (a_ (leB cL0_6) tr)) (a_ tr (a_ tr (a_ tr (a_ (a_ tr tr) (a_ (a_ tr tr) (a_ tr (a_ tr (a_ tr (a_ tr (a_ tr (a_ (a_ tr tr) (a_ (a_ tr tr) (a_ tr (a_ tr (a_ tr (a_ tr (a_ (a_ tr tr) (a_ (a_ tr tr) tr)))))))))))))))))))))))))))))))))))))))) tr)) tr) (by kernel_rfl) rfl
            · skip
              obtain rfl := Option.some.inj h
              exact run_ret mixed (L := []) (n := 19) (s := [.go, .reg [(1, { v := some (.bool false) })], .reg [(3, { v := some (.bool true) }), (8, { v := some (.bool true) }), (12, { v := some (.bool true) }), (16, { v := some (.bool false) })]])
                (a_ (a_ (a_ (a_ tr tr) (a_ (a_ tr (a_ (leB cL0_1) tr)) tr)) (a_ (a_ (a_ tr tr) (a_ (a_ (a_ tr (lt_ 0 11 rfl)) tr) (a_ (a_ tr tr) (a_ (a_ tr (a_ (leB cL0_2) tr)) (a_ (a_ tr tr) (a_ (a_ (a_ tr (lt_ 0 11 rfl)) tr) (a_ (a_ tr tr) (a_ (a_ tr tr) (a_ (a_ tr (a_ (leB cL0_3) tr)) (a_ (a_ tr tr) (a_ (a_ tr tr) (a_ (a_ tr tr) (a_ (a_ tr (a_ (leB cL0_4) tr)) (a_ (a_ tr tr) (a_ (a_ tr tr) (a_ (a_ tr tr) (a_ (a_ tr (a_ (leB cL0_5) tr)) (a_ tr (a_ tr (a_ tr (a_ (a_ tr tr) (a_ (a_ tr tr) (a_ tr (a_ tr (a_ tr (a_ (a_ tr tr) (a_ (a_ tr tr) (a_ tr (a_ tr (a_ tr (a_ tr (a_ tr (a_ (a_ tr tr) (a_ (a_ tr tr) (a_ tr (a_ tr (a_ tr (a_ tr (a_ (a_ tr tr) (a_ (a_ tr tr) tr)))))))))))))))))))))))))))))))))))))))) tr)) tr) (by kernel_rfl) rfl
          · skip
            obtain rfl := Option.some.inj h
            exact run_ret mixed (L := []) (n := 19) (s := [.go, .reg [(1, { v := some (.bool false) })], .reg [(3, { v := some (.bool true) }), (8, { v := some (.bool true) }), (12, { v := some (.bool false) })]])
              (a_ (a_ (a_ (a_ tr tr) (a_ (a_ tr (a_ (leB cL0_1) tr)) tr)) (a_ (a_ (a_ tr tr) (a_ (a_ (a_ tr (lt_ 0 11 rfl)) tr) (a_ (a_ tr tr) (a_ (a_ tr (a_ (leB cL0_2) tr)) (a_ (a_ tr tr) (a_ (a_ (a_ tr (lt_ 0 11 rfl)) tr) (a_ (a_ tr tr) (a_ (a_ tr tr) (a_ (a_ tr (a_ (leB cL0_3) tr)) (a_ (a_ tr tr) (a_ (a_ tr tr) (a_ (a_ tr tr) (a_ (a_ tr (a_ (leB cL0_4) tr)) (a_ tr (a_ tr (a_ (a_ tr tr) (a_ (a_ tr tr) (a_ tr (a_ tr (a_ tr (a_ (a_ tr tr) (a_ (a_ tr tr) (a_ tr (a_ tr (a_ tr (a_ (a_ tr tr) (a_ (a_ tr tr) (a_ tr (a_ tr (a_ tr (a_ tr (a_ tr (a_ (a_ tr tr) (a_ (a_ tr tr) (a_ tr (a_ tr (a_ tr (a_ tr (a_ (a_ tr tr) (a_ (a_ tr tr) tr)))))))))))))))))))))))))))))))))))))))) tr)) tr) (by kernel_rfl) rfl
        · skip
          obtain rfl := Option.some.inj h
          exact run_ret mixed (L := []) (n := 19) (s := [.go, .reg [(1, { v := some (.bool false) })], .reg [(3, { v := some (.bool true) }), (8, { v := some (.bool false) })]])
            (a_ (a_ (a_ (a_ tr tr) (a_ (a_ tr (a_ (leB cL0_1) tr)) tr)) (a_ (a_ (a_ tr tr) (a_ (a_ (a_ tr (lt_ 0 11 rfl)) tr) (a_ (a_ tr tr) (a_ (a_ tr (a_ (leB cL0_2) tr)) (a_ (a_ tr tr) (a_ (a_ (a_ tr (lt_ 0 11 rfl)) tr) (a_ (a_ tr tr) (a_ (a_ tr tr) (a_ (a_ tr (a_ (leB cL0_3) tr)) (a_ tr (a_ tr (a_ (a_ tr tr) (a_ (a_ tr tr) (a_ tr (a_ tr (a_ (a_ tr tr) (a_ (a_ tr tr) (a_ tr (a_ tr (a_ tr (a_ (a_ tr tr) (a_ (a_ tr tr) (a_ tr (a_ tr (a_ tr (a_ (a_ tr tr) (a_ (a_ tr tr) (a_ tr (a_ tr (a_ tr (a_ tr (a_ tr (a_ (a_ tr tr) (a_ (a_ tr tr) (a_ tr (a_ tr (a_ tr (a_ tr (a_ (a_ tr tr) (a_ (a_ tr tr) tr)))))))))))))))))))))))))))))))))))))))) tr)) tr) (by kernel_rfl) rfl
      · skip
        obtain rfl := Option.some.inj h
        exact run_ret mixed (L := []) (n := 19) (s := [.go, .reg [(1, { v := some (.bool false) })], .reg [(3, { v := some (.bool false) })]])
          (a_ (a_ (a_ (a_ tr tr) (a_ (a_ tr (a_ (leB cL0_1) tr)) tr)) (a_ (a_ (a_ tr tr) (a_ (a_ (a_ tr (lt_ 0 11 rfl)) tr) (a_ (a_ tr tr) (a_ (a_ tr (a_ (leB cL0_2) tr)) (a_ tr (a_ tr (a_ tr (a_ (a_ tr tr) (a_ (a_ tr tr) (a_ tr (a_ tr (a_ (a_ tr tr) (a_ (a_ tr tr) (a_ tr (a_ tr (a_ (a_ tr tr) (a_ (a_ tr tr) (a_ tr (a_ tr (a_ tr (a_ (a_ tr tr) (a_ (a_ tr tr) (a_ tr (a_ tr (a_ tr (a_ (a_ tr tr) (a_ (a_ tr tr) (a_ tr (a_ tr (a_ tr (a_ tr (a_ tr (a_ (a_ tr tr) (a_ (a_ tr tr) (a_ tr (a_ tr (a_ tr (a_ tr (a_ (a_ tr tr) (a_ (a_ tr tr) tr)))))))))))))))))))))))))))))))))))))))) tr)) tr) (by kernel_rfl) rfl

theorem parrelref06_May_ok (c : T_api_Config) (r : (Bool)) (h : parrelref06_May c = some r) : ∀ σ, Inj 0 σ → FnTri Tryd.prog 61 (renL σ [v_T_api_Config c]) (preOf σ 0 []) ((parrelref06_May_v r).ren σ) (upOf σ []) := by
  refine fn_of Tryd.func61 (by kernel_rfl) (by kernel_rfl) (by kernel_rfl) trivial (by kernel_rfl) trivial (by kernel_rfl) ?_
  intro w0 W μ0 hμ
  unfold parrelref06_May at h
  obtain ⟨y2, e1, h⟩ := bind_some h
  exact run_to mixed hμ (L := [0]) (n := 21) (s := [.reg [], .reg [(1, { call := some (parrelref06_Total_v y2, [], []) })], .reg []])
    (a_ (a_ (a_ tr tr) (a_ (a_ tr tr) tr)) (a_ (a_ (a_ (a_ tr (le_ 11 11 rfl)) tr) (a_ (a_ (a_ (parrelref06_Total_tri c y2 e1) tr) tr) (a_ (a_ tr tr) (a_ (a_ (a_ tr (lt_ 1 11 rfl)) tr) (a_ (a_ tr tr) (a_ (a_ tr tr) (a_ (a_ (a_ tr (lt_ 2 11 rfl)) tr) (a_ (a_ tr tr) (a_ (a_ tr tr) (a_ (a_ tr tr) (a_ (a_ tr tr) tr))))))))))) (a_ (a_ (a_ tr tr) tr) tr))) (parrelref06_May_l0_ok hμ c y2  big _ r h) (by kernel_rfl) ⟨rfl, trivial⟩

theorem parrelref06_May_tri (c : T_api_Config) (r : (Bool)) (h : parrelref06_May c = some r) : FnTri Tryd.prog 61 [v_T_api_Config c] [] (parrelref06_May_v r) [] := FnTri.none (parrelref06_May_ok c r h) rfl rfl

/-- parrel/parrelref10.ItemMay -/

def parrelref10_ItemMay_v (r : (Bool)) : LV := .bool r

def parrelref10_ItemMay (i : T_api_Item) : Option ((Bool)) :=
  if ((decide (i.f_Version ≤ 2147483647)) : Bool) then
    if ((decide (((i.f_Value).length : Int) ≤ 64)) : Bool) then
      (parrelref06_May i.f_Conf).bind fun y4 =>
      some y4
    else
      some false
  else
    some false

theorem parrelref10_ItemMay_ok (i : T_api_Item) (r : (Bool)) (h : parrelref10_ItemMay i = some r) : ∀ σ, Inj 0 σ → FnTri Tryd.prog 47 (renL σ [v_T_api_Item i]) (preOf σ 0 []) ((parrelref10_ItemMay_v r).ren σ) (upOf σ []) := by
  refine fn_of Tryd.func47 (by kernel_rfl) (by kernel_rfl) (by kernel_rfl) trivial (by kernel_rfl) trivial (by kernel_rfl) ?_
  intro w0 W μ0 hμ
  unfold parrelref10_ItemMay at h
  rcases itb_some h with ⟨c1, h⟩ | ⟨c1, h⟩
  · skip
    rcases itb_some h with ⟨c2, h⟩ | ⟨c2, h⟩
    · skip
      obtain ⟨y4, e3, h⟩ := bind_some h
      obtain rfl := Option.some.inj h
      exact run_ret mixed (L := []) (n := 15) (s := [.reg [], .reg [(3, { v := some (.bool true) }), (9, { v := some (.bool true) }), (12, { call := some (parrelref06_May_v y4, [], []) })]])
        (a_ (a_ (a_ (a_ tr tr) (a_ (a_ tr tr) tr)) (a_ (a_ (a_ tr tr) (a_ (a_ (a_ tr (lt_ 0 13 rfl)) tr) (a_ (a_ tr tr) (a_ (a_ tr (a_ (leB c1) tr)) (a_ (a_ tr tr) (a_ (a_ (a_ tr (lt_ 1 13 rfl)) tr) (a_ (a_ tr tr) (a_ (a_ tr tr) (a_ (a_ tr tr) (a_ (a_ tr (a_ (leB c2) tr)) (a_ (a_ tr tr) (a_ (a_ (a_ tr (le_ 13 13 rfl)) tr) (a_ (a_ (a_ (parrelref06_May_tri i.f_Conf y4 e3) tr) tr) (a_ (a_ tr tr) (a_ (a_ tr tr) tr))))))))))))))) tr)) tr) (by kernel_rfl) rfl
    · skip
      obtain rfl := Option.some.inj h
      exact run_ret mixed (L := []) (n := 15) (s := [.reg [], .reg [(3, { v := some (.bool true) }), (9, { v := some (.bool false) })]])
        (a_ (a_ (a_ (a_ tr tr) (a_ (a_ tr tr) tr)) (a_ (a_ (a_ tr tr) (a_ (a_ (a_ tr (lt_ 0 13 rfl)) tr) (a_ (a_ tr tr) (a_ (a_ tr (a_ (leB c1) tr)) (a_ (a_ tr tr) (a_ (a_ (a_ tr (lt_ 1 13 rfl)) tr) (a_ (a_ tr tr) (a_ (a_ tr tr) (a_ (a_ tr tr) (a_ (a_ tr (a_ (leB c2) tr)) (a_ tr (a_ tr (a_ tr (a_ (a_ tr tr) (a_ (a_ tr tr) tr))))))))))))))) tr)) tr) (by kernel_rfl) rfl
  · skip
    obtain rfl := Option.some.inj h
    exact run_ret mixed (L := []) (n := 15) (s := [.reg [], .reg [(3, { v := some (.bool false) })]])
      (a_ (a_ (a_ (a_ tr tr) (a_ (a_ tr tr) tr)) (a_ (a_ (a_ tr tr) (a_ (a_ (a_ tr (lt_ 0 13 rfl)) tr) (a_ (a_ tr tr) (a_ (a_ tr (a_ (leB c1) tr)) (a_ tr (a_ tr (a_ tr (a_ tr (a_ (a_ tr tr) (a_ (a_ tr tr) (a_ tr (a_ tr (a_ tr (a_ (a_ tr tr) (a_ (a_ tr tr) tr))))))))))))))) tr)) tr) (by kernel_rfl) rfl

theorem parrelref10_ItemMay_tri (i : T_api_Item) (r : (Bool)) (h : parrelref10_ItemMay i = some r) : FnTri Tryd.prog 47 [v_T_api_Item i] [] (parrelref10_ItemMay_v r) [] := FnTri.none (parrelref10_ItemMay_ok i r h) rfl rfl

/-- parrel/parrelref05.first -/

def parrelref05_first_v (r : (Int)) : LV := .int .i64 r

def parrelref05_first_T0 (a : List (Int)) (b : List (Int)) (i : Int) : List LV := [.ds 1 (a).length (rowF (cInt .u32) default a), .ds 1 (b).length (rowF (cInt .u32) default b), .any, .any, .any, .int .i64 i, .any, .any, .any, .any, .any, .any, .any, .any, .any, .any, .any, .any, .any, .any, .any, .any, .any, .any, .any, .any, .any, .any, .any, .any]

def parrelref05_first_H0 (a : List (Int)) (b : List (Int)) (i : Int) : Heap := []

def parrelref05_first_l0 (a : List (Int)) (b : List (Int))  : Nat → (Int) → Option ((Int))
  | 0, _ => none
  | fuel + 1, i =>
    if ((decide (i < ((a).length : Int))) : Bool) then
      if 0 ≤ i ∧ i < (((a).length : Nat) : Int) then
      if 0 ≤ i ∧ i < (((b).length : Nat) : Int) then
      if ((decide ((a.getD i.toNat default) < (b.getD i.toNat default))) : Bool) then
        some (-1)
      else
        if ((decide ((b.getD i.toNat default) < (a.getD i.toNat default))) : Bool) then
          some 1
        else
          parrelref05_first_l0 a b  fuel (IntKind.wrap .i64 (i + 1))
      else none
      else none
    else
      some 0

def parrelref05_first (a : List (Int)) (b : List (Int)) : Option ((Int)) :=
  parrelref05_first_l0 a b  big 0

theorem parrelref05_first_l0_ok {w0 : World} {W : Nat → Prop} {μ0 : Emb} (hμ : ∀ c p, μ0 c = some p → c < 0) (a : List (Int)) (b : List (Int))  : ∀ (fuel : Nat) (i : Int) (r : (Int)), parrelref05_first_l0 a b  fuel i = some r → kont Tryd.prog w0 W μ0 (FnPost Tryd.prog Tryd.f49 0 0 (parrelref05_first_v r) []) (kAt (bodyOf Tryd.f49) 0) none (parrelref05_first_T0 a b i) (parrelref05_first_H0 a b i) := by
  intro fuel
  induction fuel with
  | zero => intro i r h; rw [parrelref05_first_l0] at h; cases h
  | succ fuel ih =>
    intro i r h
    rw [parrelref05_first_l0] at h
    rcases itb_some h with ⟨cL0_1, h⟩ | ⟨cL0_1, h⟩
    · skip
      obtain ⟨gL0_2, h⟩ := guard_some h
      obtain ⟨gL0_3, h⟩ := guard_some h
      rcases itb_some h with ⟨cL0_4, h⟩ | ⟨cL0_4, h⟩
      · skip
        obtain rfl := Option.some.inj h
        exact run_ret mixed (L := []) (n := 26) (s := [.go, .reg [(3, { v := some (.bool true) })], .reg [(8, { v := some (.bool true) })], .reg []])
          (a_ (a_ (a_ (a_ tr tr) (a_ (a_ tr tr) (a_ (a_ tr tr) (a_ (a_ tr (a_ (leB cL0_1) tr)) tr)))) (a_ (a_ (a_ tr tr) (a_ (a_ tr tr) (a_ (a_ (a_ (Eq.refl 1) gL0_2) tr) (a_ (a_ (lt_ 0 1 rfl) tr) (a_ (a_ tr tr) (a_ (a_ tr tr) (a_ (a_ (a_ (Eq.refl 1) gL0_3) tr) (a_ (a_ (lt_ 0 1 rfl) tr) (a_ (a_ tr (a_ (leB cL0_4) tr)) tr))))))))) (a_ (a_ (a_ tr tr) tr) tr))) tr) (by kernel_rfl) rfl
      · skip
        rcases itb_some h with ⟨cL0_5, h⟩ | ⟨cL0_5, h⟩
        · skip
          obtain rfl := Option.some.inj h
          exact run_ret mixed (L := []) (n := 31) (s := [.go, .reg [(3, { v := some (.bool true) })], .reg [(8, { v := some (.bool false) })], .reg [(8, { v := some (.bool true) })], .reg []])
            (a_ (a_ (a_ (a_ tr tr) (a_ (a_ tr tr) (a_ (a_ tr tr) (a_ (a_ tr (a_ (leB cL0_1) tr)) tr)))) (a_ (a_ (a_ tr tr) (a_ (a_ tr tr) (a_ (a_ (a_ (Eq.refl 1) gL0_2) tr) (a_ (a_ (lt_ 0 1 rfl) tr) (a_ (a_ tr tr) (a_ (a_ tr tr) (a_ (a_ (a_ (Eq.refl 1) gL0_3) tr) (a_ (a_ (lt_ 0 1 rfl) tr) (a_ (a_ tr (a_ (leB cL0_4) tr)) tr))))))))) (a_ (a_ (a_ tr tr) (a_ (a_ tr tr) (a_ (a_ (a_ (Eq.refl 1) gL0_2) tr) (a_ (a_ (lt_ 0 1 rfl) tr) (a_ (a_ tr tr) (a_ (a_ tr tr) (a_ (a_ (a_ (Eq.refl 1) gL0_3) tr) (a_ (a_ (lt_ 0 1 rfl) tr) (a_ (a_ tr (a_ (leB cL0_5) tr)) tr))))))))) (a_ (a_ (a_ tr tr) tr) tr)))) tr) (by kernel_rfl) rfl
        · skip
          exact run_to mixed hμ (L := []) (n := 32) (s := [.go, .reg [(3, { v := some (.bool true) })], .reg [(8, { v := some (.bool false) })], .reg [(8, { v := some (.bool false) })], .reg []])
            (a_ (a_ (a_ tr tr) (a_ (a_ tr tr) (a_ (a_ tr tr) (a_ (a_ tr (a_ (leB cL0_1) tr)) tr)))) (a_ (a_ (a_ tr tr) (a_ (a_ tr tr) (a_ (a_ (a_ (Eq.refl 1) gL0_2) tr) (a_ (a_ (lt_ 0 1 rfl) tr) (a_ (a_ tr tr) (a_ (a_ tr tr) (a_ (a_ (a_ (Eq.refl 1) gL0_3) tr) (a_ (a_ (lt_ 0 1 rfl) tr) (a_ (a_ tr (a_ (leB cL0_4) tr)) tr))))))))) (a_ (a_ (a_ tr tr) (a_ (a_ tr tr) (a_ (a_ (a_ (Eq.refl 1) gL0_2) tr) (a_ (a_ (lt_ 0 1 rfl) tr) (a_ (a_ tr tr) (a_ (a_ tr tr) (a_ (a_ (a_ (Eq.refl 1) gL0_3) tr) (a_ (a_ (lt_ 0 1 rfl) tr) (a_ (a_ tr (a_ (leB cL0_5) tr)) tr))))))))) (a_ (a_ (a_ tr tr) (a_ (a_ tr tr) (a_ (a_ tr tr) tr))) tr)))) (ih _ r h) (by kernel_rfl) trivial
    · skip
      obtain rfl := Option.some.inj h
      exact run_ret mixed (L := []) (n := 19) (s := [.go, .reg [(3, { v := some (.bool false) })], .reg []])
        (a_ (a_ (a_ (a_ tr tr) (a_ (a_ tr tr) (a_ (a_ tr tr) (a_ (a_ tr (a_ (leB cL0_1) tr)) tr)))) (a_ (a_ (a_ tr tr) tr) tr)) tr) (by kernel_rfl) rfl

theorem parrelref05_first_ok (a : List (Int)) (b : List (Int)) (r : (Int)) (h : parrelref05_first a b = some r) : ∀ σ, Inj 0 σ → FnTri Tryd.prog 49 (renL σ [.ds 1 (a).length (rowF (cInt .u32) default a), .ds 1 (b).length (rowF (cInt .u32) default b)]) (preOf σ 0 []) ((parrelref05_first_v r).ren σ) (upOf σ []) := by
  refine fn_of Tryd.func49 (by kernel_rfl) (by kernel_rfl) (by kernel_rfl) trivial (by kernel_rfl) trivial (by kernel_rfl) ?_
  intro w0 W μ0 hμ
  unfold parrelref05_first at h
  exact run_to mixed hμ (L := []) (n := 18) (s := [.reg [], .reg []])
    (a_ (a_ (a_ tr tr) tr) (a_ (a_ (a_ tr tr) tr) tr)) (parrelref05_first_l0_ok hμ a b  big _ r h) (by kernel_rfl) trivial

theorem parrelref05_first_tri (a : List (Int)) (b : List (Int)) (r : (Int)) (h : parrelref05_first a b = some r) : FnTri Tryd.prog 49 [.ds 1 (a).length (rowF (cInt .u32) default a), .ds 1 (b).length (rowF (cInt .u32) default b)] [] (parrelref05_first_v r) [] := FnTri.none (parrelref05_first_ok a b r h) rfl rfl

/-- parrel/parrelref05.Keys -/

def parrelref05_Keys_v (r : (Int)) : LV := .int .i64 r

def parrelref05_Keys_T0 (a : A8 (Int)) (b : A8 (Int)) (i : Int) (l : List (Int)) (l2 : List (Int)) : List LV := [.any, .any, .ptr 0 0 0, .ptr 1 0 0, .any, .gs 2 (l).length, .gs 3 (l2).length, .int .i64 i, .any, .any, .any, .any, .any, .any, .any, .any, .any, .any, .any, .any, .any, .any, .any, .any, .any, .any, .any, .any, .any]

def parrelref05_Keys_H0 (a : A8 (Int)) (b : A8 (Int)) (i : Int) (l : List (Int)) (l2 : List (Int)) : Heap := [some (.var [.int .u8 a.a0, .int .u8 a.a1, .int .u8 a.a2, .int .u8 a.a3, .int .u8 a.a4, .int .u8 a.a5, .int .u8 a.a6, .int .u8 a.a7]), some (.var [.int .u8 b.a0, .int .u8 b.a1, .int .u8 b.a2, .int .u8 b.a3, .int .u8 b.a4, .int .u8 b.a5, .int .u8 b.a6, .int .u8 b.a7]), some (.gr 1 (l).length (rowF (cInt .u32) default l)), some (.gr 1 (l2).length (rowF (cInt .u32) default l2))]

def parrelref05_Keys_l0 (a : A8 (Int)) (b : A8 (Int))  : Nat → (Int) → (List (Int)) → (List (Int)) → Option ((Int))
  | 0, _, _, _ => none
  | fuel + 1, i, l, l2 =>
    if ((decide (i < 8)) : Bool) then
      if 0 ≤ i ∧ i < 8 then
      if ((l).length + ([(IntKind.wrap .u32 (A8.get a i.toNat))]).length) * 4 ≤ 140737488351232 then
      if ((l2).length + ([(IntKind.wrap .u32 (A8.get b i.toNat))]).length) * 4 ≤ 140737488351232 then
      parrelref05_Keys_l0 a b  fuel (IntKind.wrap .i64 (i + 1)) (l ++ [(IntKind.wrap .u32 (A8.get a i.toNat))]) (l2 ++ [(IntKind.wrap .u32 (A8.get b i.toNat))])
      else none
      else none
      else none
    else
      (parrelref05_first l l2).bind fun yL0_3 =>
      some yL0_3

def parrelref05_Keys (a : A8 (Int)) (b : A8 (Int)) : Option ((Int)) :=
  parrelref05_Keys_l0 a b  big 0 ([] : List (Int)) ([] : List (Int))

theorem parrelref05_Keys_l0_ok {w0 : World} {W : Nat → Prop} {μ0 : Emb} (hμ : ∀ c p, μ0 c = some p → c < 0) (a : A8 (Int)) (b : A8 (Int))  : ∀ (fuel : Nat) (i : Int) (l : List (Int)) (l2 : List (Int)) (r : (Int)), parrelref05_Keys_l0 a b  fuel i l l2 = some r → kont Tryd.prog w0 W μ0 (FnPost Tryd.prog Tryd.f48 0 0 (parrelref05_Keys_v r) []) (kAt (bodyOf Tryd.f48) 0) none (parrelref05_Keys_T0 a b i l l2) (parrelref05_Keys_H0 a b i l l2) := by
  intro fuel
  induction fuel with
  | zero => intro i l l2 r h; rw [parrelref05_Keys_l0] at h; cases h
  | succ fuel ih =>
    intro i l l2 r h
    rw [parrelref05_Keys_l0] at h
    rcases itb_some h with ⟨cL0_1, h⟩ | ⟨cL0_1, h⟩
    · skip
      obtain ⟨gL0_2, h⟩ := guard_some h
      obtain ⟨gL0_3, h⟩ := guard_some h
      obtain ⟨gL0_4, h⟩ := guard_some h
      exact run_to mixed hμ (L := [0, 1, 5, 7]) (n := 26) (s := [.go, .reg [(1, { v := some (.bool true) })], .reg [(3, { v := some (.int .u8 (A8.get a i.toNat)) }), (5, { os := [(4, .gr 1 ([(IntKind.wrap .u32 (A8.get a i.toNat))]).length (rowF (cInt .u32) default [(IntKind.wrap .u32 (A8.get a i.toNat))]))], v := some (.gs 4 ([(IntKind.wrap .u32 (A8.get a i.toNat))]).length) }), (6, { app := 3, os := [(5, .gr 1 ((l ++ [(IntKind.wrap .u32 (A8.get a i.toNat))])).length (rowF (cInt .u32) default (l ++ [(IntKind.wrap .u32 (A8.get a i.toNat))])))], v := some (.gs 5 ((l ++ [(IntKind.wrap .u32 (A8.get a i.toNat))])).length) })], .reg [(3, { v := some (.int .u8 (A8.get b i.toNat)) }), (5, { os := [(6, .gr 1 ([(IntKind.wrap .u32 (A8.get b i.toNat))]).length (rowF (cInt .u32) default [(IntKind.wrap .u32 (A8.get b i.toNat))]))], v := some (.gs 6 ([(IntKind.wrap .u32 (A8.get b i.toNat))]).length) }), (6, { app := 3, os := [(7, .gr 1 ((l2 ++ [(IntKind.wrap .u32 (A8.get b i.toNat))])).length (rowF (cInt .u32) default (l2 ++ [(IntKind.wrap .u32 (A8.get b i.toNat))])))], v := some (.gs 7 ((l2 ++ [(IntKind.wrap .u32 (A8.get b i.toNat))])).length) })], .reg []])
        (a_ (a_ (a_ tr tr) (a_ (a_ tr (a_ (leB cL0_1) tr)) tr)) (a_ (a_ (a_ tr tr) (a_ (a_ tr tr) (a_ (a_ gL0_2 tr) (a_ (a_ (a_ tr (arrLt (len := 8) gL0_2 0 1 8 rfl rfl)) (a_ (ld8s (cInt .u8) 1 (fun _ => rfl) a [] [] 0 rfl i.toNat (lt8N gL0_2) (le_ (0 + 1) 1 rfl)) tr)) (a_ (a_ tr tr) (a_ (a_ (a_ (Eq.refl true) (a_ (Eq.refl 1) (a_ (lt_ 0 1 rfl) (le_ 1 16777216 rfl)))) (a_ (le_sl_gs 4 1 (some 1) rfl) (a_ (sub_lit (cInt .u32) default 1 (fun _ => rfl) [(IntKind.wrap .u32 (A8.get a i.toNat))]) tr))) (a_ (a_ (a_ (a_ (Eq.refl 1) (Nat.le_refl ([(IntKind.wrap .u32 (A8.get a i.toNat))]).length)) (a_ (a_ (lt_ 0 1 rfl) (a_ (lt_ 0 4 rfl) (a_ gL0_3 (a_ (Eq.refl 1) (Eq.refl true))))) (a_ (Eq.refl 1) (Nat.le_refl (l).length)))) (a_ (le_gs_app 5 l [(IntKind.wrap .u32 (A8.get a i.toNat))]) (a_ (sub_app (cInt .u32) default 1 l [(IntKind.wrap .u32 (A8.get a i.toNat))]) tr))) (a_ (a_ tr tr) tr)))))))) (a_ (a_ (a_ tr tr) (a_ (a_ tr tr) (a_ (a_ gL0_2 tr) (a_ (a_ (a_ tr (arrLt (len := 8) gL0_2 0 1 8 rfl rfl)) (a_ (ld8s (cInt .u8) 1 (fun _ => rfl) b [] [] 0 rfl i.toNat (lt8N gL0_2) (le_ (0 + 1) 1 rfl)) tr)) (a_ (a_ tr tr) (a_ (a_ (a_ (Eq.refl true) (a_ (Eq.refl 1) (a_ (lt_ 0 1 rfl) (le_ 1 16777216 rfl)))) (a_ (le_sl_gs 6 1 (some 1) rfl) (a_ (sub_lit (cInt .u32) default 1 (fun _ => rfl) [(IntKind.wrap .u32 (A8.get b i.toNat))]) tr))) (a_ (a_ (a_ (a_ (Eq.refl 1) (Nat.le_refl ([(IntKind.wrap .u32 (A8.get b i.toNat))]).length)) (a_ (a_ (lt_ 0 1 rfl) (a_ (lt_ 0 4 rfl) (a_ gL0_4 (a_ (Eq.refl 1) (Eq.refl true))))) (a_ (Eq.refl 1) (Nat.le_refl (l2).length)))) (a_ (le_gs_app 7 l2 [(IntKind.wrap .u32 (A8.get b i.toNat))]) (a_ (sub_app (cInt .u32) default 1 l2 [(IntKind.wrap .u32 (A8.get b i.toNat))]) tr))) (a_ (a_ tr tr) tr)))))))) (a_ (a_ (a_ tr tr) (a_ (a_ tr tr) (a_ (a_ tr tr) tr))) tr)))) (ih _ _ _ r h) (by kernel_rfl) ⟨rfl, rfl, fun _ _ => rfl, fun _ _ => rfl, trivial⟩
    · skip
      obtain ⟨yL0_3, eL0_2, h⟩ := bind_some h
      obtain rfl := Option.some.inj h
      exact run_ret mixed (L := []) (n := 21) (s := [.go, .reg [(1, { v := some (.bool false) })], .frz 2, .frz 3, .reg [(2, { call := some (parrelref05_first_v yL0_3, [], []) })]])
        (a_ (a_ (a_ (a_ tr tr) (a_ (a_ tr (a_ (leB cL0_1) tr)) tr)) (a_ (a_ (fz_row (enc := (cInt .u32)) (d := default) (fun _ => rfl) l) (a_ (Nat.le_refl (l).length) tr)) (a_ (a_ (fz_row (enc := (cInt .u32)) (d := default) (fun _ => rfl) l2) (a_ (Nat.le_refl (l2).length) tr)) (a_ (a_ (a_ tr tr) (a_ (a_ tr tr) (a_ (a_ (a_ (parrelref05_first_tri l l2 yL0_3 eL0_2) tr) tr) (a_ (a_ tr tr) tr)))) tr)))) tr) (by kernel_rfl) rfl

theorem parrelref05_Keys_ok (a : A8 (Int)) (b : A8 (Int)) (r : (Int)) (h : parrelref05_Keys a b = some r) : ∀ σ, Inj 0 σ → FnTri Tryd.prog 48 (renL σ [.agg [.int .u8 a.a0, .int .u8 a.a1, .int .u8 a.a2, .int .u8 a.a3, .int .u8 a.a4, .int .u8 a.a5, .int .u8 a.a6, .int .u8 a.a7], .agg [.int .u8 b.a0, .int .u8 b.a1, .int .u8 b.a2, .int .u8 b.a3, .int .u8 b.a4, .int .u8 b.a5, .int .u8 b.a6, .int .u8 b.a7]]) (preOf σ 0 []) ((parrelref05_Keys_v r).ren σ) (upOf σ []) := by
  refine fn_of Tryd.func48 (by kernel_rfl) (by kernel_rfl) (by kernel_rfl) trivial (by kernel_rfl) trivial (by kernel_rfl) ?_
  intro w0 W μ0 hμ
  unfold parrelref05_Keys at h
  exact run_to mixed hμ (L := [0, 1, 2, 3]) (n := 23) (s := [.reg [], .void (.gr 1 (([] : List (Int))).length (rowF (cInt .u32) default ([] : List (Int)))), .void (.gr 1 (([] : List (Int))).length (rowF (cInt .u32) default ([] : List (Int)))), .reg [(0, { v := some (.gs 2 (([] : List (Int))).length) }), (1, { v := some (.gs 3 (([] : List (Int))).length) })], .reg []])
    (a_ (a_ (a_ tr tr) (a_ (a_ tr tr) (a_ (a_ tr tr) tr))) (a_ (Eq.refl 0) (a_ (Eq.refl 0) (a_ (a_ (a_ tr (a_ (le_nil_gs 2) tr)) (a_ (a_ tr (a_ (le_nil_gs 3) tr)) tr)) (a_ (a_ (a_ tr tr) tr) tr))))) (parrelref05_Keys_l0_ok hμ a b  big _ _ _ r h) (by kernel_rfl) ⟨rfl, rfl, fun _ _ => rfl, fun _ _ => rfl, trivial⟩

theorem parrelref05_Keys_tri (a : A8 (Int)) (b : A8 (Int)) (r : (Int)) (h : parrelref05_Keys a b = some r) : FnTri Tryd.prog 48 [.agg [.int .u8 a.a0, .int .u8 a.a1, .int .u8 a.a2, .int .u8 a.a3, .int .u8 a.a4, .int .u8 a.a5, .int .u8 a.a6, .int .u8 a.a7], .agg [.int .u8 b.a0, .int .u8 b.a1, .int .u8 b.a2, .int .u8 b.a3, .int .u8 b.a4, .int .u8 b.a5, .int .u8 b.a6, .int .u8 b.a7]] [] (parrelref05_Keys_v r) [] := FnTri.none (parrelref05_Keys_ok a b r h) rfl rfl

/-- parrel/parrelref10.WritesMay -/

def parrelref10_WritesMay_v (r : (Bool)) : LV := .bool r

def parrelref10_WritesMay_T0 (l : List (T_api_Write)) (i : Int) : List LV := [.ds 21 (l).length (rowF c_T_api_Write default l), .any, .any, .int .i64 i, .any, .any, .any, .any, .any, .any, .any, .any, .any, .any, .any, .any, .any, .any, .any, .any, .any, .any, .any, .any, .any, .any, .any, .any, .any, .any, .any, .any, .any, .any, .any, .any, .any, .any, .any, .any, .any, .any, .any, .any, .any, .any, .any, .any]

def parrelref10_WritesMay_H0 (l : List (T_api_Write)) (i : Int) : Heap := []

def parrelref10_WritesMay_l0 (l : List (T_api_Write))  : Nat → (Int) → Option ((Bool))
  | 0, _ => none
  | fuel + 1, i =>
    if ((decide (i < ((l).length : Int))) : Bool) then
      if 0 ≤ i ∧ i < (((l).length : Nat) : Int) then
      (parrelref10_KeyMay (l.getD i.toNat default).f_Key).bind fun yL0_4 =>
      if ((!yL0_4) : Bool) then
        some false
      else
        (parrelref10_ItemMay (l.getD i.toNat default).f_Item).bind fun yL0_7 =>
        if ((!yL0_7) : Bool) then
          some false
        else
          if ((decide (0 < i)) : Bool) then
            if 0 ≤ (IntKind.wrap .i64 (i - 1)) ∧ (IntKind.wrap .i64 (i - 1)) < (((l).length : Nat) : Int) then
            (parrelref05_Keys (l.getD ((IntKind.wrap .i64 (i - 1))).toNat default).f_Key (l.getD i.toNat default).f_Key).bind fun yL0_12 =>
            if ((decide (0 ≤ yL0_12)) : Bool) then
              some false
            else
              parrelref10_WritesMay_l0 l  fuel (IntKind.wrap .i64 (i + 1))
            else none
          else
            parrelref10_WritesMay_l0 l  fuel (IntKind.wrap .i64 (i + 1))
      else none
    else
      some (decide (((l).length : Int) ≤ 16))

def parrelref10_WritesMay (l : List (T_api_Write)) : Option ((Bool)) :=
  parrelref10_WritesMay_l0 l  big 0

theorem parrelref10_WritesMay_l0_ok {w0 : World} {W : Nat → Prop} {μ0 : Emb} (hμ : ∀ c p, μ0 c = some p → c < 0) (l : List (T_api_Write))  : ∀ (fuel : Nat) (i : Int) (r : (Bool)), parrelref10_WritesMay_l0 l  fuel i = some r → kont Tryd.prog w0 W μ0 (FnPost Tryd.prog Tryd.f34 0 0 (parrelref10_WritesMay_v r) []) (kAt (bodyOf Tryd.f34) 0) none (parrelref10_WritesMay_T0 l i) (parrelref10_WritesMay_H0 l i) := by
  intro fuel
  induction fuel with
  | zero => intro i r h; rw [parrelref10_WritesMay_l0] at h; cases h
  | succ fuel ih =>
    intro i r h
    rw [parrelref10_WritesMay_l0] at h
    rcases itb_some h with ⟨cL0_1, h⟩ | ⟨cL0_1, h⟩
    · skip
      obtain ⟨gL0_2, h⟩ := guard_some h
      obtain ⟨yL0_4, eL0_3, h⟩ := bind_some h
      rcases itb_some h with ⟨cL0_5, h⟩ | ⟨cL0_5, h⟩
      · skip
        obtain rfl := Option.some.inj h
        exact run_ret mixed (L := []) (n := 25) (s := [.go, .reg [(3, { v := some (.bool true) })], .reg [(5, { call := some (parrelref10_KeyMay_v yL0_4, [], []) }), (7, { v := some (.bool true) })], .reg []])
          (a_ (a_ (a_ (a_ tr tr) (a_ (a_ tr tr) (a_ (a_ tr tr) (a_ (a_ tr (a_ (leB cL0_1) tr)) tr)))) (a_ (a_ (a_ tr tr) (a_ (a_ tr tr) (a_ (a_ (a_ (Eq.refl 21) gL0_2) tr) (a_ (a_ tr tr) (a_ (a_ (le_ 8 21 rfl) tr) (a_ (a_ (a_ (parrelref10_KeyMay_tri (l.getD i.toNat default).f_Key yL0_4 eL0_3) tr) tr) (a_ (a_ tr tr) (a_ (a_ tr (a_ (leB cL0_5) tr)) (a_ tr (a_ tr (a_ tr (a_ tr (a_ tr (a_ tr (a_ tr (a_ (a_ tr tr) (a_ (a_ tr tr) (a_ tr (a_ tr (a_ tr (a_ tr (a_ tr (a_ tr (a_ tr (a_ tr (a_ tr (a_ tr (a_ tr (a_ tr (a_ tr (a_ tr (a_ tr (a_ tr (a_ tr (a_ (a_ tr tr) tr))))))))))))))))))))))))))))))))))) (a_ (a_ (a_ tr tr) tr) tr))) tr) (by kernel_rfl) rfl
      · skip
        obtain ⟨yL0_7, eL0_6, h⟩ := bind_some h
        rcases itb_some h with ⟨cL0_8, h⟩ | ⟨cL0_8, h⟩
        · skip
          obtain rfl := Option.some.inj h
          exact run_ret mixed (L := []) (n := 25) (s := [.go, .reg [(3, { v := some (.bool true) })], .reg [(5, { call := some (parrelref10_KeyMay_v yL0_4, [], []) }), (7, { v := some (.bool false) }), (13, { call := some (parrelref10_ItemMay_v yL0_7, [], []) }), (16, { v := some (.bool true) })], .reg []])
            (a_ (a_ (a_ (a_ tr tr) (a_ (a_ tr tr) (a_ (a_ tr tr) (a_ (a_ tr (a_ (leB cL0_1) tr)) tr)))) (a_ (a_ (a_ tr tr) (a_ (a_ tr tr) (a_ (a_ (a_ (Eq.refl 21) gL0_2) tr) (a_ (a_ tr tr) (a_ (a_ (le_ 8 21 rfl) tr) (a_ (a_ (a_ (parrelref10_KeyMay_tri (l.getD i.toNat default).f_Key yL0_4 eL0_3) tr) tr) (a_ (a_ tr tr) (a_ (a_ tr (a_ (leB cL0_5) tr)) (a_ (a_ tr tr) (a_ (a_ tr tr) (a_ (a_ (a_ (Eq.refl 21) gL0_2) tr) (a_ (a_ tr tr) (a_ (a_ (le_ 13 13 rfl) tr) (a_ (a_ (a_ (parrelref10_ItemMay_tri (l.getD i.toNat default).f_Item yL0_7 eL0_6) tr) tr) (a_ (a_ tr tr) (a_ (a_ tr tr) (a_ (a_ tr (a_ (leB cL0_8) tr)) (a_ tr (a_ tr (a_ tr (a_ tr (a_ tr (a_ tr (a_ tr (a_ tr (a_ tr (a_ tr (a_ tr (a_ tr (a_ tr (a_ tr (a_ tr (a_ tr (a_ tr (a_ (a_ tr tr) tr))))))))))))))))))))))))))))))))))) (a_ (a_ (a_ tr tr) tr) tr))) tr) (by kernel_rfl) rfl
        · skip
          rcases itb_some h with ⟨cL0_9, h⟩ | ⟨cL0_9, h⟩
          · skip
            obtain ⟨gL0_10, h⟩ := guard_some h
            obtain ⟨yL0_12, eL0_11, h⟩ := bind_some h
            rcases itb_some h with ⟨cL0_13, h⟩ | ⟨cL0_13, h⟩
            · skip
              obtain rfl := Option.some.inj h
              exact run_ret mixed (L := []) (n := 25) (s := [.go, .reg [(3, { v := some (.bool true) })], .reg [(5, { call := some (parrelref10_KeyMay_v yL0_4, [], []) }), (7, { v := some (.bool false) }), (13, { call := some (parrelref10_ItemMay_v yL0_7, [], []) }), (16, { v := some (.bool false) }), (19, { v := some (.bool true) }), (31, { call := some (parrelref05_Keys_v yL0_12, [], []) }), (34, { v := some (.bool true) })], .reg []])
                (a_ (a_ (a_ (a_ tr tr) (a_ (a_ tr tr) (a_ (a_ tr tr) (a_ (a_ tr (a_ (leB cL0_1) tr)) tr)))) (a_ (a_ (a_ tr tr) (a_ (a_ tr tr) (a_ (a_ (a_ (Eq.refl 21) gL0_2) tr) (a_ (a_ tr tr) (a_ (a_ (le_ 8 21 rfl) tr) (a_ (a_ (a_ (parrelref10_KeyMay_tri (l.getD i.toNat default).f_Key yL0_4 eL0_3) tr) tr) (a_ (a_ tr tr) (a_ (a_ tr (a_ (leB cL0_5) tr)) (a_ (a_ tr tr) (a_ (a_ tr tr) (a_ (a_ (a_ (Eq.refl 21) gL0_2) tr) (a_ (a_ tr tr) (a_ (a_ (le_ 13 13 rfl) tr) (a_ (a_ (a_ (parrelref10_ItemMay_tri (l.getD i.toNat default).f_Item yL0_7 eL0_6) tr) tr) (a_ (a_ tr tr) (a_ (a_ tr tr) (a_ (a_ tr (a_ (leB cL0_8) tr)) (a_ (a_ tr tr) (a_ (a_ tr tr) (a_ (a_ tr (a_ (leB cL0_9) tr)) (a_ (a_ tr tr) (a_ (a_ tr tr) (a_ (a_ tr tr) (a_ (a_ (a_ (Eq.refl 21) gL0_10) tr) (a_ (a_ tr tr) (a_ (a_ (le_ 8 21 rfl) tr) (a_ (a_ tr tr) (a_ (a_ tr tr) (a_ (a_ (a_ (Eq.refl 21) gL0_2) tr) (a_ (a_ tr tr) (a_ (a_ (le_ 8 21 rfl) tr) (a_ (a_ (a_ (parrelref05_Keys_tri (l.getD ((IntKind.wrap .i64 (i - 1))).toNat default).f_Key (l.getD i.toNat default).f_Key yL0_12 eL0_11) tr) tr) (a_ (a_ tr tr) (a_ (a_ tr tr) (a_ (a_ tr (a_ (leB cL0_13) tr)) tr))))))))))))))))))))))))))))))))))) (a_ (a_ (a_ tr tr) tr) tr))) tr) (by kernel_rfl) rfl
            · skip
              exact run_to mixed hμ (L := []) (n := 26) (s := [.go, .reg [(3, { v := some (.bool true) })], .reg [(5, { call := some (parrelref10_KeyMay_v yL0_4, [], []) }), (7, { v := some (.bool false) }), (13, { call := some (parrelref10_ItemMay_v yL0_7, [], []) }), (16, { v := some (.bool false) }), (19, { v := some (.bool true) }), (31, { call := some (parrelref05_Keys_v yL0_12, [], []) }), (34, { v := some (.bool false) })], .reg []])
                (a_ (a_ (a_ tr tr) (a_ (a_ tr tr) (a_ (a_ tr tr) (a_ (a_ tr (a_ (leB cL0_1) tr)) tr)))) (a_ (a_ (a_ tr tr) (a_ (a_ tr tr) (a_ (a_ (a_ (Eq.refl 21) gL0_2) tr) (a_ (a_ tr tr) (a_ (a_ (le_ 8 21 rfl) tr) (a_ (a_ (a_ (parrelref10_KeyMay_tri (l.getD i.toNat default).f_Key yL0_4 eL0_3) tr) tr) (a_ (a_ tr tr) (a_ (a_ tr (a_ (leB cL0_5) tr)) (a_ (a_ tr tr) (a_ (a_ tr tr) (a_ (a_ (a_ (Eq.refl 21) gL0_2) tr) (a_ (a_ tr tr) (a_ (a_ (le_ 13 13 rfl) tr) (a_ (a_ (a_ (parrelref10_ItemMay_tri (l.getD i.toNat default).f_Item yL0_7 eL0_6) tr) tr) (a_ (a_ tr tr) (a_ (a_ tr tr) (a_ (a_ tr (a_ (leB cL0_8) tr)) (a_ (a_ tr tr) (a_ (a_ tr tr) (a_ (a_ tr (a_ (leB cL0_9) tr)) (a_ (a_ tr tr) (a_ (a_ tr tr) (a_ (a_ tr tr) (a_ (a_ (a_ (Eq.refl 21) gL0_10) tr) (a_ (a_ tr tr) (a_ (a_ (le_ 8 21 rfl) tr) (a_ (a_ tr tr) (a_ (a_ tr tr) (a_ (a_ (a_ (Eq.refl 21) gL0_2) tr) (a_ (a_ tr tr) (a_ (a_ (le_ 8 21 rfl) tr) (a_ (a_ (a_ (parrelref05_Keys_tri (l.getD ((IntKind.wrap .i64 (i - 1))).toNat default).f_Key (l.getD i.toNat default).f_Key yL0_12 eL0_11) tr) tr) (a_ (a_ tr tr) (a_ (a_ tr tr) (a_ (a_ tr (a_ (leB cL0_13) tr)) tr))))))))))))))))))))))))))))))))))) (a_ (a_ (a_ tr tr) (a_ (a_ tr tr) (a_ (a_ tr tr) tr))) tr))) (ih _ r h) (by kernel_rfl) trivial
          · skip
            exact run_to mixed hμ (L := []) (n := 26) (s := [.go, .reg [(3, { v := some (.bool true) })], .reg [(5, { call := some (parrelref10_KeyMay_v yL0_4, [], []) }), (7, { v := some (.bool false) }), (13, { call := some (parrelref10_ItemMay_v yL0_7, [], []) }), (16, { v := some (.bool false) }), (19, { v := some (.bool false) })], .reg []])
              (a_ (a_ (a_ tr tr) (a_ (a_ tr tr) (a_ (a_ tr tr) (a_ (a_ tr (a_ (leB cL0_1) tr)) tr)))) (a_ (a_ (a_ tr tr) (a_ (a_ tr tr) (a_ (a_ (a_ (Eq.refl 21) gL0_2) tr) (a_ (a_ tr tr) (a_ (a_ (le_ 8 21 rfl) tr) (a_ (a_ (a_ (parrelref10_KeyMay_tri (l.getD i.toNat default).f_Key yL0_4 eL0_3) tr) tr) (a_ (a_ tr tr) (a_ (a_ tr (a_ (leB cL0_5) tr)) (a_ (a_ tr tr) (a_ (a_ tr tr) (a_ (a_ (a_ (Eq.refl 21) gL0_2) tr) (a_ (a_ tr tr) (a_ (a_ (le_ 13 13 rfl) tr) (a_ (a_ (a_ (parrelref10_ItemMay_tri (l.getD i.toNat default).f_Item yL0_7 eL0_6) tr) tr) (a_ (a_ tr tr) (a_ (a_ tr tr) (a_ (a_ tr (a_ (leB cL0_8) tr)) (a_ (a_ tr tr) (a_ (a_ tr tr) (a_ (a_ tr (a_ (leB cL0_9) tr)) (a_ tr (a_ tr (a_ tr (a_ tr (a_ tr (a_ tr (a_ tr (a_ tr (a_ tr (a_ tr (a_ tr (a_ tr (a_ tr (a_ (a_ tr tr) (a_ (a_ tr tr) tr))))))))))))))))))))))))))))))))))) (a_ (a_ (a_ tr tr) (a_ (a_ tr tr) (a_ (a_ tr tr) tr))) tr))) (ih _ r h) (by kernel_rfl) trivial
    · skip
      obtain rfl := Option.some.inj h
      exact run_ret mixed (L := []) (n := 19) (s := [.go, .reg [(3, { v := some (.bool false) })], .reg []])
        (a_ (a_ (a_ (a_ tr tr) (a_ (a_ tr tr) (a_ (a_ tr tr) (a_ (a_ tr (a_ (leB cL0_1) tr)) tr)))) (a_ (a_ (a_ tr tr) (a_ (a_ tr tr) (a_ (a_ tr tr) (a_ (a_ tr tr) tr)))) tr)) tr) (by kernel_rfl) rfl

theorem parrelref10_WritesMay_ok (l : List (T_api_Write)) (r : (Bool)) (h : parrelref10_WritesMay l = some r) : ∀ σ, Inj 0 σ → FnTri Tryd.prog 34 (renL σ [.ds 21 (l).length (rowF c_T_api_Write default l)]) (preOf σ 0 []) ((parrelref10_WritesMay_v r).ren σ) (upOf σ []) := by
  refine fn_of Tryd.func34 (by kernel_rfl) (by kernel_rfl) (by kernel_rfl) trivial (by kernel_rfl) trivial (by kernel_rfl) ?_
  intro w0 W μ0 hμ
  unfold parrelref10_WritesMay at h
  exact run_to mixed hμ (L := []) (n := 18) (s := [.reg [], .reg []])
    (a_ (a_ (a_ tr tr) tr) (a_ (a_ (a_ tr tr) tr) tr)) (parrelref10_WritesMay_l0_ok hμ l  big _ r h) (by kernel_rfl) trivial

theorem parrelref10_WritesMay_tri (l : List (T_api_Write)) (r : (Bool)) (h : parrelref10_WritesMay l = some r) : FnTri Tryd.prog 34 [.ds 21 (l).length (rowF c_T_api_Write default l)] [] (parrelref10_WritesMay_v r) [] := FnTri.none (parrelref10_WritesMay_ok l r h) rfl rfl

/-- (*parrel/parrelref14.Stage).Owner -/

def parrelref14_Stage_Owner_v (r : (T_api_Tx) × (Bool)) : LV := .tup [v_T_api_Tx r.1, .bool r.2]

def parrelref14_Stage_Owner_up (s : T_parrelref14_Stage) (x_k : A8 (Int)) (r : (T_api_Tx) × (Bool)) : Upd := [(0, some (.var (c_T_parrelref14_Stage s)))]

def parrelref14_Stage_Owner_objs (s : T_parrelref14_Stage) (x_k : A8 (Int)) : List LO := [.var (c_T_parrelref14_Stage s)]

def parrelref14_Stage_Owner_T1 (s : T_parrelref14_Stage) (x_k : A8 (Int)) (i : Int) (j : Int) : List LV := [.ptr 0 0 0, .any, .any, .ptr 1 0 0, .ptr 2 0 0, .any, .int .i64 i, .int .i64 j, .any, .any, .any, .any, .any, .any, .any, .any, .any, .any, .any, .any, .any, .any, .any, .any, .any, .any, .any, .any, .any, .any, .any, .any, .any, .any, .any, .any, .any, .any, .any, .any, .any, .any, .any, .any, .any, .any, .any, .any, .any, .any, .any, .any, .any]

def parrelref14_Stage_Owner_H1 (s : T_parrelref14_Stage) (x_k : A8 (Int)) (i : Int) (j : Int) : Heap := [some (.var (c_T_parrelref14_Stage s)), some (.var [.int .u8 x_k.a0, .int .u8 x_k.a1, .int .u8 x_k.a2, .int .u8 x_k.a3, .int .u8 x_k.a4, .int .u8 x_k.a5, .int .u8 x_k.a6, .int .u8 x_k.a7]), some (.var (c_T_api_Tx (T_api_Tx.mk 0 0 0)))]

def parrelref14_Stage_Owner_T0 (s : T_parrelref14_Stage) (x_k : A8 (Int)) (i : Int) : List LV := [.ptr 0 0 0, .any, .any, .ptr 1 0 0, .ptr 2 0 0, .any, .int .i64 i, .any, .any, .any, .any, .any, .any, .any, .any, .any, .any, .any, .any, .any, .any, .any, .any, .any, .any, .any, .any, .any, .any, .any, .any, .any, .any, .any, .any, .any, .any, .any, .any, .any, .any, .any, .any, .any, .any, .any, .any, .any, .any, .any, .any, .any, .any]

def parrelref14_Stage_Owner_H0 (s : T_parrelref14_Stage) (x_k : A8 (Int)) (i : Int) : Heap := [some (.var (c_T_parrelref14_Stage s)), some (.var [.int .u8 x_k.a0, .int .u8 x_k.a1, .int .u8 x_k.a2, .int .u8 x_k.a3, .int .u8 x_k.a4, .int .u8 x_k.a5, .int .u8 x_k.a6, .int .u8 x_k.a7]), some (.var (c_T_api_Tx (T_api_Tx.mk 0 0 0)))]

def parrelref14_Stage_Owner_l1 (s : T_parrelref14_Stage) (x_k : A8 (Int)) (i : Int) (k0 : (Int) → Option ((T_api_Tx) × (Bool))) : Nat → (Int) → Option ((T_api_Tx) × (Bool))
  | 0, _ => none
  | fuel + 1, j =>
    if 0 ≤ i ∧ i < (((s.f_L).length : Nat) : Int) then
    if ((decide (j < (((s.f_L.getD i.toNat default).f_Writes).length : Int))) : Bool) then
      if 0 ≤ j ∧ j < ((((s.f_L.getD i.toNat default).f_Writes).length : Nat) : Int) then
      if ((decide (((s.f_L.getD i.toNat default).f_Writes.getD j.toNat default).f_Key = x_k)) : Bool) then
        some ((s.f_L.getD i.toNat default).f_Tx, true)
      else
        parrelref14_Stage_Owner_l1 s x_k i k0 fuel (IntKind.wrap .i64 (j + 1))
      else none
    else
      k0 (IntKind.wrap .i64 (i + 1))
    else none

def parrelref14_Stage_Owner_l0 (s : T_parrelref14_Stage) (x_k : A8 (Int))  : Nat → (Int) → Option ((T_api_Tx) × (Bool))
  | 0, _ => none
  | fuel + 1, i =>
    if ((decide (i < ((s.f_L).length : Int))) : Bool) then
      parrelref14_Stage_Owner_l1 s x_k i (parrelref14_Stage_Owner_l0 s x_k  fuel) big 0
    else
      some ((T_api_Tx.mk 0 0 0), false)

def parrelref14_Stage_Owner (s : T_parrelref14_Stage) (x_k : A8 (Int)) : Option ((T_api_Tx) × (Bool)) :=
  parrelref14_Stage_Owner_l0 s x_k  big 0

theorem parrelref14_Stage_Owner_l1_ok {w0 : World} {W : Nat → Prop} {μ0 : Emb} (hμ : ∀ c p, μ0 c = some p → c < 1) (s : T_parrelref14_Stage) (x_k : A8 (Int)) (i : Int) (k0 : (Int) → Option ((T_api_Tx) × (Bool))) (hk0 : ∀ (i : Int) (r : (T_api_Tx) × (Bool)), k0 i = some r → kont Tryd.prog w0 W μ0 (FnPost Tryd.prog Tryd.f22 1 1 (parrelref14_Stage_Owner_v r) (parrelref14_Stage_Owner_up s x_k r)) (kAt (bodyOf Tryd.f22) 0) none (parrelref14_Stage_Owner_T0 s x_k i) (parrelref14_Stage_Owner_H0 s x_k i)) : ∀ (fuel : Nat) (j : Int) (r : (T_api_Tx) × (Bool)), parrelref14_Stage_Owner_l1 s x_k i k0 fuel j = some r → kont Tryd.prog w0 W μ0 (FnPost Tryd.prog Tryd.f22 1 1 (parrelref14_Stage_Owner_v r) (parrelref14_Stage_Owner_up s x_k r)) (kAt (bodyOf Tryd.f22) 1) none (parrelref14_Stage_Owner_T1 s x_k i j) (parrelref14_Stage_Owner_H1 s x_k i j) := by
  intro fuel
  induction fuel with
  | zero => intro j r h; rw [parrelref14_Stage_Owner_l1] at h; cases h
  | succ fuel ih =>
    intro j r h
    rw [parrelref14_Stage_Owner_l1] at h
    obtain ⟨gL1_1, h⟩ := guard_some h
    rcases itb_some h with ⟨cL1_2, h⟩ | ⟨cL1_2, h⟩
    · skip
      obtain ⟨gL1_3, h⟩ := guard_some h
      rcases itb_some h with ⟨cL1_4, h⟩ | ⟨cL1_4, h⟩
      · skip
        obtain rfl := Option.some.inj h
        exact run_ret mixed (L := []) (n := 25) (s := [.go, .reg [(10, { v := some (.bool true) })], .reg [(13, { v := some (.bool true) })], .reg []])
          (a_ (a_ (a_ (a_ tr tr) (a_ (a_ tr tr) (a_ (a_ tr tr) (a_ (a_ tr tr) (a_ (a_ (a_ tr (lt_ 0 1 rfl)) tr) (a_ (a_ tr tr) (a_ (a_ (a_ (Eq.refl 6) gL1_1) tr) (a_ (a_ tr tr) (a_ (a_ (lt_ 0 1 rfl) tr) (a_ (a_ tr tr) (a_ (a_ tr (a_ (leB cL1_2) tr)) tr))))))))))) (a_ (a_ (a_ tr tr) (a_ (a_ tr tr) (a_ (a_ tr tr) (a_ (a_ (a_ tr (lt_ 0 1 rfl)) tr) (a_ (a_ tr tr) (a_ (a_ (a_ (Eq.refl 6) gL1_1) tr) (a_ (a_ tr tr) (a_ (a_ (lt_ 0 1 rfl) tr) (a_ (a_ tr tr) (a_ (a_ (a_ (Eq.refl 21) gL1_3) tr) (a_ (a_ tr tr) (a_ (a_ (le_ 8 21 rfl) tr) (a_ (a_ (a_ tr (le_ 8 8 rfl)) tr) (a_ (a_ tr (a_ (LV.Le.trans (leB ((k_arr8 .u8) ((s.f_L.getD i.toNat default).f_Writes.getD j.toNat default).f_Key x_k)) (leB cL1_4)) tr)) tr)))))))))))))) (a_ (a_ (a_ tr tr) (a_ (a_ tr tr) (a_ (a_ tr tr) (a_ (a_ (a_ tr (lt_ 0 1 rfl)) tr) (a_ (a_ tr tr) (a_ (a_ (a_ (Eq.refl 6) gL1_1) tr) (a_ (a_ tr tr) (a_ (a_ (le_ 3 6 rfl) tr) (a_ (a_ (a_ (Eq.refl 3) (a_ (le_ 3 3 rfl) (Eq.refl 0))) tr) (a_ (a_ tr tr) tr)))))))))) tr))) (a_ (a_ tr (le_ 3 3 rfl)) tr)) (by kernel_rfl) rfl
      · skip
        exact run_to mixed hμ (L := [1, 2]) (n := 26) (s := [.go, .reg [(10, { v := some (.bool true) })], .reg [(13, { v := some (.bool false) })], .reg []])
          (a_ (a_ (a_ tr tr) (a_ (a_ tr tr) (a_ (a_ tr tr) (a_ (a_ tr tr) (a_ (a_ (a_ tr (lt_ 0 1 rfl)) tr) (a_ (a_ tr tr) (a_ (a_ (a_ (Eq.refl 6) gL1_1) tr) (a_ (a_ tr tr) (a_ (a_ (lt_ 0 1 rfl) tr) (a_ (a_ tr tr) (a_ (a_ tr (a_ (leB cL1_2) tr)) tr))))))))))) (a_ (a_ (a_ tr tr) (a_ (a_ tr tr) (a_ (a_ tr tr) (a_ (a_ (a_ tr (lt_ 0 1 rfl)) tr) (a_ (a_ tr tr) (a_ (a_ (a_ (Eq.refl 6) gL1_1) tr) (a_ (a_ tr tr) (a_ (a_ (lt_ 0 1 rfl) tr) (a_ (a_ tr tr) (a_ (a_ (a_ (Eq.refl 21) gL1_3) tr) (a_ (a_ tr tr) (a_ (a_ (le_ 8 21 rfl) tr) (a_ (a_ (a_ tr (le_ 8 8 rfl)) tr) (a_ (a_ tr (a_ (LV.Le.trans (leB ((k_arr8 .u8) ((s.f_L.getD i.toNat default).f_Writes.getD j.toNat default).f_Key x_k)) (leB cL1_4)) tr)) tr)))))))))))))) (a_ (a_ (a_ tr tr) (a_ (a_ tr tr) (a_ (a_ tr tr) tr))) tr))) (ih _ r h) (by kernel_rfl) ⟨rfl, rfl, rfl, trivial⟩
    · skip
      exact run_to mixed hμ (L := [1, 2]) (n := 19) (s := [.go, .reg [(10, { v := some (.bool false) })], .reg []])
        (a_ (a_ (a_ tr tr) (a_ (a_ tr tr) (a_ (a_ tr tr) (a_ (a_ tr tr) (a_ (a_ (a_ tr (lt_ 0 1 rfl)) tr) (a_ (a_ tr tr) (a_ (a_ (a_ (Eq.refl 6) gL1_1) tr) (a_ (a_ tr tr) (a_ (a_ (lt_ 0 1 rfl) tr) (a_ (a_ tr tr) (a_ (a_ tr (a_ (leB cL1_2) tr)) tr))))))))))) (a_ (a_ (a_ tr tr) (a_ (a_ tr tr) (a_ (a_ tr tr) tr))) tr)) (hk0 _ r h) (by kernel_rfl) ⟨rfl, rfl, rfl, trivial⟩

theorem parrelref14_Stage_Owner_l0_ok {w0 : World} {W : Nat → Prop} {μ0 : Emb} (hμ : ∀ c p, μ0 c = some p → c < 1) (s : T_parrelref14_Stage) (x_k : A8 (Int))  : ∀ (fuel : Nat) (i : Int) (r : (T_api_Tx) × (Bool)), parrelref14_Stage_Owner_l0 s x_k  fuel i = some r → kont Tryd.prog w0 W μ0 (FnPost Tryd.prog Tryd.f22 1 1 (parrelref14_Stage_Owner_v r) (parrelref14_Stage_Owner_up s x_k r)) (kAt (bodyOf Tryd.f22) 0) none (parrelref14_Stage_Owner_T0 s x_k i) (parrelref14_Stage_Owner_H0 s x_k i) := by
  intro fuel
  induction fuel with
  | zero => intro i r h; rw [parrelref14_Stage_Owner_l0] at h; cases h
  | succ fuel ih =>
    intro i r h
    rw [parrelref14_Stage_Owner_l0] at h
    rcases itb_some h with ⟨cL0_1, h⟩ | ⟨cL0_1, h⟩
    · skip
      exact run_to mixed hμ (L := [1, 2]) (n := 23) (s := [.go, .reg [(6, { v := some (.bool true) })], .reg []])
        (a_ (a_ (a_ tr tr) (a_ (a_ tr tr) (a_ (a_ tr tr) (a_ (a_ tr tr) (a_ (a_ (a_ tr (lt_ 0 1 rfl)) tr) (a_ (a_ tr tr) (a_ (a_ tr (a_ (leB cL0_1) tr)) tr))))))) (a_ (a_ (a_ tr tr) tr) tr)) (parrelref14_Stage_Owner_l1_ok hμ s x_k i (parrelref14_Stage_Owner_l0 s x_k  fuel) (fun i r h => ih i r h) big _ r h) (by kernel_rfl) ⟨rfl, rfl, rfl, trivial⟩
    · skip
      obtain rfl := Option.some.inj h
      exact run_ret mixed (L := []) (n := 19) (s := [.go, .reg [(6, { v := some (.bool false) })], .reg []])
        (a_ (a_ (a_ (a_ tr tr) (a_ (a_ tr tr) (a_ (a_ tr tr) (a_ (a_ tr tr) (a_ (a_ (a_ tr (lt_ 0 1 rfl)) tr) (a_ (a_ tr tr) (a_ (a_ tr (a_ (leB cL0_1) tr)) tr))))))) (a_ (a_ (a_ (Eq.refl true) tr) (a_ (a_ (a_ (Eq.refl 3) (a_ (le_ 3 3 rfl) (Eq.refl 0))) tr) (a_ (a_ tr tr) tr))) tr)) (a_ (a_ tr (le_ 3 3 rfl)) tr)) (by kernel_rfl) rfl

theorem parrelref14_Stage_Owner_ok (s : T_parrelref14_Stage) (x_k : A8 (Int)) (r : (T_api_Tx) × (Bool)) (h : parrelref14_Stage_Owner s x_k = some r) : ∀ σ, Inj 1 σ → FnTri Tryd.prog 22 (renL σ [.ptr 0 0 0, .agg [.int .u8 x_k.a0, .int .u8 x_k.a1, .int .u8 x_k.a2, .int .u8 x_k.a3, .int .u8 x_k.a4, .int .u8 x_k.a5, .int .u8 x_k.a6, .int .u8 x_k.a7]]) (preOf σ 0 (parrelref14_Stage_Owner_objs s x_k)) ((parrelref14_Stage_Owner_v r).ren σ) (upOf σ (parrelref14_Stage_Owner_up s x_k r)) := by
  refine fn_of Tryd.func22 (by kernel_rfl) (by kernel_rfl) (by kernel_rfl) ⟨rfl, trivial⟩ (by kernel_rfl) ⟨rfl, trivial⟩ (by kernel_rfl) ?_
  intro w0 W μ0 hμ
  unfold parrelref14_Stage_Owner at h
  exact run_to mixed hμ (L := [1, 2]) (n := 18) (s := [.reg [], .reg []])
    (a_ (a_ (a_ tr tr) (a_ (a_ tr tr) (a_ (a_ tr tr) tr))) (a_ (a_ (a_ tr tr) tr) tr)) (parrelref14_Stage_Owner_l0_ok hμ s x_k  big _ r h) (by kernel_rfl) ⟨rfl, rfl, rfl, trivial⟩

/-- parrel/parrelref05.numbers -/

def parrelref05_numbers_v (r : (List (Int))) : LV := .ds 1 (r).length (rowF (cInt .u32) default r)

def parrelref05_numbers (t : T_api_Tx) : Option ((List (Int))) :=
  some [(IntKind.wrap .u32 t.f_Node), t.f_Boot, t.f_Num]

theorem parrelref05_numbers_ok (t : T_api_Tx) (r : (List (Int))) (h : parrelref05_numbers t = some r) : ∀ σ, Inj 0 σ → FnTri Tryd.prog 50 (renL σ [v_T_api_Tx t]) (preOf σ 0 []) ((parrelref05_numbers_v r).ren σ) (upOf σ []) := by
  refine fn_of Tryd.func50 (by kernel_rfl) (by kernel_rfl) (by kernel_rfl) trivial (by kernel_rfl) trivial (by kernel_rfl) ?_
  intro w0 W μ0 hμ
  unfold parrelref05_numbers at h
  obtain rfl := Option.some.inj h
  exact run_ret mixed (L := []) (n := 16) (s := [.reg [(1, { v := some (.ds 1 (([] : List (Int))).length (rowF (cInt .u32) default ([] : List (Int)))) })], .reg [(7, { os := [(1, .gr 1 ([(IntKind.wrap .u32 t.f_Node), t.f_Boot, t.f_Num]).length (rowF (cInt .u32) default [(IntKind.wrap .u32 t.f_Node), t.f_Boot, t.f_Num]))], v := some (.gs 1 ([(IntKind.wrap .u32 t.f_Node), t.f_Boot, t.f_Num]).length) })], .frz 1])
    (a_ (a_ (a_ (a_ tr tr) (a_ (a_ tr (a_ (le_nil_ds 1 (rowF (cInt .u32) default [])) tr)) tr)) (a_ (a_ (a_ tr tr) (a_ (a_ (a_ tr (lt_ 0 3 rfl)) tr) (a_ (a_ tr tr) (a_ (a_ tr tr) (a_ (a_ (a_ tr (lt_ 1 3 rfl)) tr) (a_ (a_ tr tr) (a_ (a_ (a_ tr (lt_ 2 3 rfl)) tr) (a_ (a_ (a_ (Eq.refl true) (a_ (Eq.refl 1) (a_ (lt_ 0 1 rfl) (le_ 3 16777216 rfl)))) (a_ (le_sl_gs 1 3 (some 3) rfl) (a_ (sub_lit (cInt .u32) default 1 (fun _ => rfl) [(IntKind.wrap .u32 t.f_Node), t.f_Boot, t.f_Num]) tr))) (a_ (a_ tr tr) tr))))))))) (a_ (a_ (fz_row (enc := (cInt .u32)) (d := default) (fun _ => rfl) [(IntKind.wrap .u32 t.f_Node), t.f_Boot, t.f_Num]) (a_ (Nat.le_refl ([(IntKind.wrap .u32 t.f_Node), t.f_Boot, t.f_Num]).length) (a_ (Nat.le_refl ([(IntKind.wrap .u32 t.f_Node), t.f_Boot, t.f_Num]).length) tr))) tr))) tr) (by kernel_rfl) rfl

theorem parrelref05_numbers_tri (t : T_api_Tx) (r : (List (Int))) (h : parrelref05_numbers t = some r) : FnTri Tryd.prog 50 [v_T_api_Tx t] [] (parrelref05_numbers_v r) [] := FnTri.none (parrelref05_numbers_ok t r h) rfl rfl

/-- parrel/parrelref05.Txs -/

def parrelref05_Txs_v (r : (Int)) : LV := .int .i64 r

def parrelref05_Txs (a : T_api_Tx) (b : T_api_Tx) : Option ((Int)) :=
  (parrelref05_numbers a).bind fun y2 =>
  (parrelref05_numbers b).bind fun y4 =>
  (parrelref05_first y2 y4).bind fun y6 =>
  some y6

theorem parrelref05_Txs_ok (a : T_api_Tx) (b : T_api_Tx) (r : (Int)) (h : parrelref05_Txs a b = some r) : ∀ σ, Inj 0 σ → FnTri Tryd.prog 35 (renL σ [v_T_api_Tx a, v_T_api_Tx b]) (preOf σ 0 []) ((parrelref05_Txs_v r).ren σ) (upOf σ []) := by
  refine fn_of Tryd.func35 (by kernel_rfl) (by kernel_rfl) (by kernel_rfl) trivial (by kernel_rfl) trivial (by kernel_rfl) ?_
  intro w0 W μ0 hμ
  unfold parrelref05_Txs at h
  obtain ⟨y2, e1, h⟩ := bind_some h
  obtain ⟨y4, e3, h⟩ := bind_some h
  obtain ⟨y6, e5, h⟩ := bind_some h
  obtain rfl := Option.some.inj h
  exact run_ret mixed (L := []) (n := 15) (s := [.reg [], .reg [(1, { call := some (parrelref05_numbers_v y2, [], []) }), (3, { call := some (parrelref05_numbers_v y4, [], []) }), (4, { call := some (parrelref05_first_v y6, [], []) })]])
    (a_ (a_ (a_ (a_ tr tr) (a_ (a_ tr tr) (a_ (a_ tr tr) tr))) (a_ (a_ (a_ (a_ tr (le_ 3 3 rfl)) tr) (a_ (a_ (a_ (parrelref05_numbers_tri a y2 e1) tr) tr) (a_ (a_ (a_ tr (le_ 3 3 rfl)) tr) (a_ (a_ (a_ (parrelref05_numbers_tri b y4 e3) tr) tr) (a_ (a_ (a_ (parrelref05_first_tri y2 y4 y6 e5) tr) tr) (a_ (a_ tr tr) tr)))))) tr)) tr) (by kernel_rfl) rfl

theorem parrelref05_Txs_tri (a : T_api_Tx) (b : T_api_Tx) (r : (Int)) (h : parrelref05_Txs a b = some r) : FnTri Tryd.prog 35 [v_T_api_Tx a, v_T_api_Tx b] [] (parrelref05_Txs_v r) [] := FnTri.none (parrelref05_Txs_ok a b r h) rfl rfl

/-- (*parrel/parrelref14.Stage).Put -/

def parrelref14_Stage_Put_v (r : (Int) × (List (T_parrelref14_One))) : LV := .int .i64 r.1

def parrelref14_Stage_Put_up (s : T_parrelref14_Stage) (t : T_api_Tx) (g : T_api_Reg) (l : List (T_api_Write)) (r : (Int) × (List (T_parrelref14_One))) : Upd := [(0, some (.var (c_T_parrelref14_Stage (T_parrelref14_Stage.mk r.2))))]

def parrelref14_Stage_Put_objs (s : T_parrelref14_Stage) (t : T_api_Tx) (g : T_api_Reg) (l : List (T_api_Write)) : List LO := [.var (c_T_parrelref14_Stage s)]

def parrelref14_Stage_Put_T1 (s : T_parrelref14_Stage) (t : T_api_Tx) (g : T_api_Reg) (l : List (T_api_Write)) (x_k : Int) : List LV := [.ptr 0 0 0, .any, .any, .ds 21 (l).length (rowF c_T_api_Write default l), .any, .ptr 1 0 0, .ptr 2 0 0, .any, .any, .any, .any, .any, .any, .int .i64 x_k, .any, .any, .any, .any, .any, .any, .any, .any, .any, .any, .any, .any, .any, .any, .any, .any, .any, .any, .any, .any, .any, .any, .any, .any, .any, .any, .any, .any, .any, .any, .any, .any, .any, .any, .any, .any, .any, .any, .any, .any, .any, .any, .any, .any, .any, .any, .any, .any, .any, .any, .any, .any, .any, .any, .any, .any, .any, .any, .any, .any, .any, .any, .any, .any, .any, .any, .any, .any, .any, .any, .any, .any, .any, .any, .any, .any, .any, .any, .any, .any, .any, .any, .any, .any, .any, .any, .any, .any, .any, .any, .any, .any, .any, .any, .any, .any, .any, .any, .any, .any, .any, .any, .any, .any, .any, .any, .any, .any, .any, .any, .any, .any, .any, .any]

def parrelref14_Stage_Put_H1 (s : T_parrelref14_Stage) (t : T_api_Tx) (g : T_api_Reg) (l : List (T_api_Write)) (x_k : Int) : Heap := [some (.var (c_T_parrelref14_Stage s)), some (.var (c_T_api_Tx t)), some (.var (c_T_api_Reg g))]

def parrelref14_Stage_Put_T0 (s : T_parrelref14_Stage) (t : T_api_Tx) (g : T_api_Reg) (l : List (T_api_Write)) (j : Int) : List LV := [.ptr 0 0 0, .any, .any, .ds 21 (l).length (rowF c_T_api_Write default l), .any, .ptr 1 0 0, .ptr 2 0 0, .any, .any, .any, .int .i64 j, .any, .any, .any, .any, .any, .any, .any, .any, .any, .any, .any, .any, .any, .any, .any, .any, .any, .any, .any, .any, .any, .any, .any, .any, .any, .any, .any, .any, .any, .any, .any, .any, .any, .any, .any, .any, .any, .any, .any, .any, .any, .any, .any, .any, .any, .any, .any, .any, .any, .any, .any, .any, .any, .any, .any, .any, .any, .any, .any, .any, .any, .any, .any, .any, .any, .any, .any, .any, .any, .any, .any, .any, .any, .any, .any, .any, .any, .any, .any, .any, .any, .any, .any, .any, .any, .any, .any, .any, .any, .any, .any, .any, .any, .any, .any, .any, .any, .any, .any, .any, .any, .any, .any, .any, .any, .any, .any, .any, .any, .any, .any, .any, .any, .any, .any, .any, .any]

def parrelref14_Stage_Put_H0 (s : T_parrelref14_Stage) (t : T_api_Tx) (g : T_api_Reg) (l : List (T_api_Write)) (j : Int) : Heap := [some (.var (c_T_parrelref14_Stage s)), some (.var (c_T_api_Tx t)), some (.var (c_T_api_Reg g))]

def parrelref14_Stage_Put_l1 (s : T_parrelref14_Stage) (t : T_api_Tx) (g : T_api_Reg) (l : List (T_api_Write))  : Nat → (Int) → Option ((Int) × (List (T_parrelref14_One)))
  | 0, _ => none
  | fuel + 1, x_k =>
    if ((decide (x_k < ((s.f_L).length : Int))) : Bool) then
      if 0 ≤ x_k ∧ x_k < (((s.f_L).length : Nat) : Int) then
      (parrelref05_Txs (s.f_L.getD x_k.toNat default).f_Tx t).bind fun yL1_4 =>
      if ((decide (yL1_4 < 0)) : Bool) then
        parrelref14_Stage_Put_l1 s t g l  fuel (IntKind.wrap .i64 (x_k + 1))
      else
        if 0 ≤ (0 : Int) ∧ 0 ≤ x_k ∧ x_k ≤ (((s.f_L).length : Nat) : Int) then
        if (0 + ((s.f_L.take x_k.toNat)).length) * 48 ≤ 140737488351232 then
        if (0 + (l).length) * 48 ≤ 140737488351232 then
        if (((s.f_L.take x_k.toNat)).length + ([(T_parrelref14_One.mk t g l)]).length) * 48 ≤ 140737488351232 then
        if 0 ≤ x_k ∧ x_k ≤ (((s.f_L).length : Nat) : Int) ∧ (((s.f_L).length : Nat) : Int) ≤ (((s.f_L).length : Nat) : Int) then
        if ((((s.f_L.take x_k.toNat) ++ [(T_parrelref14_One.mk t g l)])).length + ((s.f_L.drop x_k.toNat)).length) * 48 ≤ 140737488351232 then
        some (0, (((s.f_L.take x_k.toNat) ++ [(T_parrelref14_One.mk t g l)]) ++ (s.f_L.drop x_k.toNat)))
        else none
        else none
        else none
        else none
        else none
        else none
      else none
    else
      if 0 ≤ (0 : Int) ∧ 0 ≤ x_k ∧ x_k ≤ (((s.f_L).length : Nat) : Int) then
      if (0 + ((s.f_L.take x_k.toNat)).length) * 48 ≤ 140737488351232 then
      if (0 + (l).length) * 48 ≤ 140737488351232 then
      if (((s.f_L.take x_k.toNat)).length + ([(T_parrelref14_One.mk t g l)]).length) * 48 ≤ 140737488351232 then
      if 0 ≤ x_k ∧ x_k ≤ (((s.f_L).length : Nat) : Int) ∧ (((s.f_L).length : Nat) : Int) ≤ (((s.f_L).length : Nat) : Int) then
      if ((((s.f_L.take x_k.toNat) ++ [(T_parrelref14_One.mk t g l)])).length + ((s.f_L.drop x_k.toNat)).length) * 48 ≤ 140737488351232 then
      some (0, (((s.f_L.take x_k.toNat) ++ [(T_parrelref14_One.mk t g l)]) ++ (s.f_L.drop x_k.toNat)))
      else none
      else none
      else none
      else none
      else none
      else none

def parrelref14_Stage_Put_l0 (s : T_parrelref14_Stage) (t : T_api_Tx) (g : T_api_Reg) (l : List (T_api_Write))  : Nat → (Int) → Option ((Int) × (List (T_parrelref14_One)))
  | 0, _ => none
  | fuel + 1, j =>
    if ((decide (j < ((l).length : Int))) : Bool) then
      if 0 ≤ j ∧ j < (((l).length : Nat) : Int) then
      (parrelref14_Stage_Owner s (l.getD j.toNat default).f_Key).bind fun yL0_4 =>
      if (yL0_4.2 : Bool) then
        some (11, s.f_L)
      else
        parrelref14_Stage_Put_l0 s t g l  fuel (IntKind.wrap .i64 (j + 1))
      else none
    else
      if ((decide (64 ≤ ((s.f_L).length : Int))) : Bool) then
        some (5, s.f_L)
      else
        parrelref14_Stage_Put_l1 s t g l  big 0

def parrelref14_Stage_Put (s : T_parrelref14_Stage) (t : T_api_Tx) (g : T_api_Reg) (l : List (T_api_Write)) : Option ((Int) × (List (T_parrelref14_One))) :=
  (parrelref05_TxMay t).bind fun y2 =>
  if ((!y2) : Bool) then
    some (1, s.f_L)
  else
    (parrelref05_RegMay g).bind fun y5 =>
    if ((!y5) : Bool) then
      some (1, s.f_L)
    else
      if ((((l).length : Int) == 0) : Bool) then
        some (1, s.f_L)
      else
        (parrelref10_WritesMay l).bind fun y9 =>
        if ((!y9) : Bool) then
          some (1, s.f_L)
        else
          (parrelref14_Stage_find s t).bind fun y12 =>
          if ((decide (0 ≤ y12)) : Bool) then
            if 0 ≤ y12 ∧ y12 < (((s.f_L).length : Nat) : Int) then
            if ((decide ((s.f_L.getD y12.toNat default).f_Reg = g)) : Bool) then
              (parrelref10_SameWrites (s.f_L.getD y12.toNat default).f_Writes l).bind fun y17 =>
              if (y17 : Bool) then
                some (0, s.f_L)
              else
                some (7, s.f_L)
            else
              some (7, s.f_L)
            else none
          else
            parrelref14_Stage_Put_l0 s t g l  big 0

theorem parrelref14_Stage_Put_l1_ok {w0 : World} {W : Nat → Prop} {μ0 : Emb} (hμ : ∀ c p, μ0 c = some p → c < 1) (s : T_parrelref14_Stage) (t : T_api_Tx) (g : T_api_Reg) (l : List (T_api_Write))  : ∀ (fuel : Nat) (x_k : Int) (r : (Int) × (List (T_parrelref14_One))), parrelref14_Stage_Put_l1 s t g l  fuel x_k = some r → kont Tryd.prog w0 W μ0 (FnPost Tryd.prog Tryd.f17 1 1 (parrelref14_Stage_Put_v r) (parrelref14_Stage_Put_up s t g l r)) (kAt (bodyOf Tryd.f17) 1) none (parrelref14_Stage_Put_T1 s t g l x_k) (parrelref14_Stage_Put_H1 s t g l x_k) := by
  intro fuel
  induction fuel with
  | zero => intro x_k r h; rw [parrelref14_Stage_Put_l1] at h; cases h
  | succ fuel ih =>
    intro x_k r h
    rw [parrelref14_Stage_Put_l1] at h
    rcases itb_some h with ⟨cL1_1, h⟩ | ⟨cL1_1, h⟩
    · skip
      obtain ⟨gL1_2, h⟩ := guard_some h
      obtain ⟨yL1_4, eL1_3, h⟩ := bind_some h
      rcases itb_some h with ⟨cL1_5, h⟩ | ⟨cL1_5, h⟩
      · skip
        exact run_to mixed hμ (L := [1, 2]) (n := 20) (s := [.go, .reg [(7, { v := some (.bool true) }), (17, { call := some (parrelref05_Txs_v yL1_4, [], []) }), (19, { v := some (.bool true) })], .reg []])
          (a_ (a_ (a_ tr tr) (a_ (a_ tr tr) (a_ (a_ tr tr) (a_ (a_ tr tr) (a_ (a_ (a_ tr (lt_ 0 1 rfl)) tr) (a_ (a_ tr tr) (a_ (a_ tr tr) (a_ (a_ tr (a_ (leB cL1_1) tr)) (a_ (a_ tr tr) (a_ (a_ tr tr) (a_ (a_ tr tr) (a_ (a_ (a_ tr (lt_ 0 1 rfl)) tr) (a_ (a_ tr tr) (a_ (a_ (a_ (Eq.refl 6) gL1_2) tr) (a_ (a_ tr tr) (a_ (a_ (le_ 3 6 rfl) tr) (a_ (a_ (a_ tr (le_ 3 3 rfl)) tr) (a_ (a_ (a_ (parrelref05_Txs_tri (s.f_L.getD x_k.toNat default).f_Tx t yL1_4 eL1_3) tr) tr) (a_ (a_ tr tr) (a_ (a_ tr (a_ (leB cL1_5) tr)) tr)))))))))))))))))))) (a_ (a_ (a_ tr tr) (a_ (a_ tr tr) (a_ (a_ tr tr) tr))) tr)) (ih _ r h) (by kernel_rfl) ⟨rfl, rfl, rfl, trivial⟩
      · skip
        obtain ⟨gL1_6, h⟩ := guard_some h
        obtain ⟨gL1_7, h⟩ := guard_some h
        obtain ⟨gL1_8, h⟩ := guard_some h
        obtain ⟨gL1_9, h⟩ := guard_some h
        obtain ⟨gL1_10, h⟩ := guard_some h
        obtain ⟨gL1_11, h⟩ := guard_some h
        obtain rfl := Option.some.inj h
        exact run_ret mixed (L := []) (n := 23) (s := [.go, .reg [(7, { v := some (.bool true) }), (17, { call := some (parrelref05_Txs_v yL1_4, [], []) }), (19, { v := some (.bool false) })], .reg [(6, { v := some (.ds 6 ((s.f_L.take x_k.toNat)).length (rowF c_T_parrelref14_One default (s.f_L.take x_k.toNat))) }), (7, { app := 3 }), (11, { app := 3, fz := true }), (13, { os := [(5, .gr 6 ([(T_parrelref14_One.mk t g l)]).length (rowF c_T_parrelref14_One default [(T_parrelref14_One.mk t g l)]))], v := some (.gs 5 ([(T_parrelref14_One.mk t g l)]).length) }), (14, { app := 3, os := [(6, .gr 6 (((s.f_L.take x_k.toNat) ++ [(T_parrelref14_One.mk t g l)])).length (rowF c_T_parrelref14_One default ((s.f_L.take x_k.toNat) ++ [(T_parrelref14_One.mk t g l)])))], v := some (.gs 6 (((s.f_L.take x_k.toNat) ++ [(T_parrelref14_One.mk t g l)])).length) }), (20, { v := some (.ds 6 ((s.f_L.drop x_k.toNat)).length (rowF c_T_parrelref14_One default (s.f_L.drop x_k.toNat))) }), (21, { app := 3, os := [(7, .gr 6 ((((s.f_L.take x_k.toNat) ++ [(T_parrelref14_One.mk t g l)]) ++ (s.f_L.drop x_k.toNat))).length (rowF c_T_parrelref14_One default (((s.f_L.take x_k.toNat) ++ [(T_parrelref14_One.mk t g l)]) ++ (s.f_L.drop x_k.toNat))))], v := some (.gs 7 ((((s.f_L.take x_k.toNat) ++ [(T_parrelref14_One.mk t g l)]) ++ (s.f_L.drop x_k.toNat))).length) })], .reg [], .frz 7])
          (a_ (a_ (a_ (a_ tr tr) (a_ (a_ tr tr) (a_ (a_ tr tr) (a_ (a_ tr tr) (a_ (a_ (a_ tr (lt_ 0 1 rfl)) tr) (a_ (a_ tr tr) (a_ (a_ tr tr) (a_ (a_ tr (a_ (leB cL1_1) tr)) (a_ (a_ tr tr) (a_ (a_ tr tr) (a_ (a_ tr tr) (a_ (a_ (a_ tr (lt_ 0 1 rfl)) tr) (a_ (a_ tr tr) (a_ (a_ (a_ (Eq.refl 6) gL1_2) tr) (a_ (a_ tr tr) (a_ (a_ (le_ 3 6 rfl) tr) (a_ (a_ (a_ tr (le_ 3 3 rfl)) tr) (a_ (a_ (a_ (parrelref05_Txs_tri (s.f_L.getD x_k.toNat default).f_Tx t yL1_4 eL1_3) tr) tr) (a_ (a_ tr tr) (a_ (a_ tr (a_ (leB cL1_5) tr)) tr)))))))))))))))))))) (a_ (a_ (a_ tr tr) (a_ (a_ tr tr) (a_ (a_ tr tr) (a_ (a_ tr tr) (a_ (a_ (a_ tr (lt_ 0 1 rfl)) tr) (a_ (a_ tr tr) (a_ (a_ (a_ (Eq.refl 6) gL1_6) (a_ (le_take c_T_parrelref14_One default 6 s.f_L x_k.toNat (toN_le gL1_6.2.2)) tr)) (a_ (a_ (a_ (Eq.refl 6) (a_ (lt_ 0 6 rfl) (a_ (lt_ 0 48 rfl) (a_ gL1_7 (a_ (Eq.refl 6) (Eq.refl true)))))) tr) (a_ (a_ (a_ tr (le_ 3 3 rfl)) tr) (a_ (a_ (a_ tr (le_ 2 2 rfl)) tr) (a_ (a_ tr tr) (a_ (a_ (a_ (a_ (Eq.refl 21) (a_ (lt_ 0 21 rfl) (a_ (lt_ 0 48 rfl) (a_ gL1_8 (a_ (Eq.refl 21) (Eq.refl true)))))) tr) (a_ (Nat.le_refl (l).length) (fz_row (enc := c_T_api_Write) (d := default) (fun _ => rfl) l))) (a_ (a_ (Eq.refl true) tr) (a_ (a_ (a_ (Eq.refl true) (a_ (Eq.refl 6) (a_ (lt_ 0 6 rfl) (le_ 6 16777216 rfl)))) (a_ (le_sl_gs 5 1 (some 1) rfl) (a_ (sub_lit c_T_parrelref14_One default 6 (fun _ => rfl) [(T_parrelref14_One.mk t g l)]) tr))) (a_ (a_ (a_ (a_ (Eq.refl 6) (Nat.le_refl ([(T_parrelref14_One.mk t g l)]).length)) (a_ (a_ (lt_ 0 6 rfl) (a_ (lt_ 0 48 rfl) (a_ gL1_9 (a_ (Eq.refl 6) (Eq.refl true))))) (a_ (Eq.refl 6) (Nat.le_refl ((s.f_L.take x_k.toNat)).length)))) (a_ (le_gs_app 6 (s.f_L.take x_k.toNat) [(T_parrelref14_One.mk t g l)]) (a_ (sub_app c_T_parrelref14_One default 6 (s.f_L.take x_k.toNat) [(T_parrelref14_One.mk t g l)]) tr))) (a_ (a_ tr tr) (a_ (a_ tr tr) (a_ (a_ tr tr) (a_ (a_ (a_ tr (lt_ 0 1 rfl)) tr) (a_ (a_ tr tr) (a_ (a_ (a_ (Eq.refl 6) gL1_10) (a_ (le_drop c_T_parrelref14_One default 6 s.f_L x_k.toNat (toN_le gL1_10.2.1)) tr)) (a_ (a_ (a_ (Eq.refl 6) (a_ (a_ (lt_ 0 6 rfl) (a_ (lt_ 0 48 rfl) (a_ gL1_11 (a_ (Eq.refl 6) (Eq.refl true))))) (a_ (Eq.refl 6) (Nat.le_refl (((s.f_L.take x_k.toNat) ++ [(T_parrelref14_One.mk t g l)])).length)))) (a_ (le_gs_app 7 ((s.f_L.take x_k.toNat) ++ [(T_parrelref14_One.mk t g l)]) (s.f_L.drop x_k.toNat)) (a_ (sub_app c_T_parrelref14_One default 6 ((s.f_L.take x_k.toNat) ++ [(T_parrelref14_One.mk t g l)]) (s.f_L.drop x_k.toNat)) tr))) (a_ (a_ tr tr) (a_ (a_ tr tr) (a_ (a_ (a_ (Eq.refl 1) (a_ (le_ 1 1 rfl) (Eq.refl 0))) tr) tr))))))))))))))))))))))))) (a_ (a_ (a_ tr tr) tr) (a_ (a_ (fz_row (enc := c_T_parrelref14_One) (d := default) (fun _ => rfl) (((s.f_L.take x_k.toNat) ++ [(T_parrelref14_One.mk t g l)]) ++ (s.f_L.drop x_k.toNat))) (a_ (Nat.le_refl ((((s.f_L.take x_k.toNat) ++ [(T_parrelref14_One.mk t g l)]) ++ (s.f_L.drop x_k.toNat))).length) (a_ (Nat.le_refl ((((s.f_L.take x_k.toNat) ++ [(T_parrelref14_One.mk t g l)]) ++ (s.f_L.drop x_k.toNat))).length) tr))) tr)))) tr) (by kernel_rfl) rfl
    · skip
      obtain ⟨gL1_2, h⟩ := guard_some h
      obtain ⟨gL1_3, h⟩ := guard_some h
      obtain ⟨gL1_4, h⟩ := guard_some h
      obtain ⟨gL1_5, h⟩ := guard_some h
      obtain ⟨gL1_6, h⟩ := guard_some h
      obtain ⟨gL1_7, h⟩ := guard_some h
      obtain rfl := Option.some.inj h
      exact run_ret mixed (L := []) (n := 23) (s := [.go, .reg [(7, { v := some (.bool false) })], .reg [(6, { v := some (.ds 6 ((s.f_L.take x_k.toNat)).length (rowF c_T_parrelref14_One default (s.f_L.take x_k.toNat))) }), (7, { app := 3 }), (11, { app := 3, fz := true }), (13, { os := [(5, .gr 6 ([(T_parrelref14_One.mk t g l)]).length (rowF c_T_parrelref14_One default [(T_parrelref14_One.mk t g l)]))], v := some (.gs 5 ([(T_parrelref14_One.mk t g l)]).length) }), (14, { app := 3, os := [(6, .gr 6 (((s.f_L.take x_k.toNat) ++ [(T_parrelref14_One.mk t g l)])).length (rowF c_T_parrelref14_One default ((s.f_L.take x_k.toNat) ++ [(T_parrelref14_One.mk t g l)])))], v := some (.gs 6 (((s.f_L.take x_k.toNat) ++ [(T_parrelref14_One.mk t g l)])).length) }), (20, { v := some (.ds 6 ((s.f_L.drop x_k.toNat)).length (rowF c_T_parrelref14_One default (s.f_L.drop x_k.toNat))) }), (21, { app := 3, os := [(7, .gr 6 ((((s.f_L.take x_k.toNat) ++ [(T_parrelref14_One.mk t g l)]) ++ (s.f_L.drop x_k.toNat))).length (rowF c_T_parrelref14_One default (((s.f_L.take x_k.toNat) ++ [(T_parrelref14_One.mk t g l)]) ++ (s.f_L.drop x_k.toNat))))], v := some (.gs 7 ((((s.f_L.take x_k.toNat) ++ [(T_parrelref14_One.mk t g l)]) ++ (s.f_L.drop x_k.toNat))).length) })], .reg [], .frz 7])
        (a_ (a_ (a_ (a_ tr tr) (a_ (a_ tr tr) (a_ (a_ tr tr) (a_ (a_ tr tr) (a_ (a_ (a_ tr (lt_ 0 1 rfl)) tr) (a_ (a_ tr tr) (a_ (a_ tr tr) (a_ (a_ tr (a_ (leB cL1_1) tr)) (a_ tr (a_ tr (a_ tr (a_ tr (a_ tr (a_ tr (a_ tr (a_ tr (a_ tr (a_ tr (a_ tr (a_ (a_ tr tr) tr)))))))))))))))))))) (a_ (a_ (a_ tr tr) (a_ (a_ tr tr) (a_ (a_ tr tr) (a_ (a_ tr tr) (a_ (a_ (a_ tr (lt_ 0 1 rfl)) tr) (a_ (a_ tr tr) (a_ (a_ (a_ (Eq.refl 6) gL1_2) (a_ (le_take c_T_parrelref14_One default 6 s.f_L x_k.toNat (toN_le gL1_2.2.2)) tr)) (a_ (a_ (a_ (Eq.refl 6) (a_ (lt_ 0 6 rfl) (a_ (lt_ 0 48 rfl) (a_ gL1_3 (a_ (Eq.refl 6) (Eq.refl true)))))) tr) (a_ (a_ (a_ tr (le_ 3 3 rfl)) tr) (a_ (a_ (a_ tr (le_ 2 2 rfl)) tr) (a_ (a_ tr tr) (a_ (a_ (a_ (a_ (Eq.refl 21) (a_ (lt_ 0 21 rfl) (a_ (lt_ 0 48 rfl) (a_ gL1_4 (a_ (Eq.refl 21) (Eq.refl true)))))) tr) (a_ (Nat.le_refl (l).length) (fz_row (enc := c_T_api_Write) (d := default) (fun _ => rfl) l))) (a_ (a_ (Eq.refl true) tr) (a_ (a_ (a_ (Eq.refl true) (a_ (Eq.refl 6) (a_ (lt_ 0 6 rfl) (le_ 6 16777216 rfl)))) (a_ (le_sl_gs 5 1 (some 1) rfl) (a_ (sub_lit c_T_parrelref14_One default 6 (fun _ => rfl) [(T_parrelref14_One.mk t g l)]) tr))) (a_ (a_ (a_ (a_ (Eq.refl 6) (Nat.le_refl ([(T_parrelref14_One.mk t g l)]).length)) (a_ (a_ (lt_ 0 6 rfl) (a_ (lt_ 0 48 rfl) (a_ gL1_5 (a_ (Eq.refl 6) (Eq.refl true))))) (a_ (Eq.refl 6) (Nat.le_refl ((s.f_L.take x_k.toNat)).length)))) (a_ (le_gs_app 6 (s.f_L.take x_k.toNat) [(T_parrelref14_One.mk t g l)]) (a_ (sub_app c_T_parrelref14_One default 6 (s.f_L.take x_k.toNat) [(T_parrelref14_One.mk t g l)]) tr))) (a_ (a_ tr tr) (a_ (a_ tr tr) (a_ (a_ tr tr) (a_ (a_ (a_ tr (lt_ 0 1 rfl)) tr) (a_ (a_ tr tr) (a_ (a_ (a_ (Eq.refl 6) gL1_6) (a_ (le_drop c_T_parrelref14_One default 6 s.f_L x_k.toNat (toN_le gL1_6.2.1)) tr)) (a_ (a_ (a_ (Eq.refl 6) (a_ (a_ (lt_ 0 6 rfl) (a_ (lt_ 0 48 rfl) (a_ gL1_7 (a_ (Eq.refl 6) (Eq.refl true))))) (a_ (Eq.refl 6) (Nat.le_refl (((s.f_L.take x_k.toNat) ++ [(T_parrelref14_One.mk t g l)])).length)))) (a_ (le_gs_app 7 ((s.f_L.take x_k.toNat) ++ [(T_parrelref14_One.mk t g l)]) (s.f_L.drop x_k.toNat)) (a_ (sub_app c_T_parrelref14_One default 6 ((s.f_L.take x_k.toNat) ++ [(T_parrelref14_One.mk t g l)]) (s.f_L.drop x_k.toNat)) tr))) (a_ (a_ tr tr) (a_ (a_ tr tr) (a_ (a_ (a_ (Eq.refl 1) (a_ (le_ 1 1 rfl) (Eq.refl 0))) tr) tr))))))))))))))))))))))))) (a_ (a_ (a_ tr tr) tr) (a_ (a_ (fz_row (enc := c_T_parrelref14_One) (d := default) (fun _ => rfl) (((s.f_L.take x_k.toNat) ++ [(T_parrelref14_One.mk t g l)]) ++ (s.f_L.drop x_k.toNat))) (a_ (Nat.le_refl ((((s.f_L.take x_k.toNat) ++ [(T_parrelref14_One.mk t g l)]) ++ (s.f_L.drop x_k.toNat))).length) (a_ (Nat.le_refl ((((s.f_L.take x_k.toNat) ++ [(T_parrelref14_One.mk t g l)]) ++ (s.f_L.drop x_k.toNat))).length) tr))) tr)))) tr) (by kernel_rfl) rfl

theorem parrelref14_Stage_Put_l0_ok {w0 : World} {W : Nat → Prop} {μ0 : Emb} (hμ : ∀ c p, μ0 c = some p → c < 1) (s : T_parrelref14_Stage) (t : T_api_Tx) (g : T_api_Reg) (l : List (T_api_Write))  : ∀ (fuel : Nat) (j : Int) (r : (Int) × (List (T_parrelref14_One))), parrelref14_Stage_Put_l0 s t g l  fuel j = some r → kont Tryd.prog w0 W μ0 (FnPost Tryd.prog Tryd.f17 1 1 (parrelref14_Stage_Put_v r) (parrelref14_Stage_Put_up s t g l r)) (kAt (bodyOf Tryd.f17) 0) none (parrelref14_Stage_Put_T0 s t g l j) (parrelref14_Stage_Put_H0 s t g l j) := by
  intro fuel
  induction fuel with
  | zero => intro j r h; rw [parrelref14_Stage_Put_l0] at h; cases h
  | succ fuel ih =>
    intro j r h
    rw [parrelref14_Stage_Put_l0] at h
    rcases itb_some h with ⟨cL0_1, h⟩ | ⟨cL0_1, h⟩
    · skip
      obtain ⟨gL0_2, h⟩ := guard_some h
      obtain ⟨yL0_4, eL0_3, h⟩ := bind_some h
      rcases itb_some h with ⟨cL0_5, h⟩ | ⟨cL0_5, h⟩
      · skip
        obtain rfl := Option.some.inj h
        exact run_ret mixed (L := []) (n := 28) (s := [.go, .reg [(3, { v := some (.bool true) })], .reg [(6, { call := some ((parrelref14_Stage_Owner_v yL0_4).ren (sel [0]), preOf (sel [0]) 0 (parrelref14_Stage_Owner_objs s (l.getD j.toNat default).f_Key), upOf (sel [0]) (parrelref14_Stage_Owner_up s (l.getD j.toNat default).f_Key yL0_4)) })], .reg [(0, { v := some (.bool true) })], .reg []])
          (a_ (a_ (a_ (a_ tr tr) (a_ (a_ tr tr) (a_ (a_ tr tr) (a_ (a_ tr (a_ (leB cL0_1) tr)) tr)))) (a_ (a_ (a_ tr tr) (a_ (a_ tr tr) (a_ (a_ tr tr) (a_ (a_ (a_ (Eq.refl 21) gL0_2) tr) (a_ (a_ tr tr) (a_ (a_ (le_ 8 21 rfl) tr) (a_ (a_ (a_ (parrelref14_Stage_Owner_ok s (l.getD j.toNat default).f_Key yL0_4 eL0_3 (sel [0]) (sel_inj rfl rfl)) (a_ (LO.Le.refl (.var (c_T_parrelref14_Stage s))) tr)) tr) (a_ (a_ tr tr) (a_ (a_ tr tr) (a_ (a_ tr tr) (a_ (a_ tr tr) (a_ (a_ (a_ (Eq.refl 3) (a_ (le_ 3 3 rfl) (Eq.refl 0))) tr) (a_ (a_ tr tr) tr))))))))))))) (a_ (a_ (a_ tr (a_ (leB cL0_5) tr)) tr) (a_ (a_ (a_ tr tr) tr) tr)))) tr) (by kernel_rfl) rfl
      · skip
        exact run_to mixed hμ (L := [1, 2]) (n := 29) (s := [.go, .reg [(3, { v := some (.bool true) })], .reg [(6, { call := some ((parrelref14_Stage_Owner_v yL0_4).ren (sel [0]), preOf (sel [0]) 0 (parrelref14_Stage_Owner_objs s (l.getD j.toNat default).f_Key), upOf (sel [0]) (parrelref14_Stage_Owner_up s (l.getD j.toNat default).f_Key yL0_4)) })], .reg [(0, { v := some (.bool false) })], .reg []])
          (a_ (a_ (a_ tr tr) (a_ (a_ tr tr) (a_ (a_ tr tr) (a_ (a_ tr (a_ (leB cL0_1) tr)) tr)))) (a_ (a_ (a_ tr tr) (a_ (a_ tr tr) (a_ (a_ tr tr) (a_ (a_ (a_ (Eq.refl 21) gL0_2) tr) (a_ (a_ tr tr) (a_ (a_ (le_ 8 21 rfl) tr) (a_ (a_ (a_ (parrelref14_Stage_Owner_ok s (l.getD j.toNat default).f_Key yL0_4 eL0_3 (sel [0]) (sel_inj rfl rfl)) (a_ (LO.Le.refl (.var (c_T_parrelref14_Stage s))) tr)) tr) (a_ (a_ tr tr) (a_ (a_ tr tr) (a_ (a_ tr tr) (a_ (a_ tr tr) (a_ (a_ (a_ (Eq.refl 3) (a_ (le_ 3 3 rfl) (Eq.refl 0))) tr) (a_ (a_ tr tr) tr))))))))))))) (a_ (a_ (a_ tr (a_ (leB cL0_5) tr)) tr) (a_ (a_ (a_ tr tr) (a_ (a_ tr tr) (a_ (a_ tr tr) tr))) tr)))) (ih _ r h) (by kernel_rfl) ⟨rfl, rfl, rfl, trivial⟩
    · skip
      rcases itb_some h with ⟨cL0_2, h⟩ | ⟨cL0_2, h⟩
      · skip
        obtain rfl := Option.some.inj h
        exact run_ret mixed (L := []) (n := 24) (s := [.go, .reg [(3, { v := some (.bool false) })], .reg [(5, { v := some (.bool true) })], .reg []])
          (a_ (a_ (a_ (a_ tr tr) (a_ (a_ tr tr) (a_ (a_ tr tr) (a_ (a_ tr (a_ (leB cL0_1) tr)) tr)))) (a_ (a_ (a_ tr tr) (a_ (a_ tr tr) (a_ (a_ tr tr) (a_ (a_ (a_ tr (lt_ 0 1 rfl)) tr) (a_ (a_ tr tr) (a_ (a_ tr (a_ (leB cL0_2) tr)) tr)))))) (a_ (a_ (a_ tr tr) tr) tr))) tr) (by kernel_rfl) rfl
      · skip
        exact run_to mixed hμ (L := [1, 2]) (n := 28) (s := [.go, .reg [(3, { v := some (.bool false) })], .reg [(5, { v := some (.bool false) })], .reg []])
          (a_ (a_ (a_ tr tr) (a_ (a_ tr tr) (a_ (a_ tr tr) (a_ (a_ tr (a_ (leB cL0_1) tr)) tr)))) (a_ (a_ (a_ tr tr) (a_ (a_ tr tr) (a_ (a_ tr tr) (a_ (a_ (a_ tr (lt_ 0 1 rfl)) tr) (a_ (a_ tr tr) (a_ (a_ tr (a_ (leB cL0_2) tr)) tr)))))) (a_ (a_ (a_ tr tr) tr) tr))) (parrelref14_Stage_Put_l1_ok hμ s t g l  big _ r h) (by kernel_rfl) ⟨rfl, rfl, rfl, trivial⟩

theorem parrelref14_Stage_Put_ok (s : T_parrelref14_Stage) (t : T_api_Tx) (g : T_api_Reg) (l : List (T_api_Write)) (r : (Int) × (List (T_parrelref14_One))) (h : parrelref14_Stage_Put s t g l = some r) : ∀ σ, Inj 1 σ → FnTri Tryd.prog 17 (renL σ [.ptr 0 0 0, v_T_api_Tx t, v_T_api_Reg g, .ds 21 (l).length (rowF c_T_api_Write default l)]) (preOf σ 0 (parrelref14_Stage_Put_objs s t g l)) ((parrelref14_Stage_Put_v r).ren σ) (upOf σ (parrelref14_Stage_Put_up s t g l r)) := by
  refine fn_of Tryd.func17 (by kernel_rfl) (by kernel_rfl) (by kernel_rfl) ⟨rfl, trivial⟩ (by kernel_rfl) ⟨rfl, trivial⟩ (by kernel_rfl) ?_
  intro w0 W μ0 hμ
  unfold parrelref14_Stage_Put at h
  obtain ⟨y2, e1, h⟩ := bind_some h
  rcases itb_some h with ⟨c3, h⟩ | ⟨c3, h⟩
  · skip
    obtain rfl := Option.some.inj h
    exact run_ret mixed (L := []) (n := 20) (s := [.reg [], .reg [(1, { call := some (parrelref05_TxMay_v y2, [], []) }), (3, { v := some (.bool true) })], .reg []])
      (a_ (a_ (a_ (a_ tr tr) (a_ (a_ tr tr) (a_ (a_ tr tr) tr))) (a_ (a_ (a_ (a_ tr (le_ 3 3 rfl)) tr) (a_ (a_ (a_ (parrelref05_TxMay_tri t y2 e1) tr) tr) (a_ (a_ tr tr) (a_ (a_ tr (a_ (leB c3) tr)) (a_ tr (a_ tr (a_ tr (a_ (a_ tr tr) (a_ (a_ tr tr) (a_ tr (a_ tr (a_ tr (a_ (a_ tr tr) (a_ (a_ tr tr) (a_ tr (a_ tr (a_ tr (a_ (a_ tr tr) tr)))))))))))))))))) (a_ (a_ (a_ tr tr) tr) tr))) tr) (by kernel_rfl) rfl
  · skip
    obtain ⟨y5, e4, h⟩ := bind_some h
    rcases itb_some h with ⟨c6, h⟩ | ⟨c6, h⟩
    · skip
      obtain rfl := Option.some.inj h
      exact run_ret mixed (L := []) (n := 20) (s := [.reg [], .reg [(1, { call := some (parrelref05_TxMay_v y2, [], []) }), (3, { v := some (.bool false) }), (5, { call := some (parrelref05_RegMay_v y5, [], []) }), (8, { v := some (.bool true) })], .reg []])
        (a_ (a_ (a_ (a_ tr tr) (a_ (a_ tr tr) (a_ (a_ tr tr) tr))) (a_ (a_ (a_ (a_ tr (le_ 3 3 rfl)) tr) (a_ (a_ (a_ (parrelref05_TxMay_tri t y2 e1) tr) tr) (a_ (a_ tr tr) (a_ (a_ tr (a_ (leB c3) tr)) (a_ (a_ (a_ tr (le_ 2 2 rfl)) tr) (a_ (a_ (a_ (parrelref05_RegMay_tri g y5 e4) tr) tr) (a_ (a_ tr tr) (a_ (a_ tr tr) (a_ (a_ tr (a_ (leB c6) tr)) (a_ tr (a_ tr (a_ tr (a_ (a_ tr tr) (a_ (a_ tr tr) (a_ tr (a_ tr (a_ tr (a_ (a_ tr tr) tr)))))))))))))))))) (a_ (a_ (a_ tr tr) tr) tr))) tr) (by kernel_rfl) rfl
    · skip
      rcases itb_some h with ⟨c7, h⟩ | ⟨c7, h⟩
      · skip
        obtain rfl := Option.some.inj h
        exact run_ret mixed (L := []) (n := 20) (s := [.reg [], .reg [(1, { call := some (parrelref05_TxMay_v y2, [], []) }), (3, { v := some (.bool false) }), (5, { call := some (parrelref05_RegMay_v y5, [], []) }), (8, { v := some (.bool false) }), (13, { v := some (.bool true) })], .reg []])
          (a_ (a_ (a_ (a_ tr tr) (a_ (a_ tr tr) (a_ (a_ tr tr) tr))) (a_ (a_ (a_ (a_ tr (le_ 3 3 rfl)) tr) (a_ (a_ (a_ (parrelref05_TxMay_tri t y2 e1) tr) tr) (a_ (a_ tr tr) (a_ (a_ tr (a_ (leB c3) tr)) (a_ (a_ (a_ tr (le_ 2 2 rfl)) tr) (a_ (a_ (a_ (parrelref05_RegMay_tri g y5 e4) tr) tr) (a_ (a_ tr tr) (a_ (a_ tr tr) (a_ (a_ tr (a_ (leB c6) tr)) (a_ (a_ tr tr) (a_ (a_ tr tr) (a_ (a_ tr tr) (a_ (a_ tr tr) (a_ (a_ tr (a_ (leB c7) tr)) (a_ tr (a_ tr (a_ tr (a_ (a_ tr tr) tr)))))))))))))))))) (a_ (a_ (a_ tr tr) tr) tr))) tr) (by kernel_rfl) rfl
      · skip
        obtain ⟨y9, e8, h⟩ := bind_some h
        rcases itb_some h with ⟨c10, h⟩ | ⟨c10, h⟩
        · skip
          obtain rfl := Option.some.inj h
          exact run_ret mixed (L := []) (n := 20) (s := [.reg [], .reg [(1, { call := some (parrelref05_TxMay_v y2, [], []) }), (3, { v := some (.bool false) }), (5, { call := some (parrelref05_RegMay_v y5, [], []) }), (8, { v := some (.bool false) }), (13, { v := some (.bool false) }), (15, { call := some (parrelref10_WritesMay_v y9, [], []) }), (17, { v := some (.bool true) })], .reg []])
            (a_ (a_ (a_ (a_ tr tr) (a_ (a_ tr tr) (a_ (a_ tr tr) tr))) (a_ (a_ (a_ (a_ tr (le_ 3 3 rfl)) tr) (a_ (a_ (a_ (parrelref05_TxMay_tri t y2 e1) tr) tr) (a_ (a_ tr tr) (a_ (a_ tr (a_ (leB c3) tr)) (a_ (a_ (a_ tr (le_ 2 2 rfl)) tr) (a_ (a_ (a_ (parrelref05_RegMay_tri g y5 e4) tr) tr) (a_ (a_ tr tr) (a_ (a_ tr tr) (a_ (a_ tr (a_ (leB c6) tr)) (a_ (a_ tr tr) (a_ (a_ tr tr) (a_ (a_ tr tr) (a_ (a_ tr tr) (a_ (a_ tr (a_ (leB c7) tr)) (a_ (a_ tr tr) (a_ (a_ (a_ (parrelref10_WritesMay_tri l y9 e8) tr) tr) (a_ (a_ tr tr) (a_ (a_ tr (a_ (leB c10) tr)) tr)))))))))))))))))) (a_ (a_ (a_ tr tr) tr) tr))) tr) (by kernel_rfl) rfl
        · skip
          obtain ⟨y12, e11, h⟩ := bind_some h
          rcases itb_some h with ⟨c13, h⟩ | ⟨c13, h⟩
          · skip
            obtain ⟨g14, h⟩ := guard_some h
            rcases itb_some h with ⟨c15, h⟩ | ⟨c15, h⟩
            · skip
              obtain ⟨y17, e16, h⟩ := bind_some h
              rcases itb_some h with ⟨c18, h⟩ | ⟨c18, h⟩
              · skip
                obtain rfl := Option.some.inj h
                exact run_ret mixed (L := []) (n := 34) (s := [.reg [], .reg [(1, { call := some (parrelref05_TxMay_v y2, [], []) }), (3, { v := some (.bool false) }), (5, { call := some (parrelref05_RegMay_v y5, [], []) }), (8, { v := some (.bool false) }), (13, { v := some (.bool false) }), (15, { call := some (parrelref10_WritesMay_v y9, [], []) }), (17, { v := some (.bool false) })], .reg [(2, { call := some ((parrelref14_Stage_find_v y12).ren (sel [0]), preOf (sel [0]) 0 (parrelref14_Stage_find_objs s t), upOf (sel [0]) (parrelref14_Stage_find_up s t y12)) })], .reg [(1, { v := some (.bool true) })], .reg [(9, { v := some (.bool (decide ((s.f_L.getD y12.toNat default).f_Reg = g))) }), (10, { v := some (.bool true) }), (20, { call := some (parrelref10_SameWrites_v y17, [], []) }), (21, { v := some (.bool true) })], .reg []])
                  (a_ (a_ (a_ (a_ tr tr) (a_ (a_ tr tr) (a_ (a_ tr tr) tr))) (a_ (a_ (a_ (a_ tr (le_ 3 3 rfl)) tr) (a_ (a_ (a_ (parrelref05_TxMay_tri t y2 e1) tr) tr) (a_ (a_ tr tr) (a_ (a_ tr (a_ (leB c3) tr)) (a_ (a_ (a_ tr (le_ 2 2 rfl)) tr) (a_ (a_ (a_ (parrelref05_RegMay_tri g y5 e4) tr) tr) (a_ (a_ tr tr) (a_ (a_ tr tr) (a_ (a_ tr (a_ (leB c6) tr)) (a_ (a_ tr tr) (a_ (a_ tr tr) (a_ (a_ tr tr) (a_ (a_ tr tr) (a_ (a_ tr (a_ (leB c7) tr)) (a_ (a_ tr tr) (a_ (a_ (a_ (parrelref10_WritesMay_tri l y9 e8) tr) tr) (a_ (a_ tr tr) (a_ (a_ tr (a_ (leB c10) tr)) tr)))))))))))))))))) (a_ (a_ (a_ tr tr) (a_ (a_ (a_ tr (le_ 3 3 rfl)) tr) (a_ (a_ (a_ (parrelref14_Stage_find_ok s t y12 e11 (sel [0]) (sel_inj rfl rfl)) (a_ (LO.Le.refl (.var (c_T_parrelref14_Stage s))) tr)) tr) (a_ (a_ tr tr) tr)))) (a_ (a_ (a_ tr tr) (a_ (a_ tr (a_ (leB c13) tr)) tr)) (a_ (a_ (a_ tr tr) (a_ (a_ tr tr) (a_ (a_ tr tr) (a_ (a_ (a_ tr (lt_ 0 1 rfl)) tr) (a_ (a_ tr tr) (a_ (a_ (a_ (Eq.refl 6) g14) tr) (a_ (a_ tr tr) (a_ (a_ (le_ 2 3 rfl) tr) (a_ (a_ (a_ tr (le_ 2 2 rfl)) tr) (a_ (a_ tr (a_ (leB (k_T_api_Reg (s.f_L.getD y12.toNat default).f_Reg g)) tr)) (a_ (a_ tr (a_ (leB c15) tr)) (a_ (a_ tr tr) (a_ (a_ tr tr) (a_ (a_ tr tr) (a_ (a_ (a_ tr (lt_ 0 1 rfl)) tr) (a_ (a_ tr tr) (a_ (a_ (a_ (Eq.refl 6) g14) tr) (a_ (a_ tr tr) (a_ (a_ (lt_ 0 1 rfl) tr) (a_ (a_ tr tr) (a_ (a_ (a_ (parrelref10_SameWrites_tri (s.f_L.getD y12.toNat default).f_Writes l y17 e16) tr) tr) (a_ (a_ tr (a_ (leB c18) tr)) tr)))))))))))))))))))))) (a_ (a_ (a_ tr tr) tr) tr)))))) tr) (by kernel_rfl) rfl
              · skip
                obtain rfl := Option.some.inj h
                exact run_ret mixed (L := []) (n := 35) (s := [.reg [], .reg [(1, { call := some (parrelref05_TxMay_v y2, [], []) }), (3, { v := some (.bool false) }), (5, { call := some (parrelref05_RegMay_v y5, [], []) }), (8, { v := some (.bool false) }), (13, { v := some (.bool false) }), (15, { call := some (parrelref10_WritesMay_v y9, [], []) }), (17, { v := some (.bool false) })], .reg [(2, { call := some ((parrelref14_Stage_find_v y12).ren (sel [0]), preOf (sel [0]) 0 (parrelref14_Stage_find_objs s t), upOf (sel [0]) (parrelref14_Stage_find_up s t y12)) })], .reg [(1, { v := some (.bool true) })], .reg [(9, { v := some (.bool (decide ((s.f_L.getD y12.toNat default).f_Reg = g))) }), (10, { v := some (.bool true) }), (20, { call := some (parrelref10_SameWrites_v y17, [], []) }), (21, { v := some (.bool false) })], .reg []])
                  (a_ (a_ (a_ (a_ tr tr) (a_ (a_ tr tr) (a_ (a_ tr tr) tr))) (a_ (a_ (a_ (a_ tr (le_ 3 3 rfl)) tr) (a_ (a_ (a_ (parrelref05_TxMay_tri t y2 e1) tr) tr) (a_ (a_ tr tr) (a_ (a_ tr (a_ (leB c3) tr)) (a_ (a_ (a_ tr (le_ 2 2 rfl)) tr) (a_ (a_ (a_ (parrelref05_RegMay_tri g y5 e4) tr) tr) (a_ (a_ tr tr) (a_ (a_ tr tr) (a_ (a_ tr (a_ (leB c6) tr)) (a_ (a_ tr tr) (a_ (a_ tr tr) (a_ (a_ tr tr) (a_ (a_ tr tr) (a_ (a_ tr (a_ (leB c7) tr)) (a_ (a_ tr tr) (a_ (a_ (a_ (parrelref10_WritesMay_tri l y9 e8) tr) tr) (a_ (a_ tr tr) (a_ (a_ tr (a_ (leB c10) tr)) tr)))))))))))))))))) (a_ (a_ (a_ tr tr) (a_ (a_ (a_ tr (le_ 3 3 rfl)) tr) (a_ (a_ (a_ (parrelref14_Stage_find_ok s t y12 e11 (sel [0]) (sel_inj rfl rfl)) (a_ (LO.Le.refl (.var (c_T_parrelref14_Stage s))) tr)) tr) (a_ (a_ tr tr) tr)))) (a_ (a_ (a_ tr tr) (a_ (a_ tr (a_ (leB c13) tr)) tr)) (a_ (a_ (a_ tr tr) (a_ (a_ tr tr) (a_ (a_ tr tr) (a_ (a_ (a_ tr (lt_ 0 1 rfl)) tr) (a_ (a_ tr tr) (a_ (a_ (a_ (Eq.refl 6) g14) tr) (a_ (a_ tr tr) (a_ (a_ (le_ 2 3 rfl) tr) (a_ (a_ (a_ tr (le_ 2 2 rfl)) tr) (a_ (a_ tr (a_ (leB (k_T_api_Reg (s.f_L.getD y12.toNat default).f_Reg g)) tr)) (a_ (a_ tr (a_ (leB c15) tr)) (a_ (a_ tr tr) (a_ (a_ tr tr) (a_ (a_ tr tr) (a_ (a_ (a_ tr (lt_ 0 1 rfl)) tr) (a_ (a_ tr tr) (a_ (a_ (a_ (Eq.refl 6) g14) tr) (a_ (a_ tr tr) (a_ (a_ (lt_ 0 1 rfl) tr) (a_ (a_ tr tr) (a_ (a_ (a_ (parrelref10_SameWrites_tri (s.f_L.getD y12.toNat default).f_Writes l y17 e16) tr) tr) (a_ (a_ tr (a_ (leB c18) tr)) tr)))))))))))))))))))))) (a_ (a_ (a_ tr tr) tr) tr)))))) tr) (by kernel_rfl) rfl
            · skip
              obtain rfl := Option.some.inj h
              exact run_ret mixed (L := []) (n := 35) (s := [.reg [], .reg [(1, { call := some (parrelref05_TxMay_v y2, [], []) }), (3, { v := some (.bool false) }), (5, { call := some (parrelref05_RegMay_v y5, [], []) }), (8, { v := some (.bool false) }), (13, { v := some (.bool false) }), (15, { call := some (parrelref10_WritesMay_v y9, [], []) }), (17, { v := some (.bool false) })], .reg [(2, { call := some ((parrelref14_Stage_find_v y12).ren (sel [0]), preOf (sel [0]) 0 (parrelref14_Stage_find_objs s t), upOf (sel [0]) (parrelref14_Stage_find_up s t y12)) })], .reg [(1, { v := some (.bool true) })], .reg [(9, { v := some (.bool (decide ((s.f_L.getD y12.toNat default).f_Reg = g))) }), (10, { v := some (.bool false) })], .reg []])
                (a_ (a_ (a_ (a_ tr tr) (a_ (a_ tr tr) (a_ (a_ tr tr) tr))) (a_ (a_ (a_ (a_ tr (le_ 3 3 rfl)) tr) (a_ (a_ (a_ (parrelref05_TxMay_tri t y2 e1) tr) tr) (a_ (a_ tr tr) (a_ (a_ tr (a_ (leB c3) tr)) (a_ (a_ (a_ tr (le_ 2 2 rfl)) tr) (a_ (a_ (a_ (parrelref05_RegMay_tri g y5 e4) tr) tr) (a_ (a_ tr tr) (a_ (a_ tr tr) (a_ (a_ tr (a_ (leB c6) tr)) (a_ (a_ tr tr) (a_ (a_ tr tr) (a_ (a_ tr tr) (a_ (a_ tr tr) (a_ (a_ tr (a_ (leB c7) tr)) (a_ (a_ tr tr) (a_ (a_ (a_ (parrelref10_WritesMay_tri l y9 e8) tr) tr) (a_ (a_ tr tr) (a_ (a_ tr (a_ (leB c10) tr)) tr)))))))))))))))))) (a_ (a_ (a_ tr tr) (a_ (a_ (a_ tr (le_ 3 3 rfl)) tr) (a_ (a_ (a_ (parrelref14_Stage_find_ok s t y12 e11 (sel [0]) (sel_inj rfl rfl)) (a_ (LO.Le.refl (.var (c_T_parrelref14_Stage s))) tr)) tr) (a_ (a_ tr tr) tr)))) (a_ (a_ (a_ tr tr) (a_ (a_ tr (a_ (leB c13) tr)) tr)) (a_ (a_ (a_ tr tr) (a_ (a_ tr tr) (a_ (a_ tr tr) (a_ (a_ (a_ tr (lt_ 0 1 rfl)) tr) (a_ (a_ tr tr) (a_ (a_ (a_ (Eq.refl 6) g14) tr) (a_ (a_ tr tr) (a_ (a_ (le_ 2 3 rfl) tr) (a_ (a_ (a_ tr (le_ 2 2 rfl)) tr) (a_ (a_ tr (a_ (leB (k_T_api_Reg (s.f_L.getD y12.toNat default).f_Reg g)) tr)) (a_ (a_ tr (a_ (leB c15) tr)) (a_ tr (a_ tr (a_ tr (a_ tr (a_ tr (a_ tr (a_ tr (a_ tr (a_ tr (a_ tr (a_ (a_ tr tr) tr)))))))))))))))))))))) (a_ (a_ (a_ tr tr) tr) tr)))))) tr) (by kernel_rfl) rfl
          · skip
            exact run_to mixed hμ (L := [1, 2]) (n := 33) (s := [.reg [], .reg [(1, { call := some (parrelref05_TxMay_v y2, [], []) }), (3, { v := some (.bool false) }), (5, { call := some (parrelref05_RegMay_v y5, [], []) }), (8, { v := some (.bool false) }), (13, { v := some (.bool false) }), (15, { call := some (parrelref10_WritesMay_v y9, [], []) }), (17, { v := some (.bool false) })], .reg [(2, { call := some ((parrelref14_Stage_find_v y12).ren (sel [0]), preOf (sel [0]) 0 (parrelref14_Stage_find_objs s t), upOf (sel [0]) (parrelref14_Stage_find_up s t y12)) })], .reg [(1, { v := some (.bool false) })], .reg []])
              (a_ (a_ (a_ tr tr) (a_ (a_ tr tr) (a_ (a_ tr tr) tr))) (a_ (a_ (a_ (a_ tr (le_ 3 3 rfl)) tr) (a_ (a_ (a_ (parrelref05_TxMay_tri t y2 e1) tr) tr) (a_ (a_ tr tr) (a_ (a_ tr (a_ (leB c3) tr)) (a_ (a_ (a_ tr (le_ 2 2 rfl)) tr) (a_ (a_ (a_ (parrelref05_RegMay_tri g y5 e4) tr) tr) (a_ (a_ tr tr) (a_ (a_ tr tr) (a_ (a_ tr (a_ (leB c6) tr)) (a_ (a_ tr tr) (a_ (a_ tr tr) (a_ (a_ tr tr) (a_ (a_ tr tr) (a_ (a_ tr (a_ (leB c7) tr)) (a_ (a_ tr tr) (a_ (a_ (a_ (parrelref10_WritesMay_tri l y9 e8) tr) tr) (a_ (a_ tr tr) (a_ (a_ tr (a_ (leB c10) tr)) tr)))))))))))))))))) (a_ (a_ (a_ tr tr) (a_ (a_ (a_ tr (le_ 3 3 rfl)) tr) (a_ (a_ (a_ (parrelref14_Stage_find_ok s t y12 e11 (sel [0]) (sel_inj rfl rfl)) (a_ (LO.Le.refl (.var (c_T_parrelref14_Stage s))) tr)) tr) (a_ (a_ tr tr) tr)))) (a_ (a_ (a_ tr tr) (a_ (a_ tr (a_ (leB c13) tr)) tr)) (a_ (a_ (a_ tr tr) tr) tr))))) (parrelref14_Stage_Put_l0_ok hμ s t g l  big _ r h) (by kernel_rfl) ⟨rfl, rfl, rfl, trivial⟩

end
end Go.Proofs.YtfjdnnoflmpdeaaDoor.Wk
