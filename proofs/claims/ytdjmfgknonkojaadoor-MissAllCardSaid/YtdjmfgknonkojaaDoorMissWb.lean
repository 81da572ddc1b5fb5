/- Printed by tr.py: Go functions as Lean functions, with the proofs that they walk so. -/
import Derived.Test.YtdjmfgknonkojaaDoorMissWa
namespace Go.Proofs.YtdjmfgknonkojaaDoor.Wk
open Go Go.Cn Go.RowKit
set_option maxRecDepth 100000
set_option maxHeartbeats 4000000
set_option linter.unusedVariables false
set_option linter.unusedSimpArgs false
noncomputable section
/-- parrel/parrellaw20.alive -/

def parrellaw20_alive_v (r : (Bool)) : LV := .bool r

def parrellaw20_alive  : Option ((Bool)) :=
  (parrellaw20_three).bind fun y2 =>
  (miss_Plan ([(T_miss_Lock.mk (A8.mk 97 0 0 0 0 0 0 0) 2 ([(T_gather_Got.mk 2 (T_api_Reg.mk 1 1) (T_api_Item.mk 0 [] (T_api_Config.mk 0 0 0 (A8.mk 0 0 0 0 0 0 0 0)))), (T_gather_Got.mk 0 (T_api_Reg.mk 1 1) (T_api_Item.mk 0 [] (T_api_Config.mk 0 0 0 (A8.mk 0 0 0 0 0 0 0 0))))] : List (T_gather_Got)))] : List (T_miss_Lock)) y2).bind fun y4 =>
  if ((y4.2.2 == 0) : Bool) then
    if ((((y4.1).length : Int) == 2) : Bool) then
      if 0 ≤ (0 : Int) ∧ (0 : Int) < (((y4.1).length : Nat) : Int) then
      if (((y4.1.getD 0 default).f_Node == 0) : Bool) then
        if 0 ≤ (1 : Int) ∧ (1 : Int) < (((y4.1).length : Nat) : Int) then
        if (((y4.1.getD 1 default).f_Node == 2) : Bool) then
          if (((((y4.1.getD 1 default).f_Writes).length : Int) == 1) : Bool) then
            if ((((y4.2.1).length : Int) == 1) : Bool) then
              if 0 ≤ (0 : Int) ∧ (0 : Int) < (((y4.2.1).length : Nat) : Int) then
              some ((y4.2.1.getD 0 default) == 2)
              else none
            else
              some false
          else
            some false
        else
          some false
        else none
      else
        some false
      else none
    else
      some false
  else
    some false

theorem parrellaw20_alive_ok  (r : (Bool)) (h : parrellaw20_alive  = some r) : ∀ σ, Inj 0 σ → FnTri Tryd.prog 8 (renL σ []) (preOf σ 0 []) ((parrellaw20_alive_v r).ren σ) (upOf σ []) := by
  refine fn_of Tryd.func8 (by kernel_rfl) (by kernel_rfl) (by kernel_rfl) trivial (by kernel_rfl) trivial (by kernel_rfl) ?_
  intro w0 W μ0 hμ
  unfold parrellaw20_alive at h
  obtain ⟨y2, e1, h⟩ := bind_some h
  obtain ⟨y4, e3, h⟩ := bind_some h
  rcases itb_some h with ⟨c5, h⟩ | ⟨c5, h⟩
  · skip
    rcases itb_some h with ⟨c6, h⟩ | ⟨c6, h⟩
    · skip
      obtain ⟨g7, h⟩ := guard_some h
      rcases itb_some h with ⟨c8, h⟩ | ⟨c8, h⟩
      · skip
        obtain ⟨g9, h⟩ := guard_some h
        rcases itb_some h with ⟨c10, h⟩ | ⟨c10, h⟩
        · skip
          rcases itb_some h with ⟨c11, h⟩ | ⟨c11, h⟩
          · skip
            rcases itb_some h with ⟨c12, h⟩ | ⟨c12, h⟩
            · skip
              obtain ⟨g13, h⟩ := guard_some h
              obtain rfl := Option.some.inj h
              exact run_ret mixed (L := []) (n := 21) (s := [.reg [], .reg [], .reg [(5, { os := [(1, .gr 16 (([(T_gather_Got.mk 2 (T_api_Reg.mk 1 1) (T_api_Item.mk 0 [] (T_api_Config.mk 0 0 0 (A8.mk 0 0 0 0 0 0 0 0)))), (T_gather_Got.mk 0 (T_api_Reg.mk 1 1) (T_api_Item.mk 0 [] (T_api_Config.mk 0 0 0 (A8.mk 0 0 0 0 0 0 0 0))))] : List (T_gather_Got))).length (rowF c_T_gather_Got default ([(T_gather_Got.mk 2 (T_api_Reg.mk 1 1) (T_api_Item.mk 0 [] (T_api_Config.mk 0 0 0 (A8.mk 0 0 0 0 0 0 0 0)))), (T_gather_Got.mk 0 (T_api_Reg.mk 1 1) (T_api_Item.mk 0 [] (T_api_Config.mk 0 0 0 (A8.mk 0 0 0 0 0 0 0 0))))] : List (T_gather_Got))))], v := some (.gs 1 (([(T_gather_Got.mk 2 (T_api_Reg.mk 1 1) (T_api_Item.mk 0 [] (T_api_Config.mk 0 0 0 (A8.mk 0 0 0 0 0 0 0 0)))), (T_gather_Got.mk 0 (T_api_Reg.mk 1 1) (T_api_Item.mk 0 [] (T_api_Config.mk 0 0 0 (A8.mk 0 0 0 0 0 0 0 0))))] : List (T_gather_Got))).length), fz := true }), (7, { os := [(2, .gr 10 (([(T_miss_Lock.mk (A8.mk 97 0 0 0 0 0 0 0) 2 ([(T_gather_Got.mk 2 (T_api_Reg.mk 1 1) (T_api_Item.mk 0 [] (T_api_Config.mk 0 0 0 (A8.mk 0 0 0 0 0 0 0 0)))), (T_gather_Got.mk 0 (T_api_Reg.mk 1 1) (T_api_Item.mk 0 [] (T_api_Config.mk 0 0 0 (A8.mk 0 0 0 0 0 0 0 0))))] : List (T_gather_Got)))] : List (T_miss_Lock))).length (rowF c_T_miss_Lock default ([(T_miss_Lock.mk (A8.mk 97 0 0 0 0 0 0 0) 2 ([(T_gather_Got.mk 2 (T_api_Reg.mk 1 1) (T_api_Item.mk 0 [] (T_api_Config.mk 0 0 0 (A8.mk 0 0 0 0 0 0 0 0)))), (T_gather_Got.mk 0 (T_api_Reg.mk 1 1) (T_api_Item.mk 0 [] (T_api_Config.mk 0 0 0 (A8.mk 0 0 0 0 0 0 0 0))))] : List (T_gather_Got)))] : List (T_miss_Lock))))], v := some (.gs 2 (([(T_miss_Lock.mk (A8.mk 97 0 0 0 0 0 0 0) 2 ([(T_gather_Got.mk 2 (T_api_Reg.mk 1 1) (T_api_Item.mk 0 [] (T_api_Config.mk 0 0 0 (A8.mk 0 0 0 0 0 0 0 0)))), (T_gather_Got.mk 0 (T_api_Reg.mk 1 1) (T_api_Item.mk 0 [] (T_api_Config.mk 0 0 0 (A8.mk 0 0 0 0 0 0 0 0))))] : List (T_gather_Got)))] : List (T_miss_Lock))).length), fz := true }), (8, { call := some (parrellaw20_three_v y2, [], []) }), (9, { call := some (miss_Plan_v y4, [], []) })], .reg [(2, { v := some (.bool true) }), (7, { v := some (.bool true) }), (14, { v := some (.bool true) }), (21, { v := some (.bool true) }), (29, { v := some (.bool true) }), (34, { v := some (.bool true) })]])
                (a_ (a_ (a_ (a_ tr tr) tr) (a_ (a_ (a_ (Eq.refl true) tr) (a_ (a_ tr tr) (a_ (a_ (a_ (Eq.refl 2) (a_ (le_ 2 2 rfl) (Eq.refl 0))) tr) tr))) (a_ (a_ (a_ (Eq.refl true) tr) (a_ (a_ (a_ tr (le_ 2 2 rfl)) tr) (a_ (a_ (Eq.refl true) tr) (a_ (a_ (a_ tr (le_ 2 2 rfl)) tr) (a_ (a_ (Eq.refl true) tr) (a_ (a_ (a_ (a_ (Eq.refl true) (a_ (Eq.refl 16) (a_ (lt_ 0 16 rfl) (le_ 32 16777216 rfl)))) (a_ (le_sl_gs 1 2 (some 2) rfl) (a_ (sub_lit c_T_gather_Got default 16 (fun _ => rfl) ([(T_gather_Got.mk 2 (T_api_Reg.mk 1 1) (T_api_Item.mk 0 [] (T_api_Config.mk 0 0 0 (A8.mk 0 0 0 0 0 0 0 0)))), (T_gather_Got.mk 0 (T_api_Reg.mk 1 1) (T_api_Item.mk 0 [] (T_api_Config.mk 0 0 0 (A8.mk 0 0 0 0 0 0 0 0))))] : List (T_gather_Got))) tr))) (a_ (Nat.le_refl (([(T_gather_Got.mk 2 (T_api_Reg.mk 1 1) (T_api_Item.mk 0 [] (T_api_Config.mk 0 0 0 (A8.mk 0 0 0 0 0 0 0 0)))), (T_gather_Got.mk 0 (T_api_Reg.mk 1 1) (T_api_Item.mk 0 [] (T_api_Config.mk 0 0 0 (A8.mk 0 0 0 0 0 0 0 0))))] : List (T_gather_Got))).length) (fz_row (enc := c_T_gather_Got) (d := default) (fun _ => rfl) ([(T_gather_Got.mk 2 (T_api_Reg.mk 1 1) (T_api_Item.mk 0 [] (T_api_Config.mk 0 0 0 (A8.mk 0 0 0 0 0 0 0 0)))), (T_gather_Got.mk 0 (T_api_Reg.mk 1 1) (T_api_Item.mk 0 [] (T_api_Config.mk 0 0 0 (A8.mk 0 0 0 0 0 0 0 0))))] : List (T_gather_Got))))) (a_ (a_ (Eq.refl true) tr) (a_ (a_ (a_ (a_ (Eq.refl true) (a_ (Eq.refl 10) (a_ (lt_ 0 10 rfl) (le_ 10 16777216 rfl)))) (a_ (le_sl_gs 2 1 (some 1) rfl) (a_ (sub_lit c_T_miss_Lock default 10 (fun _ => rfl) ([(T_miss_Lock.mk (A8.mk 97 0 0 0 0 0 0 0) 2 ([(T_gather_Got.mk 2 (T_api_Reg.mk 1 1) (T_api_Item.mk 0 [] (T_api_Config.mk 0 0 0 (A8.mk 0 0 0 0 0 0 0 0)))), (T_gather_Got.mk 0 (T_api_Reg.mk 1 1) (T_api_Item.mk 0 [] (T_api_Config.mk 0 0 0 (A8.mk 0 0 0 0 0 0 0 0))))] : List (T_gather_Got)))] : List (T_miss_Lock))) tr))) (a_ (Nat.le_refl (([(T_miss_Lock.mk (A8.mk 97 0 0 0 0 0 0 0) 2 ([(T_gather_Got.mk 2 (T_api_Reg.mk 1 1) (T_api_Item.mk 0 [] (T_api_Config.mk 0 0 0 (A8.mk 0 0 0 0 0 0 0 0)))), (T_gather_Got.mk 0 (T_api_Reg.mk 1 1) (T_api_Item.mk 0 [] (T_api_Config.mk 0 0 0 (A8.mk 0 0 0 0 0 0 0 0))))] : List (T_gather_Got)))] : List (T_miss_Lock))).length) (fz_row (enc := c_T_miss_Lock) (d := default) (fun _ => rfl) ([(T_miss_Lock.mk (A8.mk 97 0 0 0 0 0 0 0) 2 ([(T_gather_Got.mk 2 (T_api_Reg.mk 1 1) (T_api_Item.mk 0 [] (T_api_Config.mk 0 0 0 (A8.mk 0 0 0 0 0 0 0 0)))), (T_gather_Got.mk 0 (T_api_Reg.mk 1 1) (T_api_Item.mk 0 [] (T_api_Config.mk 0 0 0 (A8.mk 0 0 0 0 0 0 0 0))))] : List (T_gather_Got)))] : List (T_miss_Lock))))) (a_ (a_ (a_ (parrellaw20_three_tri  y2 e1) tr) tr) (a_ (a_ (a_ (miss_Plan_tri ([(T_miss_Lock.mk (A8.mk 97 0 0 0 0 0 0 0) 2 ([(T_gather_Got.mk 2 (T_api_Reg.mk 1 1) (T_api_Item.mk 0 [] (T_api_Config.mk 0 0 0 (A8.mk 0 0 0 0 0 0 0 0)))), (T_gather_Got.mk 0 (T_api_Reg.mk 1 1) (T_api_Item.mk 0 [] (T_api_Config.mk 0 0 0 (A8.mk 0 0 0 0 0 0 0 0))))] : List (T_gather_Got)))] : List (T_miss_Lock)) y2 y4 e3) tr) tr) (a_ (a_ tr tr) (a_ (a_ tr tr) (a_ (a_ tr tr) (a_ (a_ tr tr) (a_ (a_ tr tr) (a_ (a_ tr tr) (a_ (a_ tr tr) tr))))))))))))))))) (a_ (a_ (a_ tr tr) (a_ (a_ tr tr) (a_ (a_ tr (a_ (leB c5) tr)) (a_ (a_ tr tr) (a_ (a_ tr tr) (a_ (a_ tr tr) (a_ (a_ tr tr) (a_ (a_ tr (a_ (leB c6) tr)) (a_ (a_ tr tr) (a_ (a_ (a_ (Eq.refl 4) g7) tr) (a_ (a_ tr tr) (a_ (a_ (lt_ 0 4 rfl) tr) (a_ (a_ tr tr) (a_ (a_ tr tr) (a_ (a_ tr (a_ (leB c8) tr)) (a_ (a_ tr tr) (a_ (a_ (a_ (Eq.refl 4) g9) tr) (a_ (a_ tr tr) (a_ (a_ (lt_ 0 4 rfl) tr) (a_ (a_ tr tr) (a_ (a_ tr tr) (a_ (a_ tr (a_ (leB c10) tr)) (a_ (a_ tr tr) (a_ (a_ (a_ (Eq.refl 4) g9) tr) (a_ (a_ tr tr) (a_ (a_ (lt_ 0 1 rfl) tr) (a_ (a_ tr tr) (a_ (a_ tr tr) (a_ (a_ tr tr) (a_ (a_ tr (a_ (leB c11) tr)) (a_ (a_ tr tr) (a_ (a_ tr tr) (a_ (a_ tr tr) (a_ (a_ tr tr) (a_ (a_ tr (a_ (leB c12) tr)) (a_ (a_ tr tr) (a_ (a_ (a_ (Eq.refl 1) g13) tr) (a_ (a_ (lt_ 0 1 rfl) tr) (a_ (a_ tr tr) (a_ (a_ tr tr) (a_ (a_ tr tr) tr))))))))))))))))))))))))))))))))))))))))) tr)))) tr) (by kernel_rfl) rfl
            · skip
              obtain rfl := Option.some.inj h
              exact run_ret mixed (L := []) (n := 21) (s := [.reg [], .reg [], .reg [(5, { os := [(1, .gr 16 (([(T_gather_Got.mk 2 (T_api_Reg.mk 1 1) (T_api_Item.mk 0 [] (T_api_Config.mk 0 0 0 (A8.mk 0 0 0 0 0 0 0 0)))), (T_gather_Got.mk 0 (T_api_Reg.mk 1 1) (T_api_Item.mk 0 [] (T_api_Config.mk 0 0 0 (A8.mk 0 0 0 0 0 0 0 0))))] : List (T_gather_Got))).length (rowF c_T_gather_Got default ([(T_gather_Got.mk 2 (T_api_Reg.mk 1 1) (T_api_Item.mk 0 [] (T_api_Config.mk 0 0 0 (A8.mk 0 0 0 0 0 0 0 0)))), (T_gather_Got.mk 0 (T_api_Reg.mk 1 1) (T_api_Item.mk 0 [] (T_api_Config.mk 0 0 0 (A8.mk 0 0 0 0 0 0 0 0))))] : List (T_gather_Got))))], v := some (.gs 1 (([(T_gather_Got.mk 2 (T_api_Reg.mk 1 1) (T_api_Item.mk 0 [] (T_api_Config.mk 0 0 0 (A8.mk 0 0 0 0 0 0 0 0)))), (T_gather_Got.mk 0 (T_api_Reg.mk 1 1) (T_api_Item.mk 0 [] (T_api_Config.mk 0 0 0 (A8.mk 0 0 0 0 0 0 0 0))))] : List (T_gather_Got))).length), fz := true }), (7, { os := [(2, .gr 10 (([(T_miss_Lock.mk (A8.mk 97 0 0 0 0 0 0 0) 2 ([(T_gather_Got.mk 2 (T_api_Reg.mk 1 1) (T_api_Item.mk 0 [] (T_api_Config.mk 0 0 0 (A8.mk 0 0 0 0 0 0 0 0)))), (T_gather_Got.mk 0 (T_api_Reg.mk 1 1) (T_api_Item.mk 0 [] (T_api_Config.mk 0 0 0 (A8.mk 0 0 0 0 0 0 0 0))))] : List (T_gather_Got)))] : List (T_miss_Lock))).length (rowF c_T_miss_Lock default ([(T_miss_Lock.mk (A8.mk 97 0 0 0 0 0 0 0) 2 ([(T_gather_Got.mk 2 (T_api_Reg.mk 1 1) (T_api_Item.mk 0 [] (T_api_Config.mk 0 0 0 (A8.mk 0 0 0 0 0 0 0 0)))), (T_gather_Got.mk 0 (T_api_Reg.mk 1 1) (T_api_Item.mk 0 [] (T_api_Config.mk 0 0 0 (A8.mk 0 0 0 0 0 0 0 0))))] : List (T_gather_Got)))] : List (T_miss_Lock))))], v := some (.gs 2 (([(T_miss_Lock.mk (A8.mk 97 0 0 0 0 0 0 0) 2 ([(T_gather_Got.mk 2 (T_api_Reg.mk 1 1) (T_api_Item.mk 0 [] (T_api_Config.mk 0 0 0 (A8.mk 0 0 0 0 0 0 0 0)))), (T_gather_Got.mk 0 (T_api_Reg.mk 1 1) (T_api_Item.mk 0 [] (T_api_Config.mk 0 0 0 (A8.mk 0 0 0 0 0 0 0 0))))] : List (T_gather_Got)))] : List (T_miss_Lock))).length), fz := true }), (8, { call := some (parrellaw20_three_v y2, [], []) }), (9, { call := some (miss_Plan_v y4, [], []) })], .reg [(2, { v := some (.bool true) }), (7, { v := some (.bool true) }), (14, { v := some (.bool true) }), (21, { v := some (.bool true) }), (29, { v := some (.bool true) }), (34, { v := some (.bool false) })]])
                (a_ (a_ (a_ (a_ tr tr) tr) (a_ (a_ (a_ (Eq.refl true) tr) (a_ (a_ tr tr) (a_ (a_ (a_ (Eq.refl 2) (a_ (le_ 2 2 rfl) (Eq.refl 0))) tr) tr))) (a_ (a_ (a_ (Eq.refl true) tr) (a_ (a_ (a_ tr (le_ 2 2 rfl)) tr) (a_ (a_ (Eq.refl true) tr) (a_ (a_ (a_ tr (le_ 2 2 rfl)) tr) (a_ (a_ (Eq.refl true) tr) (a_ (a_ (a_ (a_ (Eq.refl true) (a_ (Eq.refl 16) (a_ (lt_ 0 16 rfl) (le_ 32 16777216 rfl)))) (a_ (le_sl_gs 1 2 (some 2) rfl) (a_ (sub_lit c_T_gather_Got default 16 (fun _ => rfl) ([(T_gather_Got.mk 2 (T_api_Reg.mk 1 1) (T_api_Item.mk 0 [] (T_api_Config.mk 0 0 0 (A8.mk 0 0 0 0 0 0 0 0)))), (T_gather_Got.mk 0 (T_api_Reg.mk 1 1) (T_api_Item.mk 0 [] (T_api_Config.mk 0 0 0 (A8.mk 0 0 0 0 0 0 0 0))))] : List (T_gather_Got))) tr))) (a_ (Nat.le_refl (([(T_gather_Got.mk 2 (T_api_Reg.mk 1 1) (T_api_Item.mk 0 [] (T_api_Config.mk 0 0 0 (A8.mk 0 0 0 0 0 0 0 0)))), (T_gather_Got.mk 0 (T_api_Reg.mk 1 1) (T_api_Item.mk 0 [] (T_api_Config.mk 0 0 0 (A8.mk 0 0 0 0 0 0 0 0))))] : List (T_gather_Got))).length) (fz_row (enc := c_T_gather_Got) (d := default) (fun _ => rfl) ([(T_gather_Got.mk 2 (T_api_Reg.mk 1 1) (T_api_Item.mk 0 [] (T_api_Config.mk 0 0 0 (A8.mk 0 0 0 0 0 0 0 0)))), (T_gather_Got.mk 0 (T_api_Reg.mk 1 1) (T_api_Item.mk 0 [] (T_api_Config.mk 0 0 0 (A8.mk 0 0 0 0 0 0 0 0))))] : List (T_gather_Got))))) (a_ (a_ (Eq.refl true) tr) (a_ (a_ (a_ (a_ (Eq.refl true) (a_ (Eq.refl 10) (a_ (lt_ 0 10 rfl) (le_ 10 16777216 rfl)))) (a_ (le_sl_gs 2 1 (some 1) rfl) (a_ (sub_lit c_T_miss_Lock default 10 (fun _ => rfl) ([(T_miss_Lock.mk (A8.mk 97 0 0 0 0 0 0 0) 2 ([(T_gather_Got.mk 2 (T_api_Reg.mk 1 1) (T_api_Item.mk 0 [] (T_api_Config.mk 0 0 0 (A8.mk 0 0 0 0 0 0 0 0)))), (T_gather_Got.mk 0 (T_api_Reg.mk 1 1) (T_api_Item.mk 0 [] (T_api_Config.mk 0 0 0 (A8.mk 0 0 0 0 0 0 0 0))))] : List (T_gather_Got)))] : List (T_miss_Lock))) tr))) (a_ (Nat.le_refl (([(T_miss_Lock.mk (A8.mk 97 0 0 0 0 0 0 0) 2 ([(T_gather_Got.mk 2 (T_api_Reg.mk 1 1) (T_api_Item.mk 0 [] (T_api_Config.mk 0 0 0 (A8.mk 0 0 0 0 0 0 0 0)))), (T_gather_Got.mk 0 (T_api_Reg.mk 1 1) (T_api_Item.mk 0 [] (T_api_Config.mk 0 0 0 (A8.mk 0 0 0 0 0 0 0 0))))] : List (T_gather_Got)))] : List (T_miss_Lock))).length) (fz_row (enc := c_T_miss_Lock) (d := default) (fun _ => rfl) ([(T_miss_Lock.mk (A8.mk 97 0 0 0 0 0 0 0) 2 ([(T_gather_Got.mk 2 (T_api_Reg.mk 1 1) (T_api_Item.mk 0 [] (T_api_Config.mk 0 0 0 (A8.mk 0 0 0 0 0 0 0 0)))), (T_gather_Got.mk 0 (T_api_Reg.mk 1 1) (T_api_Item.mk 0 [] (T_api_Config.mk 0 0 0 (A8.mk 0 0 0 0 0 0 0 0))))] : List (T_gather_Got)))] : List (T_miss_Lock))))) (a_ (a_ (a_ (parrellaw20_three_tri  y2 e1) tr) tr) (a_ (a_ (a_ (miss_Plan_tri ([(T_miss_Lock.mk (A8.mk 97 0 0 0 0 0 0 0) 2 ([(T_gather_Got.mk 2 (T_api_Reg.mk 1 1) (T_api_Item.mk 0 [] (T_api_Config.mk 0 0 0 (A8.mk 0 0 0 0 0 0 0 0)))), (T_gather_Got.mk 0 (T_api_Reg.mk 1 1) (T_api_Item.mk 0 [] (T_api_Config.mk 0 0 0 (A8.mk 0 0 0 0 0 0 0 0))))] : List (T_gather_Got)))] : List (T_miss_Lock)) y2 y4 e3) tr) tr) (a_ (a_ tr tr) (a_ (a_ tr tr) (a_ (a_ tr tr) (a_ (a_ tr tr) (a_ (a_ tr tr) (a_ (a_ tr tr) (a_ (a_ tr tr) tr))))))))))))))))) (a_ (a_ (a_ tr tr) (a_ (a_ tr tr) (a_ (a_ tr (a_ (leB c5) tr)) (a_ (a_ tr tr) (a_ (a_ tr tr) (a_ (a_ tr tr) (a_ (a_ tr tr) (a_ (a_ tr (a_ (leB c6) tr)) (a_ (a_ tr tr) (a_ (a_ (a_ (Eq.refl 4) g7) tr) (a_ (a_ tr tr) (a_ (a_ (lt_ 0 4 rfl) tr) (a_ (a_ tr tr) (a_ (a_ tr tr) (a_ (a_ tr (a_ (leB c8) tr)) (a_ (a_ tr tr) (a_ (a_ (a_ (Eq.refl 4) g9) tr) (a_ (a_ tr tr) (a_ (a_ (lt_ 0 4 rfl) tr) (a_ (a_ tr tr) (a_ (a_ tr tr) (a_ (a_ tr (a_ (leB c10) tr)) (a_ (a_ tr tr) (a_ (a_ (a_ (Eq.refl 4) g9) tr) (a_ (a_ tr tr) (a_ (a_ (lt_ 0 1 rfl) tr) (a_ (a_ tr tr) (a_ (a_ tr tr) (a_ (a_ tr tr) (a_ (a_ tr (a_ (leB c11) tr)) (a_ (a_ tr tr) (a_ (a_ tr tr) (a_ (a_ tr tr) (a_ (a_ tr tr) (a_ (a_ tr (a_ (leB c12) tr)) (a_ tr (a_ tr (a_ tr (a_ tr (a_ (a_ tr tr) (a_ (a_ tr tr) tr))))))))))))))))))))))))))))))))))))))))) tr)))) tr) (by kernel_rfl) rfl
          · skip
            obtain rfl := Option.some.inj h
            exact run_ret mixed (L := []) (n := 21) (s := [.reg [], .reg [], .reg [(5, { os := [(1, .gr 16 (([(T_gather_Got.mk 2 (T_api_Reg.mk 1 1) (T_api_Item.mk 0 [] (T_api_Config.mk 0 0 0 (A8.mk 0 0 0 0 0 0 0 0)))), (T_gather_Got.mk 0 (T_api_Reg.mk 1 1) (T_api_Item.mk 0 [] (T_api_Config.mk 0 0 0 (A8.mk 0 0 0 0 0 0 0 0))))] : List (T_gather_Got))).length (rowF c_T_gather_Got default ([(T_gather_Got.mk 2 (T_api_Reg.mk 1 1) (T_api_Item.mk 0 [] (T_api_Config.mk 0 0 0 (A8.mk 0 0 0 0 0 0 0 0)))), (T_gather_Got.mk 0 (T_api_Reg.mk 1 1) (T_api_Item.mk 0 [] (T_api_Config.mk 0 0 0 (A8.mk 0 0 0 0 0 0 0 0))))] : List (T_gather_Got))))], v := some (.gs 1 (([(T_gather_Got.mk 2 (T_api_Reg.mk 1 1) (T_api_Item.mk 0 [] (T_api_Config.mk 0 0 0 (A8.mk 0 0 0 0 0 0 0 0)))), (T_gather_Got.mk 0 (T_api_Reg.mk 1 1) (T_api_Item.mk 0 [] (T_api_Config.mk 0 0 0 (A8.mk 0 0 0 0 0 0 0 0))))] : List (T_gather_Got))).length), fz := true }), (7, { os := [(2, .gr 10 (([(T_miss_Lock.mk (A8.mk 97 0 0 0 0 0 0 0) 2 ([(T_gather_Got.mk 2 (T_api_Reg.mk 1 1) (T_api_Item.mk 0 [] (T_api_Config.mk 0 0 0 (A8.mk 0 0 0 0 0 0 0 0)))), (T_gather_Got.mk 0 (T_api_Reg.mk 1 1) (T_api_Item.mk 0 [] (T_api_Config.mk 0 0 0 (A8.mk 0 0 0 0 0 0 0 0))))] : List (T_gather_Got)))] : List (T_miss_Lock))).length (rowF c_T_miss_Lock default ([(T_miss_Lock.mk (A8.mk 97 0 0 0 0 0 0 0) 2 ([(T_gather_Got.mk 2 (T_api_Reg.mk 1 1) (T_api_Item.mk 0 [] (T_api_Config.mk 0 0 0 (A8.mk 0 0 0 0 0 0 0 0)))), (T_gather_Got.mk 0 (T_api_Reg.mk 1 1) (T_api_Item.mk 0 [] (T_api_Config.mk 0 0 0 (A8.mk 0 0 0 0 0 0 0 0))))] : List (T_gather_Got)))] : List (T_miss_Lock))))], v := some (.gs 2 (([(T_miss_Lock.mk (A8.mk 97 0 0 0 0 0 0 0) 2 ([(T_gather_Got.mk 2 (T_api_Reg.mk 1 1) (T_api_Item.mk 0 [] (T_api_Config.mk 0 0 0 (A8.mk 0 0 0 0 0 0 0 0)))), (T_gather_Got.mk 0 (T_api_Reg.mk 1 1) (T_api_Item.mk 0 [] (T_api_Config.mk 0 0 0 (A8.mk 0 0 0 0 0 0 0 0))))] : List (T_gather_Got)))] : List (T_miss_Lock))).length), fz := true }), (8, { call := some (parrellaw20_three_v y2, [], []) }), (9, { call := some (miss_Plan_v y4, [], []) })], .reg [(2, { v := some (.bool true) }), (7, { v := some (.bool true) }), (14, { v := some (.bool true) }), (21, { v := some (.bool true) }), (29, { v := some (.bool false) })]])
              (a_ (a_ (a_ (a_ tr tr) tr) (a_ (a_ (a_ (Eq.refl true) tr) (a_ (a_ tr tr) (a_ (a_ (a_ (Eq.refl 2) (a_ (le_ 2 2 rfl) (Eq.refl 0))) tr) tr))) (a_ (a_ (a_ (Eq.refl true) tr) (a_ (a_ (a_ tr (le_ 2 2 rfl)) tr) (a_ (a_ (Eq.refl true) tr) (a_ (a_ (a_ tr (le_ 2 2 rfl)) tr) (a_ (a_ (Eq.refl true) tr) (a_ (a_ (a_ (a_ (Eq.refl true) (a_ (Eq.refl 16) (a_ (lt_ 0 16 rfl) (le_ 32 16777216 rfl)))) (a_ (le_sl_gs 1 2 (some 2) rfl) (a_ (sub_lit c_T_gather_Got default 16 (fun _ => rfl) ([(T_gather_Got.mk 2 (T_api_Reg.mk 1 1) (T_api_Item.mk 0 [] (T_api_Config.mk 0 0 0 (A8.mk 0 0 0 0 0 0 0 0)))), (T_gather_Got.mk 0 (T_api_Reg.mk 1 1) (T_api_Item.mk 0 [] (T_api_Config.mk 0 0 0 (A8.mk 0 0 0 0 0 0 0 0))))] : List (T_gather_Got))) tr))) (a_ (Nat.le_refl (([(T_gather_Got.mk 2 (T_api_Reg.mk 1 1) (T_api_Item.mk 0 [] (T_api_Config.mk 0 0 0 (A8.mk 0 0 0 0 0 0 0 0)))), (T_gather_Got.mk 0 (T_api_Reg.mk 1 1) (T_api_Item.mk 0 [] (T_api_Config.mk 0 0 0 (A8.mk 0 0 0 0 0 0 0 0))))] : List (T_gather_Got))).length) (fz_row (enc := c_T_gather_Got) (d := default) (fun _ => rfl) ([(T_gather_Got.mk 2 (T_api_Reg.mk 1 1) (T_api_Item.mk 0 [] (T_api_Config.mk 0 0 0 (A8.mk 0 0 0 0 0 0 0 0)))), (T_gather_Got.mk 0 (T_api_Reg.mk 1 1) (T_api_Item.mk 0 [] (T_api_Config.mk 0 0 0 (A8.mk 0 0 0 0 0 0 0 0))))] : List (T_gather_Got))))) (a_ (a_ (Eq.refl true) tr) (a_ (a_ (a_ (a_ (Eq.refl true) (a_ (Eq.refl 10) (a_ (lt_ 0 10 rfl) (le_ 10 16777216 rfl)))) (a_ (le_sl_gs 2 1 (some 1) rfl) (a_ (sub_lit c_T_miss_Lock default 10 (fun _ => rfl) ([(T_miss_Lock.mk (A8.mk 97 0 0 0 0 0 0 0) 2 ([(T_gather_Got.mk 2 (T_api_Reg.mk 1 1) (T_api_Item.mk 0 [] (T_api_Config.mk 0 0 0 (A8.mk 0 0 0 0 0 0 0 0)))), (T_gather_Got.mk 0 (T_api_Reg.mk 1 1) (T_api_Item.mk 0 [] (T_api_Config.mk 0 0 0 (A8.mk 0 0 0 0 0 0 0 0))))] : List (T_gather_Got)))] : List (T_miss_Lock))) tr))) (a_ (Nat.le_refl (([(T_miss_Lock.mk (A8.mk 97 0 0 0 0 0 0 0) 2 ([(T_gather_Got.mk 2 (T_api_Reg.mk 1 1) (T_api_Item.mk 0 [] (T_api_Config.mk 0 0 0 (A8.mk 0 0 0 0 0 0 0 0)))), (T_gather_Got.mk 0 (T_api_Reg.mk 1 1) (T_api_Item.mk 0 [] (T_api_Config.mk 0 0 0 (A8.mk 0 0 0 0 0 0 0 0))))] : List (T_gather_Got)))] : List (T_miss_Lock))).length) (fz_row (enc := c_T_miss_Lock) (d := default) (fun _ => rfl) ([(T_miss_Lock.mk (A8.mk 97 0 0 0 0 0 0 0) 2 ([(T_gather_Got.mk 2 (T_api_Reg.mk 1 1) (T_api_Item.mk 0 [] (T_api_Config.mk 0 0 0 (A8.mk 0 0 0 0 0 0 0 0)))), (T_gather_Got.mk 0 (T_api_Reg.mk 1 1) (T_api_Item.mk 0 [] (T_api_Config.mk 0 0 0 (A8.mk 0 0 0 0 0 0 0 0))))] : List (T_gather_Got)))] : List (T_miss_Lock))))) (a_ (a_ (a_ (parrellaw20_three_tri  y2 e1) tr) tr) (a_ (a_ (a_ (miss_Plan_tri ([(T_miss_Lock.mk (A8.mk 97 0 0 0 0 0 0 0) 2 ([(T_gather_Got.mk 2 (T_api_Reg.mk 1 1) (T_api_Item.mk 0 [] (T_api_Config.mk 0 0 0 (A8.mk 0 0 0 0 0 0 0 0)))), (T_gather_Got.mk 0 (T_api_Reg.mk 1 1) (T_api_Item.mk 0 [] (T_api_Config.mk 0 0 0 (A8.mk 0 0 0 0 0 0 0 0))))] : List (T_gather_Got)))] : List (T_miss_Lock)) y2 y4 e3) tr) tr) (a_ (a_ tr tr) (a_ (a_ tr tr) (a_ (a_ tr tr) (a_ (a_ tr tr) (a_ (a_ tr tr) (a_ (a_ tr tr) (a_ (a_ tr tr) tr))))))))))))))))) (a_ (a_ (a_ tr tr) (a_ (a_ tr tr) (a_ (a_ tr (a_ (leB c5) tr)) (a_ (a_ tr tr) (a_ (a_ tr tr) (a_ (a_ tr tr) (a_ (a_ tr tr) (a_ (a_ tr (a_ (leB c6) tr)) (a_ (a_ tr tr) (a_ (a_ (a_ (Eq.refl 4) g7) tr) (a_ (a_ tr tr) (a_ (a_ (lt_ 0 4 rfl) tr) (a_ (a_ tr tr) (a_ (a_ tr tr) (a_ (a_ tr (a_ (leB c8) tr)) (a_ (a_ tr tr) (a_ (a_ (a_ (Eq.refl 4) g9) tr) (a_ (a_ tr tr) (a_ (a_ (lt_ 0 4 rfl) tr) (a_ (a_ tr tr) (a_ (a_ tr tr) (a_ (a_ tr (a_ (leB c10) tr)) (a_ (a_ tr tr) (a_ (a_ (a_ (Eq.refl 4) g9) tr) (a_ (a_ tr tr) (a_ (a_ (lt_ 0 1 rfl) tr) (a_ (a_ tr tr) (a_ (a_ tr tr) (a_ (a_ tr tr) (a_ (a_ tr (a_ (leB c11) tr)) (a_ tr (a_ tr (a_ tr (a_ (a_ tr tr) (a_ (a_ tr tr) (a_ tr (a_ tr (a_ tr (a_ tr (a_ (a_ tr tr) (a_ (a_ tr tr) tr))))))))))))))))))))))))))))))))))))))))) tr)))) tr) (by kernel_rfl) rfl
        · skip
          obtain rfl := Option.some.inj h
          exact run_ret mixed (L := []) (n := 21) (s := [.reg [], .reg [], .reg [(5, { os := [(1, .gr 16 (([(T_gather_Got.mk 2 (T_api_Reg.mk 1 1) (T_api_Item.mk 0 [] (T_api_Config.mk 0 0 0 (A8.mk 0 0 0 0 0 0 0 0)))), (T_gather_Got.mk 0 (T_api_Reg.mk 1 1) (T_api_Item.mk 0 [] (T_api_Config.mk 0 0 0 (A8.mk 0 0 0 0 0 0 0 0))))] : List (T_gather_Got))).length (rowF c_T_gather_Got default ([(T_gather_Got.mk 2 (T_api_Reg.mk 1 1) (T_api_Item.mk 0 [] (T_api_Config.mk 0 0 0 (A8.mk 0 0 0 0 0 0 0 0)))), (T_gather_Got.mk 0 (T_api_Reg.mk 1 1) (T_api_Item.mk 0 [] (T_api_Config.mk 0 0 0 (A8.mk 0 0 0 0 0 0 0 0))))] : List (T_gather_Got))))], v := some (.gs 1 (([(T_gather_Got.mk 2 (T_api_Reg.mk 1 1) (T_api_Item.mk 0 [] (T_api_Config.mk 0 0 0 (A8.mk 0 0 0 0 0 0 0 0)))), (T_gather_Got.mk 0 (T_api_Reg.mk 1 1) (T_api_Item.mk 0 [] (T_api_Config.mk 0 0 0 (A8.mk 0 0 0 0 0 0 0 0))))] : List (T_gather_Got))).length), fz := true }), (7, { os := [(2, .gr 10 (([(T_miss_Lock.mk (A8.mk 97 0 0 0 0 0 0 0) 2 ([(T_gather_Got.mk 2 (T_api_Reg.mk 1 1) (T_api_Item.mk 0 [] (T_api_Config.mk 0 0 0 (A8.mk 0 0 0 0 0 0 0 0)))), (T_gather_Got.mk 0 (T_api_Reg.mk 1 1) (T_api_Item.mk 0 [] (T_api_Config.mk 0 0 0 (A8.mk 0 0 0 0 0 0 0 0))))] : List (T_gather_Got)))] : List (T_miss_Lock))).length (rowF c_T_miss_Lock default ([(T_miss_Lock.mk (A8.mk 97 0 0 0 0 0 0 0) 2 ([(T_gather_Got.mk 2 (T_api_Reg.mk 1 1) (T_api_Item.mk 0 [] (T_api_Config.mk 0 0 0 (A8.mk 0 0 0 0 0 0 0 0)))), (T_gather_Got.mk 0 (T_api_Reg.mk 1 1) (T_api_Item.mk 0 [] (T_api_Config.mk 0 0 0 (A8.mk 0 0 0 0 0 0 0 0))))] : List (T_gather_Got)))] : List (T_miss_Lock))))], v := some (.gs 2 (([(T_miss_Lock.mk (A8.mk 97 0 0 0 0 0 0 0) 2 ([(T_gather_Got.mk 2 (T_api_Reg.mk 1 1) (T_api_Item.mk 0 [] (T_api_Config.mk 0 0 0 (A8.mk 0 0 0 0 0 0 0 0)))), (T_gather_Got.mk 0 (T_api_Reg.mk 1 1) (T_api_Item.mk 0 [] (T_api_Config.mk 0 0 0 (A8.mk 0 0 0 0 0 0 0 0))))] : List (T_gather_Got)))] : List (T_miss_Lock))).length), fz := true }), (8, { call := some (parrellaw20_three_v y2, [], []) }), (9, { call := some (miss_Plan_v y4, [], []) })], .reg [(2, { v := some (.bool true) }), (7, { v := some (.bool true) }), (14, { v := some (.bool true) }), (21, { v := some (.bool false) })]])
            (a_ (a_ (a_ (a_ tr tr) tr) (a_ (a_ (a_ (Eq.refl true) tr) (a_ (a_ tr tr) (a_ (a_ (a_ (Eq.refl 2) (a_ (le_ 2 2 rfl) (Eq.refl 0))) tr) tr))) (a_ (a_ (a_ (Eq.refl true) tr) (a_ (a_ (a_ tr (le_ 2 2 rfl)) tr) (a_ (a_ (Eq.refl true) tr) (a_ (a_ (a_ tr (le_ 2 2 rfl)) tr) (a_ (a_ (Eq.refl true) tr) (a_ (a_ (a_ (a_ (Eq.refl true) (a_ (Eq.refl 16) (a_ (lt_ 0 16 rfl) (le_ 32 16777216 rfl)))) (a_ (le_sl_gs 1 2 (some 2) rfl) (a_ (sub_lit c_T_gather_Got default 16 (fun _ => rfl) ([(T_gather_Got.mk 2 (T_api_Reg.mk 1 1) (T_api_Item.mk 0 [] (T_api_Config.mk 0 0 0 (A8.mk 0 0 0 0 0 0 0 0)))), (T_gather_Got.mk 0 (T_api_Reg.mk 1 1) (T_api_Item.mk 0 [] (T_api_Config.mk 0 0 0 (A8.mk 0 0 0 0 0 0 0 0))))] : List (T_gather_Got))) tr))) (a_ (Nat.le_refl (([(T_gather_Got.mk 2 (T_api_Reg.mk 1 1) (T_api_Item.mk 0 [] (T_api_Config.mk 0 0 0 (A8.mk 0 0 0 0 0 0 0 0)))), (T_gather_Got.mk 0 (T_api_Reg.mk 1 1) (T_api_Item.mk 0 [] (T_api_Config.mk 0 0 0 (A8.mk 0 0 0 0 0 0 0 0))))] : List (T_gather_Got))).length) (fz_row (enc := c_T_gather_Got) (d := default) (fun _ => rfl) ([(T_gather_Got.mk 2 (T_api_Reg.mk 1 1) (T_api_Item.mk 0 [] (T_api_Config.mk 0 0 0 (A8.mk 0 0 0 0 0 0 0 0)))), (T_gather_Got.mk 0 (T_api_Reg.mk 1 1) (T_api_Item.mk 0 [] (T_api_Config.mk 0 0 0 (A8.mk 0 0 0 0 0 0 0 0))))] : List (T_gather_Got))))) (a_ (a_ (Eq.refl true) tr) (a_ (a_ (a_ (a_ (Eq.refl true) (a_ (Eq.refl 10) (a_ (lt_ 0 10 rfl) (le_ 10 16777216 rfl)))) (a_ (le_sl_gs 2 1 (some 1) rfl) (a_ (sub_lit c_T_miss_Lock default 10 (fun _ => rfl) ([(T_miss_Lock.mk (A8.mk 97 0 0 0 0 0 0 0) 2 ([(T_gather_Got.mk 2 (T_api_Reg.mk 1 1) (T_api_Item.mk 0 [] (T_api_Config.mk 0 0 0 (A8.mk 0 0 0 0 0 0 0 0)))), (T_gather_Got.mk 0 (T_api_Reg.mk 1 1) (T_api_Item.mk 0 [] (T_api_Config.mk 0 0 0 (A8.mk 0 0 0 0 0 0 0 0))))] : List (T_gather_Got)))] : List (T_miss_Lock))) tr))) (a_ (Nat.le_refl (([(T_miss_Lock.mk (A8.mk 97 0 0 0 0 0 0 0) 2 ([(T_gather_Got.mk 2 (T_api_Reg.mk 1 1) (T_api_Item.mk 0 [] (T_api_Config.mk 0 0 0 (A8.mk 0 0 0 0 0 0 0 0)))), (T_gather_Got.mk 0 (T_api_Reg.mk 1 1) (T_api_Item.mk 0 [] (T_api_Config.mk 0 0 0 (A8.mk 0 0 0 0 0 0 0 0))))] : List (T_gather_Got)))] : List (T_miss_Lock))).length) (fz_row (enc := c_T_miss_Lock) (d := default) (fun _ => rfl) ([(T_miss_Lock.mk (A8.mk 97 0 0 0 0 0 0 0) 2 ([(T_gather_Got.mk 2 (T_api_Reg.mk 1 1) (T_api_Item.mk 0 [] (T_api_Config.mk 0 0 0 (A8.mk 0 0 0 0 0 0 0 0)))), (T_gather_Got.mk 0 (T_api_Reg.mk 1 1) (T_api_Item.mk 0 [] (T_api_Config.mk 0 0 0 (A8.mk 0 0 0 0 0 0 0 0))))] : List (T_gather_Got)))] : List (T_miss_Lock))))) (a_ (a_ (a_ (parrellaw20_three_tri  y2 e1) tr) tr) (a_ (a_ (a_ (miss_Plan_tri ([(T_miss_Lock.mk (A8.mk 97 0 0 0 0 0 0 0) 2 ([(T_gather_Got.mk 2 (T_api_Reg.mk 1 1) (T_api_Item.mk 0 [] (T_api_Config.mk 0 0 0 (A8.mk 0 0 0 0 0 0 0 0)))), (T_gather_Got.mk 0 (T_api_Reg.mk 1 1) (T_api_Item.mk 0 [] (T_api_Config.mk 0 0 0 (A8.mk 0 0 0 0 0 0 0 0))))] : List (T_gather_Got)))] : List (T_miss_Lock)) y2 y4 e3) tr) tr) (a_ (a_ tr tr) (a_ (a_ tr tr) (a_ (a_ tr tr) (a_ (a_ tr tr) (a_ (a_ tr tr) (a_ (a_ tr tr) (a_ (a_ tr tr) tr))))))))))))))))) (a_ (a_ (a_ tr tr) (a_ (a_ tr tr) (a_ (a_ tr (a_ (leB c5) tr)) (a_ (a_ tr tr) (a_ (a_ tr tr) (a_ (a_ tr tr) (a_ (a_ tr tr) (a_ (a_ tr (a_ (leB c6) tr)) (a_ (a_ tr tr) (a_ (a_ (a_ (Eq.refl 4) g7) tr) (a_ (a_ tr tr) (a_ (a_ (lt_ 0 4 rfl) tr) (a_ (a_ tr tr) (a_ (a_ tr tr) (a_ (a_ tr (a_ (leB c8) tr)) (a_ (a_ tr tr) (a_ (a_ (a_ (Eq.refl 4) g9) tr) (a_ (a_ tr tr) (a_ (a_ (lt_ 0 4 rfl) tr) (a_ (a_ tr tr) (a_ (a_ tr tr) (a_ (a_ tr (a_ (leB c10) tr)) (a_ tr (a_ tr (a_ tr (a_ tr (a_ tr (a_ tr (a_ (a_ tr tr) (a_ (a_ tr tr) (a_ tr (a_ tr (a_ tr (a_ (a_ tr tr) (a_ (a_ tr tr) (a_ tr (a_ tr (a_ tr (a_ tr (a_ (a_ tr tr) (a_ (a_ tr tr) tr))))))))))))))))))))))))))))))))))))))))) tr)))) tr) (by kernel_rfl) rfl
      · skip
        obtain rfl := Option.some.inj h
        exact run_ret mixed (L := []) (n := 21) (s := [.reg [], .reg [], .reg [(5, { os := [(1, .gr 16 (([(T_gather_Got.mk 2 (T_api_Reg.mk 1 1) (T_api_Item.mk 0 [] (T_api_Config.mk 0 0 0 (A8.mk 0 0 0 0 0 0 0 0)))), (T_gather_Got.mk 0 (T_api_Reg.mk 1 1) (T_api_Item.mk 0 [] (T_api_Config.mk 0 0 0 (A8.mk 0 0 0 0 0 0 0 0))))] : List (T_gather_Got))).length (rowF c_T_gather_Got default ([(T_gather_Got.mk 2 (T_api_Reg.mk 1 1) (T_api_Item.mk 0 [] (T_api_Config.mk 0 0 0 (A8.mk 0 0 0 0 0 0 0 0)))), (T_gather_Got.mk 0 (T_api_Reg.mk 1 1) (T_api_Item.mk 0 [] (T_api_Config.mk 0 0 0 (A8.mk 0 0 0 0 0 0 0 0))))] : List (T_gather_Got))))], v := some (.gs 1 (([(T_gather_Got.mk 2 (T_api_Reg.mk 1 1) (T_api_Item.mk 0 [] (T_api_Config.mk 0 0 0 (A8.mk 0 0 0 0 0 0 0 0)))), (T_gather_Got.mk 0 (T_api_Reg.mk 1 1) (T_api_Item.mk 0 [] (T_api_Config.mk 0 0 0 (A8.mk 0 0 0 0 0 0 0 0))))] : List (T_gather_Got))).length), fz := true }), (7, { os := [(2, .gr 10 (([(T_miss_Lock.mk (A8.mk 97 0 0 0 0 0 0 0) 2 ([(T_gather_Got.mk 2 (T_api_Reg.mk 1 1) (T_api_Item.mk 0 [] (T_api_Config.mk 0 0 0 (A8.mk 0 0 0 0 0 0 0 0)))), (T_gather_Got.mk 0 (T_api_Reg.mk 1 1) (T_api_Item.mk 0 [] (T_api_Config.mk 0 0 0 (A8.mk 0 0 0 0 0 0 0 0))))] : List (T_gather_Got)))] : List (T_miss_Lock))).length (rowF c_T_miss_Lock default ([(T_miss_Lock.mk (A8.mk 97 0 0 0 0 0 0 0) 2 ([(T_gather_Got.mk 2 (T_api_Reg.mk 1 1) (T_api_Item.mk 0 [] (T_api_Config.mk 0 0 0 (A8.mk 0 0 0 0 0 0 0 0)))), (T_gather_Got.mk 0 (T_api_Reg.mk 1 1) (T_api_Item.mk 0 [] (T_api_Config.mk 0 0 0 (A8.mk 0 0 0 0 0 0 0 0))))] : List (T_gather_Got)))] : List (T_miss_Lock))))], v := some (.gs 2 (([(T_miss_Lock.mk (A8.mk 97 0 0 0 0 0 0 0) 2 ([(T_gather_Got.mk 2 (T_api_Reg.mk 1 1) (T_api_Item.mk 0 [] (T_api_Config.mk 0 0 0 (A8.mk 0 0 0 0 0 0 0 0)))), (T_gather_Got.mk 0 (T_api_Reg.mk 1 1) (T_api_Item.mk 0 [] (T_api_Config.mk 0 0 0 (A8.mk 0 0 0 0 0 0 0 0))))] : List (T_gather_Got)))] : List (T_miss_Lock))).length), fz := true }), (8, { call := some (parrellaw20_three_v y2, [], []) }), (9, { call := some (miss_Plan_v y4, [], []) })], .reg [(2, { v := some (.bool true) }), (7, { v := some (.bool true) }), (14, { v := some (.bool false) })]])
          (a_ (a_ (a_ (a_ tr tr) tr) (a_ (a_ (a_ (Eq.refl true) tr) (a_ (a_ tr tr) (a_ (a_ (a_ (Eq.refl 2) (a_ (le_ 2 2 rfl) (Eq.refl 0))) tr) tr))) (a_ (a_ (a_ (Eq.refl true) tr) (a_ (a_ (a_ tr (le_ 2 2 rfl)) tr) (a_ (a_ (Eq.refl true) tr) (a_ (a_ (a_ tr (le_ 2 2 rfl)) tr) (a_ (a_ (Eq.refl true) tr) (a_ (a_ (a_ (a_ (Eq.refl true) (a_ (Eq.refl 16) (a_ (lt_ 0 16 rfl) (le_ 32 16777216 rfl)))) (a_ (le_sl_gs 1 2 (some 2) rfl) (a_ (sub_lit c_T_gather_Got default 16 (fun _ => rfl) ([(T_gather_Got.mk 2 (T_api_Reg.mk 1 1) (T_api_Item.mk 0 [] (T_api_Config.mk 0 0 0 (A8.mk 0 0 0 0 0 0 0 0)))), (T_gather_Got.mk 0 (T_api_Reg.mk 1 1) (T_api_Item.mk 0 [] (T_api_Config.mk 0 0 0 (A8.mk 0 0 0 0 0 0 0 0))))] : List (T_gather_Got))) tr))) (a_ (Nat.le_refl (([(T_gather_Got.mk 2 (T_api_Reg.mk 1 1) (T_api_Item.mk 0 [] (T_api_Config.mk 0 0 0 (A8.mk 0 0 0 0 0 0 0 0)))), (T_gather_Got.mk 0 (T_api_Reg.mk 1 1) (T_api_Item.mk 0 [] (T_api_Config.mk 0 0 0 (A8.mk 0 0 0 0 0 0 0 0))))] : List (T_gather_Got))).length) (fz_row (enc := c_T_gather_Got) (d := default) (fun _ => rfl) ([(T_gather_Got.mk 2 (T_api_Reg.mk 1 1) (T_api_Item.mk 0 [] (T_api_Config.mk 0 0 0 (A8.mk 0 0 0 0 0 0 0 0)))), (T_gather_Got.mk 0 (T_api_Reg.mk 1 1) (T_api_Item.mk 0 [] (T_api_Config.mk 0 0 0 (A8.mk 0 0 0 0 0 0 0 0))))] : List (T_gather_Got))))) (a_ (a_ (Eq.refl true) tr) (a_ (a_ (a_ (a_ (Eq.refl true) (a_ (Eq.refl 10) (a_ (lt_ 0 10 rfl) (le_ 10 16777216 rfl)))) (a_ (le_sl_gs 2 1 (some 1) rfl) (a_ (sub_lit c_T_miss_Lock default 10 (fun _ => rfl) ([(T_miss_Lock.mk (A8.mk 97 0 0 0 0 0 0 0) 2 ([(T_gather_Got.mk 2 (T_api_Reg.mk 1 1) (T_api_Item.mk 0 [] (T_api_Config.mk 0 0 0 (A8.mk 0 0 0 0 0 0 0 0)))), (T_gather_Got.mk 0 (T_api_Reg.mk 1 1) (T_api_Item.mk 0 [] (T_api_Config.mk 0 0 0 (A8.mk 0 0 0 0 0 0 0 0))))] : List (T_gather_Got)))] : List (T_miss_Lock))) tr))) (a_ (Nat.le_refl (([(T_miss_Lock.mk (A8.mk 97 0 0 0 0 0 0 0) 2 ([(T_gather_Got.mk 2 (T_api_Reg.mk 1 1) (T_api_Item.mk 0 [] (T_api_Config.mk 0 0 0 (A8.mk 0 0 0 0 0 0 0 0)))), (T_gather_Got.mk 0 (T_api_Reg.mk 1 1) (T_api_Item.mk 0 [] (T_api_Config.mk 0 0 0 (A8.mk 0 0 0 0 0 0 0 0))))] : List (T_gather_Got)))] : List (T_miss_Lock))).length) (fz_row (enc := c_T_miss_Lock) (d := default) (fun _ => rfl) ([(T_miss_Lock.mk (A8.mk 97 0 0 0 0 0 0 0) 2 ([(T_gather_Got.mk 2 (T_api_Reg.mk 1 1) (T_api_Item.mk 0 [] (T_api_Config.mk 0 0 0 (A8.mk 0 0 0 0 0 0 0 0)))), (T_gather_Got.mk 0 (T_api_Reg.mk 1 1) (T_api_Item.mk 0 [] (T_api_Config.mk 0 0 0 (A8.mk 0 0 0 0 0 0 0 0))))] : List (T_gather_Got)))] : List (T_miss_Lock))))) (a_ (a_ (a_ (parrellaw20_three_tri  y2 e1) tr) tr) (a_ (a_ (a_ (miss_Plan_tri ([(T_miss_Lock.mk (A8.mk 97 0 0 0 0 0 0 0) 2 ([(T_gather_Got.mk 2 (T_api_Reg.mk 1 1) (T_api_Item.mk 0 [] (T_api_Config.mk 0 0 0 (A8.mk 0 0 0 0 0 0 0 0)))), (T_gather_Got.mk 0 (T_api_Reg.mk 1 1) (T_api_Item.mk 0 [] (T_api_Config.mk 0 0 0 (A8.mk 0 0 0 0 0 0 0 0))))] : List (T_gather_Got)))] : List (T_miss_Lock)) y2 y4 e3) tr) tr) (a_ (a_ tr tr) (a_ (a_ tr tr) (a_ (a_ tr tr) (a_ (a_ tr tr) (a_ (a_ tr tr) (a_ (a_ tr tr) (a_ (a_ tr tr) tr))))))))))))))))) (a_ (a_ (a_ tr tr) (a_ (a_ tr tr) (a_ (a_ tr (a_ (leB c5) tr)) (a_ (a_ tr tr) (a_ (a_ tr tr) (a_ (a_ tr tr) (a_ (a_ tr tr) (a_ (a_ tr (a_ (leB c6) tr)) (a_ (a_ tr tr) (a_ (a_ (a_ (Eq.refl 4) g7) tr) (a_ (a_ tr tr) (a_ (a_ (lt_ 0 4 rfl) tr) (a_ (a_ tr tr) (a_ (a_ tr tr) (a_ (a_ tr (a_ (leB c8) tr)) (a_ tr (a_ tr (a_ tr (a_ tr (a_ tr (a_ (a_ tr tr) (a_ (a_ tr tr) (a_ tr (a_ tr (a_ tr (a_ tr (a_ tr (a_ tr (a_ (a_ tr tr) (a_ (a_ tr tr) (a_ tr (a_ tr (a_ tr (a_ (a_ tr tr) (a_ (a_ tr tr) (a_ tr (a_ tr (a_ tr (a_ tr (a_ (a_ tr tr) (a_ (a_ tr tr) tr))))))))))))))))))))))))))))))))))))))))) tr)))) tr) (by kernel_rfl) rfl
    · skip
      obtain rfl := Option.some.inj h
      exact run_ret mixed (L := []) (n := 21) (s := [.reg [], .reg [], .reg [(5, { os := [(1, .gr 16 (([(T_gather_Got.mk 2 (T_api_Reg.mk 1 1) (T_api_Item.mk 0 [] (T_api_Config.mk 0 0 0 (A8.mk 0 0 0 0 0 0 0 0)))), (T_gather_Got.mk 0 (T_api_Reg.mk 1 1) (T_api_Item.mk 0 [] (T_api_Config.mk 0 0 0 (A8.mk 0 0 0 0 0 0 0 0))))] : List (T_gather_Got))).length (rowF c_T_gather_Got default ([(T_gather_Got.mk 2 (T_api_Reg.mk 1 1) (T_api_Item.mk 0 [] (T_api_Config.mk 0 0 0 (A8.mk 0 0 0 0 0 0 0 0)))), (T_gather_Got.mk 0 (T_api_Reg.mk 1 1) (T_api_Item.mk 0 [] (T_api_Config.mk 0 0 0 (A8.mk 0 0 0 0 0 0 0 0))))] : List (T_gather_Got))))], v := some (.gs 1 (([(T_gather_Got.mk 2 (T_api_Reg.mk 1 1) (T_api_Item.mk 0 [] (T_api_Config.mk 0 0 0 (A8.mk 0 0 0 0 0 0 0 0)))), (T_gather_Got.mk 0 (T_api_Reg.mk 1 1) (T_api_Item.mk 0 [] (T_api_Config.mk 0 0 0 (A8.mk 0 0 0 0 0 0 0 0))))] : List (T_gather_Got))).length), fz := true }), (7, { os := [(2, .gr 10 (([(T_miss_Lock.mk (A8.mk 97 0 0 0 0 0 0 0) 2 ([(T_gather_Got.mk 2 (T_api_Reg.mk 1 1) (T_api_Item.mk 0 [] (T_api_Config.mk 0 0 0 (A8.mk 0 0 0 0 0 0 0 0)))), (T_gather_Got.mk 0 (T_api_Reg.mk 1 1) (T_api_Item.mk 0 [] (T_api_Config.mk 0 0 0 (A8.mk 0 0 0 0 0 0 0 0))))] : List (T_gather_Got)))] : List (T_miss_Lock))).length (rowF c_T_miss_Lock default ([(T_miss_Lock.mk (A8.mk 97 0 0 0 0 0 0 0) 2 ([(T_gather_Got.mk 2 (T_api_Reg.mk 1 1) (T_api_Item.mk 0 [] (T_api_Config.mk 0 0 0 (A8.mk 0 0 0 0 0 0 0 0)))), (T_gather_Got.mk 0 (T_api_Reg.mk 1 1) (T_api_Item.mk 0 [] (T_api_Config.mk 0 0 0 (A8.mk 0 0 0 0 0 0 0 0))))] : List (T_gather_Got)))] : List (T_miss_Lock))))], v := some (.gs 2 (([(T_miss_Lock.mk (A8.mk 97 0 0 0 0 0 0 0) 2 ([(T_gather_Got.mk 2 (T_api_Reg.mk 1 1) (T_api_Item.mk 0 [] (T_api_Config.mk 0 0 0 (A8.mk 0 0 0 0 0 0 0 0)))), (T_gather_Got.mk 0 (T_api_Reg.mk 1 1) (T_api_Item.mk 0 [] (T_api_Config.mk 0 0 0 (A8.mk 0 0 0 0 0 0 0 0))))] : List (T_gather_Got)))] : List (T_miss_Lock))).length), fz := true }), (8, { call := some (parrellaw20_three_v y2, [], []) }), (9, { call := some (miss_Plan_v y4, [], []) })], .reg [(2, { v := some (.bool true) }), (7, { v := some (.bool false) })]])
        (a_ (a_ (a_ (a_ tr tr) tr) (a_ (a_ (a_ (Eq.refl true) tr) (a_ (a_ tr tr) (a_ (a_ (a_ (Eq.refl 2) (a_ (le_ 2 2 rfl) (Eq.refl 0))) tr) tr))) (a_ (a_ (a_ (Eq.refl true) tr) (a_ (a_ (a_ tr (le_ 2 2 rfl)) tr) (a_ (a_ (Eq.refl true) tr) (a_ (a_ (a_ tr (le_ 2 2 rfl)) tr) (a_ (a_ (Eq.refl true) tr) (a_ (a_ (a_ (a_ (Eq.refl true) (a_ (Eq.refl 16) (a_ (lt_ 0 16 rfl) (le_ 32 16777216 rfl)))) (a_ (le_sl_gs 1 2 (some 2) rfl) (a_ (sub_lit c_T_gather_Got default 16 (fun _ => rfl) ([(T_gather_Got.mk 2 (T_api_Reg.mk 1 1) (T_api_Item.mk 0 [] (T_api_Config.mk 0 0 0 (A8.mk 0 0 0 0 0 0 0 0)))), (T_gather_Got.mk 0 (T_api_Reg.mk 1 1) (T_api_Item.mk 0 [] (T_api_Config.mk 0 0 0 (A8.mk 0 0 0 0 0 0 0 0))))] : List (T_gather_Got))) tr))) (a_ (Nat.le_refl (([(T_gather_Got.mk 2 (T_api_Reg.mk 1 1) (T_api_Item.mk 0 [] (T_api_Config.mk 0 0 0 (A8.mk 0 0 0 0 0 0 0 0)))), (T_gather_Got.mk 0 (T_api_Reg.mk 1 1) (T_api_Item.mk 0 [] (T_api_Config.mk 0 0 0 (A8.mk 0 0 0 0 0 0 0 0))))] : List (T_gather_Got))).length) (fz_row (enc := c_T_gather_Got) (d := default) (fun _ => rfl) ([(T_gather_Got.mk 2 (T_api_Reg.mk 1 1) (T_api_Item.mk 0 [] (T_api_Config.mk 0 0 0 (A8.mk 0 0 0 0 0 0 0 0)))), (T_gather_Got.mk 0 (T_api_Reg.mk 1 1) (T_api_Item.mk 0 [] (T_api_Config.mk 0 0 0 (A8.mk 0 0 0 0 0 0 0 0))))] : List (T_gather_Got))))) (a_ (a_ (Eq.refl true) tr) (a_ (a_ (a_ (a_ (Eq.refl true) (a_ (Eq.refl 10) (a_ (lt_ 0 10 rfl) (le_ 10 16777216 rfl)))) (a_ (le_sl_gs 2 1 (some 1) rfl) (a_ (sub_lit c_T_miss_Lock default 10 (fun _ => rfl) ([(T_miss_Lock.mk (A8.mk 97 0 0 0 0 0 0 0) 2 ([(T_gather_Got.mk 2 (T_api_Reg.mk 1 1) (T_api_Item.mk 0 [] (T_api_Config.mk 0 0 0 (A8.mk 0 0 0 0 0 0 0 0)))), (T_gather_Got.mk 0 (T_api_Reg.mk 1 1) (T_api_Item.mk 0 [] (T_api_Config.mk 0 0 0 (A8.mk 0 0 0 0 0 0 0 0))))] : List (T_gather_Got)))] : List (T_miss_Lock))) tr))) (a_ (Nat.le_refl (([(T_miss_Lock.mk (A8.mk 97 0 0 0 0 0 0 0) 2 ([(T_gather_Got.mk 2 (T_api_Reg.mk 1 1) (T_api_Item.mk 0 [] (T_api_Config.mk 0 0 0 (A8.mk 0 0 0 0 0 0 0 0)))), (T_gather_Got.mk 0 (T_api_Reg.mk 1 1) (T_api_Item.mk 0 [] (T_api_Config.mk 0 0 0 (A8.mk 0 0 0 0 0 0 0 0))))] : List (T_gather_Got)))] : List (T_miss_Lock))).length) (fz_row (enc := c_T_miss_Lock) (d := default) (fun _ => rfl) ([(T_miss_Lock.mk (A8.mk 97 0 0 0 0 0 0 0) 2 ([(T_gather_Got.mk 2 (T_api_Reg.mk 1 1) (T_api_Item.mk 0 [] (T_api_Config.mk 0 0 0 (A8.mk 0 0 0 0 0 0 0 0)))), (T_gather_Got.mk 0 (T_api_Reg.mk 1 1) (T_api_Item.mk 0 [] (T_api_Config.mk 0 0 0 (A8.mk 0 0 0 0 0 0 0 0))))] : List (T_gather_Got)))] : List (T_miss_Lock))))) (a_ (a_ (a_ (parrellaw20_three_tri  y2 e1) tr) tr) (a_ (a_ (a_ (miss_Plan_tri ([(T_miss_Lock.mk (A8.mk 97 0 0 0 0 0 0 0) 2 ([(T_gather_Got.mk 2 (T_api_Reg.mk 1 1) (T_api_Item.mk 0 [] (T_api_Config.mk 0 0 0 (A8.mk 0 0 0 0 0 0 0 0)))), (T_gather_Got.mk 0 (T_api_Reg.mk 1 1) (T_api_Item.mk 0 [] (T_api_Config.mk 0 0 0 (A8.mk 0 0 0 0 0 0 0 0))))] : List (T_gather_Got)))] : List (T_miss_Lock)) y2 y4 e3) tr) tr) (a_ (a_ tr tr) (a_ (a_ tr tr) (a_ (a_ tr tr) (a_ (a_ tr tr) (a_ (a_ tr tr) (a_ (a_ tr tr) (a_ (a_ tr tr) tr))))))))))))))))) (a_ (a_ (a_ tr tr) (a_ (a_ tr tr) (a_ (a_ tr (a_ (leB c5) tr)) (a_ (a_ tr tr) (a_ (a_ tr tr) (a_ (a_ tr tr) (a_ (a_ tr tr) (a_ (a_ tr (a_ (leB c6) tr)) (a_ tr (a_ tr (a_ tr (a_ tr (a_ tr (a_ (a_ tr tr) (a_ (a_ tr tr) (a_ tr (a_ tr (a_ tr (a_ tr (a_ tr (a_ (a_ tr tr) (a_ (a_ tr tr) (a_ tr (a_ tr (a_ tr (a_ tr (a_ tr (a_ tr (a_ (a_ tr tr) (a_ (a_ tr tr) (a_ tr (a_ tr (a_ tr (a_ (a_ tr tr) (a_ (a_ tr tr) (a_ tr (a_ tr (a_ tr (a_ tr (a_ (a_ tr tr) (a_ (a_ tr tr) tr))))))))))))))))))))))))))))))))))))))))) tr)))) tr) (by kernel_rfl) rfl
  · skip
    obtain rfl := Option.some.inj h
    exact run_ret mixed (L := []) (n := 21) (s := [.reg [], .reg [], .reg [(5, { os := [(1, .gr 16 (([(T_gather_Got.mk 2 (T_api_Reg.mk 1 1) (T_api_Item.mk 0 [] (T_api_Config.mk 0 0 0 (A8.mk 0 0 0 0 0 0 0 0)))), (T_gather_Got.mk 0 (T_api_Reg.mk 1 1) (T_api_Item.mk 0 [] (T_api_Config.mk 0 0 0 (A8.mk 0 0 0 0 0 0 0 0))))] : List (T_gather_Got))).length (rowF c_T_gather_Got default ([(T_gather_Got.mk 2 (T_api_Reg.mk 1 1) (T_api_Item.mk 0 [] (T_api_Config.mk 0 0 0 (A8.mk 0 0 0 0 0 0 0 0)))), (T_gather_Got.mk 0 (T_api_Reg.mk 1 1) (T_api_Item.mk 0 [] (T_api_Config.mk 0 0 0 (A8.mk 0 0 0 0 0 0 0 0))))] : List (T_gather_Got))))], v := some (.gs 1 (([(T_gather_Got.mk 2 (T_api_Reg.mk 1 1) (T_api_Item.mk 0 [] (T_api_Config.mk 0 0 0 (A8.mk 0 0 0 0 0 0 0 0)))), (T_gather_Got.mk 0 (T_api_Reg.mk 1 1) (T_api_Item.mk 0 [] (T_api_Config.mk 0 0 0 (A8.mk 0 0 0 0 0 0 0 0))))] : List (T_gather_Got))).length), fz := true }), (7, { os := [(2, .gr 10 (([(T_miss_Lock.mk (A8.mk 97 0 0 0 0 0 0 0) 2 ([(T_gather_Got.mk 2 (T_api_Reg.mk 1 1) (T_api_Item.mk 0 [] (T_api_Config.mk 0 0 0 (A8.mk 0 0 0 0 0 0 0 0)))), (T_gather_Got.mk 0 (T_api_Reg.mk 1 1) (T_api_Item.mk 0 [] (T_api_Config.mk 0 0 0 (A8.mk 0 0 0 0 0 0 0 0))))] : List (T_gather_Got)))] : List (T_miss_Lock))).length (rowF c_T_miss_Lock default ([(T_miss_Lock.mk (A8.mk 97 0 0 0 0 0 0 0) 2 ([(T_gather_Got.mk 2 (T_api_Reg.mk 1 1) (T_api_Item.mk 0 [] (T_api_Config.mk 0 0 0 (A8.mk 0 0 0 0 0 0 0 0)))), (T_gather_Got.mk 0 (T_api_Reg.mk 1 1) (T_api_Item.mk 0 [] (T_api_Config.mk 0 0 0 (A8.mk 0 0 0 0 0 0 0 0))))] : List (T_gather_Got)))] : List (T_miss_Lock))))], v := some (.gs 2 (([(T_miss_Lock.mk (A8.mk 97 0 0 0 0 0 0 0) 2 ([(T_gather_Got.mk 2 (T_api_Reg.mk 1 1) (T_api_Item.mk 0 [] (T_api_Config.mk 0 0 0 (A8.mk 0 0 0 0 0 0 0 0)))), (T_gather_Got.mk 0 (T_api_Reg.mk 1 1) (T_api_Item.mk 0 [] (T_api_Config.mk 0 0 0 (A8.mk 0 0 0 0 0 0 0 0))))] : List (T_gather_Got)))] : List (T_miss_Lock))).length), fz := true }), (8, { call := some (parrellaw20_three_v y2, [], []) }), (9, { call := some (miss_Plan_v y4, [], []) })], .reg [(2, { v := some (.bool false) })]])
      (a_ (a_ (a_ (a_ tr tr) tr) (a_ (a_ (a_ (Eq.refl true) tr) (a_ (a_ tr tr) (a_ (a_ (a_ (Eq.refl 2) (a_ (le_ 2 2 rfl) (Eq.refl 0))) tr) tr))) (a_ (a_ (a_ (Eq.refl true) tr) (a_ (a_ (a_ tr (le_ 2 2 rfl)) tr) (a_ (a_ (Eq.refl true) tr) (a_ (a_ (a_ tr (le_ 2 2 rfl)) tr) (a_ (a_ (Eq.refl true) tr) (a_ (a_ (a_ (a_ (Eq.refl true) (a_ (Eq.refl 16) (a_ (lt_ 0 16 rfl) (le_ 32 16777216 rfl)))) (a_ (le_sl_gs 1 2 (some 2) rfl) (a_ (sub_lit c_T_gather_Got default 16 (fun _ => rfl) ([(T_gather_Got.mk 2 (T_api_Reg.mk 1 1) (T_api_Item.mk 0 [] (T_api_Config.mk 0 0 0 (A8.mk 0 0 0 0 0 0 0 0)))), (T_gather_Got.mk 0 (T_api_Reg.mk 1 1) (T_api_Item.mk 0 [] (T_api_Config.mk 0 0 0 (A8.mk 0 0 0 0 0 0 0 0))))] : List (T_gather_Got))) tr))) (a_ (Nat.le_refl (([(T_gather_Got.mk 2 (T_api_Reg.mk 1 1) (T_api_Item.mk 0 [] (T_api_Config.mk 0 0 0 (A8.mk 0 0 0 0 0 0 0 0)))), (T_gather_Got.mk 0 (T_api_Reg.mk 1 1) (T_api_Item.mk 0 [] (T_api_Config.mk 0 0 0 (A8.mk 0 0 0 0 0 0 0 0))))] : List (T_gather_Got))).length) (fz_row (enc := c_T_gather_Got) (d := default) (fun _ => rfl) ([(T_gather_Got.mk 2 (T_api_Reg.mk 1 1) (T_api_Item.mk 0 [] (T_api_Config.mk 0 0 0 (A8.mk 0 0 0 0 0 0 0 0)))), (T_gather_Got.mk 0 (T_api_Reg.mk 1 1) (T_api_Item.mk 0 [] (T_api_Config.mk 0 0 0 (A8.mk 0 0 0 0 0 0 0 0))))] : List (T_gather_Got))))) (a_ (a_ (Eq.refl true) tr) (a_ (a_ (a_ (a_ (Eq.refl true) (a_ (Eq.refl 10) (a_ (lt_ 0 10 rfl) (le_ 10 16777216 rfl)))) (a_ (le_sl_gs 2 1 (some 1) rfl) (a_ (sub_lit c_T_miss_Lock default 10 (fun _ => rfl) ([(T_miss_Lock.mk (A8.mk 97 0 0 0 0 0 0 0) 2 ([(T_gather_Got.mk 2 (T_api_Reg.mk 1 1) (T_api_Item.mk 0 [] (T_api_Config.mk 0 0 0 (A8.mk 0 0 0 0 0 0 0 0)))), (T_gather_Got.mk 0 (T_api_Reg.mk 1 1) (T_api_Item.mk 0 [] (T_api_Config.mk 0 0 0 (A8.mk 0 0 0 0 0 0 0 0))))] : List (T_gather_Got)))] : List (T_miss_Lock))) tr))) (a_ (Nat.le_refl (([(T_miss_Lock.mk (A8.mk 97 0 0 0 0 0 0 0) 2 ([(T_gather_Got.mk 2 (T_api_Reg.mk 1 1) (T_api_Item.mk 0 [] (T_api_Config.mk 0 0 0 (A8.mk 0 0 0 0 0 0 0 0)))), (T_gather_Got.mk 0 (T_api_Reg.mk 1 1) (T_api_Item.mk 0 [] (T_api_Config.mk 0 0 0 (A8.mk 0 0 0 0 0 0 0 0))))] : List (T_gather_Got)))] : List (T_miss_Lock))).length) (fz_row (enc := c_T_miss_Lock) (d := default) (fun _ => rfl) ([(T_miss_Lock.mk (A8.mk 97 0 0 0 0 0 0 0) 2 ([(T_gather_Got.mk 2 (T_api_Reg.mk 1 1) (T_api_Item.mk 0 [] (T_api_Config.mk 0 0 0 (A8.mk 0 0 0 0 0 0 0 0)))), (T_gather_Got.mk 0 (T_api_Reg.mk 1 1) (T_api_Item.mk 0 [] (T_api_Config.mk 0 0 0 (A8.mk 0 0 0 0 0 0 0 0))))] : List (T_gather_Got)))] : List (T_miss_Lock))))) (a_ (a_ (a_ (parrellaw20_three_tri  y2 e1) tr) tr) (a_ (a_ (a_ (miss_Plan_tri ([(T_miss_Lock.mk (A8.mk 97 0 0 0 0 0 0 0) 2 ([(T_gather_Got.mk 2 (T_api_Reg.mk 1 1) (T_api_Item.mk 0 [] (T_api_Config.mk 0 0 0 (A8.mk 0 0 0 0 0 0 0 0)))), (T_gather_Got.mk 0 (T_api_Reg.mk 1 1) (T_api_Item.mk 0 [] (T_api_Config.mk 0 0 0 (A8.mk 0 0 0 0 0 0 0 0))))] : List (T_gather_Got)))] : List (T_miss_Lock)) y2 y4 e3) tr) tr) (a_ (a_ tr tr) (a_ (a_ tr tr) (a_ (a_ tr tr) (a_ (a_ tr tr) (a_ (a_ tr tr) (a_ (a_ tr tr) (a_ (a_ tr tr) tr))))))))))))))))) (a_ (a_ (a_ tr tr) (a_ (a_ tr tr) (a_ (a_ tr (a_ (leB c5) tr)) (a_ tr (a_ tr (a_ tr (a_ (a_ tr tr) (a_ (a_ tr tr) (a_ tr (a_ tr (a_ tr (a_ tr (a_ tr (a_ (a_ tr tr) (a_ (a_ tr tr) (a_ tr (a_ tr (a_ tr (a_ tr (a_ tr (a_ (a_ tr tr) (a_ (a_ tr tr) (a_ tr (a_ tr (a_ tr (a_ tr (a_ tr (a_ tr (a_ (a_ tr tr) (a_ (a_ tr tr) (a_ tr (a_ tr (a_ tr (a_ (a_ tr tr) (a_ (a_ tr tr) (a_ tr (a_ tr (a_ tr (a_ tr (a_ (a_ tr tr) (a_ (a_ tr tr) tr))))))))))))))))))))))))))))))))))))))))) tr)))) tr) (by kernel_rfl) rfl

theorem parrellaw20_alive_tri  (r : (Bool)) (h : parrellaw20_alive  = some r) : FnTri Tryd.prog 8 [] [] (parrellaw20_alive_v r) [] := FnTri.none (parrellaw20_alive_ok  r h) rfl rfl

/-- parrel/parrellaw20.theirs -/

def parrellaw20_theirs_v (r : (List (T_miss_Lock))) : LV := .ds 10 (r).length (rowF c_T_miss_Lock default r)

def parrellaw20_theirs_T1 (l : List (T_parrelref20_Lock)) (t11 : Int) (l2 : List (T_miss_Lock)) (t23 : Int) (l3 : List (T_gather_Got)) : List LV := [.any, .any, .any, .gs 0 (l2).length, .any, .any, .ptr 1 0 0, .any, .any, .ds 10 (l).length (rowF c_T_parrelref20_Lock default l), .int .i64 ((l).length : Int), .int .i64 t11, .any, .any, .any, .any, .any, .any, .any, .any, .any, .ds 16 ((l.getD t11.toNat default).f_Got).length (rowF c_T_parrelref19_Got default (l.getD t11.toNat default).f_Got), .int .i64 (((l.getD t11.toNat default).f_Got).length : Int), .int .i64 t23, .any, .any, .any, .any, .any, .any, .any, .any, .any, .any, .any, .any, .any, .any, .any, .any, .any, .any, .any, .any, .any, .any]

def parrellaw20_theirs_H1 (l : List (T_parrelref20_Lock)) (t11 : Int) (l2 : List (T_miss_Lock)) (t23 : Int) (l3 : List (T_gather_Got)) : Heap := [some (.gr 10 (l2).length (rowF c_T_miss_Lock default l2)), some (.var [.int .u8 (l.getD t11.toNat default).f_Key.a0, .int .u8 (l.getD t11.toNat default).f_Key.a1, .int .u8 (l.getD t11.toNat default).f_Key.a2, .int .u8 (l.getD t11.toNat default).f_Key.a3, .int .u8 (l.getD t11.toNat default).f_Key.a4, .int .u8 (l.getD t11.toNat default).f_Key.a5, .int .u8 (l.getD t11.toNat default).f_Key.a6, .int .u8 (l.getD t11.toNat default).f_Key.a7, .int .u8 (l.getD t11.toNat default).f_Mode, .gs 2 (l3).length]), some (.gr 16 (l3).length (rowF c_T_gather_Got default l3))]

def parrellaw20_theirs_T0 (l : List (T_parrelref20_Lock)) (t11 : Int) (l2 : List (T_miss_Lock)) : List LV := [.any, .any, .any, .gs 0 (l2).length, .any, .any, .any, .any, .any, .ds 10 (l).length (rowF c_T_parrelref20_Lock default l), .int .i64 ((l).length : Int), .int .i64 t11, .any, .any, .any, .any, .any, .any, .any, .any, .any, .any, .any, .any, .any, .any, .any, .any, .any, .any, .any, .any, .any, .any, .any, .any, .any, .any, .any, .any, .any, .any, .any, .any, .any, .any]

def parrellaw20_theirs_H0 (l : List (T_parrelref20_Lock)) (t11 : Int) (l2 : List (T_miss_Lock)) : Heap := [some (.gr 10 (l2).length (rowF c_T_miss_Lock default l2))]

def parrellaw20_theirs_l1 (l : List (T_parrelref20_Lock)) (t11 : Int) (l2 : List (T_miss_Lock)) (k0 : (Int) → (List (T_miss_Lock)) → Option ((List (T_miss_Lock)))) : Nat → (Int) → (List (T_gather_Got)) → Option ((List (T_miss_Lock)))
  | 0, _, _ => none
  | fuel + 1, t23, l3 =>
    if ((decide (t23 < (((l.getD t11.toNat default).f_Got).length : Int))) : Bool) then
      if 0 ≤ t23 ∧ t23 < ((((l.getD t11.toNat default).f_Got).length : Nat) : Int) then
      if ((l3).length + (([(T_gather_Got.mk ((l.getD t11.toNat default).f_Got.getD t23.toNat default).f_Node ((l.getD t11.toNat default).f_Got.getD t23.toNat default).f_Reg ((l.getD t11.toNat default).f_Got.getD t23.toNat default).f_Item)] : List (T_gather_Got))).length) * 56 ≤ 140737488351232 then
      parrellaw20_theirs_l1 l t11 l2 k0 fuel (IntKind.wrap .i64 (t23 + 1)) (l3 ++ ([(T_gather_Got.mk ((l.getD t11.toNat default).f_Got.getD t23.toNat default).f_Node ((l.getD t11.toNat default).f_Got.getD t23.toNat default).f_Reg ((l.getD t11.toNat default).f_Got.getD t23.toNat default).f_Item)] : List (T_gather_Got)))
      else none
      else none
    else
      if ((l2).length + (([(T_miss_Lock.mk (l.getD t11.toNat default).f_Key (l.getD t11.toNat default).f_Mode l3)] : List (T_miss_Lock))).length) * 40 ≤ 140737488351232 then
      k0 (IntKind.wrap .i64 (t11 + 1)) (l2 ++ ([(T_miss_Lock.mk (l.getD t11.toNat default).f_Key (l.getD t11.toNat default).f_Mode l3)] : List (T_miss_Lock)))
      else none

def parrellaw20_theirs_l0 (l : List (T_parrelref20_Lock))  : Nat → (Int) → (List (T_miss_Lock)) → Option ((List (T_miss_Lock)))
  | 0, _, _ => none
  | fuel + 1, t11, l2 =>
    if ((decide (t11 < ((l).length : Int))) : Bool) then
      if 0 ≤ t11 ∧ t11 < (((l).length : Nat) : Int) then
      parrellaw20_theirs_l1 l t11 l2 (parrellaw20_theirs_l0 l  fuel) big 0 ([] : List (T_gather_Got))
      else none
    else
      some l2

def parrellaw20_theirs (l : List (T_parrelref20_Lock)) : Option ((List (T_miss_Lock))) :=
  parrellaw20_theirs_l0 l  big 0 ([] : List (T_miss_Lock))

theorem parrellaw20_theirs_l1_ok {w0 : World} {W : Nat → Prop} {μ0 : Emb} (hμ : ∀ c p, μ0 c = some p → c < 0) (l : List (T_parrelref20_Lock)) (t11 : Int) (l2 : List (T_miss_Lock)) (k0 : (Int) → (List (T_miss_Lock)) → Option ((List (T_miss_Lock)))) (hk0 : ∀ (t11 : Int) (l2 : List (T_miss_Lock)) (r : (List (T_miss_Lock))), k0 t11 l2 = some r → kont Tryd.prog w0 W μ0 (FnPost Tryd.prog Tryd.f10 0 0 (parrellaw20_theirs_v r) []) (kAt (bodyOf Tryd.f10) 0) none (parrellaw20_theirs_T0 l t11 l2) (parrellaw20_theirs_H0 l t11 l2)) : ∀ (fuel : Nat) (t23 : Int) (l3 : List (T_gather_Got)) (r : (List (T_miss_Lock))), parrellaw20_theirs_l1 l t11 l2 k0 fuel t23 l3 = some r → kont Tryd.prog w0 W μ0 (FnPost Tryd.prog Tryd.f10 0 0 (parrellaw20_theirs_v r) []) (kAt (bodyOf Tryd.f10) 1) none (parrellaw20_theirs_T1 l t11 l2 t23 l3) (parrellaw20_theirs_H1 l t11 l2 t23 l3) := by
  intro fuel
  induction fuel with
  | zero => intro t23 l3 r h; rw [parrellaw20_theirs_l1] at h; cases h
  | succ fuel ih =>
    intro t23 l3 r h
    rw [parrellaw20_theirs_l1] at h
    rcases itb_some h with ⟨cL1_1, h⟩ | ⟨cL1_1, h⟩
    · skip
      obtain ⟨gL1_2, h⟩ := guard_some h
      obtain ⟨gL1_3, h⟩ := guard_some h
      exact run_to mixed hμ (L := [0, 1, 5]) (n := 26) (s := [.go, .reg [(0, { v := some (.bool true) })], .reg [], .reg [(9, { os := [(4, .gr 16 (([(T_gather_Got.mk ((l.getD t11.toNat default).f_Got.getD t23.toNat default).f_Node ((l.getD t11.toNat default).f_Got.getD t23.toNat default).f_Reg ((l.getD t11.toNat default).f_Got.getD t23.toNat default).f_Item)] : List (T_gather_Got))).length (rowF c_T_gather_Got default ([(T_gather_Got.mk ((l.getD t11.toNat default).f_Got.getD t23.toNat default).f_Node ((l.getD t11.toNat default).f_Got.getD t23.toNat default).f_Reg ((l.getD t11.toNat default).f_Got.getD t23.toNat default).f_Item)] : List (T_gather_Got))))], v := some (.gs 4 (([(T_gather_Got.mk ((l.getD t11.toNat default).f_Got.getD t23.toNat default).f_Node ((l.getD t11.toNat default).f_Got.getD t23.toNat default).f_Reg ((l.getD t11.toNat default).f_Got.getD t23.toNat default).f_Item)] : List (T_gather_Got))).length) }), (10, { app := 3, os := [(5, .gr 16 ((l3 ++ ([(T_gather_Got.mk ((l.getD t11.toNat default).f_Got.getD t23.toNat default).f_Node ((l.getD t11.toNat default).f_Got.getD t23.toNat default).f_Reg ((l.getD t11.toNat default).f_Got.getD t23.toNat default).f_Item)] : List (T_gather_Got)))).length (rowF c_T_gather_Got default (l3 ++ ([(T_gather_Got.mk ((l.getD t11.toNat default).f_Got.getD t23.toNat default).f_Node ((l.getD t11.toNat default).f_Got.getD t23.toNat default).f_Reg ((l.getD t11.toNat default).f_Got.getD t23.toNat default).f_Item)] : List (T_gather_Got)))))], v := some (.gs 5 ((l3 ++ ([(T_gather_Got.mk ((l.getD t11.toNat default).f_Got.getD t23.toNat default).f_Node ((l.getD t11.toNat default).f_Got.getD t23.toNat default).f_Reg ((l.getD t11.toNat default).f_Got.getD t23.toNat default).f_Item)] : List (T_gather_Got)))).length) })], .reg []])
        (a_ (a_ (a_ tr (a_ (leB cL1_1) tr)) tr) (a_ (a_ (a_ (a_ (Eq.refl 16) gL1_2) tr) (a_ (a_ (le_ 16 16 rfl) tr) (a_ (a_ tr tr) (a_ (a_ (a_ (Eq.refl 16) (a_ (le_ 16 16 rfl) (Eq.refl 0))) tr) tr)))) (a_ (a_ (a_ tr tr) (a_ (a_ (a_ tr (lt_ 9 10 rfl)) tr) (a_ (a_ tr tr) (a_ (a_ (a_ tr (lt_ 0 16 rfl)) tr) (a_ (a_ tr tr) (a_ (a_ (a_ tr (le_ 3 16 rfl)) tr) (a_ (a_ tr tr) (a_ (a_ (a_ tr (le_ 16 16 rfl)) tr) (a_ (a_ (Eq.refl true) tr) (a_ (a_ (a_ (Eq.refl true) (a_ (Eq.refl 16) (a_ (lt_ 0 16 rfl) (le_ 16 16777216 rfl)))) (a_ (le_sl_gs 4 1 (some 1) rfl) (a_ (sub_lit c_T_gather_Got default 16 (fun _ => rfl) ([(T_gather_Got.mk ((l.getD t11.toNat default).f_Got.getD t23.toNat default).f_Node ((l.getD t11.toNat default).f_Got.getD t23.toNat default).f_Reg ((l.getD t11.toNat default).f_Got.getD t23.toNat default).f_Item)] : List (T_gather_Got))) tr))) (a_ (a_ (a_ (a_ (Eq.refl 16) (Nat.le_refl (([(T_gather_Got.mk ((l.getD t11.toNat default).f_Got.getD t23.toNat default).f_Node ((l.getD t11.toNat default).f_Got.getD t23.toNat default).f_Reg ((l.getD t11.toNat default).f_Got.getD t23.toNat default).f_Item)] : List (T_gather_Got))).length)) (a_ (a_ (lt_ 0 16 rfl) (a_ (lt_ 0 56 rfl) (a_ gL1_3 (a_ (Eq.refl 16) (Eq.refl true))))) (a_ (Eq.refl 16) (Nat.le_refl (l3).length)))) (a_ (le_gs_app 5 l3 ([(T_gather_Got.mk ((l.getD t11.toNat default).f_Got.getD t23.toNat default).f_Node ((l.getD t11.toNat default).f_Got.getD t23.toNat default).f_Reg ((l.getD t11.toNat default).f_Got.getD t23.toNat default).f_Item)] : List (T_gather_Got))) (a_ (sub_app c_T_gather_Got default 16 l3 ([(T_gather_Got.mk ((l.getD t11.toNat default).f_Got.getD t23.toNat default).f_Node ((l.getD t11.toNat default).f_Got.getD t23.toNat default).f_Reg ((l.getD t11.toNat default).f_Got.getD t23.toNat default).f_Item)] : List (T_gather_Got))) tr))) (a_ (a_ tr tr) (a_ (a_ (a_ (Eq.refl 1) (a_ (le_ 10 10 rfl) (Eq.refl 0))) tr) tr))))))))))))) (a_ (a_ (a_ tr tr) (a_ (a_ tr tr) tr)) tr)))) (ih _ _ r h) (by kernel_rfl) ⟨fun _ _ => rfl, rfl, fun _ _ => rfl, trivial⟩
    · skip
      obtain ⟨gL1_2, h⟩ := guard_some h
      exact run_to mixed hμ (L := [4]) (n := 22) (s := [.go, .reg [(0, { v := some (.bool false) })], .frz 2, .reg [(2, { os := [(3, .gr 10 (([(T_miss_Lock.mk (l.getD t11.toNat default).f_Key (l.getD t11.toNat default).f_Mode l3)] : List (T_miss_Lock))).length (rowF c_T_miss_Lock default ([(T_miss_Lock.mk (l.getD t11.toNat default).f_Key (l.getD t11.toNat default).f_Mode l3)] : List (T_miss_Lock))))], v := some (.gs 3 (([(T_miss_Lock.mk (l.getD t11.toNat default).f_Key (l.getD t11.toNat default).f_Mode l3)] : List (T_miss_Lock))).length) }), (3, { app := 3, os := [(4, .gr 10 ((l2 ++ ([(T_miss_Lock.mk (l.getD t11.toNat default).f_Key (l.getD t11.toNat default).f_Mode l3)] : List (T_miss_Lock)))).length (rowF c_T_miss_Lock default (l2 ++ ([(T_miss_Lock.mk (l.getD t11.toNat default).f_Key (l.getD t11.toNat default).f_Mode l3)] : List (T_miss_Lock)))))], v := some (.gs 4 ((l2 ++ ([(T_miss_Lock.mk (l.getD t11.toNat default).f_Key (l.getD t11.toNat default).f_Mode l3)] : List (T_miss_Lock)))).length) })], .reg []])
        (a_ (a_ (a_ tr (a_ (leB cL1_1) tr)) tr) (a_ (a_ (fz_row (enc := c_T_gather_Got) (d := default) (fun _ => rfl) l3) (a_ (Nat.le_refl (l3).length) tr)) (a_ (a_ (a_ tr tr) (a_ (a_ (a_ tr (le_ 10 10 rfl)) tr) (a_ (a_ (a_ (Eq.refl true) (a_ (Eq.refl 10) (a_ (lt_ 0 10 rfl) (le_ 10 16777216 rfl)))) (a_ (le_sl_gs 3 1 (some 1) rfl) (a_ (sub_lit c_T_miss_Lock default 10 (fun _ => rfl) ([(T_miss_Lock.mk (l.getD t11.toNat default).f_Key (l.getD t11.toNat default).f_Mode l3)] : List (T_miss_Lock))) tr))) (a_ (a_ (a_ (a_ (Eq.refl 10) (Nat.le_refl (([(T_miss_Lock.mk (l.getD t11.toNat default).f_Key (l.getD t11.toNat default).f_Mode l3)] : List (T_miss_Lock))).length)) (a_ (a_ (lt_ 0 10 rfl) (a_ (lt_ 0 40 rfl) (a_ gL1_2 (a_ (Eq.refl 10) (Eq.refl true))))) (a_ (Eq.refl 10) (Nat.le_refl (l2).length)))) (a_ (le_gs_app 4 l2 ([(T_miss_Lock.mk (l.getD t11.toNat default).f_Key (l.getD t11.toNat default).f_Mode l3)] : List (T_miss_Lock))) (a_ (sub_app c_T_miss_Lock default 10 l2 ([(T_miss_Lock.mk (l.getD t11.toNat default).f_Key (l.getD t11.toNat default).f_Mode l3)] : List (T_miss_Lock))) tr))) (a_ (a_ tr tr) tr))))) (a_ (a_ (a_ tr tr) (a_ (a_ tr tr) tr)) tr)))) (hk0 _ _ r h) (by kernel_rfl) ⟨fun _ _ => rfl, trivial⟩

theorem parrellaw20_theirs_l0_ok {w0 : World} {W : Nat → Prop} {μ0 : Emb} (hμ : ∀ c p, μ0 c = some p → c < 0) (l : List (T_parrelref20_Lock))  : ∀ (fuel : Nat) (t11 : Int) (l2 : List (T_miss_Lock)) (r : (List (T_miss_Lock))), parrellaw20_theirs_l0 l  fuel t11 l2 = some r → kont Tryd.prog w0 W μ0 (FnPost Tryd.prog Tryd.f10 0 0 (parrellaw20_theirs_v r) []) (kAt (bodyOf Tryd.f10) 0) none (parrellaw20_theirs_T0 l t11 l2) (parrellaw20_theirs_H0 l t11 l2) := by
  intro fuel
  induction fuel with
  | zero => intro t11 l2 r h; rw [parrellaw20_theirs_l0] at h; cases h
  | succ fuel ih =>
    intro t11 l2 r h
    rw [parrellaw20_theirs_l0] at h
    rcases itb_some h with ⟨cL0_1, h⟩ | ⟨cL0_1, h⟩
    · skip
      obtain ⟨gL0_2, h⟩ := guard_some h
      exact run_to mixed hμ (L := [0, 4, 3]) (n := 32) (s := [.go, .reg [(0, { v := some (.bool true) })], .reg [], .void (.gr 16 (([] : List (T_gather_Got))).length (rowF c_T_gather_Got default ([] : List (T_gather_Got)))), .void (.gr 16 (([] : List (T_gather_Got))).length (rowF c_T_gather_Got default ([] : List (T_gather_Got)))), .reg [(5, { os := [(4, .var [.int .u8 0, .int .u8 0, .int .u8 0, .int .u8 0, .int .u8 0, .int .u8 0, .int .u8 0, .int .u8 0, .int .u8 0, .gs 2 (([] : List (T_gather_Got))).length])] }), (6, { os := [(4, .var [.int .u8 (l.getD t11.toNat default).f_Key.a0, .int .u8 (l.getD t11.toNat default).f_Key.a1, .int .u8 (l.getD t11.toNat default).f_Key.a2, .int .u8 (l.getD t11.toNat default).f_Key.a3, .int .u8 (l.getD t11.toNat default).f_Key.a4, .int .u8 (l.getD t11.toNat default).f_Key.a5, .int .u8 (l.getD t11.toNat default).f_Key.a6, .int .u8 (l.getD t11.toNat default).f_Key.a7, .int .u8 (l.getD t11.toNat default).f_Mode, .gs 3 (([] : List (T_gather_Got))).length])] })], .reg []])
        (a_ (a_ (a_ tr (a_ (leB cL0_1) tr)) tr) (a_ (a_ (a_ (a_ (Eq.refl 10) gL0_2) tr) (a_ (a_ (le_ 10 10 rfl) tr) (a_ (a_ tr tr) (a_ (a_ (a_ (Eq.refl 10) (a_ (le_ 10 10 rfl) (Eq.refl 0))) tr) tr)))) (a_ (Eq.refl 0) (a_ (Eq.refl 0) (a_ (a_ (a_ tr tr) (a_ (a_ (a_ tr (le_ 8 10 rfl)) tr) (a_ (a_ tr tr) (a_ (a_ (a_ tr (lt_ 8 10 rfl)) tr) (a_ (a_ (Eq.refl true) tr) (a_ (a_ tr (a_ (LO.Sub.var (a := [.int .u8 0, .int .u8 0, .int .u8 0, .int .u8 0, .int .u8 0, .int .u8 0, .int .u8 0, .int .u8 0, .int .u8 0, .nilsl]) (b := [.int .u8 0, .int .u8 0, .int .u8 0, .int .u8 0, .int .u8 0, .int .u8 0, .int .u8 0, .int .u8 0, .int .u8 0, .gs 2 (([] : List (T_gather_Got))).length]) (a_ (LV.Le.refl (.int .u8 0)) (a_ (LV.Le.refl (.int .u8 0)) (a_ (LV.Le.refl (.int .u8 0)) (a_ (LV.Le.refl (.int .u8 0)) (a_ (LV.Le.refl (.int .u8 0)) (a_ (LV.Le.refl (.int .u8 0)) (a_ (LV.Le.refl (.int .u8 0)) (a_ (LV.Le.refl (.int .u8 0)) (a_ (LV.Le.refl (.int .u8 0)) (a_ (le_nil_gs 2) tr))))))))))) tr)) (a_ (a_ (a_ (Eq.refl 10) (a_ (le_ 10 10 rfl) (Eq.refl 0))) (a_ (LO.Sub.var (a := [.int .u8 (l.getD t11.toNat default).f_Key.a0, .int .u8 (l.getD t11.toNat default).f_Key.a1, .int .u8 (l.getD t11.toNat default).f_Key.a2, .int .u8 (l.getD t11.toNat default).f_Key.a3, .int .u8 (l.getD t11.toNat default).f_Key.a4, .int .u8 (l.getD t11.toNat default).f_Key.a5, .int .u8 (l.getD t11.toNat default).f_Key.a6, .int .u8 (l.getD t11.toNat default).f_Key.a7, .int .u8 (l.getD t11.toNat default).f_Mode, .nilsl]) (b := [.int .u8 (l.getD t11.toNat default).f_Key.a0, .int .u8 (l.getD t11.toNat default).f_Key.a1, .int .u8 (l.getD t11.toNat default).f_Key.a2, .int .u8 (l.getD t11.toNat default).f_Key.a3, .int .u8 (l.getD t11.toNat default).f_Key.a4, .int .u8 (l.getD t11.toNat default).f_Key.a5, .int .u8 (l.getD t11.toNat default).f_Key.a6, .int .u8 (l.getD t11.toNat default).f_Key.a7, .int .u8 (l.getD t11.toNat default).f_Mode, .gs 3 (([] : List (T_gather_Got))).length]) (a_ (LV.Le.refl (.int .u8 (l.getD t11.toNat default).f_Key.a0)) (a_ (LV.Le.refl (.int .u8 (l.getD t11.toNat default).f_Key.a1)) (a_ (LV.Le.refl (.int .u8 (l.getD t11.toNat default).f_Key.a2)) (a_ (LV.Le.refl (.int .u8 (l.getD t11.toNat default).f_Key.a3)) (a_ (LV.Le.refl (.int .u8 (l.getD t11.toNat default).f_Key.a4)) (a_ (LV.Le.refl (.int .u8 (l.getD t11.toNat default).f_Key.a5)) (a_ (LV.Le.refl (.int .u8 (l.getD t11.toNat default).f_Key.a6)) (a_ (LV.Le.refl (.int .u8 (l.getD t11.toNat default).f_Key.a7)) (a_ (LV.Le.refl (.int .u8 (l.getD t11.toNat default).f_Mode)) (a_ (le_nil_gs 3) tr))))))))))) tr)) tr))))))) (a_ (a_ (a_ tr tr) (a_ (a_ (a_ tr (lt_ 9 10 rfl)) tr) (a_ (a_ tr tr) (a_ (a_ tr tr) tr)))) tr)))))) (parrellaw20_theirs_l1_ok hμ l t11 l2 (parrellaw20_theirs_l0 l  fuel) (fun t11 l2 r h => ih t11 l2 r h) big _ _ r h) (by kernel_rfl) ⟨fun _ _ => rfl, rfl, fun _ _ => rfl, trivial⟩
    · skip
      obtain rfl := Option.some.inj h
      exact run_ret mixed (L := []) (n := 20) (s := [.go, .reg [(0, { v := some (.bool false) })], .reg [], .frz 0])
        (a_ (a_ (a_ (a_ tr (a_ (leB cL0_1) tr)) tr) (a_ (a_ (a_ tr tr) (a_ (a_ tr tr) tr)) (a_ (a_ (fz_row (enc := c_T_miss_Lock) (d := default) (fun _ => rfl) l2) (a_ (Nat.le_refl (l2).length) (a_ (Nat.le_refl (l2).length) (a_ (Nat.le_refl (l2).length) tr)))) tr))) tr) (by kernel_rfl) rfl

theorem parrellaw20_theirs_ok (l : List (T_parrelref20_Lock)) (r : (List (T_miss_Lock))) (h : parrellaw20_theirs l = some r) : ∀ σ, Inj 0 σ → FnTri Tryd.prog 10 (renL σ [.ds 10 (l).length (rowF c_T_parrelref20_Lock default l)]) (preOf σ 0 []) ((parrellaw20_theirs_v r).ren σ) (upOf σ []) := by
  refine fn_of Tryd.func10 (by kernel_rfl) (by kernel_rfl) (by kernel_rfl) trivial (by kernel_rfl) trivial (by kernel_rfl) ?_
  intro w0 W μ0 hμ
  unfold parrellaw20_theirs at h
  exact run_to mixed hμ (L := [0]) (n := 22) (s := [.reg [(0, { v := some (.ds 10 (([] : List (T_miss_Lock))).length (rowF c_T_miss_Lock default ([] : List (T_miss_Lock)))) })], .void (.gr 10 (([] : List (T_miss_Lock))).length (rowF c_T_miss_Lock default ([] : List (T_miss_Lock)))), .reg [(0, { v := some (.gs 0 (([] : List (T_miss_Lock))).length) })], .reg []])
    (a_ (a_ (a_ tr (a_ (le_nil_ds 10 (rowF c_T_miss_Lock default [])) tr)) tr) (a_ (Eq.refl 0) (a_ (a_ (a_ tr (a_ (le_nil_gs 0) tr)) tr) (a_ (a_ (a_ tr tr) (a_ (a_ tr tr) (a_ (a_ tr tr) tr))) tr)))) (parrellaw20_theirs_l0_ok hμ l  big _ _ r h) (by kernel_rfl) ⟨fun _ _ => rfl, trivial⟩

theorem parrellaw20_theirs_tri (l : List (T_parrelref20_Lock)) (r : (List (T_miss_Lock))) (h : parrellaw20_theirs l = some r) : FnTri Tryd.prog 10 [.ds 10 (l).length (rowF c_T_parrelref20_Lock default l)] [] (parrellaw20_theirs_v r) [] := FnTri.none (parrellaw20_theirs_ok l r h) rfl rfl

/-- parrel/parrelref05.Name -/

def parrelref05_Name_v (r : (List UInt8) × (Bool)) : LV := .tup [.str r.1, .bool r.2]

def parrelref05_Name_T1 (x_k : A8 (Int)) (x_n : Int) (i : Int) : List LV := [.any, .ptr 0 0 0, .any, .any, .int .i64 x_n, .int .i64 i, .any, .any, .any, .any, .any, .any, .any, .any, .any, .any, .any, .any, .any, .any, .any, .any, .any, .any, .any, .any, .any, .any, .any, .any]

def parrelref05_Name_H1 (x_k : A8 (Int)) (x_n : Int) (i : Int) : Heap := [some (.var [.int .u8 x_k.a0, .int .u8 x_k.a1, .int .u8 x_k.a2, .int .u8 x_k.a3, .int .u8 x_k.a4, .int .u8 x_k.a5, .int .u8 x_k.a6, .int .u8 x_k.a7])]

def parrelref05_Name_T0 (x_k : A8 (Int)) (x_n : Int) : List LV := [.any, .ptr 0 0 0, .any, .any, .int .i64 x_n, .any, .any, .any, .any, .any, .any, .any, .any, .any, .any, .any, .any, .any, .any, .any, .any, .any, .any, .any, .any, .any, .any, .any, .any, .any]

def parrelref05_Name_H0 (x_k : A8 (Int)) (x_n : Int) : Heap := [some (.var [.int .u8 x_k.a0, .int .u8 x_k.a1, .int .u8 x_k.a2, .int .u8 x_k.a3, .int .u8 x_k.a4, .int .u8 x_k.a5, .int .u8 x_k.a6, .int .u8 x_k.a7])]

def parrelref05_Name_l1 (x_k : A8 (Int)) (x_n : Int)  : Nat → (Int) → Option ((List UInt8) × (Bool))
  | 0, _ => none
  | fuel + 1, i =>
    if ((decide (i < 8)) : Bool) then
      if 0 ≤ i ∧ i < 8 then
      if (((A8.get x_k i.toNat) != 0) : Bool) then
        some ([], false)
      else
        parrelref05_Name_l1 x_k x_n  fuel (IntKind.wrap .i64 (i + 1))
      else none
    else
      if ((x_n == 0) : Bool) then
        some ([], false)
      else
        if 0 ≤ (0 : Int) ∧ 0 ≤ x_n ∧ x_n ≤ 8 then
        some ((strI (([x_k.a0, x_k.a1, x_k.a2, x_k.a3, x_k.a4, x_k.a5, x_k.a6, x_k.a7] : List Int).take (x_n.toNat))), true)
        else none

def parrelref05_Name_l0 (x_k : A8 (Int))  : Nat → (Int) → Option ((List UInt8) × (Bool))
  | 0, _ => none
  | fuel + 1, x_n =>
    if ((decide (x_n < 8)) : Bool) then
      if 0 ≤ x_n ∧ x_n < 8 then
      if (((A8.get x_k x_n.toNat) != 0) : Bool) then
        parrelref05_Name_l0 x_k  fuel (IntKind.wrap .i64 (x_n + 1))
      else
        parrelref05_Name_l1 x_k x_n  big x_n
      else none
    else
      parrelref05_Name_l1 x_k x_n  big x_n

def parrelref05_Name (x_k : A8 (Int)) : Option ((List UInt8) × (Bool)) :=
  parrelref05_Name_l0 x_k  big 0

theorem parrelref05_Name_l1_ok {w0 : World} {W : Nat → Prop} {μ0 : Emb} (hμ : ∀ c p, μ0 c = some p → c < 0) (x_k : A8 (Int)) (x_n : Int)  : ∀ (fuel : Nat) (i : Int) (r : (List UInt8) × (Bool)), parrelref05_Name_l1 x_k x_n  fuel i = some r → kont Tryd.prog w0 W μ0 (FnPost Tryd.prog Tryd.f56 0 0 (parrelref05_Name_v r) []) (kAt (bodyOf Tryd.f56) 1) none (parrelref05_Name_T1 x_k x_n i) (parrelref05_Name_H1 x_k x_n i) := by
  intro fuel
  induction fuel with
  | zero => intro i r h; rw [parrelref05_Name_l1] at h; cases h
  | succ fuel ih =>
    intro i r h
    rw [parrelref05_Name_l1] at h
    rcases itb_some h with ⟨cL1_1, h⟩ | ⟨cL1_1, h⟩
    · skip
      obtain ⟨gL1_2, h⟩ := guard_some h
      rcases itb_some h with ⟨cL1_3, h⟩ | ⟨cL1_3, h⟩
      · skip
        obtain rfl := Option.some.inj h
        exact run_ret mixed (L := []) (n := 25) (s := [.go, .reg [(1, { v := some (.bool true) })], .reg [(2, { v := some (.int .u8 (A8.get x_k i.toNat)) }), (3, { v := some (.bool true) })], .reg []])
          (a_ (a_ (a_ (a_ tr tr) (a_ (a_ tr (a_ (leB cL1_1) tr)) tr)) (a_ (a_ (a_ tr tr) (a_ (a_ gL1_2 tr) (a_ (a_ (a_ tr (arrLt (len := 8) gL1_2 0 1 8 rfl rfl)) (a_ (ld8s (cInt .u8) 1 (fun _ => rfl) x_k [] [] 0 rfl i.toNat (lt8N gL1_2) (le_ (0 + 1) 1 rfl)) tr)) (a_ (a_ tr (a_ (leB cL1_3) tr)) tr)))) (a_ (a_ (a_ tr tr) (a_ (a_ tr tr) tr)) tr))) tr) (by kernel_rfl) rfl
      · skip
        exact run_to mixed hμ (L := [0]) (n := 26) (s := [.go, .reg [(1, { v := some (.bool true) })], .reg [(2, { v := some (.int .u8 (A8.get x_k i.toNat)) }), (3, { v := some (.bool false) })], .reg []])
          (a_ (a_ (a_ tr tr) (a_ (a_ tr (a_ (leB cL1_1) tr)) tr)) (a_ (a_ (a_ tr tr) (a_ (a_ gL1_2 tr) (a_ (a_ (a_ tr (arrLt (len := 8) gL1_2 0 1 8 rfl rfl)) (a_ (ld8s (cInt .u8) 1 (fun _ => rfl) x_k [] [] 0 rfl i.toNat (lt8N gL1_2) (le_ (0 + 1) 1 rfl)) tr)) (a_ (a_ tr (a_ (leB cL1_3) tr)) tr)))) (a_ (a_ (a_ tr tr) (a_ (a_ tr tr) (a_ (a_ tr tr) tr))) tr))) (ih _ r h) (by kernel_rfl) ⟨rfl, trivial⟩
    · skip
      rcases itb_some h with ⟨cL1_2, h⟩ | ⟨cL1_2, h⟩
      · skip
        obtain rfl := Option.some.inj h
        exact run_ret mixed (L := []) (n := 24) (s := [.go, .reg [(1, { v := some (.bool false) })], .reg [(1, { v := some (.bool true) })], .reg []])
          (a_ (a_ (a_ (a_ tr tr) (a_ (a_ tr (a_ (leB cL1_1) tr)) tr)) (a_ (a_ (a_ tr tr) (a_ (a_ tr (a_ (leB cL1_2) tr)) tr)) (a_ (a_ (a_ tr tr) (a_ (a_ tr tr) tr)) tr))) tr) (by kernel_rfl) rfl
      · skip
        obtain ⟨gL1_3, h⟩ := guard_some h
        obtain rfl := Option.some.inj h
        exact run_ret mixed (L := []) (n := 25) (s := [.go, .reg [(1, { v := some (.bool false) })], .reg [(1, { v := some (.bool false) })], .reg [(2, { v := some (.str (strI (([x_k.a0, x_k.a1, x_k.a2, x_k.a3, x_k.a4, x_k.a5, x_k.a6, x_k.a7] : List Int).take (x_n.toNat)))) })]])
          (a_ (a_ (a_ (a_ tr tr) (a_ (a_ tr (a_ (leB cL1_1) tr)) tr)) (a_ (a_ (a_ tr tr) (a_ (a_ tr (a_ (leB cL1_2) tr)) tr)) (a_ (a_ (a_ tr tr) (a_ (a_ gL1_3 tr) (a_ (a_ (arr_ob [x_k.a0, x_k.a1, x_k.a2, x_k.a3, x_k.a4, x_k.a5, x_k.a6, x_k.a7] (x_n.toNat) 8 (toN_le (n := 8) gL1_3.2.2) rfl) (a_ (le_arr [x_k.a0, x_k.a1, x_k.a2, x_k.a3, x_k.a4, x_k.a5, x_k.a6, x_k.a7] (x_n.toNat) 8 (toN_le (n := 8) gL1_3.2.2) rfl) tr)) (a_ (a_ tr tr) (a_ (a_ tr tr) tr))))) tr))) tr) (by kernel_rfl) rfl

theorem parrelref05_Name_l0_ok {w0 : World} {W : Nat → Prop} {μ0 : Emb} (hμ : ∀ c p, μ0 c = some p → c < 0) (x_k : A8 (Int))  : ∀ (fuel : Nat) (x_n : Int) (r : (List UInt8) × (Bool)), parrelref05_Name_l0 x_k  fuel x_n = some r → kont Tryd.prog w0 W μ0 (FnPost Tryd.prog Tryd.f56 0 0 (parrelref05_Name_v r) []) (kAt (bodyOf Tryd.f56) 0) none (parrelref05_Name_T0 x_k x_n) (parrelref05_Name_H0 x_k x_n) := by
  intro fuel
  induction fuel with
  | zero => intro x_n r h; rw [parrelref05_Name_l0] at h; cases h
  | succ fuel ih =>
    intro x_n r h
    rw [parrelref05_Name_l0] at h
    rcases itb_some h with ⟨cL0_1, h⟩ | ⟨cL0_1, h⟩
    · skip
      obtain ⟨gL0_2, h⟩ := guard_some h
      rcases itb_some h with ⟨cL0_3, h⟩ | ⟨cL0_3, h⟩
      · skip
        exact run_to mixed hμ (L := [0]) (n := 20) (s := [.go, .reg [(2, { v := some (.bool true) }), (5, { v := some (.int .u8 (A8.get x_k x_n.toNat)) }), (7, { v := some (.bool true) })], .reg []])
          (a_ (a_ (a_ tr tr) (a_ (a_ tr tr) (a_ (a_ tr (a_ (leB cL0_1) tr)) (a_ (a_ tr tr) (a_ (a_ gL0_2 tr) (a_ (a_ (a_ tr (arrLt (len := 8) gL0_2 0 1 8 rfl rfl)) (a_ (ld8s (cInt .u8) 1 (fun _ => rfl) x_k [] [] 0 rfl x_n.toNat (lt8N gL0_2) (le_ (0 + 1) 1 rfl)) tr)) (a_ (a_ tr tr) (a_ (a_ tr (a_ (leB cL0_3) tr)) tr)))))))) (a_ (a_ (a_ tr tr) (a_ (a_ tr tr) (a_ (a_ tr tr) tr))) tr)) (ih _ r h) (by kernel_rfl) ⟨rfl, trivial⟩
      · skip
        exact run_to mixed hμ (L := [0]) (n := 22) (s := [.go, .reg [(2, { v := some (.bool true) }), (5, { v := some (.int .u8 (A8.get x_k x_n.toNat)) }), (7, { v := some (.bool false) })], .reg []])
          (a_ (a_ (a_ tr tr) (a_ (a_ tr tr) (a_ (a_ tr (a_ (leB cL0_1) tr)) (a_ (a_ tr tr) (a_ (a_ gL0_2 tr) (a_ (a_ (a_ tr (arrLt (len := 8) gL0_2 0 1 8 rfl rfl)) (a_ (ld8s (cInt .u8) 1 (fun _ => rfl) x_k [] [] 0 rfl x_n.toNat (lt8N gL0_2) (le_ (0 + 1) 1 rfl)) tr)) (a_ (a_ tr tr) (a_ (a_ tr (a_ (leB cL0_3) tr)) tr)))))))) (a_ (a_ (a_ tr tr) (a_ (a_ tr tr) tr)) tr)) (parrelref05_Name_l1_ok hμ x_k x_n  big _ r h) (by kernel_rfl) ⟨rfl, trivial⟩
    · skip
      exact run_to mixed hμ (L := [0]) (n := 22) (s := [.go, .reg [(2, { v := some (.bool false) })], .reg []])
        (a_ (a_ (a_ tr tr) (a_ (a_ tr tr) (a_ (a_ tr (a_ (leB cL0_1) tr)) (a_ tr (a_ tr (a_ tr (a_ tr (a_ (a_ tr tr) tr)))))))) (a_ (a_ (a_ tr tr) (a_ (a_ tr tr) tr)) tr)) (parrelref05_Name_l1_ok hμ x_k x_n  big _ r h) (by kernel_rfl) ⟨rfl, trivial⟩

theorem parrelref05_Name_ok (x_k : A8 (Int)) (r : (List UInt8) × (Bool)) (h : parrelref05_Name x_k = some r) : ∀ σ, Inj 0 σ → FnTri Tryd.prog 56 (renL σ [.agg [.int .u8 x_k.a0, .int .u8 x_k.a1, .int .u8 x_k.a2, .int .u8 x_k.a3, .int .u8 x_k.a4, .int .u8 x_k.a5, .int .u8 x_k.a6, .int .u8 x_k.a7]]) (preOf σ 0 []) ((parrelref05_Name_v r).ren σ) (upOf σ []) := by
  refine fn_of Tryd.func56 (by kernel_rfl) (by kernel_rfl) (by kernel_rfl) trivial (by kernel_rfl) trivial (by kernel_rfl) ?_
  intro w0 W μ0 hμ
  unfold parrelref05_Name at h
  exact run_to mixed hμ (L := [0]) (n := 18) (s := [.reg [], .reg []])
    (a_ (a_ (a_ tr tr) (a_ (a_ tr tr) (a_ (a_ tr tr) tr))) (a_ (a_ (a_ tr tr) tr) tr)) (parrelref05_Name_l0_ok hμ x_k  big _ r h) (by kernel_rfl) ⟨rfl, trivial⟩

theorem parrelref05_Name_tri (x_k : A8 (Int)) (r : (List UInt8) × (Bool)) (h : parrelref05_Name x_k = some r) : FnTri Tryd.prog 56 [.agg [.int .u8 x_k.a0, .int .u8 x_k.a1, .int .u8 x_k.a2, .int .u8 x_k.a3, .int .u8 x_k.a4, .int .u8 x_k.a5, .int .u8 x_k.a6, .int .u8 x_k.a7]] [] (parrelref05_Name_v r) [] := FnTri.none (parrelref05_Name_ok x_k r h) rfl rfl

/-- parrel/parrelref10.KeyMay -/

def parrelref10_KeyMay_v (r : (Bool)) : LV := .bool r

def parrelref10_KeyMay (x_k : A8 (Int)) : Option ((Bool)) :=
  (parrelref05_Name x_k).bind fun y2 =>
  some y2.2

theorem parrelref10_KeyMay_ok (x_k : A8 (Int)) (r : (Bool)) (h : parrelref10_KeyMay x_k = some r) : ∀ σ, Inj 0 σ → FnTri Tryd.prog 39 (renL σ [.agg [.int .u8 x_k.a0, .int .u8 x_k.a1, .int .u8 x_k.a2, .int .u8 x_k.a3, .int .u8 x_k.a4, .int .u8 x_k.a5, .int .u8 x_k.a6, .int .u8 x_k.a7]]) (preOf σ 0 []) ((parrelref10_KeyMay_v r).ren σ) (upOf σ []) := by
  refine fn_of Tryd.func39 (by kernel_rfl) (by kernel_rfl) (by kernel_rfl) trivial (by kernel_rfl) trivial (by kernel_rfl) ?_
  intro w0 W μ0 hμ
  unfold parrelref10_KeyMay at h
  obtain ⟨y2, e1, h⟩ := bind_some h
  obtain rfl := Option.some.inj h
  exact run_ret mixed (L := []) (n := 18) (s := [.reg [], .reg [(1, { call := some (parrelref05_Name_v y2, [], []) })], .reg []])
    (a_ (a_ (a_ (a_ tr tr) (a_ (a_ tr tr) tr)) (a_ (a_ (a_ (a_ tr (le_ 8 8 rfl)) tr) (a_ (a_ (a_ (parrelref05_Name_tri x_k y2 e1) tr) tr) (a_ (a_ tr tr) (a_ (a_ tr tr) (a_ (a_ tr tr) (a_ (a_ tr tr) (a_ (a_ tr tr) tr))))))) (a_ (a_ (a_ tr tr) (a_ (a_ tr tr) tr)) tr))) tr) (by kernel_rfl) rfl

theorem parrelref10_KeyMay_tri (x_k : A8 (Int)) (r : (Bool)) (h : parrelref10_KeyMay x_k = some r) : FnTri Tryd.prog 39 [.agg [.int .u8 x_k.a0, .int .u8 x_k.a1, .int .u8 x_k.a2, .int .u8 x_k.a3, .int .u8 x_k.a4, .int .u8 x_k.a5, .int .u8 x_k.a6, .int .u8 x_k.a7]] [] (parrelref10_KeyMay_v r) [] := FnTri.none (parrelref10_KeyMay_ok x_k r h) rfl rfl

/-- parrel/parrelref05.count -/

def parrelref05_count_v (r : (Bool)) : LV := .bool r

def parrelref05_count (x_n : Int) : Option ((Bool)) :=
  if ((decide (1 ≤ x_n)) : Bool) then
    some (decide (x_n ≤ 2147483647))
  else
    some false

theorem parrelref05_count_ok (x_n : Int) (r : (Bool)) (h : parrelref05_count x_n = some r) : ∀ σ, Inj 0 σ → FnTri Tryd.prog 68 (renL σ [.int .u32 x_n]) (preOf σ 0 []) ((parrelref05_count_v r).ren σ) (upOf σ []) := by
  refine fn_of Tryd.func68 (by kernel_rfl) (by kernel_rfl) (by kernel_rfl) trivial (by kernel_rfl) trivial (by kernel_rfl) ?_
  intro w0 W μ0 hμ
  unfold parrelref05_count at h
  rcases itb_some h with ⟨c1, h⟩ | ⟨c1, h⟩
  · skip
    obtain rfl := Option.some.inj h
    exact run_ret mixed (L := []) (n := 15) (s := [.reg [], .reg [(2, { v := some (.bool true) })]])
      (a_ (a_ (a_ (a_ tr tr) tr) (a_ (a_ (a_ tr tr) (a_ (a_ tr tr) (a_ (a_ tr (a_ (leB c1) tr)) (a_ (a_ tr tr) (a_ (a_ tr tr) (a_ (a_ tr tr) (a_ (a_ tr tr) tr))))))) tr)) tr) (by kernel_rfl) rfl
  · skip
    obtain rfl := Option.some.inj h
    exact run_ret mixed (L := []) (n := 15) (s := [.reg [], .reg [(2, { v := some (.bool false) })]])
      (a_ (a_ (a_ (a_ tr tr) tr) (a_ (a_ (a_ tr tr) (a_ (a_ tr tr) (a_ (a_ tr (a_ (leB c1) tr)) (a_ tr (a_ tr (a_ (a_ tr tr) (a_ (a_ tr tr) tr))))))) tr)) tr) (by kernel_rfl) rfl

theorem parrelref05_count_tri (x_n : Int) (r : (Bool)) (h : parrelref05_count x_n = some r) : FnTri Tryd.prog 68 [.int .u32 x_n] [] (parrelref05_count_v r) [] := FnTri.none (parrelref05_count_ok x_n r h) rfl rfl

/-- parrel/parrelref05.RegMay -/

def parrelref05_RegMay_v (r : (Bool)) : LV := .bool r

def parrelref05_RegMay (g : T_api_Reg) : Option ((Bool)) :=
  (parrelref05_count g.f_Boot).bind fun y2 =>
  if (y2 : Bool) then
    (parrelref05_count g.f_N).bind fun y5 =>
    some y5
  else
    some false

theorem parrelref05_RegMay_ok (g : T_api_Reg) (r : (Bool)) (h : parrelref05_RegMay g = some r) : ∀ σ, Inj 0 σ → FnTri Tryd.prog 53 (renL σ [v_T_api_Reg g]) (preOf σ 0 []) ((parrelref05_RegMay_v r).ren σ) (upOf σ []) := by
  refine fn_of Tryd.func53 (by kernel_rfl) (by kernel_rfl) (by kernel_rfl) trivial (by kernel_rfl) trivial (by kernel_rfl) ?_
  intro w0 W μ0 hμ
  unfold parrelref05_RegMay at h
  obtain ⟨y2, e1, h⟩ := bind_some h
  rcases itb_some h with ⟨c3, h⟩ | ⟨c3, h⟩
  · skip
    obtain ⟨y5, e4, h⟩ := bind_some h
    obtain rfl := Option.some.inj h
    exact run_ret mixed (L := []) (n := 15) (s := [.reg [], .reg [(2, { call := some (parrelref05_count_v y2, [], []) }), (3, { v := some (.bool true) }), (6, { call := some (parrelref05_count_v y5, [], []) })]])
      (a_ (a_ (a_ (a_ tr tr) (a_ (a_ tr tr) tr)) (a_ (a_ (a_ tr tr) (a_ (a_ (a_ tr (lt_ 0 2 rfl)) tr) (a_ (a_ (a_ (parrelref05_count_tri g.f_Boot y2 e1) tr) tr) (a_ (a_ tr (a_ (leB c3) tr)) (a_ (a_ tr tr) (a_ (a_ (a_ tr (lt_ 1 2 rfl)) tr) (a_ (a_ (a_ (parrelref05_count_tri g.f_N y5 e4) tr) tr) (a_ (a_ tr tr) (a_ (a_ tr tr) tr))))))))) tr)) tr) (by kernel_rfl) rfl
  · skip
    obtain rfl := Option.some.inj h
    exact run_ret mixed (L := []) (n := 15) (s := [.reg [], .reg [(2, { call := some (parrelref05_count_v y2, [], []) }), (3, { v := some (.bool false) })]])
      (a_ (a_ (a_ (a_ tr tr) (a_ (a_ tr tr) tr)) (a_ (a_ (a_ tr tr) (a_ (a_ (a_ tr (lt_ 0 2 rfl)) tr) (a_ (a_ (a_ (parrelref05_count_tri g.f_Boot y2 e1) tr) tr) (a_ (a_ tr (a_ (leB c3) tr)) (a_ tr (a_ tr (a_ tr (a_ (a_ tr tr) (a_ (a_ tr tr) tr))))))))) tr)) tr) (by kernel_rfl) rfl

theorem parrelref05_RegMay_tri (g : T_api_Reg) (r : (Bool)) (h : parrelref05_RegMay g = some r) : FnTri Tryd.prog 53 [v_T_api_Reg g] [] (parrelref05_RegMay_v r) [] := FnTri.none (parrelref05_RegMay_ok g r h) rfl rfl

/-- parrel/parrelref20.may -/

def parrelref20_may_v (r : (Bool)) : LV := .bool r

def parrelref20_may_T1 (locks : List (T_parrelref20_Lock)) (i : Int) (x_k : Int) : List LV := [.ds 10 (locks).length (rowF c_T_parrelref20_Lock default locks), .any, .any, .int .i64 i, .ptr 0 0 0, .int .i64 x_k, .any, .any, .any, .any, .any, .any, .any, .any, .any, .any, .any, .any, .any, .any, .any, .any, .any, .any, .any, .any, .any, .any, .any, .any, .any, .any, .any, .any, .any, .any, .any, .any, .any, .any, .any, .any, .any, .any, .any, .any, .any, .any, .any, .any, .any, .any, .any, .any]

def parrelref20_may_H1 (locks : List (T_parrelref20_Lock)) (i : Int) (x_k : Int) : Heap := [some (.var (c_T_parrelref20_Lock (locks.getD i.toNat default)))]

def parrelref20_may_T0 (locks : List (T_parrelref20_Lock)) (i : Int) : List LV := [.ds 10 (locks).length (rowF c_T_parrelref20_Lock default locks), .any, .any, .int .i64 i, .any, .any, .any, .any, .any, .any, .any, .any, .any, .any, .any, .any, .any, .any, .any, .any, .any, .any, .any, .any, .any, .any, .any, .any, .any, .any, .any, .any, .any, .any, .any, .any, .any, .any, .any, .any, .any, .any, .any, .any, .any, .any, .any, .any, .any, .any, .any, .any, .any, .any]

def parrelref20_may_H0 (locks : List (T_parrelref20_Lock)) (i : Int) : Heap := []

def parrelref20_may_l1 (locks : List (T_parrelref20_Lock)) (i : Int) (k0 : (Int) → Option ((Bool))) : Nat → (Int) → Option ((Bool))
  | 0, _ => none
  | fuel + 1, x_k =>
    if ((decide (x_k < (((locks.getD i.toNat default).f_Got).length : Int))) : Bool) then
      if 0 ≤ x_k ∧ x_k < ((((locks.getD i.toNat default).f_Got).length : Nat) : Int) then
      if ((decide (8 ≤ ((locks.getD i.toNat default).f_Got.getD x_k.toNat default).f_Node)) : Bool) then
        some false
      else
        (parrelref05_RegMay ((locks.getD i.toNat default).f_Got.getD x_k.toNat default).f_Reg).bind fun yL1_5 =>
        if ((!yL1_5) : Bool) then
          some false
        else
          parrelref20_may_l1 locks i k0 fuel (IntKind.wrap .i64 (x_k + 1))
      else none
    else
      k0 (IntKind.wrap .i64 (i + 1))

def parrelref20_may_l0 (locks : List (T_parrelref20_Lock))  : Nat → (Int) → Option ((Bool))
  | 0, _ => none
  | fuel + 1, i =>
    if ((decide (i < ((locks).length : Int))) : Bool) then
      if 0 ≤ i ∧ i < (((locks).length : Nat) : Int) then
      (parrelref10_KeyMay (locks.getD i.toNat default).f_Key).bind fun yL0_4 =>
      if ((!yL0_4) : Bool) then
        some false
      else
        if ((decide ((locks.getD i.toNat default).f_Mode < 1)) : Bool) then
          some false
        else
          if ((decide (2 < (locks.getD i.toNat default).f_Mode)) : Bool) then
            some false
          else
            parrelref20_may_l1 locks i (parrelref20_may_l0 locks  fuel) big 0
      else none
    else
      some true

def parrelref20_may (locks : List (T_parrelref20_Lock)) : Option ((Bool)) :=
  parrelref20_may_l0 locks  big 0

theorem parrelref20_may_l1_ok {w0 : World} {W : Nat → Prop} {μ0 : Emb} (hμ : ∀ c p, μ0 c = some p → c < 0) (locks : List (T_parrelref20_Lock)) (i : Int) (k0 : (Int) → Option ((Bool))) (hk0 : ∀ (i : Int) (r : (Bool)), k0 i = some r → kont Tryd.prog w0 W μ0 (FnPost Tryd.prog Tryd.f29 0 0 (parrelref20_may_v r) []) (kAt (bodyOf Tryd.f29) 0) none (parrelref20_may_T0 locks i) (parrelref20_may_H0 locks i)) : ∀ (fuel : Nat) (x_k : Int) (r : (Bool)), parrelref20_may_l1 locks i k0 fuel x_k = some r → kont Tryd.prog w0 W μ0 (FnPost Tryd.prog Tryd.f29 0 0 (parrelref20_may_v r) []) (kAt (bodyOf Tryd.f29) 1) none (parrelref20_may_T1 locks i x_k) (parrelref20_may_H1 locks i x_k) := by
  intro fuel
  induction fuel with
  | zero => intro x_k r h; rw [parrelref20_may_l1] at h; cases h
  | succ fuel ih =>
    intro x_k r h
    rw [parrelref20_may_l1] at h
    rcases itb_some h with ⟨cL1_1, h⟩ | ⟨cL1_1, h⟩
    · skip
      obtain ⟨gL1_2, h⟩ := guard_some h
      rcases itb_some h with ⟨cL1_3, h⟩ | ⟨cL1_3, h⟩
      · skip
        obtain rfl := Option.some.inj h
        exact run_ret mixed (L := []) (n := 25) (s := [.go, .reg [(4, { v := some (.bool true) })], .reg [(7, { v := some (.bool true) })], .reg []])
          (a_ (a_ (a_ (a_ tr tr) (a_ (a_ tr tr) (a_ (a_ (a_ tr (lt_ 9 10 rfl)) tr) (a_ (a_ tr tr) (a_ (a_ tr (a_ (leB cL1_1) tr)) tr))))) (a_ (a_ (a_ tr tr) (a_ (a_ (a_ tr (lt_ 9 10 rfl)) tr) (a_ (a_ tr tr) (a_ (a_ (a_ (Eq.refl 16) gL1_2) tr) (a_ (a_ tr tr) (a_ (a_ (lt_ 0 16 rfl) tr) (a_ (a_ tr tr) (a_ (a_ tr (a_ (leB cL1_3) tr)) (a_ tr (a_ tr (a_ tr (a_ tr (a_ tr (a_ tr (a_ tr (a_ tr (a_ (a_ tr tr) tr))))))))))))))))) (a_ (a_ (a_ tr tr) tr) tr))) tr) (by kernel_rfl) rfl
      · skip
        obtain ⟨yL1_5, eL1_4, h⟩ := bind_some h
        rcases itb_some h with ⟨cL1_6, h⟩ | ⟨cL1_6, h⟩
        · skip
          obtain rfl := Option.some.inj h
          exact run_ret mixed (L := []) (n := 25) (s := [.go, .reg [(4, { v := some (.bool true) })], .reg [(7, { v := some (.bool false) }), (14, { call := some (parrelref05_RegMay_v yL1_5, [], []) }), (16, { v := some (.bool true) })], .reg []])
            (a_ (a_ (a_ (a_ tr tr) (a_ (a_ tr tr) (a_ (a_ (a_ tr (lt_ 9 10 rfl)) tr) (a_ (a_ tr tr) (a_ (a_ tr (a_ (leB cL1_1) tr)) tr))))) (a_ (a_ (a_ tr tr) (a_ (a_ (a_ tr (lt_ 9 10 rfl)) tr) (a_ (a_ tr tr) (a_ (a_ (a_ (Eq.refl 16) gL1_2) tr) (a_ (a_ tr tr) (a_ (a_ (lt_ 0 16 rfl) tr) (a_ (a_ tr tr) (a_ (a_ tr (a_ (leB cL1_3) tr)) (a_ (a_ tr tr) (a_ (a_ (a_ tr (lt_ 9 10 rfl)) tr) (a_ (a_ tr tr) (a_ (a_ (a_ (Eq.refl 16) gL1_2) tr) (a_ (a_ tr tr) (a_ (a_ (le_ 2 15 rfl) tr) (a_ (a_ (a_ (parrelref05_RegMay_tri ((locks.getD i.toNat default).f_Got.getD x_k.toNat default).f_Reg yL1_5 eL1_4) tr) tr) (a_ (a_ tr tr) (a_ (a_ tr (a_ (leB cL1_6) tr)) tr))))))))))))))))) (a_ (a_ (a_ tr tr) tr) tr))) tr) (by kernel_rfl) rfl
        · skip
          exact run_to mixed hμ (L := [0]) (n := 26) (s := [.go, .reg [(4, { v := some (.bool true) })], .reg [(7, { v := some (.bool false) }), (14, { call := some (parrelref05_RegMay_v yL1_5, [], []) }), (16, { v := some (.bool false) })], .reg []])
            (a_ (a_ (a_ tr tr) (a_ (a_ tr tr) (a_ (a_ (a_ tr (lt_ 9 10 rfl)) tr) (a_ (a_ tr tr) (a_ (a_ tr (a_ (leB cL1_1) tr)) tr))))) (a_ (a_ (a_ tr tr) (a_ (a_ (a_ tr (lt_ 9 10 rfl)) tr) (a_ (a_ tr tr) (a_ (a_ (a_ (Eq.refl 16) gL1_2) tr) (a_ (a_ tr tr) (a_ (a_ (lt_ 0 16 rfl) tr) (a_ (a_ tr tr) (a_ (a_ tr (a_ (leB cL1_3) tr)) (a_ (a_ tr tr) (a_ (a_ (a_ tr (lt_ 9 10 rfl)) tr) (a_ (a_ tr tr) (a_ (a_ (a_ (Eq.refl 16) gL1_2) tr) (a_ (a_ tr tr) (a_ (a_ (le_ 2 15 rfl) tr) (a_ (a_ (a_ (parrelref05_RegMay_tri ((locks.getD i.toNat default).f_Got.getD x_k.toNat default).f_Reg yL1_5 eL1_4) tr) tr) (a_ (a_ tr tr) (a_ (a_ tr (a_ (leB cL1_6) tr)) tr))))))))))))))))) (a_ (a_ (a_ tr tr) (a_ (a_ tr tr) (a_ (a_ tr tr) tr))) tr))) (ih _ r h) (by kernel_rfl) ⟨rfl, trivial⟩
    · skip
      exact run_to mixed hμ (L := []) (n := 19) (s := [.go, .reg [(4, { v := some (.bool false) })], .reg []])
        (a_ (a_ (a_ tr tr) (a_ (a_ tr tr) (a_ (a_ (a_ tr (lt_ 9 10 rfl)) tr) (a_ (a_ tr tr) (a_ (a_ tr (a_ (leB cL1_1) tr)) tr))))) (a_ (a_ (a_ tr tr) (a_ (a_ tr tr) (a_ (a_ tr tr) tr))) tr)) (hk0 _ r h) (by kernel_rfl) trivial

theorem parrelref20_may_l0_ok {w0 : World} {W : Nat → Prop} {μ0 : Emb} (hμ : ∀ c p, μ0 c = some p → c < 0) (locks : List (T_parrelref20_Lock))  : ∀ (fuel : Nat) (i : Int) (r : (Bool)), parrelref20_may_l0 locks  fuel i = some r → kont Tryd.prog w0 W μ0 (FnPost Tryd.prog Tryd.f29 0 0 (parrelref20_may_v r) []) (kAt (bodyOf Tryd.f29) 0) none (parrelref20_may_T0 locks i) (parrelref20_may_H0 locks i) := by
  intro fuel
  induction fuel with
  | zero => intro i r h; rw [parrelref20_may_l0] at h; cases h
  | succ fuel ih =>
    intro i r h
    rw [parrelref20_may_l0] at h
    rcases itb_some h with ⟨cL0_1, h⟩ | ⟨cL0_1, h⟩
    · skip
      obtain ⟨gL0_2, h⟩ := guard_some h
      obtain ⟨yL0_4, eL0_3, h⟩ := bind_some h
      rcases itb_some h with ⟨cL0_5, h⟩ | ⟨cL0_5, h⟩
      · skip
        obtain rfl := Option.some.inj h
        exact run_ret mixed (L := []) (n := 29) (s := [.go, .reg [(3, { v := some (.bool true) })], .reg [], .reg [(2, { call := some (parrelref10_KeyMay_v yL0_4, [], []) }), (4, { v := some (.bool true) })], .reg []])
          (a_ (a_ (a_ (a_ tr tr) (a_ (a_ tr tr) (a_ (a_ tr tr) (a_ (a_ tr (a_ (leB cL0_1) tr)) tr)))) (a_ (a_ (a_ tr tr) (a_ (a_ tr tr) (a_ (a_ (a_ (Eq.refl 10) gL0_2) tr) (a_ (a_ (le_ 10 10 rfl) tr) (a_ (a_ tr tr) (a_ (a_ (a_ (Eq.refl 10) (a_ (le_ 10 10 rfl) (Eq.refl 0))) tr) tr)))))) (a_ (a_ (a_ tr tr) (a_ (a_ (a_ tr (le_ 8 10 rfl)) tr) (a_ (a_ (a_ (parrelref10_KeyMay_tri (locks.getD i.toNat default).f_Key yL0_4 eL0_3) tr) tr) (a_ (a_ tr tr) (a_ (a_ tr (a_ (leB cL0_5) tr)) (a_ tr (a_ tr (a_ tr (a_ (a_ tr tr) (a_ (a_ tr tr) (a_ tr (a_ tr (a_ tr (a_ (a_ tr tr) tr)))))))))))))) (a_ (a_ (a_ tr tr) tr) tr)))) tr) (by kernel_rfl) rfl
      · skip
        rcases itb_some h with ⟨cL0_6, h⟩ | ⟨cL0_6, h⟩
        · skip
          obtain rfl := Option.some.inj h
          exact run_ret mixed (L := []) (n := 29) (s := [.go, .reg [(3, { v := some (.bool true) })], .reg [], .reg [(2, { call := some (parrelref10_KeyMay_v yL0_4, [], []) }), (4, { v := some (.bool false) }), (9, { v := some (.bool true) })], .reg []])
            (a_ (a_ (a_ (a_ tr tr) (a_ (a_ tr tr) (a_ (a_ tr tr) (a_ (a_ tr (a_ (leB cL0_1) tr)) tr)))) (a_ (a_ (a_ tr tr) (a_ (a_ tr tr) (a_ (a_ (a_ (Eq.refl 10) gL0_2) tr) (a_ (a_ (le_ 10 10 rfl) tr) (a_ (a_ tr tr) (a_ (a_ (a_ (Eq.refl 10) (a_ (le_ 10 10 rfl) (Eq.refl 0))) tr) tr)))))) (a_ (a_ (a_ tr tr) (a_ (a_ (a_ tr (le_ 8 10 rfl)) tr) (a_ (a_ (a_ (parrelref10_KeyMay_tri (locks.getD i.toNat default).f_Key yL0_4 eL0_3) tr) tr) (a_ (a_ tr tr) (a_ (a_ tr (a_ (leB cL0_5) tr)) (a_ (a_ tr tr) (a_ (a_ (a_ tr (lt_ 8 10 rfl)) tr) (a_ (a_ tr tr) (a_ (a_ tr tr) (a_ (a_ tr (a_ (leB cL0_6) tr)) (a_ tr (a_ tr (a_ tr (a_ (a_ tr tr) tr)))))))))))))) (a_ (a_ (a_ tr tr) tr) tr)))) tr) (by kernel_rfl) rfl
        · skip
          rcases itb_some h with ⟨cL0_7, h⟩ | ⟨cL0_7, h⟩
          · skip
            obtain rfl := Option.some.inj h
            exact run_ret mixed (L := []) (n := 29) (s := [.go, .reg [(3, { v := some (.bool true) })], .reg [], .reg [(2, { call := some (parrelref10_KeyMay_v yL0_4, [], []) }), (4, { v := some (.bool false) }), (9, { v := some (.bool false) }), (13, { v := some (.bool true) })], .reg []])
              (a_ (a_ (a_ (a_ tr tr) (a_ (a_ tr tr) (a_ (a_ tr tr) (a_ (a_ tr (a_ (leB cL0_1) tr)) tr)))) (a_ (a_ (a_ tr tr) (a_ (a_ tr tr) (a_ (a_ (a_ (Eq.refl 10) gL0_2) tr) (a_ (a_ (le_ 10 10 rfl) tr) (a_ (a_ tr tr) (a_ (a_ (a_ (Eq.refl 10) (a_ (le_ 10 10 rfl) (Eq.refl 0))) tr) tr)))))) (a_ (a_ (a_ tr tr) (a_ (a_ (a_ tr (le_ 8 10 rfl)) tr) (a_ (a_ (a_ (parrelref10_KeyMay_tri (locks.getD i.toNat default).f_Key yL0_4 eL0_3) tr) tr) (a_ (a_ tr tr) (a_ (a_ tr (a_ (leB cL0_5) tr)) (a_ (a_ tr tr) (a_ (a_ (a_ tr (lt_ 8 10 rfl)) tr) (a_ (a_ tr tr) (a_ (a_ tr tr) (a_ (a_ tr (a_ (leB cL0_6) tr)) (a_ (a_ tr tr) (a_ (a_ (a_ tr (lt_ 8 10 rfl)) tr) (a_ (a_ tr tr) (a_ (a_ tr (a_ (leB cL0_7) tr)) tr)))))))))))))) (a_ (a_ (a_ tr tr) tr) tr)))) tr) (by kernel_rfl) rfl
          · skip
            exact run_to mixed hμ (L := [0]) (n := 32) (s := [.go, .reg [(3, { v := some (.bool true) })], .reg [], .reg [(2, { call := some (parrelref10_KeyMay_v yL0_4, [], []) }), (4, { v := some (.bool false) }), (9, { v := some (.bool false) }), (13, { v := some (.bool false) })], .reg []])
              (a_ (a_ (a_ tr tr) (a_ (a_ tr tr) (a_ (a_ tr tr) (a_ (a_ tr (a_ (leB cL0_1) tr)) tr)))) (a_ (a_ (a_ tr tr) (a_ (a_ tr tr) (a_ (a_ (a_ (Eq.refl 10) gL0_2) tr) (a_ (a_ (le_ 10 10 rfl) tr) (a_ (a_ tr tr) (a_ (a_ (a_ (Eq.refl 10) (a_ (le_ 10 10 rfl) (Eq.refl 0))) tr) tr)))))) (a_ (a_ (a_ tr tr) (a_ (a_ (a_ tr (le_ 8 10 rfl)) tr) (a_ (a_ (a_ (parrelref10_KeyMay_tri (locks.getD i.toNat default).f_Key yL0_4 eL0_3) tr) tr) (a_ (a_ tr tr) (a_ (a_ tr (a_ (leB cL0_5) tr)) (a_ (a_ tr tr) (a_ (a_ (a_ tr (lt_ 8 10 rfl)) tr) (a_ (a_ tr tr) (a_ (a_ tr tr) (a_ (a_ tr (a_ (leB cL0_6) tr)) (a_ (a_ tr tr) (a_ (a_ (a_ tr (lt_ 8 10 rfl)) tr) (a_ (a_ tr tr) (a_ (a_ tr (a_ (leB cL0_7) tr)) tr)))))))))))))) (a_ (a_ (a_ tr tr) tr) tr)))) (parrelref20_may_l1_ok hμ locks i (parrelref20_may_l0 locks  fuel) (fun i r h => ih i r h) big _ r h) (by kernel_rfl) ⟨rfl, trivial⟩
    · skip
      obtain rfl := Option.some.inj h
      exact run_ret mixed (L := []) (n := 19) (s := [.go, .reg [(3, { v := some (.bool false) })], .reg []])
        (a_ (a_ (a_ (a_ tr tr) (a_ (a_ tr tr) (a_ (a_ tr tr) (a_ (a_ tr (a_ (leB cL0_1) tr)) tr)))) (a_ (a_ (a_ tr tr) tr) tr)) tr) (by kernel_rfl) rfl

theorem parrelref20_may_ok (locks : List (T_parrelref20_Lock)) (r : (Bool)) (h : parrelref20_may locks = some r) : ∀ σ, Inj 0 σ → FnTri Tryd.prog 29 (renL σ [.ds 10 (locks).length (rowF c_T_parrelref20_Lock default locks)]) (preOf σ 0 []) ((parrelref20_may_v r).ren σ) (upOf σ []) := by
  refine fn_of Tryd.func29 (by kernel_rfl) (by kernel_rfl) (by kernel_rfl) trivial (by kernel_rfl) trivial (by kernel_rfl) ?_
  intro w0 W μ0 hμ
  unfold parrelref20_may at h
  exact run_to mixed hμ (L := []) (n := 18) (s := [.reg [], .reg []])
    (a_ (a_ (a_ tr tr) tr) (a_ (a_ (a_ tr tr) tr) tr)) (parrelref20_may_l0_ok hμ locks  big _ r h) (by kernel_rfl) trivial

theorem parrelref20_may_tri (locks : List (T_parrelref20_Lock)) (r : (Bool)) (h : parrelref20_may locks = some r) : FnTri Tryd.prog 29 [.ds 10 (locks).length (rowF c_T_parrelref20_Lock default locks)] [] (parrelref20_may_v r) [] := FnTri.none (parrelref20_may_ok locks r h) rfl rfl

/-- parrel/parrelref06.Total -/

def parrelref06_Total_v (r : (Int)) : LV := .int .i64 r

def parrelref06_Total_T0 (c : T_api_Config) (x_n : Int) (i : Int) : List LV := [.any, .ptr 0 0 0, .any, .int .i64 x_n, .int .i64 i, .any, .any, .any, .any, .any, .any, .any, .any, .any, .any, .any, .any]

def parrelref06_Total_H0 (c : T_api_Config) (x_n : Int) (i : Int) : Heap := [some (.var (c_T_api_Config c))]

def parrelref06_Total_l0 (c : T_api_Config)  : Nat → (Int) → (Int) → Option ((Int))
  | 0, _, _ => none
  | fuel + 1, x_n, i =>
    if ((decide (i < 8)) : Bool) then
      if 0 ≤ i ∧ i < 8 then
      parrelref06_Total_l0 c  fuel (IntKind.wrap .i64 (x_n + (IntKind.wrap .i64 (A8.get c.f_Votes i.toNat)))) (IntKind.wrap .i64 (i + 1))
      else none
    else
      some x_n

def parrelref06_Total (c : T_api_Config) : Option ((Int)) :=
  parrelref06_Total_l0 c  big 0 0

theorem parrelref06_Total_l0_ok {w0 : World} {W : Nat → Prop} {μ0 : Emb} (hμ : ∀ c p, μ0 c = some p → c < 0) (c : T_api_Config)  : ∀ (fuel : Nat) (x_n : Int) (i : Int) (r : (Int)), parrelref06_Total_l0 c  fuel x_n i = some r → kont Tryd.prog w0 W μ0 (FnPost Tryd.prog Tryd.f69 0 0 (parrelref06_Total_v r) []) (kAt (bodyOf Tryd.f69) 0) none (parrelref06_Total_T0 c x_n i) (parrelref06_Total_H0 c x_n i) := by
  intro fuel
  induction fuel with
  | zero => intro x_n i r h; rw [parrelref06_Total_l0] at h; cases h
  | succ fuel ih =>
    intro x_n i r h
    rw [parrelref06_Total_l0] at h
    rcases itb_some h with ⟨cL0_1, h⟩ | ⟨cL0_1, h⟩
    · skip
      obtain ⟨gL0_2, h⟩ := guard_some h
      exact run_to mixed hμ (L := [0]) (n := 23) (s := [.go, .reg [(1, { v := some (.bool true) })], .reg [(4, { v := some (.int .u8 (A8.get c.f_Votes i.toNat)) })], .reg []])
        (a_ (a_ (a_ tr tr) (a_ (a_ tr (a_ (leB cL0_1) tr)) tr)) (a_ (a_ (a_ tr tr) (a_ (a_ tr tr) (a_ (a_ tr tr) (a_ (a_ gL0_2 tr) (a_ (a_ (a_ tr (arrLt (len := 8) gL0_2 3 1 11 rfl rfl)) (a_ (ld8s (cInt .u8) 1 (fun _ => rfl) c.f_Votes [.int .u32 c.f_Epoch, .int .u8 c.f_R, .int .u8 c.f_W] [] 3 rfl i.toNat (lt8N gL0_2) (le_ (0 + 1) 1 rfl)) tr)) (a_ (a_ tr tr) (a_ (a_ tr tr) (a_ (a_ tr tr) tr)))))))) (a_ (a_ (a_ tr tr) (a_ (a_ tr tr) (a_ (a_ tr tr) tr))) tr))) (ih _ _ r h) (by kernel_rfl) ⟨rfl, trivial⟩
    · skip
      obtain rfl := Option.some.inj h
      exact run_ret mixed (L := []) (n := 19) (s := [.go, .reg [(1, { v := some (.bool false) })], .reg []])
        (a_ (a_ (a_ (a_ tr tr) (a_ (a_ tr (a_ (leB cL0_1) tr)) tr)) (a_ (a_ (a_ tr tr) (a_ (a_ tr tr) tr)) tr)) tr) (by kernel_rfl) rfl

theorem parrelref06_Total_ok (c : T_api_Config) (r : (Int)) (h : parrelref06_Total c = some r) : ∀ σ, Inj 0 σ → FnTri Tryd.prog 69 (renL σ [v_T_api_Config c]) (preOf σ 0 []) ((parrelref06_Total_v r).ren σ) (upOf σ []) := by
  refine fn_of Tryd.func69 (by kernel_rfl) (by kernel_rfl) (by kernel_rfl) trivial (by kernel_rfl) trivial (by kernel_rfl) ?_
  intro w0 W μ0 hμ
  unfold parrelref06_Total at h
  exact run_to mixed hμ (L := [0]) (n := 21) (s := [.reg [], .reg [], .reg []])
    (a_ (a_ (a_ tr tr) (a_ (a_ tr tr) tr)) (a_ (a_ (a_ tr tr) tr) (a_ (a_ (a_ tr tr) tr) tr))) (parrelref06_Total_l0_ok hμ c  big _ _ r h) (by kernel_rfl) ⟨rfl, trivial⟩

theorem parrelref06_Total_tri (c : T_api_Config) (r : (Int)) (h : parrelref06_Total c = some r) : FnTri Tryd.prog 69 [v_T_api_Config c] [] (parrelref06_Total_v r) [] := FnTri.none (parrelref06_Total_ok c r h) rfl rfl

/-- parrel/parrelref06.May -/

def parrelref06_May_v (r : (Bool)) : LV := .bool r

def parrelref06_May_T0 (c : T_api_Config) (y2 : (Int)) (i : Int) : List LV := [.any, .ptr 0 0 0, .any, .int .i64 y2, .int .i64 (IntKind.wrap .i64 c.f_R), .int .i64 (IntKind.wrap .i64 c.f_W), .int .i64 i, .any, .any, .any, .any, .any, .any, .any, .any, .any, .any, .any, .any, .any, .any, .any, .any, .any, .any, .any, .any, .any, .any, .any, .any, .any, .any, .any, .any, .any, .any, .any, .any, .any, .any, .any, .any, .any, .any, .any, .any, .any, .any, .any, .any, .any, .any, .any, .any, .any, .any, .any, .any, .any, .any, .any, .any]

def parrelref06_May_H0 (c : T_api_Config) (y2 : (Int)) (i : Int) : Heap := [some (.var (c_T_api_Config c))]

def parrelref06_May_l0 (c : T_api_Config) (y2 : (Int))  : Nat → (Int) → Option ((Bool))
  | 0, _ => none
  | fuel + 1, i =>
    if ((decide (i < 8)) : Bool) then
      if 0 ≤ i ∧ i < 8 then
      if ((decide (15 < (A8.get c.f_Votes i.toNat))) : Bool) then
        some false
      else
        parrelref06_May_l0 c y2  fuel (IntKind.wrap .i64 (i + 1))
      else none
    else
      if ((decide (1 ≤ c.f_Epoch)) : Bool) then
        if ((decide (c.f_Epoch ≤ 2147483647)) : Bool) then
          if ((decide (1 ≤ (IntKind.wrap .i64 c.f_R))) : Bool) then
            if ((decide (1 ≤ (IntKind.wrap .i64 c.f_W))) : Bool) then
              if ((decide ((IntKind.wrap .i64 c.f_R) ≤ y2)) : Bool) then
                if ((decide ((IntKind.wrap .i64 c.f_W) ≤ y2)) : Bool) then
                  if ((decide (y2 < (IntKind.wrap .i64 ((IntKind.wrap .i64 c.f_R) + (IntKind.wrap .i64 c.f_W))))) : Bool) then
                    some (decide (y2 < (IntKind.wrap .i64 (2 * (IntKind.wrap .i64 c.f_W)))))
                  else
                    some false
                else
                  some false
              else
                some false
            else
              some false
          else
            some false
        else
          some false
      else
        some false

def parrelref06_May (c : T_api_Config) : Option ((Bool)) :=
  (parrelref06_Total c).bind fun y2 =>
  parrelref06_May_l0 c y2  big 0

theorem parrelref06_May_l0_ok {w0 : World} {W : Nat → Prop} {μ0 : Emb} (hμ : ∀ c p, μ0 c = some p → c < 0) (c : T_api_Config) (y2 : (Int))  : ∀ (fuel : Nat) (i : Int) (r : (Bool)), parrelref06_May_l0 c y2  fuel i = some r → kont Tryd.prog w0 W μ0 (FnPost Tryd.prog Tryd.f57 0 0 (parrelref06_May_v r) []) (kAt (bodyOf Tryd.f57) 0) none (parrelref06_May_T0 c y2 i) (parrelref06_May_H0 c y2 i) := by
  intro fuel
  induction fuel with
  | zero => intro i r h; rw [parrelref06_May_l0] at h; cases h
  | succ fuel ih =>
    intro i r h
    rw [parrelref06_May_l0] at h
    rcases itb_some h with ⟨cL0_1, h⟩ | ⟨cL0_1, h⟩
    · skip
      obtain ⟨gL0_2, h⟩ := guard_some h
      rcases itb_some h with ⟨cL0_3, h⟩ | ⟨cL0_3, h⟩
      · skip
        obtain rfl := Option.some.inj h
        exact run_ret mixed (L := []) (n := 25) (s := [.go, .reg [(1, { v := some (.bool true) })], .reg [(3, { v := some (.int .u8 (A8.get c.f_Votes i.toNat)) }), (4, { v := some (.bool true) })], .reg []])
          (a_ (a_ (a_ (a_ tr tr) (a_ (a_ tr (a_ (leB cL0_1) tr)) tr)) (a_ (a_ (a_ tr tr) (a_ (a_ tr tr) (a_ (a_ gL0_2 tr) (a_ (a_ (a_ tr (arrLt (len := 8) gL0_2 3 1 11 rfl rfl)) (a_ (ld8s (cInt .u8) 1 (fun _ => rfl) c.f_Votes [.int .u32 c.f_Epoch, .int .u8 c.f_R, .int .u8 c.f_W] [] 3 rfl i.toNat (lt8N gL0_2) (le_ (0 + 1) 1 rfl)) tr)) (a_ (a_ tr (a_ (leB cL0_3) tr)) tr))))) (a_ (a_ (a_ tr tr) tr) tr))) tr) (by kernel_rfl) rfl
      · skip
        exact run_to mixed hμ (L := [0]) (n := 26) (s := [.go, .reg [(1, { v := some (.bool true) })], .reg [(3, { v := some (.int .u8 (A8.get c.f_Votes i.toNat)) }), (4, { v := some (.bool false) })], .reg []])
          (a_ (a_ (a_ tr tr) (a_ (a_ tr (a_ (leB cL0_1) tr)) tr)) (a_ (a_ (a_ tr tr) (a_ (a_ tr tr) (a_ (a_ gL0_2 tr) (a_ (a_ (a_ tr (arrLt (len := 8) gL0_2 3 1 11 rfl rfl)) (a_ (ld8s (cInt .u8) 1 (fun _ => rfl) c.f_Votes [.int .u32 c.f_Epoch, .int .u8 c.f_R, .int .u8 c.f_W] [] 3 rfl i.toNat (lt8N gL0_2) (le_ (0 + 1) 1 rfl)) tr)) (a_ (a_ tr (a_ (leB cL0_3) tr)) tr))))) (a_ (a_ (a_ tr tr) (a_ (a_ tr tr) (a_ (a_ tr tr) tr))) tr))) (ih _ r h) (by kernel_rfl) ⟨rfl, trivial⟩
    · skip
      rcases itb_some h with ⟨cL0_2, h⟩ | ⟨cL0_2, h⟩
      · skip
        rcases itb_some h with ⟨cL0_3, h⟩ | ⟨cL0_3, h⟩
        · skip
          rcases itb_some h with ⟨cL0_4, h⟩ | ⟨cL0_4, h⟩
          · skip
            rcases itb_some h with ⟨cL0_5, h⟩ | ⟨cL0_5, h⟩
            · skip
              rcases itb_some h with ⟨cL0_6, h⟩ | ⟨cL0_6, h⟩
              · skip
                rcases itb_some h with ⟨cL0_7, h⟩ | ⟨cL0_7, h⟩
                · skip
                  rcases itb_some h with ⟨cL0_8, h⟩ | ⟨cL0_8, h⟩
                  · skip
                    obtain rfl := Option.some.inj h
                    exact run_ret mixed (L := []) (n := 19) (s := [.go, .reg [(1, { v := some (.bool false) })], .reg [(3, { v := some (.bool true) }), (8, { v := some (.bool true) }), (12, { v := some (.bool true) }), (16, { v := some (.bool true) }), (21, { v := some (.bool true) }), (26, { v := some (.bool true) }), (33, { v := some (.bool true) })]])
                      (a_ (a_ (a_ (a_ tr tr) (a_ (a_ tr (a_ (leB cL0_1) tr)) tr)) (a_ (a_ (a_ tr tr) (a_ (a_ (a_ tr (lt_ 0 11 rfl)) tr) (a_ (a_ tr tr) (a_ (a_ tr (a_ (leB cL0_2) tr)) (a_ (a_ tr tr) (a_ (a_ (a_ tr (lt_ 0 11 rfl)) tr) (a_ (a_ tr tr) (a_ (a_ tr tr) (a_ (a_ tr (a_ (leB cL0_3) tr)) (a_ (a_ tr tr) (a_ (a_ tr tr) (a_ (a_ tr tr) (a_ (a_ tr (a_ (leB cL0_4) tr)) (a_ (a_ tr tr) (a_ (a_ tr tr) (a_ (a_ tr tr) (a_ (a_ tr (a_ (leB cL0_5) tr)) (a_ (a_ tr tr) (a_ (a_ tr tr) (a_ (a_ tr tr) (a_ (a_ tr tr) (a_ (a_ tr (a_ (leB cL0_6) tr)) (a_ (a_ tr tr) (a_ (a_ tr tr) (a_ (a_ tr tr) (a_ (a_ tr tr) (a_ (a_ tr (a_ (leB cL0_7) tr)) (a_ (a_ tr tr) (a_ (a_ tr tr) (a_ (a_ tr tr) (a_ (a_ tr tr) (a_ (a_ tr tr) (a_ (a_ tr tr) (a_ (a_ tr (a_ (leB cL0_8) tr)) (a_ (a_ tr tr) (a_ (a_ tr tr) (a_ (a_ tr tr) (a_ (a_ tr tr) (a_ (a_ tr tr) (a_ (a_ tr tr) tr)))))))))))))))))))))))))))))))))))))))) tr)) tr) (by kernel_rfl) rfl
                  · skip
                    obtain rfl := Option.some.inj h
                    exact run_ret mixed (L := []) (n := 19) (s := [.go, .reg [(1, { v := some (.bool false) })], .reg [(3, { v := some (.bool true) }), (8, { v := some (.bool true) }), (12, { v := some (.bool true) }), (16, { v := some (.bool true) }), (21, { v := some (.bool true) }), (26, { v := some (.bool true) }), (33, { v := some (.bool false) })]])
                      (a_ (a_ (a_ (a_ tr tr) (a_ (a_ tr (a_ (leB cL0_1) tr)) tr)) (a_ (a_ (a_ tr tr) (a_ (a_ (a_ tr (lt_ 0 11 rfl)) tr) (a_ (a_ tr tr) (a_ (a_ tr (a_ (leB cL0_2) tr)) (a_ (a_ tr tr) (a_ (a_ (a_ tr (lt_ 0 11 rfl)) tr) (a_ (a_ tr tr) (a_ (a_ tr tr) (a_ (a_ tr (a_ (leB cL0_3) tr)) (a_ (a_ tr tr) (a_ (a_ tr tr) (a_ (a_ tr tr) (a_ (a_ tr (a_ (leB cL0_4) tr)) (a_ (a_ tr tr) (a_ (a_ tr tr) (a_ (a_ tr tr) (a_ (a_ tr (a_ (leB cL0_5) tr)) (a_ (a_ tr tr) (a_ (a_ tr tr) (a_ (a_ tr tr) (a_ (a_ tr tr) (a_ (a_ tr (a_ (leB cL0_6) tr)) (a_ (a_ tr tr) (a_ (a_ tr tr) (a_ (a_ tr tr) (a_ (a_ tr tr) (a_ (a_ tr (a_ (leB cL0_7) tr)) (a_ (a_ tr tr) (a_ (a_ tr tr) (a_ (a_ tr tr) (a_ (a_ tr tr) (a_ (a_ tr tr) (a_ (a_ tr tr) (a_ (a_ tr (a_ (leB cL0_8) tr)) (a_ tr (a_ tr (a_ tr (a_ tr (a_ (a_ tr tr) (a_ (a_ tr tr) tr)))))))))))))))))))))))))))))))))))))))) tr)) tr) (by kernel_rfl) rfl
                · skip
                  obtain rfl := Option.some.inj h
                  exact run_ret mixed (L := []) (n := 19) (s := [.go, .reg [(1, { v := some (.bool false) })], .reg [(3, { v := some (.bool true) }), (8, { v := some (.bool true) }), (12, { v := some (.bool true) }), (16, { v := some (.bool true) }), (21, { v := some (.bool true) }), (26, { v := some (.bool false) })]])
                    (a_ (a_ (a_ (a_ tr tr) (a_ (a_ tr (a_ (leB cL0_1) tr)) tr)) (a_ (a_ (a_ tr tr) (a_ (a_ (a_ tr (lt_ 0 11 rfl)) tr) (a_ (a_ tr tr) (a_ (a_ tr (a_ (leB cL0_2) tr)) (a_ (a_ tr tr) (a_ (a_ (a_ tr (lt_ 0 11 rfl)) tr) (a_ (a_ tr tr) (a_ (a_ tr tr) (a_ (a_ tr (a_ (leB cL0_3) tr)) (a_ (a_ tr tr) (a_ (a_ tr tr) (a_ (a_ tr tr) (a_ (a_ tr (a_ (leB cL0_4) tr)) (a_ (a_ tr tr) (a_ (a_ tr tr) (a_ (a_ tr tr) (a_ (a_ tr (a_ (leB cL0_5) tr)) (a_ (a_ tr tr) (a_ (a_ tr tr) (a_ (a_ tr tr) (a_ (a_ tr tr) (a_ (a_ tr (a_ (leB cL0_6) tr)) (a_ (a_ tr tr) (a_ (a_ tr tr) (a_ (a_ tr tr) (a_ (a_ tr tr) (a_ (a_ tr (a_ (leB cL0_7) tr)) (a_ tr (a_ tr (a_ tr (a_ tr (a_ tr (a_ (a_ tr tr) (a_ (a_ tr tr) (a_ tr (a_ tr (a_ tr (a_ tr (a_ (a_ tr tr) (a_ (a_ tr tr) tr)))))))))))))))))))))))))))))))))))))))) tr)) tr) (by kernel_rfl) rfl
              · skip
                obtain rfl := Option.some.inj h
                exact run_ret mixed (L := []) (n := 19) (s := [.go, .reg [(1, { v := some (.bool false) })], .reg [(3, { v := some (.bool true) }), (8, { v := some (.bool true) }), (12, { v := some (.bool true) }), (16, { v := some (.bool true) }), (21, { v := some (.bool false) })]])
                  (a_ (a_ (a_ (a_ tr tr) (a_ (a_ tr (a_ (leB cL0_1) tr)) tr)) (a_ (a_ (a_ tr tr) (a_ (a_ (a_ tr (lt_ 0 11 rfl)) tr) (a_ (a_ tr tr) (a_ (a_ tr (a_ (leB cL0_2) tr)) (a_ (a_ tr tr) (a_ (a_ (a_ tr (lt_ 0 11 rfl)) tr) (a_ (a_ tr tr) (a_ (a_ tr tr) (a_ (a_ tr (a_ (leB cL0_3) tr)) (a_ (a_ tr tr) (a_ (a_ tr tr) (a_ (a_ tr tr) (a_ (a_ tr (a_ (leB cL0_4) tr)) (a_ (a_ tr tr) (a_ (a_ tr tr) (a_ (a_ tr tr) (a_ (a_ tr (a_ (leB cL0_5) tr)) (a_ (a_ tr tr) (a_ (a_ tr tr) (a_ (a_ tr tr) (a_ (a_ tr tr) (a_ (a_ tr (a_ (leB cL0_6) tr)) (a_ tr (a_ tr (a_ tr (a_ (a_ tr tr) (a_ (a_ tr tr) (a_ tr (a_ tr (a_ tr (a_ tr (a_ tr (a_ (a_ tr tr) (a_ (a_ tr tr) (a_ tr (a_ tr (a_ tr (a_ tr (a_ (a_ tr tr) (a_ (a_ tr tr) tr)))))))))))))))))))))))))))))))))))))))) tr)) tr) (by kernel_rfl) rfl
            · skip
              obtain rfl := Option.some.inj h
              exact run_ret mixed (L := []) (n := 19) (s := [.go, .reg [(1, { v := some (.bool false) })], .reg [(3, { v := some (.bool true) }), (8, { v := some (.bool true) }), (12, { v := some (.bool true) }), (16, { v := some (.bool false) })]])
                (a_ (a_ (a_ (a_ tr tr) (a_ (a_ tr (a_ (leB cL0_1) tr)) tr)) (a_ (a_ (a_ tr tr) (a_ (a_ (a_ tr (lt_ 0 11 rfl)) tr) (a_ (a_ tr tr) (a_ (a_ tr (a_ (leB cL0_2) tr)) (a_ (a_ tr tr) (a_ (a_ (a_ tr (lt_ 0 11 rfl)) tr) (a_ (a_ tr tr) (a_ (a_ tr tr) (a_ (a_ tr (a_ (leB cL0_3) tr)) (a_ (a_ tr tr) (a_ (a_ tr tr) (a_ (a_ tr tr) (a_ (a_ tr (a_ (leB cL0_4) tr)) (a_ (a_ tr tr) (a_ (a_ tr tr) (a_ (a_ tr tr) (a_ (a_ tr (a_ (leB cL0_5) tr)) (a_ tr (a_ tr (a_ tr (a_ (a_ tr tr) (a_ (a_ tr tr) (a_ tr (a_ tr (a_ tr (a_ (a_ tr tr) (a_ (a_ tr tr) (a_ tr (a_ tr (a_ tr (a_ tr (a_ tr (a_ (a_ tr tr) (a_ (a_ tr tr) (a_ tr (a_ tr (a_ tr (a_ tr (a_ (a_ tr tr) (a_ (a_ tr tr) tr)))))))))))))))))))))))))))))))))))))))) tr)) tr) (by kernel_rfl) rfl
          · skip
            obtain rfl := Option.some.inj h
            exact run_ret mixed (L := []) (n := 19) (s := [.go, .reg [(1, { v := some (.bool false) })], .reg [(3, { v := some (.bool true) }), (8, { v := some (.bool true) }), (12, { v := some (.bool false) })]])
              (a_ (a_ (a_ (a_ tr tr) (a_ (a_ tr (a_ (leB cL0_1) tr)) tr)) (a_ (a_ (a_ tr tr) (a_ (a_ (a_ tr (lt_ 0 11 rfl)) tr) (a_ (a_ tr tr) (a_ (a_ tr (a_ (leB cL0_2) tr)) (a_ (a_ tr tr) (a_ (a_ (a_ tr (lt_ 0 11 rfl)) tr) (a_ (a_ tr tr) (a_ (a_ tr tr) (a_ (a_ tr (a_ (leB cL0_3) tr)) (a_ (a_ tr tr) (a_ (a_ tr tr) (a_ (a_ tr tr) (a_ (a_ tr (a_ (leB cL0_4) tr)) (a_ tr (a_ tr (a_ (a_ tr tr) (a_ (a_ tr tr) (a_ tr (a_ tr (a_ tr (a_ (a_ tr tr) (a_ (a_ tr tr) (a_ tr (a_ tr (a_ tr (a_ (a_ tr tr) (a_ (a_ tr tr) (a_ tr (a_ tr (a_ tr (a_ tr (a_ tr (a_ (a_ tr tr) (a_ (a_ tr tr) (a_ tr (a_ tr (a_ tr (a_ tr (a_ (a_ tr tr) (a_ (a_ tr tr) tr)))))))))))))))))))))))))))))))))))))))) tr)) tr) (by kernel_rfl) rfl
        · skip
          obtain rfl := Option.some.inj h
          exact run_ret mixed (L := []) (n := 19) (s := [.go, .reg [(1, { v := some (.bool false) })], .reg [(3, { v := some (.bool true) }), (8, { v := some (.bool false) })]])
            (a_ (a_ (a_ (a_ tr tr) (a_ (a_ tr (a_ (leB cL0_1) tr)) tr)) (a_ (a_ (a_ tr tr) (a_ (a_ (a_ tr (lt_ 0 11 rfl)) tr) (a_ (a_ tr tr) (a_ (a_ tr (a_ (leB cL0_2) tr)) (a_ (a_ tr tr) (a_ (a_ (a_ tr (lt_ 0 11 rfl)) tr) (a_ (a_ tr tr) (a_ (a_ tr tr) (a_ (a_ tr (a_ (leB cL0_3) tr)) (a_ tr (a_ tr (a_ (a_ tr tr) (a_ (a_ tr tr) (a_ tr (a_ tr (a_ (a_ tr tr) (a_ (a_ tr tr) (a_ tr (a_ tr (a_ tr (a_ (a_ tr tr) (a_ (a_ tr tr) (a_ tr (a_ tr (a_ tr (a_ (a_ tr tr) (a_ (a_ tr tr) (a_ tr (a_ tr (a_ tr (a_ tr (a_ tr (a_ (a_ tr tr) (a_ (a_ tr tr) (a_ tr (a_ tr (a_ tr (a_ tr (a_ (a_ tr tr) (a_ (a_ tr tr) tr)))))))))))))))))))))))))))))))))))))))) tr)) tr) (by kernel_rfl) rfl
      · skip
        obtain rfl := Option.some.inj h
        exact run_ret mixed (L := []) (n := 19) (s := [.go, .reg [(1, { v := some (.bool false) })], .reg [(3, { v := some (.bool false) })]])
          (a_ (a_ (a_ (a_ tr tr) (a_ (a_ tr (a_ (leB cL0_1) tr)) tr)) (a_ (a_ (a_ tr tr) (a_ (a_ (a_ tr (lt_ 0 11 rfl)) tr) (a_ (a_ tr tr) (a_ (a_ tr (a_ (leB cL0_2) tr)) (a_ tr (a_ tr (a_ tr (a_ (a_ tr tr) (a_ (a_ tr tr) (a_ tr (a_ tr (a_ (a_ tr tr) (a_ (a_ tr tr) (a_ tr (a_ tr (a_ (a_ tr tr) (a_ (a_ tr tr) (a_ tr (a_ tr (a_ tr (a_ (a_ tr tr) (a_ (a_ tr tr) (a_ tr (a_ tr (a_ tr (a_ (a_ tr tr) (a_ (a_ tr tr) (a_ tr (a_ tr (a_ tr (a_ tr (a_ tr (a_ (a_ tr tr) (a_ (a_ tr tr) (a_ tr (a_ tr (a_ tr (a_ tr (a_ (a_ tr tr) (a_ (a_ tr tr) tr)))))))))))))))))))))))))))))))))))))))) tr)) tr) (by kernel_rfl) rfl

theorem parrelref06_May_ok (c : T_api_Config) (r : (Bool)) (h : parrelref06_May c = some r) : ∀ σ, Inj 0 σ → FnTri Tryd.prog 57 (renL σ [v_T_api_Config c]) (preOf σ 0 []) ((parrelref06_May_v r).ren σ) (upOf σ []) := by
  refine fn_of Tryd.func57 (by kernel_rfl) (by kernel_rfl) (by kernel_rfl) trivial (by kernel_rfl) trivial (by kernel_rfl) ?_
  intro w0 W μ0 hμ
  unfold parrelref06_May at h
  obtain ⟨y2, e1, h⟩ := bind_some h
  exact run_to mixed hμ (L := [0]) (n := 21) (s := [.reg [], .reg [(1, { call := some (parrelref06_Total_v y2, [], []) })], .reg []])
    (a_ (a_ (a_ tr tr) (a_ (a_ tr tr) tr)) (a_ (a_ (a_ (a_ tr (le_ 11 11 rfl)) tr) (a_ (a_ (a_ (parrelref06_Total_tri c y2 e1) tr) tr) (a_ (a_ tr tr) (a_ (a_ (a_ tr (lt_ 1 11 rfl)) tr) (a_ (a_ tr tr) (a_ (a_ tr tr) (a_ (a_ (a_ tr (lt_ 2 11 rfl)) tr) (a_ (a_ tr tr) (a_ (a_ tr tr) (a_ (a_ tr tr) (a_ (a_ tr tr) tr))))))))))) (a_ (a_ (a_ tr tr) tr) tr))) (parrelref06_May_l0_ok hμ c y2  big _ r h) (by kernel_rfl) ⟨rfl, trivial⟩

theorem parrelref06_May_tri (c : T_api_Config) (r : (Bool)) (h : parrelref06_May c = some r) : FnTri Tryd.prog 57 [v_T_api_Config c] [] (parrelref06_May_v r) [] := FnTri.none (parrelref06_May_ok c r h) rfl rfl

/-- parrel/parrelref10.ItemMay -/

def parrelref10_ItemMay_v (r : (Bool)) : LV := .bool r

def parrelref10_ItemMay (i : T_api_Item) : Option ((Bool)) :=
  if ((decide (i.f_Version ≤ 2147483647)) : Bool) then
    if ((decide (((i.f_Value).length : Int) ≤ 64)) : Bool) then
      (parrelref06_May i.f_Conf).bind fun y4 =>
      some y4
    else
      some false
  else
    some false

theorem parrelref10_ItemMay_ok (i : T_api_Item) (r : (Bool)) (h : parrelref10_ItemMay i = some r) : ∀ σ, Inj 0 σ → FnTri Tryd.prog 40 (renL σ [v_T_api_Item i]) (preOf σ 0 []) ((parrelref10_ItemMay_v r).ren σ) (upOf σ []) := by
  refine fn_of Tryd.func40 (by kernel_rfl) (by kernel_rfl) (by kernel_rfl) trivial (by kernel_rfl) trivial (by kernel_rfl) ?_
  intro w0 W μ0 hμ
  unfold parrelref10_ItemMay at h
  rcases itb_some h with ⟨c1, h⟩ | ⟨c1, h⟩
  · skip
    rcases itb_some h with ⟨c2, h⟩ | ⟨c2, h⟩
    · skip
      obtain ⟨y4, e3, h⟩ := bind_some h
      obtain rfl := Option.some.inj h
      exact run_ret mixed (L := []) (n := 15) (s := [.reg [], .reg [(3, { v := some (.bool true) }), (9, { v := some (.bool true) }), (12, { call := some (parrelref06_May_v y4, [], []) })]])
        (a_ (a_ (a_ (a_ tr tr) (a_ (a_ tr tr) tr)) (a_ (a_ (a_ tr tr) (a_ (a_ (a_ tr (lt_ 0 13 rfl)) tr) (a_ (a_ tr tr) (a_ (a_ tr (a_ (leB c1) tr)) (a_ (a_ tr tr) (a_ (a_ (a_ tr (lt_ 1 13 rfl)) tr) (a_ (a_ tr tr) (a_ (a_ tr tr) (a_ (a_ tr tr) (a_ (a_ tr (a_ (leB c2) tr)) (a_ (a_ tr tr) (a_ (a_ (a_ tr (le_ 13 13 rfl)) tr) (a_ (a_ (a_ (parrelref06_May_tri i.f_Conf y4 e3) tr) tr) (a_ (a_ tr tr) (a_ (a_ tr tr) tr))))))))))))))) tr)) tr) (by kernel_rfl) rfl
    · skip
      obtain rfl := Option.some.inj h
      exact run_ret mixed (L := []) (n := 15) (s := [.reg [], .reg [(3, { v := some (.bool true) }), (9, { v := some (.bool false) })]])
        (a_ (a_ (a_ (a_ tr tr) (a_ (a_ tr tr) tr)) (a_ (a_ (a_ tr tr) (a_ (a_ (a_ tr (lt_ 0 13 rfl)) tr) (a_ (a_ tr tr) (a_ (a_ tr (a_ (leB c1) tr)) (a_ (a_ tr tr) (a_ (a_ (a_ tr (lt_ 1 13 rfl)) tr) (a_ (a_ tr tr) (a_ (a_ tr tr) (a_ (a_ tr tr) (a_ (a_ tr (a_ (leB c2) tr)) (a_ tr (a_ tr (a_ tr (a_ (a_ tr tr) (a_ (a_ tr tr) tr))))))))))))))) tr)) tr) (by kernel_rfl) rfl
  · skip
    obtain rfl := Option.some.inj h
    exact run_ret mixed (L := []) (n := 15) (s := [.reg [], .reg [(3, { v := some (.bool false) })]])
      (a_ (a_ (a_ (a_ tr tr) (a_ (a_ tr tr) tr)) (a_ (a_ (a_ tr tr) (a_ (a_ (a_ tr (lt_ 0 13 rfl)) tr) (a_ (a_ tr tr) (a_ (a_ tr (a_ (leB c1) tr)) (a_ tr (a_ tr (a_ tr (a_ tr (a_ (a_ tr tr) (a_ (a_ tr tr) (a_ tr (a_ tr (a_ tr (a_ (a_ tr tr) (a_ (a_ tr tr) tr))))))))))))))) tr)) tr) (by kernel_rfl) rfl

theorem parrelref10_ItemMay_tri (i : T_api_Item) (r : (Bool)) (h : parrelref10_ItemMay i = some r) : FnTri Tryd.prog 40 [v_T_api_Item i] [] (parrelref10_ItemMay_v r) [] := FnTri.none (parrelref10_ItemMay_ok i r h) rfl rfl

/-- parrel/parrelref05.first -/

def parrelref05_first_v (r : (Int)) : LV := .int .i64 r

def parrelref05_first_T0 (a : List (Int)) (b : List (Int)) (i : Int) : List LV := [.ds 1 (a).length (rowF (cInt .u32) default a), .ds 1 (b).length (rowF (cInt .u32) default b), .any, .any, .any, .int .i64 i, .any, .any, .any, .any, .any, .any, .any, .any, .any, .any, .any, .any, .any, .any, .any, .any, .any, .any, .any, .any, .any, .any, .any, .any]

def parrelref05_first_H0 (a : List (Int)) (b : List (Int)) (i : Int) : Heap := []

def parrelref05_first_l0 (a : List (Int)) (b : List (Int))  : Nat → (Int) → Option ((Int))
  | 0, _ => none
  | fuel + 1, i =>
    if ((decide (i < ((a).length : Int))) : Bool) then
      if 0 ≤ i ∧ i < (((a).length : Nat) : Int) then
      if 0 ≤ i ∧ i < (((b).length : Nat) : Int) then
      if ((decide ((a.getD i.toNat default) < (b.getD i.toNat default))) : Bool) then
        some (-1)
      else
        if ((decide ((b.getD i.toNat default) < (a.getD i.toNat default))) : Bool) then
          some 1
        else
          parrelref05_first_l0 a b  fuel (IntKind.wrap .i64 (i + 1))
      else none
      else none
    else
      some 0

def parrelref05_first (a : List (Int)) (b : List (Int)) : Option ((Int)) :=
  parrelref05_first_l0 a b  big 0

theorem parrelref05_first_l0_ok {w0 : World} {W : Nat → Prop} {μ0 : Emb} (hμ : ∀ c p, μ0 c = some p → c < 0) (a : List (Int)) (b : List (Int))  : ∀ (fuel : Nat) (i : Int) (r : (Int)), parrelref05_first_l0 a b  fuel i = some r → kont Tryd.prog w0 W μ0 (FnPost Tryd.prog Tryd.f58 0 0 (parrelref05_first_v r) []) (kAt (bodyOf Tryd.f58) 0) none (parrelref05_first_T0 a b i) (parrelref05_first_H0 a b i) := by
  intro fuel
  induction fuel with
  | zero => intro i r h; rw [parrelref05_first_l0] at h; cases h
  | succ fuel ih =>
    intro i r h
    rw [parrelref05_first_l0] at h
    rcases itb_some h with ⟨cL0_1, h⟩ | ⟨cL0_1, h⟩
    · skip
      obtain ⟨gL0_2, h⟩ := guard_some h
      obtain ⟨gL0_3, h⟩ := guard_some h
      rcases itb_some h with ⟨cL0_4, h⟩ | ⟨cL0_4, h⟩
      · skip
        obtain rfl := Option.some.inj h
        exact run_ret mixed (L := []) (n := 26) (s := [.go, .reg [(3, { v := some (.bool true) })], .reg [(8, { v := some (.bool true) })], .reg []])
          (a_ (a_ (a_ (a_ tr tr) (a_ (a_ tr tr) (a_ (a_ tr tr) (a_ (a_ tr (a_ (leB cL0_1) tr)) tr)))) (a_ (a_ (a_ tr tr) (a_ (a_ tr tr) (a_ (a_ (a_ (Eq.refl 1) gL0_2) tr) (a_ (a_ (lt_ 0 1 rfl) tr) (a_ (a_ tr tr) (a_ (a_ tr tr) (a_ (a_ (a_ (Eq.refl 1) gL0_3) tr) (a_ (a_ (lt_ 0 1 rfl) tr) (a_ (a_ tr (a_ (leB cL0_4) tr)) tr))))))))) (a_ (a_ (a_ tr tr) tr) tr))) tr) (by kernel_rfl) rfl
      · skip
        rcases itb_some h with ⟨cL0_5, h⟩ | ⟨cL0_5, h⟩
        · skip
          obtain rfl := Option.some.inj h
          exact run_ret mixed (L := []) (n := 31) (s := [.go, .reg [(3, { v := some (.bool true) })], .reg [(8, { v := some (.bool false) })], .reg [(8, { v := some (.bool true) })], .reg []])
            (a_ (a_ (a_ (a_ tr tr) (a_ (a_ tr tr) (a_ (a_ tr tr) (a_ (a_ tr (a_ (leB cL0_1) tr)) tr)))) (a_ (a_ (a_ tr tr) (a_ (a_ tr tr) (a_ (a_ (a_ (Eq.refl 1) gL0_2) tr) (a_ (a_ (lt_ 0 1 rfl) tr) (a_ (a_ tr tr) (a_ (a_ tr tr) (a_ (a_ (a_ (Eq.refl 1) gL0_3) tr) (a_ (a_ (lt_ 0 1 rfl) tr) (a_ (a_ tr (a_ (leB cL0_4) tr)) tr))))))))) (a_ (a_ (a_ tr tr) (a_ (a_ tr tr) (a_ (a_ (a_ (Eq.refl 1) gL0_2) tr) (a_ (a_ (lt_ 0 1 rfl) tr) (a_ (a_ tr tr) (a_ (a_ tr tr) (a_ (a_ (a_ (Eq.refl 1) gL0_3) tr) (a_ (a_ (lt_ 0 1 rfl) tr) (a_ (a_ tr (a_ (leB cL0_5) tr)) tr))))))))) (a_ (a_ (a_ tr tr) tr) tr)))) tr) (by kernel_rfl) rfl
        · skip
          exact run_to mixed hμ (L := []) (n := 32) (s := [.go, .reg [(3, { v := some (.bool true) })], .reg [(8, { v := some (.bool false) })], .reg [(8, { v := some (.bool false) })], .reg []])
            (a_ (a_ (a_ tr tr) (a_ (a_ tr tr) (a_ (a_ tr tr) (a_ (a_ tr (a_ (leB cL0_1) tr)) tr)))) (a_ (a_ (a_ tr tr) (a_ (a_ tr tr) (a_ (a_ (a_ (Eq.refl 1) gL0_2) tr) (a_ (a_ (lt_ 0 1 rfl) tr) (a_ (a_ tr tr) (a_ (a_ tr tr) (a_ (a_ (a_ (Eq.refl 1) gL0_3) tr) (a_ (a_ (lt_ 0 1 rfl) tr) (a_ (a_ tr (a_ (leB cL0_4) tr)) tr))))))))) (a_ (a_ (a_ tr tr) (a_ (a_ tr tr) (a_ (a_ (a_ (Eq.refl 1) gL0_2) tr) (a_ (a_ (lt_ 0 1 rfl) tr) (a_ (a_ tr tr) (a_ (a_ tr tr) (a_ (a_ (a_ (Eq.refl 1) gL0_3) tr) (a_ (a_ (lt_ 0 1 rfl) tr) (a_ (a_ tr (a_ (leB cL0_5) tr)) tr))))))))) (a_ (a_ (a_ tr tr) (a_ (a_ tr tr) (a_ (a_ tr tr) tr))) tr)))) (ih _ r h) (by kernel_rfl) trivial
    · skip
      obtain rfl := Option.some.inj h
      exact run_ret mixed (L := []) (n := 19) (s := [.go, .reg [(3, { v := some (.bool false) })], .reg []])
        (a_ (a_ (a_ (a_ tr tr) (a_ (a_ tr tr) (a_ (a_ tr tr) (a_ (a_ tr (a_ (leB cL0_1) tr)) tr)))) (a_ (a_ (a_ tr tr) tr) tr)) tr) (by kernel_rfl) rfl

theorem parrelref05_first_ok (a : List (Int)) (b : List (Int)) (r : (Int)) (h : parrelref05_first a b = some r) : ∀ σ, Inj 0 σ → FnTri Tryd.prog 58 (renL σ [.ds 1 (a).length (rowF (cInt .u32) default a), .ds 1 (b).length (rowF (cInt .u32) default b)]) (preOf σ 0 []) ((parrelref05_first_v r).ren σ) (upOf σ []) := by
  refine fn_of Tryd.func58 (by kernel_rfl) (by kernel_rfl) (by kernel_rfl) trivial (by kernel_rfl) trivial (by kernel_rfl) ?_
  intro w0 W μ0 hμ
  unfold parrelref05_first at h
  exact run_to mixed hμ (L := []) (n := 18) (s := [.reg [], .reg []])
    (a_ (a_ (a_ tr tr) tr) (a_ (a_ (a_ tr tr) tr) tr)) (parrelref05_first_l0_ok hμ a b  big _ r h) (by kernel_rfl) trivial

theorem parrelref05_first_tri (a : List (Int)) (b : List (Int)) (r : (Int)) (h : parrelref05_first a b = some r) : FnTri Tryd.prog 58 [.ds 1 (a).length (rowF (cInt .u32) default a), .ds 1 (b).length (rowF (cInt .u32) default b)] [] (parrelref05_first_v r) [] := FnTri.none (parrelref05_first_ok a b r h) rfl rfl

/-- parrel/parrelref05.Keys -/

def parrelref05_Keys_v (r : (Int)) : LV := .int .i64 r

def parrelref05_Keys_T0 (a : A8 (Int)) (b : A8 (Int)) (i : Int) (l : List (Int)) (l2 : List (Int)) : List LV := [.any, .any, .ptr 0 0 0, .ptr 1 0 0, .any, .gs 2 (l).length, .gs 3 (l2).length, .int .i64 i, .any, .any, .any, .any, .any, .any, .any, .any, .any, .any, .any, .any, .any, .any, .any, .any, .any, .any, .any, .any, .any]

def parrelref05_Keys_H0 (a : A8 (Int)) (b : A8 (Int)) (i : Int) (l : List (Int)) (l2 : List (Int)) : Heap := [some (.var [.int .u8 a.a0, .int .u8 a.a1, .int .u8 a.a2, .int .u8 a.a3, .int .u8 a.a4, .int .u8 a.a5, .int .u8 a.a6, .int .u8 a.a7]), some (.var [.int .u8 b.a0, .int .u8 b.a1, .int .u8 b.a2, .int .u8 b.a3, .int .u8 b.a4, .int .u8 b.a5, .int .u8 b.a6, .int .u8 b.a7]), some (.gr 1 (l).length (rowF (cInt .u32) default l)), some (.gr 1 (l2).length (rowF (cInt .u32) default l2))]

def parrelref05_Keys_l0 (a : A8 (Int)) (b : A8 (Int))  : Nat → (Int) → (List (Int)) → (List (Int)) → Option ((Int))
  | 0, _, _, _ => none
  | fuel + 1, i, l, l2 =>
    if ((decide (i < 8)) : Bool) then
      if 0 ≤ i ∧ i < 8 then
      if ((l).length + (([(IntKind.wrap .u32 (A8.get a i.toNat))] : List (Int))).length) * 4 ≤ 140737488351232 then
      if ((l2).length + (([(IntKind.wrap .u32 (A8.get b i.toNat))] : List (Int))).length) * 4 ≤ 140737488351232 then
      parrelref05_Keys_l0 a b  fuel (IntKind.wrap .i64 (i + 1)) (l ++ ([(IntKind.wrap .u32 (A8.get a i.toNat))] : List (Int))) (l2 ++ ([(IntKind.wrap .u32 (A8.get b i.toNat))] : List (Int)))
      else none
      else none
      else none
    else
      (parrelref05_first l l2).bind fun yL0_3 =>
      some yL0_3

def parrelref05_Keys (a : A8 (Int)) (b : A8 (Int)) : Option ((Int)) :=
  parrelref05_Keys_l0 a b  big 0 ([] : List (Int)) ([] : List (Int))

theorem parrelref05_Keys_l0_ok {w0 : World} {W : Nat → Prop} {μ0 : Emb} (hμ : ∀ c p, μ0 c = some p → c < 0) (a : A8 (Int)) (b : A8 (Int))  : ∀ (fuel : Nat) (i : Int) (l : List (Int)) (l2 : List (Int)) (r : (Int)), parrelref05_Keys_l0 a b  fuel i l l2 = some r → kont Tryd.prog w0 W μ0 (FnPost Tryd.prog Tryd.f41 0 0 (parrelref05_Keys_v r) []) (kAt (bodyOf Tryd.f41) 0) none (parrelref05_Keys_T0 a b i l l2) (parrelref05_Keys_H0 a b i l l2) := by
  intro fuel
  induction fuel with
  | zero => intro i l l2 r h; rw [parrelref05_Keys_l0] at h; cases h
  | succ fuel ih =>
    intro i l l2 r h
    rw [parrelref05_Keys_l0] at h
    rcases itb_some h with ⟨cL0_1, h⟩ | ⟨cL0_1, h⟩
    · skip
      obtain ⟨gL0_2, h⟩ := guard_some h
      obtain ⟨gL0_3, h⟩ := guard_some h
      obtain ⟨gL0_4, h⟩ := guard_some h
      exact run_to mixed hμ (L := [0, 1, 5, 7]) (n := 26) (s := [.go, .reg [(1, { v := some (.bool true) })], .reg [(3, { v := some (.int .u8 (A8.get a i.toNat)) }), (5, { os := [(4, .gr 1 (([(IntKind.wrap .u32 (A8.get a i.toNat))] : List (Int))).length (rowF (cInt .u32) default ([(IntKind.wrap .u32 (A8.get a i.toNat))] : List (Int))))], v := some (.gs 4 (([(IntKind.wrap .u32 (A8.get a i.toNat))] : List (Int))).length) }), (6, { app := 3, os := [(5, .gr 1 ((l ++ ([(IntKind.wrap .u32 (A8.get a i.toNat))] : List (Int)))).length (rowF (cInt .u32) default (l ++ ([(IntKind.wrap .u32 (A8.get a i.toNat))] : List (Int)))))], v := some (.gs 5 ((l ++ ([(IntKind.wrap .u32 (A8.get a i.toNat))] : List (Int)))).length) })], .reg [(3, { v := some (.int .u8 (A8.get b i.toNat)) }), (5, { os := [(6, .gr 1 (([(IntKind.wrap .u32 (A8.get b i.toNat))] : List (Int))).length (rowF (cInt .u32) default ([(IntKind.wrap .u32 (A8.get b i.toNat))] : List (Int))))], v := some (.gs 6 (([(IntKind.wrap .u32 (A8.get b i.toNat))] : List (Int))).length) }), (6, { app := 3, os := [(7, .gr 1 ((l2 ++ ([(IntKind.wrap .u32 (A8.get b i.toNat))] : List (Int)))).length (rowF (cInt .u32) default (l2 ++ ([(IntKind.wrap .u32 (A8.get b i.toNat))] : List (Int)))))], v := some (.gs 7 ((l2 ++ ([(IntKind.wrap .u32 (A8.get b i.toNat))] : List (Int)))).length) })], .reg []])
        (a_ (a_ (a_ tr tr) (a_ (a_ tr (a_ (leB cL0_1) tr)) tr)) (a_ (a_ (a_ tr tr) (a_ (a_ tr tr) (a_ (a_ gL0_2 tr) (a_ (a_ (a_ tr (arrLt (len := 8) gL0_2 0 1 8 rfl rfl)) (a_ (ld8s (cInt .u8) 1 (fun _ => rfl) a [] [] 0 rfl i.toNat (lt8N gL0_2) (le_ (0 + 1) 1 rfl)) tr)) (a_ (a_ tr tr) (a_ (a_ (a_ (Eq.refl true) (a_ (Eq.refl 1) (a_ (lt_ 0 1 rfl) (le_ 1 16777216 rfl)))) (a_ (le_sl_gs 4 1 (some 1) rfl) (a_ (sub_lit (cInt .u32) default 1 (fun _ => rfl) ([(IntKind.wrap .u32 (A8.get a i.toNat))] : List (Int))) tr))) (a_ (a_ (a_ (a_ (Eq.refl 1) (Nat.le_refl (([(IntKind.wrap .u32 (A8.get a i.toNat))] : List (Int))).length)) (a_ (a_ (lt_ 0 1 rfl) (a_ (lt_ 0 4 rfl) (a_ gL0_3 (a_ (Eq.refl 1) (Eq.refl true))))) (a_ (Eq.refl 1) (Nat.le_refl (l).length)))) (a_ (le_gs_app 5 l ([(IntKind.wrap .u32 (A8.get a i.toNat))] : List (Int))) (a_ (sub_app (cInt .u32) default 1 l ([(IntKind.wrap .u32 (A8.get a i.toNat))] : List (Int))) tr))) (a_ (a_ tr tr) tr)))))))) (a_ (a_ (a_ tr tr) (a_ (a_ tr tr) (a_ (a_ gL0_2 tr) (a_ (a_ (a_ tr (arrLt (len := 8) gL0_2 0 1 8 rfl rfl)) (a_ (ld8s (cInt .u8) 1 (fun _ => rfl) b [] [] 0 rfl i.toNat (lt8N gL0_2) (le_ (0 + 1) 1 rfl)) tr)) (a_ (a_ tr tr) (a_ (a_ (a_ (Eq.refl true) (a_ (Eq.refl 1) (a_ (lt_ 0 1 rfl) (le_ 1 16777216 rfl)))) (a_ (le_sl_gs 6 1 (some 1) rfl) (a_ (sub_lit (cInt .u32) default 1 (fun _ => rfl) ([(IntKind.wrap .u32 (A8.get b i.toNat))] : List (Int))) tr))) (a_ (a_ (a_ (a_ (Eq.refl 1) (Nat.le_refl (([(IntKind.wrap .u32 (A8.get b i.toNat))] : List (Int))).length)) (a_ (a_ (lt_ 0 1 rfl) (a_ (lt_ 0 4 rfl) (a_ gL0_4 (a_ (Eq.refl 1) (Eq.refl true))))) (a_ (Eq.refl 1) (Nat.le_refl (l2).length)))) (a_ (le_gs_app 7 l2 ([(IntKind.wrap .u32 (A8.get b i.toNat))] : List (Int))) (a_ (sub_app (cInt .u32) default 1 l2 ([(IntKind.wrap .u32 (A8.get b i.toNat))] : List (Int))) tr))) (a_ (a_ tr tr) tr)))))))) (a_ (a_ (a_ tr tr) (a_ (a_ tr tr) (a_ (a_ tr tr) tr))) tr)))) (ih _ _ _ r h) (by kernel_rfl) ⟨rfl, rfl, fun _ _ => rfl, fun _ _ => rfl, trivial⟩
    · skip
      obtain ⟨yL0_3, eL0_2, h⟩ := bind_some h
      obtain rfl := Option.some.inj h
      exact run_ret mixed (L := []) (n := 21) (s := [.go, .reg [(1, { v := some (.bool false) })], .frz 2, .frz 3, .reg [(2, { call := some (parrelref05_first_v yL0_3, [], []) })]])
        (a_ (a_ (a_ (a_ tr tr) (a_ (a_ tr (a_ (leB cL0_1) tr)) tr)) (a_ (a_ (fz_row (enc := (cInt .u32)) (d := default) (fun _ => rfl) l) (a_ (Nat.le_refl (l).length) tr)) (a_ (a_ (fz_row (enc := (cInt .u32)) (d := default) (fun _ => rfl) l2) (a_ (Nat.le_refl (l2).length) tr)) (a_ (a_ (a_ tr tr) (a_ (a_ tr tr) (a_ (a_ (a_ (parrelref05_first_tri l l2 yL0_3 eL0_2) tr) tr) (a_ (a_ tr tr) tr)))) tr)))) tr) (by kernel_rfl) rfl

theorem parrelref05_Keys_ok (a : A8 (Int)) (b : A8 (Int)) (r : (Int)) (h : parrelref05_Keys a b = some r) : ∀ σ, Inj 0 σ → FnTri Tryd.prog 41 (renL σ [.agg [.int .u8 a.a0, .int .u8 a.a1, .int .u8 a.a2, .int .u8 a.a3, .int .u8 a.a4, .int .u8 a.a5, .int .u8 a.a6, .int .u8 a.a7], .agg [.int .u8 b.a0, .int .u8 b.a1, .int .u8 b.a2, .int .u8 b.a3, .int .u8 b.a4, .int .u8 b.a5, .int .u8 b.a6, .int .u8 b.a7]]) (preOf σ 0 []) ((parrelref05_Keys_v r).ren σ) (upOf σ []) := by
  refine fn_of Tryd.func41 (by kernel_rfl) (by kernel_rfl) (by kernel_rfl) trivial (by kernel_rfl) trivial (by kernel_rfl) ?_
  intro w0 W μ0 hμ
  unfold parrelref05_Keys at h
  exact run_to mixed hμ (L := [0, 1, 2, 3]) (n := 23) (s := [.reg [], .void (.gr 1 (([] : List (Int))).length (rowF (cInt .u32) default ([] : List (Int)))), .void (.gr 1 (([] : List (Int))).length (rowF (cInt .u32) default ([] : List (Int)))), .reg [(0, { v := some (.gs 2 (([] : List (Int))).length) }), (1, { v := some (.gs 3 (([] : List (Int))).length) })], .reg []])
    (a_ (a_ (a_ tr tr) (a_ (a_ tr tr) (a_ (a_ tr tr) tr))) (a_ (Eq.refl 0) (a_ (Eq.refl 0) (a_ (a_ (a_ tr (a_ (le_nil_gs 2) tr)) (a_ (a_ tr (a_ (le_nil_gs 3) tr)) tr)) (a_ (a_ (a_ tr tr) tr) tr))))) (parrelref05_Keys_l0_ok hμ a b  big _ _ _ r h) (by kernel_rfl) ⟨rfl, rfl, fun _ _ => rfl, fun _ _ => rfl, trivial⟩

theorem parrelref05_Keys_tri (a : A8 (Int)) (b : A8 (Int)) (r : (Int)) (h : parrelref05_Keys a b = some r) : FnTri Tryd.prog 41 [.agg [.int .u8 a.a0, .int .u8 a.a1, .int .u8 a.a2, .int .u8 a.a3, .int .u8 a.a4, .int .u8 a.a5, .int .u8 a.a6, .int .u8 a.a7], .agg [.int .u8 b.a0, .int .u8 b.a1, .int .u8 b.a2, .int .u8 b.a3, .int .u8 b.a4, .int .u8 b.a5, .int .u8 b.a6, .int .u8 b.a7]] [] (parrelref05_Keys_v r) [] := FnTri.none (parrelref05_Keys_ok a b r h) rfl rfl

/-- parrel/parrelref10.WritesMay -/

def parrelref10_WritesMay_v (r : (Bool)) : LV := .bool r

def parrelref10_WritesMay_T0 (l : List (T_api_Write)) (i : Int) : List LV := [.ds 21 (l).length (rowF c_T_api_Write default l), .any, .any, .int .i64 i, .any, .any, .any, .any, .any, .any, .any, .any, .any, .any, .any, .any, .any, .any, .any, .any, .any, .any, .any, .any, .any, .any, .any, .any, .any, .any, .any, .any, .any, .any, .any, .any, .any, .any, .any, .any, .any, .any, .any, .any, .any, .any, .any, .any]

def parrelref10_WritesMay_H0 (l : List (T_api_Write)) (i : Int) : Heap := []

def parrelref10_WritesMay_l0 (l : List (T_api_Write))  : Nat → (Int) → Option ((Bool))
  | 0, _ => none
  | fuel + 1, i =>
    if ((decide (i < ((l).length : Int))) : Bool) then
      if 0 ≤ i ∧ i < (((l).length : Nat) : Int) then
      (parrelref10_KeyMay (l.getD i.toNat default).f_Key).bind fun yL0_4 =>
      if ((!yL0_4) : Bool) then
        some false
      else
        (parrelref10_ItemMay (l.getD i.toNat default).f_Item).bind fun yL0_7 =>
        if ((!yL0_7) : Bool) then
          some false
        else
          if ((decide (0 < i)) : Bool) then
            if 0 ≤ (IntKind.wrap .i64 (i - 1)) ∧ (IntKind.wrap .i64 (i - 1)) < (((l).length : Nat) : Int) then
            (parrelref05_Keys (l.getD ((IntKind.wrap .i64 (i - 1))).toNat default).f_Key (l.getD i.toNat default).f_Key).bind fun yL0_12 =>
            if ((decide (0 ≤ yL0_12)) : Bool) then
              some false
            else
              parrelref10_WritesMay_l0 l  fuel (IntKind.wrap .i64 (i + 1))
            else none
          else
            parrelref10_WritesMay_l0 l  fuel (IntKind.wrap .i64 (i + 1))
      else none
    else
      some (decide (((l).length : Int) ≤ 16))

def parrelref10_WritesMay (l : List (T_api_Write)) : Option ((Bool)) :=
  parrelref10_WritesMay_l0 l  big 0

theorem parrelref10_WritesMay_l0_ok {w0 : World} {W : Nat → Prop} {μ0 : Emb} (hμ : ∀ c p, μ0 c = some p → c < 0) (l : List (T_api_Write))  : ∀ (fuel : Nat) (i : Int) (r : (Bool)), parrelref10_WritesMay_l0 l  fuel i = some r → kont Tryd.prog w0 W μ0 (FnPost Tryd.prog Tryd.f18 0 0 (parrelref10_WritesMay_v r) []) (kAt (bodyOf Tryd.f18) 0) none (parrelref10_WritesMay_T0 l i) (parrelref10_WritesMay_H0 l i) := by
  intro fuel
  induction fuel with
  | zero => intro i r h; rw [parrelref10_WritesMay_l0] at h; cases h
  | succ fuel ih =>
    intro i r h
    rw [parrelref10_WritesMay_l0] at h
    rcases itb_some h with ⟨cL0_1, h⟩ | ⟨cL0_1, h⟩
    · skip
      obtain ⟨gL0_2, h⟩ := guard_some h
      obtain ⟨yL0_4, eL0_3, h⟩ := bind_some h
      rcases itb_some h with ⟨cL0_5, h⟩ | ⟨cL0_5, h⟩
      · skip
        obtain rfl := Option.some.inj h
        exact run_ret mixed (L := []) (n := 25) (s := [.go, .reg [(3, { v := some (.bool true) })], .reg [(5, { call := some (parrelref10_KeyMay_v yL0_4, [], []) }), (7, { v := some (.bool true) })], .reg []])
          (a_ (a_ (a_ (a_ tr tr) (a_ (a_ tr tr) (a_ (a_ tr tr) (a_ (a_ tr (a_ (leB cL0_1) tr)) tr)))) (a_ (a_ (a_ tr tr) (a_ (a_ tr tr) (a_ (a_ (a_ (Eq.refl 21) gL0_2) tr) (a_ (a_ tr tr) (a_ (a_ (le_ 8 21 rfl) tr) (a_ (a_ (a_ (parrelref10_KeyMay_tri (l.getD i.toNat default).f_Key yL0_4 eL0_3) tr) tr) (a_ (a_ tr tr) (a_ (a_ tr (a_ (leB cL0_5) tr)) (a_ tr (a_ tr (a_ tr (a_ tr (a_ tr (a_ tr (a_ tr (a_ (a_ tr tr) (a_ (a_ tr tr) (a_ tr (a_ tr (a_ tr (a_ tr (a_ tr (a_ tr (a_ tr (a_ tr (a_ tr (a_ tr (a_ tr (a_ tr (a_ tr (a_ tr (a_ tr (a_ tr (a_ tr (a_ (a_ tr tr) tr))))))))))))))))))))))))))))))))))) (a_ (a_ (a_ tr tr) tr) tr))) tr) (by kernel_rfl) rfl
      · skip
        obtain ⟨yL0_7, eL0_6, h⟩ := bind_some h
        rcases itb_some h with ⟨cL0_8, h⟩ | ⟨cL0_8, h⟩
        · skip
          obtain rfl := Option.some.inj h
          exact run_ret mixed (L := []) (n := 25) (s := [.go, .reg [(3, { v := some (.bool true) })], .reg [(5, { call := some (parrelref10_KeyMay_v yL0_4, [], []) }), (7, { v := some (.bool false) }), (13, { call := some (parrelref10_ItemMay_v yL0_7, [], []) }), (16, { v := some (.bool true) })], .reg []])
            (a_ (a_ (a_ (a_ tr tr) (a_ (a_ tr tr) (a_ (a_ tr tr) (a_ (a_ tr (a_ (leB cL0_1) tr)) tr)))) (a_ (a_ (a_ tr tr) (a_ (a_ tr tr) (a_ (a_ (a_ (Eq.refl 21) gL0_2) tr) (a_ (a_ tr tr) (a_ (a_ (le_ 8 21 rfl) tr) (a_ (a_ (a_ (parrelref10_KeyMay_tri (l.getD i.toNat default).f_Key yL0_4 eL0_3) tr) tr) (a_ (a_ tr tr) (a_ (a_ tr (a_ (leB cL0_5) tr)) (a_ (a_ tr tr) (a_ (a_ tr tr) (a_ (a_ (a_ (Eq.refl 21) gL0_2) tr) (a_ (a_ tr tr) (a_ (a_ (le_ 13 13 rfl) tr) (a_ (a_ (a_ (parrelref10_ItemMay_tri (l.getD i.toNat default).f_Item yL0_7 eL0_6) tr) tr) (a_ (a_ tr tr) (a_ (a_ tr tr) (a_ (a_ tr (a_ (leB cL0_8) tr)) (a_ tr (a_ tr (a_ tr (a_ tr (a_ tr (a_ tr (a_ tr (a_ tr (a_ tr (a_ tr (a_ tr (a_ tr (a_ tr (a_ tr (a_ tr (a_ tr (a_ tr (a_ (a_ tr tr) tr))))))))))))))))))))))))))))))))))) (a_ (a_ (a_ tr tr) tr) tr))) tr) (by kernel_rfl) rfl
        · skip
          rcases itb_some h with ⟨cL0_9, h⟩ | ⟨cL0_9, h⟩
          · skip
            obtain ⟨gL0_10, h⟩ := guard_some h
            obtain ⟨yL0_12, eL0_11, h⟩ := bind_some h
            rcases itb_some h with ⟨cL0_13, h⟩ | ⟨cL0_13, h⟩
            · skip
              obtain rfl := Option.some.inj h
              exact run_ret mixed (L := []) (n := 25) (s := [.go, .reg [(3, { v := some (.bool true) })], .reg [(5, { call := some (parrelref10_KeyMay_v yL0_4, [], []) }), (7, { v := some (.bool false) }), (13, { call := some (parrelref10_ItemMay_v yL0_7, [], []) }), (16, { v := some (.bool false) }), (19, { v := some (.bool true) }), (31, { call := some (parrelref05_Keys_v yL0_12, [], []) }), (34, { v := some (.bool true) })], .reg []])
                (a_ (a_ (a_ (a_ tr tr) (a_ (a_ tr tr) (a_ (a_ tr tr) (a_ (a_ tr (a_ (leB cL0_1) tr)) tr)))) (a_ (a_ (a_ tr tr) (a_ (a_ tr tr) (a_ (a_ (a_ (Eq.refl 21) gL0_2) tr) (a_ (a_ tr tr) (a_ (a_ (le_ 8 21 rfl) tr) (a_ (a_ (a_ (parrelref10_KeyMay_tri (l.getD i.toNat default).f_Key yL0_4 eL0_3) tr) tr) (a_ (a_ tr tr) (a_ (a_ tr (a_ (leB cL0_5) tr)) (a_ (a_ tr tr) (a_ (a_ tr tr) (a_ (a_ (a_ (Eq.refl 21) gL0_2) tr) (a_ (a_ tr tr) (a_ (a_ (le_ 13 13 rfl) tr) (a_ (a_ (a_ (parrelref10_ItemMay_tri (l.getD i.toNat default).f_Item yL0_7 eL0_6) tr) tr) (a_ (a_ tr tr) (a_ (a_ tr tr) (a_ (a_ tr (a_ (leB cL0_8) tr)) (a_ (a_ tr tr) (a_ (a_ tr tr) (a_ (a_ tr (a_ (leB cL0_9) tr)) (a_ (a_ tr tr) (a_ (a_ tr tr) (a_ (a_ tr tr) (a_ (a_ (a_ (Eq.refl 21) gL0_10) tr) (a_ (a_ tr tr) (a_ (a_ (le_ 8 21 rfl) tr) (a_ (a_ tr tr) (a_ (a_ tr tr) (a_ (a_ (a_ (Eq.refl 21) gL0_2) tr) (a_ (a_ tr tr) (a_ (a_ (le_ 8 21 rfl) tr) (a_ (a_ (a_ (parrelref05_Keys_tri (l.getD ((IntKind.wrap .i64 (i - 1))).toNat default).f_Key (l.getD i.toNat default).f_Key yL0_12 eL0_11) tr) tr) (a_ (a_ tr tr) (a_ (a_ tr tr) (a_ (a_ tr (a_ (leB cL0_13) tr)) tr))))))))))))))))))))))))))))))))))) (a_ (a_ (a_ tr tr) tr) tr))) tr) (by kernel_rfl) rfl
            · skip
              exact run_to mixed hμ (L := []) (n := 26) (s := [.go, .reg [(3, { v := some (.bool true) })], .reg [(5, { call := some (parrelref10_KeyMay_v yL0_4, [], []) }), (7, { v := some (.bool false) }), (13, { call := some (parrelref10_ItemMay_v yL0_7, [], []) }), (16, { v := some (.bool false) }), (19, { v := some (.bool true) }), (31, { call := some (parrelref05_Keys_v yL0_12, [], []) }), (34, { v := some (.bool false) })], .reg []])
                (a_ (a_ (a_ tr tr) (a_ (a_ tr tr) (a_ (a_ tr tr) (a_ (a_ tr (a_ (leB cL0_1) tr)) tr)))) (a_ (a_ (a_ tr tr) (a_ (a_ tr tr) (a_ (a_ (a_ (Eq.refl 21) gL0_2) tr) (a_ (a_ tr tr) (a_ (a_ (le_ 8 21 rfl) tr) (a_ (a_ (a_ (parrelref10_KeyMay_tri (l.getD i.toNat default).f_Key yL0_4 eL0_3) tr) tr) (a_ (a_ tr tr) (a_ (a_ tr (a_ (leB cL0_5) tr)) (a_ (a_ tr tr) (a_ (a_ tr tr) (a_ (a_ (a_ (Eq.refl 21) gL0_2) tr) (a_ (a_ tr tr) (a_ (a_ (le_ 13 13 rfl) tr) (a_ (a_ (a_ (parrelref10_ItemMay_tri (l.getD i.toNat default).f_Item yL0_7 eL0_6) tr) tr) (a_ (a_ tr tr) (a_ (a_ tr tr) (a_ (a_ tr (a_ (leB cL0_8) tr)) (a_ (a_ tr tr) (a_ (a_ tr tr) (a_ (a_ tr (a_ (leB cL0_9) tr)) (a_ (a_ tr tr) (a_ (a_ tr tr) (a_ (a_ tr tr) (a_ (a_ (a_ (Eq.refl 21) gL0_10) tr) (a_ (a_ tr tr) (a_ (a_ (le_ 8 21 rfl) tr) (a_ (a_ tr tr) (a_ (a_ tr tr) (a_ (a_ (a_ (Eq.refl 21) gL0_2) tr) (a_ (a_ tr tr) (a_ (a_ (le_ 8 21 rfl) tr) (a_ (a_ (a_ (parrelref05_Keys_tri (l.getD ((IntKind.wrap .i64 (i - 1))).toNat default).f_Key (l.getD i.toNat default).f_Key yL0_12 eL0_11) tr) tr) (a_ (a_ tr tr) (a_ (a_ tr tr) (a_ (a_ tr (a_ (leB cL0_13) tr)) tr))))))))))))))))))))))))))))))))))) (a_ (a_ (a_ tr tr) (a_ (a_ tr tr) (a_ (a_ tr tr) tr))) tr))) (ih _ r h) (by kernel_rfl) trivial
          · skip
            exact run_to mixed hμ (L := []) (n := 26) (s := [.go, .reg [(3, { v := some (.bool true) })], .reg [(5, { call := some (parrelref10_KeyMay_v yL0_4, [], []) }), (7, { v := some (.bool false) }), (13, { call := some (parrelref10_ItemMay_v yL0_7, [], []) }), (16, { v := some (.bool false) }), (19, { v := some (.bool false) })], .reg []])
              (a_ (a_ (a_ tr tr) (a_ (a_ tr tr) (a_ (a_ tr tr) (a_ (a_ tr (a_ (leB cL0_1) tr)) tr)))) (a_ (a_ (a_ tr tr) (a_ (a_ tr tr) (a_ (a_ (a_ (Eq.refl 21) gL0_2) tr) (a_ (a_ tr tr) (a_ (a_ (le_ 8 21 rfl) tr) (a_ (a_ (a_ (parrelref10_KeyMay_tri (l.getD i.toNat default).f_Key yL0_4 eL0_3) tr) tr) (a_ (a_ tr tr) (a_ (a_ tr (a_ (leB cL0_5) tr)) (a_ (a_ tr tr) (a_ (a_ tr tr) (a_ (a_ (a_ (Eq.refl 21) gL0_2) tr) (a_ (a_ tr tr) (a_ (a_ (le_ 13 13 rfl) tr) (a_ (a_ (a_ (parrelref10_ItemMay_tri (l.getD i.toNat default).f_Item yL0_7 eL0_6) tr) tr) (a_ (a_ tr tr) (a_ (a_ tr tr) (a_ (a_ tr (a_ (leB cL0_8) tr)) (a_ (a_ tr tr) (a_ (a_ tr tr) (a_ (a_ tr (a_ (leB cL0_9) tr)) (a_ tr (a_ tr (a_ tr (a_ tr (a_ tr (a_ tr (a_ tr (a_ tr (a_ tr (a_ tr (a_ tr (a_ tr (a_ tr (a_ (a_ tr tr) (a_ (a_ tr tr) tr))))))))))))))))))))))))))))))))))) (a_ (a_ (a_ tr tr) (a_ (a_ tr tr) (a_ (a_ tr tr) tr))) tr))) (ih _ r h) (by kernel_rfl) trivial
    · skip
      obtain rfl := Option.some.inj h
      exact run_ret mixed (L := []) (n := 19) (s := [.go, .reg [(3, { v := some (.bool false) })], .reg []])
        (a_ (a_ (a_ (a_ tr tr) (a_ (a_ tr tr) (a_ (a_ tr tr) (a_ (a_ tr (a_ (leB cL0_1) tr)) tr)))) (a_ (a_ (a_ tr tr) (a_ (a_ tr tr) (a_ (a_ tr tr) (a_ (a_ tr tr) tr)))) tr)) tr) (by kernel_rfl) rfl

theorem parrelref10_WritesMay_ok (l : List (T_api_Write)) (r : (Bool)) (h : parrelref10_WritesMay l = some r) : ∀ σ, Inj 0 σ → FnTri Tryd.prog 18 (renL σ [.ds 21 (l).length (rowF c_T_api_Write default l)]) (preOf σ 0 []) ((parrelref10_WritesMay_v r).ren σ) (upOf σ []) := by
  refine fn_of Tryd.func18 (by kernel_rfl) (by kernel_rfl) (by kernel_rfl) trivial (by kernel_rfl) trivial (by kernel_rfl) ?_
  intro w0 W μ0 hμ
  unfold parrelref10_WritesMay at h
  exact run_to mixed hμ (L := []) (n := 18) (s := [.reg [], .reg []])
    (a_ (a_ (a_ tr tr) tr) (a_ (a_ (a_ tr tr) tr) tr)) (parrelref10_WritesMay_l0_ok hμ l  big _ r h) (by kernel_rfl) trivial

theorem parrelref10_WritesMay_tri (l : List (T_api_Write)) (r : (Bool)) (h : parrelref10_WritesMay l = some r) : FnTri Tryd.prog 18 [.ds 21 (l).length (rowF c_T_api_Write default l)] [] (parrelref10_WritesMay_v r) [] := FnTri.none (parrelref10_WritesMay_ok l r h) rfl rfl

/-- parrel/parrelref01.power -/

def parrelref01_power_v (r : (Int)) : LV := .int .u64 r

def parrelref01_power_T0 (x_n : Int) (p : Int) (i : Int) : List LV := [.int .i64 x_n, .any, .any, .int .u64 p, .int .i64 i, .any, .any, .any, .any, .any, .any, .any, .any]

def parrelref01_power_H0 (x_n : Int) (p : Int) (i : Int) : Heap := []

def parrelref01_power_l0 (x_n : Int)  : Nat → (Int) → (Int) → Option ((Int))
  | 0, _, _ => none
  | fuel + 1, p, i =>
    if ((decide (i < x_n)) : Bool) then
      parrelref01_power_l0 x_n  fuel (IntKind.wrap .u64 (p * 2)) (IntKind.wrap .i64 (i + 1))
    else
      some p

def parrelref01_power (x_n : Int) : Option ((Int)) :=
  parrelref01_power_l0 x_n  big 1 0

theorem parrelref01_power_l0_ok {w0 : World} {W : Nat → Prop} {μ0 : Emb} (hμ : ∀ c p, μ0 c = some p → c < 0) (x_n : Int)  : ∀ (fuel : Nat) (p : Int) (i : Int) (r : (Int)), parrelref01_power_l0 x_n  fuel p i = some r → kont Tryd.prog w0 W μ0 (FnPost Tryd.prog Tryd.f54 0 0 (parrelref01_power_v r) []) (kAt (bodyOf Tryd.f54) 0) none (parrelref01_power_T0 x_n p i) (parrelref01_power_H0 x_n p i) := by
  intro fuel
  induction fuel with
  | zero => intro p i r h; rw [parrelref01_power_l0] at h; cases h
  | succ fuel ih =>
    intro p i r h
    rw [parrelref01_power_l0] at h
    rcases itb_some h with ⟨cL0_1, h⟩ | ⟨cL0_1, h⟩
    · skip
      exact run_to mixed hμ (L := []) (n := 23) (s := [.go, .reg [(2, { v := some (.bool true) })], .reg [], .reg []])
        (a_ (a_ (a_ tr tr) (a_ (a_ tr tr) (a_ (a_ tr (a_ (leB cL0_1) tr)) tr))) (a_ (a_ (a_ tr tr) (a_ (a_ tr tr) (a_ (a_ tr tr) tr))) (a_ (a_ (a_ tr tr) (a_ (a_ tr tr) (a_ (a_ tr tr) tr))) tr))) (ih _ _ r h) (by kernel_rfl) trivial
    · skip
      obtain rfl := Option.some.inj h
      exact run_ret mixed (L := []) (n := 19) (s := [.go, .reg [(2, { v := some (.bool false) })], .reg []])
        (a_ (a_ (a_ (a_ tr tr) (a_ (a_ tr tr) (a_ (a_ tr (a_ (leB cL0_1) tr)) tr))) (a_ (a_ (a_ tr tr) (a_ (a_ tr tr) tr)) tr)) tr) (by kernel_rfl) rfl

theorem parrelref01_power_ok (x_n : Int) (r : (Int)) (h : parrelref01_power x_n = some r) : ∀ σ, Inj 0 σ → FnTri Tryd.prog 54 (renL σ [.int .i64 x_n]) (preOf σ 0 []) ((parrelref01_power_v r).ren σ) (upOf σ []) := by
  refine fn_of Tryd.func54 (by kernel_rfl) (by kernel_rfl) (by kernel_rfl) trivial (by kernel_rfl) trivial (by kernel_rfl) ?_
  intro w0 W μ0 hμ
  unfold parrelref01_power at h
  exact run_to mixed hμ (L := []) (n := 21) (s := [.reg [], .reg [], .reg []])
    (a_ (a_ (a_ tr tr) tr) (a_ (a_ (a_ tr tr) tr) (a_ (a_ (a_ tr tr) tr) tr))) (parrelref01_power_l0_ok hμ x_n  big _ _ r h) (by kernel_rfl) trivial

theorem parrelref01_power_tri (x_n : Int) (r : (Int)) (h : parrelref01_power x_n = some r) : FnTri Tryd.prog 54 [.int .i64 x_n] [] (parrelref01_power_v r) [] := FnTri.none (parrelref01_power_ok x_n r h) rfl rfl

/-- parrel/parrelref01.Has -/

def parrelref01_Has_v (r : (Bool)) : LV := .bool r

def parrelref01_Has (set : Int) (x_n : Int) : Option ((Bool)) :=
  if ((decide (0 ≤ x_n)) : Bool) then
    if ((decide (x_n < 64)) : Bool) then
      (parrelref01_power x_n).bind fun y4 =>
      if y4 ≠ 0 then
      some ((Int.tmod (IntKind.wrap .u64 (Int.tdiv set y4)) 2) == 1)
      else none
    else
      some false
  else
    some false

theorem parrelref01_Has_ok (set : Int) (x_n : Int) (r : (Bool)) (h : parrelref01_Has set x_n = some r) : ∀ σ, Inj 0 σ → FnTri Tryd.prog 32 (renL σ [.int .u64 set, .int .i64 x_n]) (preOf σ 0 []) ((parrelref01_Has_v r).ren σ) (upOf σ []) := by
  refine fn_of Tryd.func32 (by kernel_rfl) (by kernel_rfl) (by kernel_rfl) trivial (by kernel_rfl) trivial (by kernel_rfl) ?_
  intro w0 W μ0 hμ
  unfold parrelref01_Has at h
  rcases itb_some h with ⟨c1, h⟩ | ⟨c1, h⟩
  · skip
    rcases itb_some h with ⟨c2, h⟩ | ⟨c2, h⟩
    · skip
      obtain ⟨y4, e3, h⟩ := bind_some h
      obtain ⟨g5, h⟩ := guard_some h
      obtain rfl := Option.some.inj h
      exact run_ret mixed (L := []) (n := 15) (s := [.reg [], .reg [(2, { v := some (.bool true) }), (6, { v := some (.bool true) }), (9, { call := some (parrelref01_power_v y4, [], []) })]])
        (a_ (a_ (a_ (a_ tr tr) tr) (a_ (a_ (a_ tr tr) (a_ (a_ tr tr) (a_ (a_ tr (a_ (leB c1) tr)) (a_ (a_ tr tr) (a_ (a_ tr tr) (a_ (a_ tr tr) (a_ (a_ tr (a_ (leB c2) tr)) (a_ (a_ tr tr) (a_ (a_ tr tr) (a_ (a_ (a_ (parrelref01_power_tri x_n y4 e3) tr) tr) (a_ (a_ g5 tr) (a_ (a_ (ne0 2 rfl) tr) (a_ (a_ tr tr) (a_ (a_ tr tr) (a_ (a_ tr tr) tr))))))))))))))) tr)) tr) (by kernel_rfl) rfl
    · skip
      obtain rfl := Option.some.inj h
      exact run_ret mixed (L := []) (n := 15) (s := [.reg [], .reg [(2, { v := some (.bool true) }), (6, { v := some (.bool false) })]])
        (a_ (a_ (a_ (a_ tr tr) tr) (a_ (a_ (a_ tr tr) (a_ (a_ tr tr) (a_ (a_ tr (a_ (leB c1) tr)) (a_ (a_ tr tr) (a_ (a_ tr tr) (a_ (a_ tr tr) (a_ (a_ tr (a_ (leB c2) tr)) (a_ tr (a_ tr (a_ tr (a_ tr (a_ tr (a_ tr (a_ (a_ tr tr) (a_ (a_ tr tr) tr))))))))))))))) tr)) tr) (by kernel_rfl) rfl
  · skip
    obtain rfl := Option.some.inj h
    exact run_ret mixed (L := []) (n := 15) (s := [.reg [], .reg [(2, { v := some (.bool false) })]])
      (a_ (a_ (a_ (a_ tr tr) tr) (a_ (a_ (a_ tr tr) (a_ (a_ tr tr) (a_ (a_ tr (a_ (leB c1) tr)) (a_ tr (a_ tr (a_ (a_ tr tr) (a_ (a_ tr tr) (a_ tr (a_ tr (a_ tr (a_ tr (a_ tr (a_ tr (a_ (a_ tr tr) (a_ (a_ tr tr) tr))))))))))))))) tr)) tr) (by kernel_rfl) rfl

theorem parrelref01_Has_tri (set : Int) (x_n : Int) (r : (Bool)) (h : parrelref01_Has set x_n = some r) : FnTri Tryd.prog 32 [.int .u64 set, .int .i64 x_n] [] (parrelref01_Has_v r) [] := FnTri.none (parrelref01_Has_ok set x_n r h) rfl rfl

/-- parrel/parrelref01.With -/

def parrelref01_With_v (r : (Int)) : LV := .int .u64 r

def parrelref01_With (set : Int) (x_n : Int) : Option ((Int)) :=
  if ((decide (x_n < 0)) : Bool) then
    some set
  else
    if ((decide (63 < x_n)) : Bool) then
      some set
    else
      (parrelref01_Has set x_n).bind fun y4 =>
      if (y4 : Bool) then
        some set
      else
        (parrelref01_power x_n).bind fun y7 =>
        some (IntKind.wrap .u64 (set + y7))

theorem parrelref01_With_ok (set : Int) (x_n : Int) (r : (Int)) (h : parrelref01_With set x_n = some r) : ∀ σ, Inj 0 σ → FnTri Tryd.prog 35 (renL σ [.int .u64 set, .int .i64 x_n]) (preOf σ 0 []) ((parrelref01_With_v r).ren σ) (upOf σ []) := by
  refine fn_of Tryd.func35 (by kernel_rfl) (by kernel_rfl) (by kernel_rfl) trivial (by kernel_rfl) trivial (by kernel_rfl) ?_
  intro w0 W μ0 hμ
  unfold parrelref01_With at h
  rcases itb_some h with ⟨c1, h⟩ | ⟨c1, h⟩
  · skip
    obtain rfl := Option.some.inj h
    exact run_ret mixed (L := []) (n := 20) (s := [.reg [], .reg [(2, { v := some (.bool true) })], .reg []])
      (a_ (a_ (a_ (a_ tr tr) tr) (a_ (a_ (a_ tr tr) (a_ (a_ tr tr) (a_ (a_ tr (a_ (leB c1) tr)) (a_ tr (a_ tr (a_ (a_ tr tr) (a_ (a_ tr tr) (a_ tr (a_ tr (a_ tr (a_ (a_ tr tr) tr))))))))))) (a_ (a_ (a_ tr tr) (a_ (a_ tr tr) tr)) tr))) tr) (by kernel_rfl) rfl
  · skip
    rcases itb_some h with ⟨c2, h⟩ | ⟨c2, h⟩
    · skip
      obtain rfl := Option.some.inj h
      exact run_ret mixed (L := []) (n := 20) (s := [.reg [], .reg [(2, { v := some (.bool false) }), (6, { v := some (.bool true) })], .reg []])
        (a_ (a_ (a_ (a_ tr tr) tr) (a_ (a_ (a_ tr tr) (a_ (a_ tr tr) (a_ (a_ tr (a_ (leB c1) tr)) (a_ (a_ tr tr) (a_ (a_ tr tr) (a_ (a_ tr tr) (a_ (a_ tr (a_ (leB c2) tr)) (a_ tr (a_ tr (a_ tr (a_ (a_ tr tr) tr))))))))))) (a_ (a_ (a_ tr tr) (a_ (a_ tr tr) tr)) tr))) tr) (by kernel_rfl) rfl
    · skip
      obtain ⟨y4, e3, h⟩ := bind_some h
      rcases itb_some h with ⟨c5, h⟩ | ⟨c5, h⟩
      · skip
        obtain rfl := Option.some.inj h
        exact run_ret mixed (L := []) (n := 20) (s := [.reg [], .reg [(2, { v := some (.bool false) }), (6, { v := some (.bool false) }), (9, { call := some (parrelref01_Has_v y4, [], []) }), (10, { v := some (.bool true) })], .reg []])
          (a_ (a_ (a_ (a_ tr tr) tr) (a_ (a_ (a_ tr tr) (a_ (a_ tr tr) (a_ (a_ tr (a_ (leB c1) tr)) (a_ (a_ tr tr) (a_ (a_ tr tr) (a_ (a_ tr tr) (a_ (a_ tr (a_ (leB c2) tr)) (a_ (a_ tr tr) (a_ (a_ tr tr) (a_ (a_ (a_ (parrelref01_Has_tri set x_n y4 e3) tr) tr) (a_ (a_ tr (a_ (leB c5) tr)) tr))))))))))) (a_ (a_ (a_ tr tr) (a_ (a_ tr tr) tr)) tr))) tr) (by kernel_rfl) rfl
      · skip
        obtain ⟨y7, e6, h⟩ := bind_some h
        obtain rfl := Option.some.inj h
        exact run_ret mixed (L := []) (n := 21) (s := [.reg [], .reg [(2, { v := some (.bool false) }), (6, { v := some (.bool false) }), (9, { call := some (parrelref01_Has_v y4, [], []) }), (10, { v := some (.bool false) })], .reg [(2, { call := some (parrelref01_power_v y7, [], []) })]])
          (a_ (a_ (a_ (a_ tr tr) tr) (a_ (a_ (a_ tr tr) (a_ (a_ tr tr) (a_ (a_ tr (a_ (leB c1) tr)) (a_ (a_ tr tr) (a_ (a_ tr tr) (a_ (a_ tr tr) (a_ (a_ tr (a_ (leB c2) tr)) (a_ (a_ tr tr) (a_ (a_ tr tr) (a_ (a_ (a_ (parrelref01_Has_tri set x_n y4 e3) tr) tr) (a_ (a_ tr (a_ (leB c5) tr)) tr))))))))))) (a_ (a_ (a_ tr tr) (a_ (a_ tr tr) (a_ (a_ (a_ (parrelref01_power_tri x_n y7 e6) tr) tr) (a_ (a_ tr tr) (a_ (a_ tr tr) tr))))) tr))) tr) (by kernel_rfl) rfl

theorem parrelref01_With_tri (set : Int) (x_n : Int) (r : (Int)) (h : parrelref01_With set x_n = some r) : FnTri Tryd.prog 35 [.int .u64 set, .int .i64 x_n] [] (parrelref01_With_v r) [] := FnTri.none (parrelref01_With_ok set x_n r h) rfl rfl

/-- parrel/parrelref20.Nodes -/

def parrelref20_Nodes_v (r : (Int)) : LV := .int .u64 r

def parrelref20_Nodes_T1 (locks : List (T_parrelref20_Lock)) (i : Int) (set2 : Int) (x_k : Int) : List LV := [.ds 10 (locks).length (rowF c_T_parrelref20_Lock default locks), .any, .any, .int .u64 set2, .int .i64 i, .int .i64 x_k, .any, .any, .any, .any, .any, .any, .any, .any, .any, .any, .any, .any, .any, .any, .any, .any, .any, .any, .any, .any, .any, .any, .any, .any, .any, .any, .any, .any, .any]

def parrelref20_Nodes_H1 (locks : List (T_parrelref20_Lock)) (i : Int) (set2 : Int) (x_k : Int) : Heap := []

def parrelref20_Nodes_T0 (locks : List (T_parrelref20_Lock)) (set : Int) (i : Int) : List LV := [.ds 10 (locks).length (rowF c_T_parrelref20_Lock default locks), .any, .any, .int .u64 set, .int .i64 i, .any, .any, .any, .any, .any, .any, .any, .any, .any, .any, .any, .any, .any, .any, .any, .any, .any, .any, .any, .any, .any, .any, .any, .any, .any, .any, .any, .any, .any, .any]

def parrelref20_Nodes_H0 (locks : List (T_parrelref20_Lock)) (set : Int) (i : Int) : Heap := []

def parrelref20_Nodes_l1 (locks : List (T_parrelref20_Lock)) (i : Int) (k0 : (Int) → (Int) → Option ((Int))) : Nat → (Int) → (Int) → Option ((Int))
  | 0, _, _ => none
  | fuel + 1, set2, x_k =>
    if 0 ≤ i ∧ i < (((locks).length : Nat) : Int) then
    if ((decide (x_k < (((locks.getD i.toNat default).f_Got).length : Int))) : Bool) then
      if 0 ≤ x_k ∧ x_k < ((((locks.getD i.toNat default).f_Got).length : Nat) : Int) then
      (parrelref01_With set2 (IntKind.wrap .i64 ((locks.getD i.toNat default).f_Got.getD x_k.toNat default).f_Node)).bind fun yL1_5 =>
      parrelref20_Nodes_l1 locks i k0 fuel yL1_5 (IntKind.wrap .i64 (x_k + 1))
      else none
    else
      k0 set2 (IntKind.wrap .i64 (i + 1))
    else none

def parrelref20_Nodes_l0 (locks : List (T_parrelref20_Lock))  : Nat → (Int) → (Int) → Option ((Int))
  | 0, _, _ => none
  | fuel + 1, set, i =>
    if ((decide (i < ((locks).length : Int))) : Bool) then
      parrelref20_Nodes_l1 locks i (parrelref20_Nodes_l0 locks  fuel) big set 0
    else
      some set

def parrelref20_Nodes (locks : List (T_parrelref20_Lock)) : Option ((Int)) :=
  parrelref20_Nodes_l0 locks  big 0 0

theorem parrelref20_Nodes_l1_ok {w0 : World} {W : Nat → Prop} {μ0 : Emb} (hμ : ∀ c p, μ0 c = some p → c < 0) (locks : List (T_parrelref20_Lock)) (i : Int) (k0 : (Int) → (Int) → Option ((Int))) (hk0 : ∀ (set : Int) (i : Int) (r : (Int)), k0 set i = some r → kont Tryd.prog w0 W μ0 (FnPost Tryd.prog Tryd.f15 0 0 (parrelref20_Nodes_v r) []) (kAt (bodyOf Tryd.f15) 0) none (parrelref20_Nodes_T0 locks set i) (parrelref20_Nodes_H0 locks set i)) : ∀ (fuel : Nat) (set2 : Int) (x_k : Int) (r : (Int)), parrelref20_Nodes_l1 locks i k0 fuel set2 x_k = some r → kont Tryd.prog w0 W μ0 (FnPost Tryd.prog Tryd.f15 0 0 (parrelref20_Nodes_v r) []) (kAt (bodyOf Tryd.f15) 1) none (parrelref20_Nodes_T1 locks i set2 x_k) (parrelref20_Nodes_H1 locks i set2 x_k) := by
  intro fuel
  induction fuel with
  | zero => intro set2 x_k r h; rw [parrelref20_Nodes_l1] at h; cases h
  | succ fuel ih =>
    intro set2 x_k r h
    rw [parrelref20_Nodes_l1] at h
    obtain ⟨gL1_1, h⟩ := guard_some h
    rcases itb_some h with ⟨cL1_2, h⟩ | ⟨cL1_2, h⟩
    · skip
      obtain ⟨gL1_3, h⟩ := guard_some h
      obtain ⟨yL1_5, eL1_4, h⟩ := bind_some h
      exact run_to mixed hμ (L := []) (n := 23) (s := [.go, .reg [(7, { v := some (.bool true) })], .reg [(11, { call := some (parrelref01_With_v yL1_5, [], []) })], .reg []])
        (a_ (a_ (a_ tr tr) (a_ (a_ tr tr) (a_ (a_ tr tr) (a_ (a_ (a_ (Eq.refl 10) gL1_1) tr) (a_ (a_ tr tr) (a_ (a_ (lt_ 0 1 rfl) tr) (a_ (a_ tr tr) (a_ (a_ tr (a_ (leB cL1_2) tr)) tr)))))))) (a_ (a_ (a_ tr tr) (a_ (a_ tr tr) (a_ (a_ tr tr) (a_ (a_ (a_ (Eq.refl 10) gL1_1) tr) (a_ (a_ tr tr) (a_ (a_ (lt_ 0 1 rfl) tr) (a_ (a_ tr tr) (a_ (a_ (a_ (Eq.refl 16) gL1_3) tr) (a_ (a_ tr tr) (a_ (a_ (lt_ 0 16 rfl) tr) (a_ (a_ tr tr) (a_ (a_ (a_ (parrelref01_With_tri set2 (IntKind.wrap .i64 ((locks.getD i.toNat default).f_Got.getD x_k.toNat default).f_Node) yL1_5 eL1_4) tr) tr) (a_ (a_ tr tr) tr))))))))))))) (a_ (a_ (a_ tr tr) (a_ (a_ tr tr) (a_ (a_ tr tr) tr))) tr))) (ih _ _ r h) (by kernel_rfl) trivial
    · skip
      exact run_to mixed hμ (L := []) (n := 19) (s := [.go, .reg [(7, { v := some (.bool false) })], .reg []])
        (a_ (a_ (a_ tr tr) (a_ (a_ tr tr) (a_ (a_ tr tr) (a_ (a_ (a_ (Eq.refl 10) gL1_1) tr) (a_ (a_ tr tr) (a_ (a_ (lt_ 0 1 rfl) tr) (a_ (a_ tr tr) (a_ (a_ tr (a_ (leB cL1_2) tr)) tr)))))))) (a_ (a_ (a_ tr tr) (a_ (a_ tr tr) (a_ (a_ tr tr) tr))) tr)) (hk0 _ _ r h) (by kernel_rfl) trivial

theorem parrelref20_Nodes_l0_ok {w0 : World} {W : Nat → Prop} {μ0 : Emb} (hμ : ∀ c p, μ0 c = some p → c < 0) (locks : List (T_parrelref20_Lock))  : ∀ (fuel : Nat) (set : Int) (i : Int) (r : (Int)), parrelref20_Nodes_l0 locks  fuel set i = some r → kont Tryd.prog w0 W μ0 (FnPost Tryd.prog Tryd.f15 0 0 (parrelref20_Nodes_v r) []) (kAt (bodyOf Tryd.f15) 0) none (parrelref20_Nodes_T0 locks set i) (parrelref20_Nodes_H0 locks set i) := by
  intro fuel
  induction fuel with
  | zero => intro set i r h; rw [parrelref20_Nodes_l0] at h; cases h
  | succ fuel ih =>
    intro set i r h
    rw [parrelref20_Nodes_l0] at h
    rcases itb_some h with ⟨cL0_1, h⟩ | ⟨cL0_1, h⟩
    · skip
      exact run_to mixed hμ (L := []) (n := 23) (s := [.go, .reg [(3, { v := some (.bool true) })], .reg []])
        (a_ (a_ (a_ tr tr) (a_ (a_ tr tr) (a_ (a_ tr tr) (a_ (a_ tr (a_ (leB cL0_1) tr)) tr)))) (a_ (a_ (a_ tr tr) tr) tr)) (parrelref20_Nodes_l1_ok hμ locks i (parrelref20_Nodes_l0 locks  fuel) (fun set i r h => ih set i r h) big _ _ r h) (by kernel_rfl) trivial
    · skip
      obtain rfl := Option.some.inj h
      exact run_ret mixed (L := []) (n := 19) (s := [.go, .reg [(3, { v := some (.bool false) })], .reg []])
        (a_ (a_ (a_ (a_ tr tr) (a_ (a_ tr tr) (a_ (a_ tr tr) (a_ (a_ tr (a_ (leB cL0_1) tr)) tr)))) (a_ (a_ (a_ tr tr) (a_ (a_ tr tr) tr)) tr)) tr) (by kernel_rfl) rfl

theorem parrelref20_Nodes_ok (locks : List (T_parrelref20_Lock)) (r : (Int)) (h : parrelref20_Nodes locks = some r) : ∀ σ, Inj 0 σ → FnTri Tryd.prog 15 (renL σ [.ds 10 (locks).length (rowF c_T_parrelref20_Lock default locks)]) (preOf σ 0 []) ((parrelref20_Nodes_v r).ren σ) (upOf σ []) := by
  refine fn_of Tryd.func15 (by kernel_rfl) (by kernel_rfl) (by kernel_rfl) trivial (by kernel_rfl) trivial (by kernel_rfl) ?_
  intro w0 W μ0 hμ
  unfold parrelref20_Nodes at h
  exact run_to mixed hμ (L := []) (n := 21) (s := [.reg [], .reg [], .reg []])
    (a_ (a_ (a_ tr tr) tr) (a_ (a_ (a_ tr tr) tr) (a_ (a_ (a_ tr tr) tr) tr))) (parrelref20_Nodes_l0_ok hμ locks  big _ _ r h) (by kernel_rfl) trivial

theorem parrelref20_Nodes_tri (locks : List (T_parrelref20_Lock)) (r : (Int)) (h : parrelref20_Nodes locks = some r) : FnTri Tryd.prog 15 [.ds 10 (locks).length (rowF c_T_parrelref20_Lock default locks)] [] (parrelref20_Nodes_v r) [] := FnTri.none (parrelref20_Nodes_ok locks r h) rfl rfl

/-- parrel/parrelref01.List -/

def parrelref01_List_v (r : (List (Int))) : LV := .ds 1 (r).length (rowF (cInt .i64) default r)

def parrelref01_List_T0 (set : Int) (i : Int) (l : List (Int)) : List LV := [.int .u64 set, .any, .any, .gs 0 (l).length, .int .i64 i, .any, .any, .any, .any, .any, .any, .any, .any, .any, .any, .any, .any]

def parrelref01_List_H0 (set : Int) (i : Int) (l : List (Int)) : Heap := [some (.gr 1 (l).length (rowF (cInt .i64) default l))]

def parrelref01_List_l0 (set : Int)  : Nat → (Int) → (List (Int)) → Option ((List (Int)))
  | 0, _, _ => none
  | fuel + 1, i, l =>
    if ((decide (i < 64)) : Bool) then
      (parrelref01_Has set i).bind fun yL0_3 =>
      if (yL0_3 : Bool) then
        if ((l).length + (([i] : List (Int))).length) * 8 ≤ 140737488351232 then
        parrelref01_List_l0 set  fuel (IntKind.wrap .i64 (i + 1)) (l ++ ([i] : List (Int)))
        else none
      else
        parrelref01_List_l0 set  fuel (IntKind.wrap .i64 (i + 1)) l
    else
      some l

def parrelref01_List (set : Int) : Option ((List (Int))) :=
  parrelref01_List_l0 set  big 0 ([] : List (Int))

theorem parrelref01_List_l0_ok {w0 : World} {W : Nat → Prop} {μ0 : Emb} (hμ : ∀ c p, μ0 c = some p → c < 0) (set : Int)  : ∀ (fuel : Nat) (i : Int) (l : List (Int)) (r : (List (Int))), parrelref01_List_l0 set  fuel i l = some r → kont Tryd.prog w0 W μ0 (FnPost Tryd.prog Tryd.f30 0 0 (parrelref01_List_v r) []) (kAt (bodyOf Tryd.f30) 0) none (parrelref01_List_T0 set i l) (parrelref01_List_H0 set i l) := by
  intro fuel
  induction fuel with
  | zero => intro i l r h; rw [parrelref01_List_l0] at h; cases h
  | succ fuel ih =>
    intro i l r h
    rw [parrelref01_List_l0] at h
    rcases itb_some h with ⟨cL0_1, h⟩ | ⟨cL0_1, h⟩
    · skip
      obtain ⟨yL0_3, eL0_2, h⟩ := bind_some h
      rcases itb_some h with ⟨cL0_4, h⟩ | ⟨cL0_4, h⟩
      · skip
        obtain ⟨gL0_5, h⟩ := guard_some h
        exact run_to mixed hμ (L := [2]) (n := 27) (s := [.go, .reg [(1, { v := some (.bool true) })], .reg [(2, { call := some (parrelref01_Has_v yL0_3, [], []), v := some (.bool true) })], .reg [(2, { os := [(1, .gr 1 (([i] : List (Int))).length (rowF (cInt .i64) default ([i] : List (Int))))], v := some (.gs 1 (([i] : List (Int))).length) }), (3, { app := 3, os := [(2, .gr 1 ((l ++ ([i] : List (Int)))).length (rowF (cInt .i64) default (l ++ ([i] : List (Int)))))], v := some (.gs 2 ((l ++ ([i] : List (Int)))).length) })], .reg []])
          (a_ (a_ (a_ tr tr) (a_ (a_ tr (a_ (leB cL0_1) tr)) tr)) (a_ (a_ (a_ tr tr) (a_ (a_ tr tr) (a_ (a_ (a_ (parrelref01_Has_tri set i yL0_3 eL0_2) tr) (a_ (leB cL0_4) tr)) tr))) (a_ (a_ (a_ tr tr) (a_ (a_ tr tr) (a_ (a_ (a_ (Eq.refl true) (a_ (Eq.refl 1) (a_ (lt_ 0 1 rfl) (le_ 1 16777216 rfl)))) (a_ (le_sl_gs 1 1 (some 1) rfl) (a_ (sub_lit (cInt .i64) default 1 (fun _ => rfl) ([i] : List (Int))) tr))) (a_ (a_ (a_ (a_ (Eq.refl 1) (Nat.le_refl (([i] : List (Int))).length)) (a_ (a_ (lt_ 0 1 rfl) (a_ (lt_ 0 8 rfl) (a_ gL0_5 (a_ (Eq.refl 1) (Eq.refl true))))) (a_ (Eq.refl 1) (Nat.le_refl (l).length)))) (a_ (le_gs_app 2 l ([i] : List (Int))) (a_ (sub_app (cInt .i64) default 1 l ([i] : List (Int))) tr))) (a_ (a_ tr tr) tr))))) (a_ (a_ (a_ tr tr) (a_ (a_ tr tr) (a_ (a_ tr tr) tr))) tr)))) (ih _ _ r h) (by kernel_rfl) ⟨fun _ _ => rfl, trivial⟩
      · skip
        exact run_to mixed hμ (L := [0]) (n := 26) (s := [.go, .reg [(1, { v := some (.bool true) })], .reg [(2, { call := some (parrelref01_Has_v yL0_3, [], []), v := some (.bool false) })], .reg []])
          (a_ (a_ (a_ tr tr) (a_ (a_ tr (a_ (leB cL0_1) tr)) tr)) (a_ (a_ (a_ tr tr) (a_ (a_ tr tr) (a_ (a_ (a_ (parrelref01_Has_tri set i yL0_3 eL0_2) tr) (a_ (leB cL0_4) tr)) tr))) (a_ (a_ (a_ tr tr) (a_ (a_ tr tr) (a_ (a_ tr tr) tr))) tr))) (ih _ _ r h) (by kernel_rfl) ⟨fun _ _ => rfl, trivial⟩
    · skip
      obtain rfl := Option.some.inj h
      exact run_ret mixed (L := []) (n := 20) (s := [.go, .reg [(1, { v := some (.bool false) })], .reg [], .frz 0])
        (a_ (a_ (a_ (a_ tr tr) (a_ (a_ tr (a_ (leB cL0_1) tr)) tr)) (a_ (a_ (a_ tr tr) (a_ (a_ tr tr) tr)) (a_ (a_ (fz_row (enc := (cInt .i64)) (d := default) (fun _ => rfl) l) (a_ (Nat.le_refl (l).length) (a_ (Nat.le_refl (l).length) (a_ (Nat.le_refl (l).length) tr)))) tr))) tr) (by kernel_rfl) rfl

theorem parrelref01_List_ok (set : Int) (r : (List (Int))) (h : parrelref01_List set = some r) : ∀ σ, Inj 0 σ → FnTri Tryd.prog 30 (renL σ [.int .u64 set]) (preOf σ 0 []) ((parrelref01_List_v r).ren σ) (upOf σ []) := by
  refine fn_of Tryd.func30 (by kernel_rfl) (by kernel_rfl) (by kernel_rfl) trivial (by kernel_rfl) trivial (by kernel_rfl) ?_
  intro w0 W μ0 hμ
  unfold parrelref01_List at h
  exact run_to mixed hμ (L := [0]) (n := 22) (s := [.reg [(0, { v := some (.ds 1 (([] : List (Int))).length (rowF (cInt .i64) default ([] : List (Int)))) })], .void (.gr 1 (([] : List (Int))).length (rowF (cInt .i64) default ([] : List (Int)))), .reg [(0, { v := some (.gs 0 (([] : List (Int))).length) })], .reg []])
    (a_ (a_ (a_ tr (a_ (le_nil_ds 1 (rowF (cInt .i64) default [])) tr)) tr) (a_ (Eq.refl 0) (a_ (a_ (a_ tr (a_ (le_nil_gs 0) tr)) tr) (a_ (a_ (a_ tr tr) tr) tr)))) (parrelref01_List_l0_ok hμ set  big _ _ r h) (by kernel_rfl) ⟨fun _ _ => rfl, trivial⟩

theorem parrelref01_List_tri (set : Int) (r : (List (Int))) (h : parrelref01_List set = some r) : FnTri Tryd.prog 30 [.int .u64 set] [] (parrelref01_List_v r) [] := FnTri.none (parrelref01_List_ok set r h) rfl rfl

/-- parrel/parrelref20.reg -/

def parrelref20_reg_v (r : (T_api_Reg) × (Bool)) : LV := .tup [v_T_api_Reg r.1, .bool r.2]

def parrelref20_reg_T1 (locks : List (T_parrelref20_Lock)) (x_n : Int) (i : Int) (x_k : Int) (Boot2 : Int) (N2 : Int) : List LV := [.ds 10 (locks).length (rowF c_T_parrelref20_Lock default locks), .int .i64 x_n, .any, .any, .ptr 0 0 0, .any, .ptr 1 0 0, .int .i64 i, .int .i64 x_k, .any, .any, .any, .any, .any, .any, .any, .any, .any, .any, .any, .any, .any, .any, .any, .any, .any, .any, .any, .any, .any, .any, .any, .any, .any, .any, .any, .any, .any, .any, .any, .any, .any, .any, .any, .any, .any, .any, .any, .any, .any, .any, .any, .any]

def parrelref20_reg_H1 (locks : List (T_parrelref20_Lock)) (x_n : Int) (i : Int) (x_k : Int) (Boot2 : Int) (N2 : Int) : Heap := [some (.var (c_T_api_Reg (T_api_Reg.mk 0 0))), some (.var (c_T_api_Reg (T_api_Reg.mk Boot2 N2)))]

def parrelref20_reg_T0 (locks : List (T_parrelref20_Lock)) (x_n : Int) (i : Int) (Boot : Int) (N : Int) : List LV := [.ds 10 (locks).length (rowF c_T_parrelref20_Lock default locks), .int .i64 x_n, .any, .any, .ptr 0 0 0, .any, .ptr 1 0 0, .int .i64 i, .any, .any, .any, .any, .any, .any, .any, .any, .any, .any, .any, .any, .any, .any, .any, .any, .any, .any, .any, .any, .any, .any, .any, .any, .any, .any, .any, .any, .any, .any, .any, .any, .any, .any, .any, .any, .any, .any, .any, .any, .any, .any, .any, .any, .any]

def parrelref20_reg_H0 (locks : List (T_parrelref20_Lock)) (x_n : Int) (i : Int) (Boot : Int) (N : Int) : Heap := [some (.var (c_T_api_Reg (T_api_Reg.mk 0 0))), some (.var (c_T_api_Reg (T_api_Reg.mk Boot N)))]

def parrelref20_reg_l1 (locks : List (T_parrelref20_Lock)) (x_n : Int) (i : Int) (k0 : (Int) → (Int) → (Int) → Option ((T_api_Reg) × (Bool))) : Nat → (Int) → (Int) → (Int) → Option ((T_api_Reg) × (Bool))
  | 0, _, _, _ => none
  | fuel + 1, x_k, Boot2, N2 =>
    if 0 ≤ i ∧ i < (((locks).length : Nat) : Int) then
    if ((decide (x_k < (((locks.getD i.toNat default).f_Got).length : Int))) : Bool) then
      if 0 ≤ x_k ∧ x_k < ((((locks.getD i.toNat default).f_Got).length : Nat) : Int) then
      if (((IntKind.wrap .i64 ((locks.getD i.toNat default).f_Got.getD x_k.toNat default).f_Node) != x_n) : Bool) then
        parrelref20_reg_l1 locks x_n i k0 fuel (IntKind.wrap .i64 (x_k + 1)) Boot2 N2
      else
        if ((!decide ((T_api_Reg.mk Boot2 N2) = (T_api_Reg.mk 0 0))) : Bool) then
          if ((!decide ((T_api_Reg.mk Boot2 N2) = ((locks.getD i.toNat default).f_Got.getD x_k.toNat default).f_Reg)) : Bool) then
            some ((T_api_Reg.mk Boot2 N2), false)
          else
            parrelref20_reg_l1 locks x_n i k0 fuel (IntKind.wrap .i64 (x_k + 1)) ((locks.getD i.toNat default).f_Got.getD x_k.toNat default).f_Reg.f_Boot ((locks.getD i.toNat default).f_Got.getD x_k.toNat default).f_Reg.f_N
        else
          parrelref20_reg_l1 locks x_n i k0 fuel (IntKind.wrap .i64 (x_k + 1)) ((locks.getD i.toNat default).f_Got.getD x_k.toNat default).f_Reg.f_Boot ((locks.getD i.toNat default).f_Got.getD x_k.toNat default).f_Reg.f_N
      else none
    else
      k0 (IntKind.wrap .i64 (i + 1)) Boot2 N2
    else none

def parrelref20_reg_l0 (locks : List (T_parrelref20_Lock)) (x_n : Int)  : Nat → (Int) → (Int) → (Int) → Option ((T_api_Reg) × (Bool))
  | 0, _, _, _ => none
  | fuel + 1, i, Boot, N =>
    if ((decide (i < ((locks).length : Int))) : Bool) then
      parrelref20_reg_l1 locks x_n i (parrelref20_reg_l0 locks x_n  fuel) big 0 Boot N
    else
      some ((T_api_Reg.mk Boot N), true)

def parrelref20_reg (locks : List (T_parrelref20_Lock)) (x_n : Int) : Option ((T_api_Reg) × (Bool)) :=
  parrelref20_reg_l0 locks x_n  big 0 0 0

theorem parrelref20_reg_l1_ok {w0 : World} {W : Nat → Prop} {μ0 : Emb} (hμ : ∀ c p, μ0 c = some p → c < 0) (locks : List (T_parrelref20_Lock)) (x_n : Int) (i : Int) (k0 : (Int) → (Int) → (Int) → Option ((T_api_Reg) × (Bool))) (hk0 : ∀ (i : Int) (Boot : Int) (N : Int) (r : (T_api_Reg) × (Bool)), k0 i Boot N = some r → kont Tryd.prog w0 W μ0 (FnPost Tryd.prog Tryd.f31 0 0 (parrelref20_reg_v r) []) (kAt (bodyOf Tryd.f31) 0) none (parrelref20_reg_T0 locks x_n i Boot N) (parrelref20_reg_H0 locks x_n i Boot N)) : ∀ (fuel : Nat) (x_k : Int) (Boot2 : Int) (N2 : Int) (r : (T_api_Reg) × (Bool)), parrelref20_reg_l1 locks x_n i k0 fuel x_k Boot2 N2 = some r → kont Tryd.prog w0 W μ0 (FnPost Tryd.prog Tryd.f31 0 0 (parrelref20_reg_v r) []) (kAt (bodyOf Tryd.f31) 1) none (parrelref20_reg_T1 locks x_n i x_k Boot2 N2) (parrelref20_reg_H1 locks x_n i x_k Boot2 N2) := by
  intro fuel
  induction fuel with
  | zero => intro x_k Boot2 N2 r h; rw [parrelref20_reg_l1] at h; cases h
  | succ fuel ih =>
    intro x_k Boot2 N2 r h
    rw [parrelref20_reg_l1] at h
    obtain ⟨gL1_1, h⟩ := guard_some h
    rcases itb_some h with ⟨cL1_2, h⟩ | ⟨cL1_2, h⟩
    · skip
      obtain ⟨gL1_3, h⟩ := guard_some h
      rcases itb_some h with ⟨cL1_4, h⟩ | ⟨cL1_4, h⟩
      · skip
        exact run_to mixed hμ (L := [0, 1]) (n := 29) (s := [.go, .reg [(7, { v := some (.bool true) })], .reg [], .reg [(4, { v := some (.bool true) })], .reg []])
          (a_ (a_ (a_ tr tr) (a_ (a_ tr tr) (a_ (a_ tr tr) (a_ (a_ (a_ (Eq.refl 10) gL1_1) tr) (a_ (a_ tr tr) (a_ (a_ (lt_ 0 1 rfl) tr) (a_ (a_ tr tr) (a_ (a_ tr (a_ (leB cL1_2) tr)) tr)))))))) (a_ (a_ (a_ tr tr) (a_ (a_ tr tr) (a_ (a_ (a_ (Eq.refl 10) gL1_1) tr) (a_ (a_ tr tr) (a_ (a_ (lt_ 0 1 rfl) tr) (a_ (a_ tr tr) (a_ (a_ (a_ (Eq.refl 16) gL1_3) tr) (a_ (a_ (le_ 16 16 rfl) tr) (a_ (a_ tr tr) (a_ (a_ (a_ (Eq.refl 16) (a_ (le_ 16 16 rfl) (Eq.refl 0))) tr) tr)))))))))) (a_ (a_ (a_ tr tr) (a_ (a_ (a_ tr (lt_ 0 16 rfl)) tr) (a_ (a_ tr tr) (a_ (a_ tr tr) (a_ (a_ tr (a_ (leB cL1_4) tr)) tr))))) (a_ (a_ (a_ tr tr) (a_ (a_ tr tr) (a_ (a_ tr tr) tr))) tr)))) (ih _ _ _ r h) (by kernel_rfl) ⟨rfl, rfl, trivial⟩
      · skip
        rcases itb_some h with ⟨cL1_5, h⟩ | ⟨cL1_5, h⟩
        · skip
          rcases itb_some h with ⟨cL1_6, h⟩ | ⟨cL1_6, h⟩
          · skip
            obtain rfl := Option.some.inj h
            exact run_ret mixed (L := []) (n := 35) (s := [.go, .reg [(7, { v := some (.bool true) })], .reg [], .reg [(4, { v := some (.bool false) })], .reg [(2, { v := some (.bool (!decide ((T_api_Reg.mk Boot2 N2) = (T_api_Reg.mk 0 0)))) }), (3, { v := some (.bool true) }), (7, { v := some (.bool (!decide ((T_api_Reg.mk Boot2 N2) = ((locks.getD i.toNat default).f_Got.getD x_k.toNat default).f_Reg))) }), (8, { v := some (.bool true) })], .reg []])
              (a_ (a_ (a_ (a_ tr tr) (a_ (a_ tr tr) (a_ (a_ tr tr) (a_ (a_ (a_ (Eq.refl 10) gL1_1) tr) (a_ (a_ tr tr) (a_ (a_ (lt_ 0 1 rfl) tr) (a_ (a_ tr tr) (a_ (a_ tr (a_ (leB cL1_2) tr)) tr)))))))) (a_ (a_ (a_ tr tr) (a_ (a_ tr tr) (a_ (a_ (a_ (Eq.refl 10) gL1_1) tr) (a_ (a_ tr tr) (a_ (a_ (lt_ 0 1 rfl) tr) (a_ (a_ tr tr) (a_ (a_ (a_ (Eq.refl 16) gL1_3) tr) (a_ (a_ (le_ 16 16 rfl) tr) (a_ (a_ tr tr) (a_ (a_ (a_ (Eq.refl 16) (a_ (le_ 16 16 rfl) (Eq.refl 0))) tr) tr)))))))))) (a_ (a_ (a_ tr tr) (a_ (a_ (a_ tr (lt_ 0 16 rfl)) tr) (a_ (a_ tr tr) (a_ (a_ tr tr) (a_ (a_ tr (a_ (leB cL1_4) tr)) tr))))) (a_ (a_ (a_ (a_ tr (le_ 2 2 rfl)) tr) (a_ (a_ (Eq.refl true) tr) (a_ (a_ tr (a_ (leB (congrArg not (k_T_api_Reg (T_api_Reg.mk Boot2 N2) (T_api_Reg.mk 0 0)))) tr)) (a_ (a_ tr (a_ (leB cL1_5) tr)) (a_ (a_ (a_ tr (le_ 2 2 rfl)) tr) (a_ (a_ tr tr) (a_ (a_ (a_ tr (le_ 3 16 rfl)) tr) (a_ (a_ tr (a_ (leB (congrArg not (k_T_api_Reg (T_api_Reg.mk Boot2 N2) ((locks.getD i.toNat default).f_Got.getD x_k.toNat default).f_Reg))) tr)) (a_ (a_ tr (a_ (leB cL1_6) tr)) tr))))))))) (a_ (a_ (a_ (a_ tr (le_ 2 2 rfl)) tr) (a_ (a_ (a_ (Eq.refl 2) (a_ (le_ 2 2 rfl) (Eq.refl 0))) tr) (a_ (a_ tr tr) tr))) tr))))) (a_ (a_ tr (le_ 2 2 rfl)) tr)) (by kernel_rfl) rfl
          · skip
            exact run_to mixed hμ (L := [0, 1]) (n := 38) (s := [.go, .reg [(7, { v := some (.bool true) })], .reg [], .reg [(4, { v := some (.bool false) })], .reg [(2, { v := some (.bool (!decide ((T_api_Reg.mk Boot2 N2) = (T_api_Reg.mk 0 0)))) }), (3, { v := some (.bool true) }), (7, { v := some (.bool (!decide ((T_api_Reg.mk Boot2 N2) = ((locks.getD i.toNat default).f_Got.getD x_k.toNat default).f_Reg))) }), (8, { v := some (.bool false) })], .reg [], .reg []])
              (a_ (a_ (a_ tr tr) (a_ (a_ tr tr) (a_ (a_ tr tr) (a_ (a_ (a_ (Eq.refl 10) gL1_1) tr) (a_ (a_ tr tr) (a_ (a_ (lt_ 0 1 rfl) tr) (a_ (a_ tr tr) (a_ (a_ tr (a_ (leB cL1_2) tr)) tr)))))))) (a_ (a_ (a_ tr tr) (a_ (a_ tr tr) (a_ (a_ (a_ (Eq.refl 10) gL1_1) tr) (a_ (a_ tr tr) (a_ (a_ (lt_ 0 1 rfl) tr) (a_ (a_ tr tr) (a_ (a_ (a_ (Eq.refl 16) gL1_3) tr) (a_ (a_ (le_ 16 16 rfl) tr) (a_ (a_ tr tr) (a_ (a_ (a_ (Eq.refl 16) (a_ (le_ 16 16 rfl) (Eq.refl 0))) tr) tr)))))))))) (a_ (a_ (a_ tr tr) (a_ (a_ (a_ tr (lt_ 0 16 rfl)) tr) (a_ (a_ tr tr) (a_ (a_ tr tr) (a_ (a_ tr (a_ (leB cL1_4) tr)) tr))))) (a_ (a_ (a_ (a_ tr (le_ 2 2 rfl)) tr) (a_ (a_ (Eq.refl true) tr) (a_ (a_ tr (a_ (leB (congrArg not (k_T_api_Reg (T_api_Reg.mk Boot2 N2) (T_api_Reg.mk 0 0)))) tr)) (a_ (a_ tr (a_ (leB cL1_5) tr)) (a_ (a_ (a_ tr (le_ 2 2 rfl)) tr) (a_ (a_ tr tr) (a_ (a_ (a_ tr (le_ 3 16 rfl)) tr) (a_ (a_ tr (a_ (leB (congrArg not (k_T_api_Reg (T_api_Reg.mk Boot2 N2) ((locks.getD i.toNat default).f_Got.getD x_k.toNat default).f_Reg))) tr)) (a_ (a_ tr (a_ (leB cL1_6) tr)) tr))))))))) (a_ (a_ (a_ tr tr) (a_ (a_ (a_ tr (le_ 3 16 rfl)) tr) (a_ (a_ (a_ (Eq.refl 2) (a_ (le_ 2 2 rfl) (Eq.refl 0))) tr) tr))) (a_ (a_ (a_ tr tr) (a_ (a_ tr tr) (a_ (a_ tr tr) tr))) tr)))))) (ih _ _ _ r h) (by kernel_rfl) ⟨rfl, rfl, trivial⟩
        · skip
          exact run_to mixed hμ (L := [0, 1]) (n := 38) (s := [.go, .reg [(7, { v := some (.bool true) })], .reg [], .reg [(4, { v := some (.bool false) })], .reg [(2, { v := some (.bool (!decide ((T_api_Reg.mk Boot2 N2) = (T_api_Reg.mk 0 0)))) }), (3, { v := some (.bool false) })], .reg [], .reg []])
            (a_ (a_ (a_ tr tr) (a_ (a_ tr tr) (a_ (a_ tr tr) (a_ (a_ (a_ (Eq.refl 10) gL1_1) tr) (a_ (a_ tr tr) (a_ (a_ (lt_ 0 1 rfl) tr) (a_ (a_ tr tr) (a_ (a_ tr (a_ (leB cL1_2) tr)) tr)))))))) (a_ (a_ (a_ tr tr) (a_ (a_ tr tr) (a_ (a_ (a_ (Eq.refl 10) gL1_1) tr) (a_ (a_ tr tr) (a_ (a_ (lt_ 0 1 rfl) tr) (a_ (a_ tr tr) (a_ (a_ (a_ (Eq.refl 16) gL1_3) tr) (a_ (a_ (le_ 16 16 rfl) tr) (a_ (a_ tr tr) (a_ (a_ (a_ (Eq.refl 16) (a_ (le_ 16 16 rfl) (Eq.refl 0))) tr) tr)))))))))) (a_ (a_ (a_ tr tr) (a_ (a_ (a_ tr (lt_ 0 16 rfl)) tr) (a_ (a_ tr tr) (a_ (a_ tr tr) (a_ (a_ tr (a_ (leB cL1_4) tr)) tr))))) (a_ (a_ (a_ (a_ tr (le_ 2 2 rfl)) tr) (a_ (a_ (Eq.refl true) tr) (a_ (a_ tr (a_ (leB (congrArg not (k_T_api_Reg (T_api_Reg.mk Boot2 N2) (T_api_Reg.mk 0 0)))) tr)) (a_ (a_ tr (a_ (leB cL1_5) tr)) (a_ tr (a_ tr (a_ tr (a_ tr (a_ (a_ tr tr) tr))))))))) (a_ (a_ (a_ tr tr) (a_ (a_ (a_ tr (le_ 3 16 rfl)) tr) (a_ (a_ (a_ (Eq.refl 2) (a_ (le_ 2 2 rfl) (Eq.refl 0))) tr) tr))) (a_ (a_ (a_ tr tr) (a_ (a_ tr tr) (a_ (a_ tr tr) tr))) tr)))))) (ih _ _ _ r h) (by kernel_rfl) ⟨rfl, rfl, trivial⟩
    · skip
      exact run_to mixed hμ (L := [0, 1]) (n := 19) (s := [.go, .reg [(7, { v := some (.bool false) })], .reg []])
        (a_ (a_ (a_ tr tr) (a_ (a_ tr tr) (a_ (a_ tr tr) (a_ (a_ (a_ (Eq.refl 10) gL1_1) tr) (a_ (a_ tr tr) (a_ (a_ (lt_ 0 1 rfl) tr) (a_ (a_ tr tr) (a_ (a_ tr (a_ (leB cL1_2) tr)) tr)))))))) (a_ (a_ (a_ tr tr) (a_ (a_ tr tr) (a_ (a_ tr tr) tr))) tr)) (hk0 _ _ _ r h) (by kernel_rfl) ⟨rfl, rfl, trivial⟩

theorem parrelref20_reg_l0_ok {w0 : World} {W : Nat → Prop} {μ0 : Emb} (hμ : ∀ c p, μ0 c = some p → c < 0) (locks : List (T_parrelref20_Lock)) (x_n : Int)  : ∀ (fuel : Nat) (i : Int) (Boot : Int) (N : Int) (r : (T_api_Reg) × (Bool)), parrelref20_reg_l0 locks x_n  fuel i Boot N = some r → kont Tryd.prog w0 W μ0 (FnPost Tryd.prog Tryd.f31 0 0 (parrelref20_reg_v r) []) (kAt (bodyOf Tryd.f31) 0) none (parrelref20_reg_T0 locks x_n i Boot N) (parrelref20_reg_H0 locks x_n i Boot N) := by
  intro fuel
  induction fuel with
  | zero => intro i Boot N r h; rw [parrelref20_reg_l0] at h; cases h
  | succ fuel ih =>
    intro i Boot N r h
    rw [parrelref20_reg_l0] at h
    rcases itb_some h with ⟨cL0_1, h⟩ | ⟨cL0_1, h⟩
    · skip
      exact run_to mixed hμ (L := [0, 1]) (n := 23) (s := [.go, .reg [(3, { v := some (.bool true) })], .reg []])
        (a_ (a_ (a_ tr tr) (a_ (a_ tr tr) (a_ (a_ tr tr) (a_ (a_ tr (a_ (leB cL0_1) tr)) tr)))) (a_ (a_ (a_ tr tr) tr) tr)) (parrelref20_reg_l1_ok hμ locks x_n i (parrelref20_reg_l0 locks x_n  fuel) (fun i Boot N r h => ih i Boot N r h) big _ _ _ r h) (by kernel_rfl) ⟨rfl, rfl, trivial⟩
    · skip
      obtain rfl := Option.some.inj h
      exact run_ret mixed (L := []) (n := 19) (s := [.go, .reg [(3, { v := some (.bool false) })], .reg []])
        (a_ (a_ (a_ (a_ tr tr) (a_ (a_ tr tr) (a_ (a_ tr tr) (a_ (a_ tr (a_ (leB cL0_1) tr)) tr)))) (a_ (a_ (a_ (a_ tr (le_ 2 2 rfl)) tr) (a_ (a_ (a_ (Eq.refl 2) (a_ (le_ 2 2 rfl) (Eq.refl 0))) tr) (a_ (a_ tr tr) tr))) tr)) (a_ (a_ tr (le_ 2 2 rfl)) tr)) (by kernel_rfl) rfl

theorem parrelref20_reg_ok (locks : List (T_parrelref20_Lock)) (x_n : Int) (r : (T_api_Reg) × (Bool)) (h : parrelref20_reg locks x_n = some r) : ∀ σ, Inj 0 σ → FnTri Tryd.prog 31 (renL σ [.ds 10 (locks).length (rowF c_T_parrelref20_Lock default locks), .int .i64 x_n]) (preOf σ 0 []) ((parrelref20_reg_v r).ren σ) (upOf σ []) := by
  refine fn_of Tryd.func31 (by kernel_rfl) (by kernel_rfl) (by kernel_rfl) trivial (by kernel_rfl) trivial (by kernel_rfl) ?_
  intro w0 W μ0 hμ
  unfold parrelref20_reg at h
  exact run_to mixed hμ (L := [0, 1]) (n := 21) (s := [.reg [], .reg [], .reg []])
    (a_ (a_ (a_ tr tr) (a_ (a_ tr tr) tr)) (a_ (a_ (a_ (Eq.refl true) tr) (a_ (a_ tr tr) (a_ (a_ (a_ (Eq.refl 2) (a_ (le_ 2 2 rfl) (Eq.refl 0))) tr) tr))) (a_ (a_ (a_ tr tr) tr) tr))) (parrelref20_reg_l0_ok hμ locks x_n  big _ _ _ r h) (by kernel_rfl) ⟨rfl, rfl, trivial⟩

theorem parrelref20_reg_tri (locks : List (T_parrelref20_Lock)) (x_n : Int) (r : (T_api_Reg) × (Bool)) (h : parrelref20_reg locks x_n = some r) : FnTri Tryd.prog 31 [.ds 10 (locks).length (rowF c_T_parrelref20_Lock default locks), .int .i64 x_n] [] (parrelref20_reg_v r) [] := FnTri.none (parrelref20_reg_ok locks x_n r h) rfl rfl

/-- parrel/parrelref20.of -/

def parrelref20_of_v (r : (Int)) : LV := .int .u64 r

def parrelref20_of_T0 (locks : List (T_parrelref20_Lock)) (x_k : A8 (Int)) (i : Int) (l : List (T_parrelref20_Lock)) : List LV := [.ds 10 (locks).length (rowF c_T_parrelref20_Lock default locks), .any, .any, .ptr 0 0 0, .any, .gs 1 (l).length, .int .i64 i, .any, .any, .any, .any, .any, .any, .any, .any, .any, .any, .any, .any, .any, .any, .any, .any, .any, .any, .any, .any, .any, .any, .any, .any, .any, .any, .any, .any, .any, .any]

def parrelref20_of_H0 (locks : List (T_parrelref20_Lock)) (x_k : A8 (Int)) (i : Int) (l : List (T_parrelref20_Lock)) : Heap := [some (.var [.int .u8 x_k.a0, .int .u8 x_k.a1, .int .u8 x_k.a2, .int .u8 x_k.a3, .int .u8 x_k.a4, .int .u8 x_k.a5, .int .u8 x_k.a6, .int .u8 x_k.a7]), some (.gr 10 (l).length (rowF c_T_parrelref20_Lock default l))]

def parrelref20_of_l0 (locks : List (T_parrelref20_Lock)) (x_k : A8 (Int))  : Nat → (Int) → (List (T_parrelref20_Lock)) → Option ((Int))
  | 0, _, _ => none
  | fuel + 1, i, l =>
    if ((decide (i < ((locks).length : Int))) : Bool) then
      if 0 ≤ i ∧ i < (((locks).length : Nat) : Int) then
      if ((decide ((locks.getD i.toNat default).f_Key = x_k)) : Bool) then
        if (((locks.getD i.toNat default).f_Mode == 2) : Bool) then
          if ((l).length + (([(locks.getD i.toNat default)] : List (T_parrelref20_Lock))).length) * 40 ≤ 140737488351232 then
          parrelref20_of_l0 locks x_k  fuel (IntKind.wrap .i64 (i + 1)) (l ++ ([(locks.getD i.toNat default)] : List (T_parrelref20_Lock)))
          else none
        else
          parrelref20_of_l0 locks x_k  fuel (IntKind.wrap .i64 (i + 1)) l
      else
        parrelref20_of_l0 locks x_k  fuel (IntKind.wrap .i64 (i + 1)) l
      else none
    else
      (parrelref20_Nodes l).bind fun yL0_3 =>
      some yL0_3

def parrelref20_of (locks : List (T_parrelref20_Lock)) (x_k : A8 (Int)) : Option ((Int)) :=
  parrelref20_of_l0 locks x_k  big 0 ([] : List (T_parrelref20_Lock))

theorem parrelref20_of_l0_ok {w0 : World} {W : Nat → Prop} {μ0 : Emb} (hμ : ∀ c p, μ0 c = some p → c < 0) (locks : List (T_parrelref20_Lock)) (x_k : A8 (Int))  : ∀ (fuel : Nat) (i : Int) (l : List (T_parrelref20_Lock)) (r : (Int)), parrelref20_of_l0 locks x_k  fuel i l = some r → kont Tryd.prog w0 W μ0 (FnPost Tryd.prog Tryd.f33 0 0 (parrelref20_of_v r) []) (kAt (bodyOf Tryd.f33) 0) none (parrelref20_of_T0 locks x_k i l) (parrelref20_of_H0 locks x_k i l) := by
  intro fuel
  induction fuel with
  | zero => intro i l r h; rw [parrelref20_of_l0] at h; cases h
  | succ fuel ih =>
    intro i l r h
    rw [parrelref20_of_l0] at h
    rcases itb_some h with ⟨cL0_1, h⟩ | ⟨cL0_1, h⟩
    · skip
      obtain ⟨gL0_2, h⟩ := guard_some h
      rcases itb_some h with ⟨cL0_3, h⟩ | ⟨cL0_3, h⟩
      · skip
        rcases itb_some h with ⟨cL0_4, h⟩ | ⟨cL0_4, h⟩
        · skip
          obtain ⟨gL0_5, h⟩ := guard_some h
          exact run_to mixed hμ (L := [0, 3]) (n := 27) (s := [.go, .reg [(3, { v := some (.bool true) })], .reg [(6, { v := some (.bool (decide ((locks.getD i.toNat default).f_Key = x_k))) }), (7, { v := some (.bool true) }), (14, { v := some (.bool true) })], .reg [(5, { os := [(2, .gr 10 (([(locks.getD i.toNat default)] : List (T_parrelref20_Lock))).length (rowF c_T_parrelref20_Lock default ([(locks.getD i.toNat default)] : List (T_parrelref20_Lock))))], v := some (.gs 2 (([(locks.getD i.toNat default)] : List (T_parrelref20_Lock))).length) }), (6, { app := 3, os := [(3, .gr 10 ((l ++ ([(locks.getD i.toNat default)] : List (T_parrelref20_Lock)))).length (rowF c_T_parrelref20_Lock default (l ++ ([(locks.getD i.toNat default)] : List (T_parrelref20_Lock)))))], v := some (.gs 3 ((l ++ ([(locks.getD i.toNat default)] : List (T_parrelref20_Lock)))).length) })], .reg []])
            (a_ (a_ (a_ tr tr) (a_ (a_ tr tr) (a_ (a_ tr tr) (a_ (a_ tr (a_ (leB cL0_1) tr)) tr)))) (a_ (a_ (a_ tr tr) (a_ (a_ tr tr) (a_ (a_ (a_ (Eq.refl 10) gL0_2) tr) (a_ (a_ tr tr) (a_ (a_ (le_ 8 10 rfl) tr) (a_ (a_ (a_ tr (le_ 8 8 rfl)) tr) (a_ (a_ tr (a_ (leB ((k_arr8 .u8) (locks.getD i.toNat default).f_Key x_k)) tr)) (a_ (a_ tr (a_ (leB cL0_3) tr)) (a_ (a_ tr tr) (a_ (a_ tr tr) (a_ (a_ (a_ (Eq.refl 10) gL0_2) tr) (a_ (a_ tr tr) (a_ (a_ (lt_ 0 2 rfl) tr) (a_ (a_ tr tr) (a_ (a_ tr (a_ (leB cL0_4) tr)) tr))))))))))))))) (a_ (a_ (a_ tr tr) (a_ (a_ tr tr) (a_ (a_ tr tr) (a_ (a_ (a_ (Eq.refl 10) gL0_2) tr) (a_ (a_ (le_ 10 10 rfl) tr) (a_ (a_ (a_ (Eq.refl true) (a_ (Eq.refl 10) (a_ (lt_ 0 10 rfl) (le_ 10 16777216 rfl)))) (a_ (le_sl_gs 2 1 (some 1) rfl) (a_ (sub_lit c_T_parrelref20_Lock default 10 (fun _ => rfl) ([(locks.getD i.toNat default)] : List (T_parrelref20_Lock))) tr))) (a_ (a_ (a_ (a_ (Eq.refl 10) (Nat.le_refl (([(locks.getD i.toNat default)] : List (T_parrelref20_Lock))).length)) (a_ (a_ (lt_ 0 10 rfl) (a_ (lt_ 0 40 rfl) (a_ gL0_5 (a_ (Eq.refl 10) (Eq.refl true))))) (a_ (Eq.refl 10) (Nat.le_refl (l).length)))) (a_ (le_gs_app 3 l ([(locks.getD i.toNat default)] : List (T_parrelref20_Lock))) (a_ (sub_app c_T_parrelref20_Lock default 10 l ([(locks.getD i.toNat default)] : List (T_parrelref20_Lock))) tr))) (a_ (a_ tr tr) tr)))))))) (a_ (a_ (a_ tr tr) (a_ (a_ tr tr) (a_ (a_ tr tr) tr))) tr)))) (ih _ _ r h) (by kernel_rfl) ⟨rfl, fun _ _ => rfl, trivial⟩
        · skip
          exact run_to mixed hμ (L := [0, 1]) (n := 26) (s := [.go, .reg [(3, { v := some (.bool true) })], .reg [(6, { v := some (.bool (decide ((locks.getD i.toNat default).f_Key = x_k))) }), (7, { v := some (.bool true) }), (14, { v := some (.bool false) })], .reg []])
            (a_ (a_ (a_ tr tr) (a_ (a_ tr tr) (a_ (a_ tr tr) (a_ (a_ tr (a_ (leB cL0_1) tr)) tr)))) (a_ (a_ (a_ tr tr) (a_ (a_ tr tr) (a_ (a_ (a_ (Eq.refl 10) gL0_2) tr) (a_ (a_ tr tr) (a_ (a_ (le_ 8 10 rfl) tr) (a_ (a_ (a_ tr (le_ 8 8 rfl)) tr) (a_ (a_ tr (a_ (leB ((k_arr8 .u8) (locks.getD i.toNat default).f_Key x_k)) tr)) (a_ (a_ tr (a_ (leB cL0_3) tr)) (a_ (a_ tr tr) (a_ (a_ tr tr) (a_ (a_ (a_ (Eq.refl 10) gL0_2) tr) (a_ (a_ tr tr) (a_ (a_ (lt_ 0 2 rfl) tr) (a_ (a_ tr tr) (a_ (a_ tr (a_ (leB cL0_4) tr)) tr))))))))))))))) (a_ (a_ (a_ tr tr) (a_ (a_ tr tr) (a_ (a_ tr tr) tr))) tr))) (ih _ _ r h) (by kernel_rfl) ⟨rfl, fun _ _ => rfl, trivial⟩
      · skip
        exact run_to mixed hμ (L := [0, 1]) (n := 26) (s := [.go, .reg [(3, { v := some (.bool true) })], .reg [(6, { v := some (.bool (decide ((locks.getD i.toNat default).f_Key = x_k))) }), (7, { v := some (.bool false) })], .reg []])
          (a_ (a_ (a_ tr tr) (a_ (a_ tr tr) (a_ (a_ tr tr) (a_ (a_ tr (a_ (leB cL0_1) tr)) tr)))) (a_ (a_ (a_ tr tr) (a_ (a_ tr tr) (a_ (a_ (a_ (Eq.refl 10) gL0_2) tr) (a_ (a_ tr tr) (a_ (a_ (le_ 8 10 rfl) tr) (a_ (a_ (a_ tr (le_ 8 8 rfl)) tr) (a_ (a_ tr (a_ (leB ((k_arr8 .u8) (locks.getD i.toNat default).f_Key x_k)) tr)) (a_ (a_ tr (a_ (leB cL0_3) tr)) (a_ tr (a_ tr (a_ tr (a_ tr (a_ tr (a_ tr (a_ (a_ tr tr) tr))))))))))))))) (a_ (a_ (a_ tr tr) (a_ (a_ tr tr) (a_ (a_ tr tr) tr))) tr))) (ih _ _ r h) (by kernel_rfl) ⟨rfl, fun _ _ => rfl, trivial⟩
    · skip
      obtain ⟨yL0_3, eL0_2, h⟩ := bind_some h
      obtain rfl := Option.some.inj h
      exact run_ret mixed (L := []) (n := 20) (s := [.go, .reg [(3, { v := some (.bool false) })], .frz 1, .reg [(1, { call := some (parrelref20_Nodes_v yL0_3, [], []) })]])
        (a_ (a_ (a_ (a_ tr tr) (a_ (a_ tr tr) (a_ (a_ tr tr) (a_ (a_ tr (a_ (leB cL0_1) tr)) tr)))) (a_ (a_ (fz_row (enc := c_T_parrelref20_Lock) (d := default) (fun _ => rfl) l) (a_ (Nat.le_refl (l).length) tr)) (a_ (a_ (a_ tr tr) (a_ (a_ (a_ (parrelref20_Nodes_tri l yL0_3 eL0_2) tr) tr) (a_ (a_ tr tr) tr))) tr))) tr) (by kernel_rfl) rfl

theorem parrelref20_of_ok (locks : List (T_parrelref20_Lock)) (x_k : A8 (Int)) (r : (Int)) (h : parrelref20_of locks x_k = some r) : ∀ σ, Inj 0 σ → FnTri Tryd.prog 33 (renL σ [.ds 10 (locks).length (rowF c_T_parrelref20_Lock default locks), .agg [.int .u8 x_k.a0, .int .u8 x_k.a1, .int .u8 x_k.a2, .int .u8 x_k.a3, .int .u8 x_k.a4, .int .u8 x_k.a5, .int .u8 x_k.a6, .int .u8 x_k.a7]]) (preOf σ 0 []) ((parrelref20_of_v r).ren σ) (upOf σ []) := by
  refine fn_of Tryd.func33 (by kernel_rfl) (by kernel_rfl) (by kernel_rfl) trivial (by kernel_rfl) trivial (by kernel_rfl) ?_
  intro w0 W μ0 hμ
  unfold parrelref20_of at h
  exact run_to mixed hμ (L := [0, 1]) (n := 22) (s := [.reg [], .void (.gr 10 (([] : List (T_parrelref20_Lock))).length (rowF c_T_parrelref20_Lock default ([] : List (T_parrelref20_Lock)))), .reg [(0, { v := some (.gs 1 (([] : List (T_parrelref20_Lock))).length) })], .reg []])
    (a_ (a_ (a_ tr tr) (a_ (a_ tr tr) tr)) (a_ (Eq.refl 0) (a_ (a_ (a_ tr (a_ (le_nil_gs 1) tr)) tr) (a_ (a_ (a_ tr tr) tr) tr)))) (parrelref20_of_l0_ok hμ locks x_k  big _ _ r h) (by kernel_rfl) ⟨rfl, fun _ _ => rfl, trivial⟩

theorem parrelref20_of_tri (locks : List (T_parrelref20_Lock)) (x_k : A8 (Int)) (r : (Int)) (h : parrelref20_of locks x_k = some r) : FnTri Tryd.prog 33 [.ds 10 (locks).length (rowF c_T_parrelref20_Lock default locks), .agg [.int .u8 x_k.a0, .int .u8 x_k.a1, .int .u8 x_k.a2, .int .u8 x_k.a3, .int .u8 x_k.a4, .int .u8 x_k.a5, .int .u8 x_k.a6, .int .u8 x_k.a7]] [] (parrelref20_of_v r) [] := FnTri.none (parrelref20_of_ok locks x_k r h) rfl rfl

/-- parrel/parrelref06.Of -/

def parrelref06_Of_v (r : (Int)) : LV := .int .i64 r

def parrelref06_Of_T0 (c : T_api_Config) (set : Int) (x_n : Int) (i : Int) : List LV := [.any, .int .u64 set, .ptr 0 0 0, .any, .any, .int .i64 x_n, .int .i64 i, .any, .any, .any, .any, .any, .any, .any, .any, .any, .any, .any, .any, .any, .any, .any]

def parrelref06_Of_H0 (c : T_api_Config) (set : Int) (x_n : Int) (i : Int) : Heap := [some (.var (c_T_api_Config c))]

def parrelref06_Of_l0 (c : T_api_Config) (set : Int)  : Nat → (Int) → (Int) → Option ((Int))
  | 0, _, _ => none
  | fuel + 1, x_n, i =>
    if ((decide (i < 8)) : Bool) then
      (parrelref01_Has set i).bind fun yL0_3 =>
      if (yL0_3 : Bool) then
        if 0 ≤ i ∧ i < 8 then
        parrelref06_Of_l0 c set  fuel (IntKind.wrap .i64 (x_n + (IntKind.wrap .i64 (A8.get c.f_Votes i.toNat)))) (IntKind.wrap .i64 (i + 1))
        else none
      else
        parrelref06_Of_l0 c set  fuel x_n (IntKind.wrap .i64 (i + 1))
    else
      some x_n

def parrelref06_Of (c : T_api_Config) (set : Int) : Option ((Int)) :=
  parrelref06_Of_l0 c set  big 0 0

theorem parrelref06_Of_l0_ok {w0 : World} {W : Nat → Prop} {μ0 : Emb} (hμ : ∀ c p, μ0 c = some p → c < 0) (c : T_api_Config) (set : Int)  : ∀ (fuel : Nat) (x_n : Int) (i : Int) (r : (Int)), parrelref06_Of_l0 c set  fuel x_n i = some r → kont Tryd.prog w0 W μ0 (FnPost Tryd.prog Tryd.f34 0 0 (parrelref06_Of_v r) []) (kAt (bodyOf Tryd.f34) 0) none (parrelref06_Of_T0 c set x_n i) (parrelref06_Of_H0 c set x_n i) := by
  intro fuel
  induction fuel with
  | zero => intro x_n i r h; rw [parrelref06_Of_l0] at h; cases h
  | succ fuel ih =>
    intro x_n i r h
    rw [parrelref06_Of_l0] at h
    rcases itb_some h with ⟨cL0_1, h⟩ | ⟨cL0_1, h⟩
    · skip
      obtain ⟨yL0_3, eL0_2, h⟩ := bind_some h
      rcases itb_some h with ⟨cL0_4, h⟩ | ⟨cL0_4, h⟩
      · skip
        obtain ⟨gL0_5, h⟩ := guard_some h
        exact run_to mixed hμ (L := [0]) (n := 27) (s := [.go, .reg [(1, { v := some (.bool true) })], .reg [(2, { call := some (parrelref01_Has_v yL0_3, [], []), v := some (.bool true) })], .reg [(4, { v := some (.int .u8 (A8.get c.f_Votes i.toNat)) })], .reg []])
          (a_ (a_ (a_ tr tr) (a_ (a_ tr (a_ (leB cL0_1) tr)) tr)) (a_ (a_ (a_ tr tr) (a_ (a_ tr tr) (a_ (a_ (a_ (parrelref01_Has_tri set i yL0_3 eL0_2) tr) (a_ (leB cL0_4) tr)) tr))) (a_ (a_ (a_ tr tr) (a_ (a_ tr tr) (a_ (a_ tr tr) (a_ (a_ gL0_5 tr) (a_ (a_ (a_ tr (arrLt (len := 8) gL0_5 3 1 11 rfl rfl)) (a_ (ld8s (cInt .u8) 1 (fun _ => rfl) c.f_Votes [.int .u32 c.f_Epoch, .int .u8 c.f_R, .int .u8 c.f_W] [] 3 rfl i.toNat (lt8N gL0_5) (le_ (0 + 1) 1 rfl)) tr)) (a_ (a_ tr tr) (a_ (a_ tr tr) (a_ (a_ tr tr) tr)))))))) (a_ (a_ (a_ tr tr) (a_ (a_ tr tr) (a_ (a_ tr tr) tr))) tr)))) (ih _ _ r h) (by kernel_rfl) ⟨rfl, trivial⟩
      · skip
        exact run_to mixed hμ (L := [0]) (n := 26) (s := [.go, .reg [(1, { v := some (.bool true) })], .reg [(2, { call := some (parrelref01_Has_v yL0_3, [], []), v := some (.bool false) })], .reg []])
          (a_ (a_ (a_ tr tr) (a_ (a_ tr (a_ (leB cL0_1) tr)) tr)) (a_ (a_ (a_ tr tr) (a_ (a_ tr tr) (a_ (a_ (a_ (parrelref01_Has_tri set i yL0_3 eL0_2) tr) (a_ (leB cL0_4) tr)) tr))) (a_ (a_ (a_ tr tr) (a_ (a_ tr tr) (a_ (a_ tr tr) tr))) tr))) (ih _ _ r h) (by kernel_rfl) ⟨rfl, trivial⟩
    · skip
      obtain rfl := Option.some.inj h
      exact run_ret mixed (L := []) (n := 19) (s := [.go, .reg [(1, { v := some (.bool false) })], .reg []])
        (a_ (a_ (a_ (a_ tr tr) (a_ (a_ tr (a_ (leB cL0_1) tr)) tr)) (a_ (a_ (a_ tr tr) (a_ (a_ tr tr) tr)) tr)) tr) (by kernel_rfl) rfl

theorem parrelref06_Of_ok (c : T_api_Config) (set : Int) (r : (Int)) (h : parrelref06_Of c set = some r) : ∀ σ, Inj 0 σ → FnTri Tryd.prog 34 (renL σ [v_T_api_Config c, .int .u64 set]) (preOf σ 0 []) ((parrelref06_Of_v r).ren σ) (upOf σ []) := by
  refine fn_of Tryd.func34 (by kernel_rfl) (by kernel_rfl) (by kernel_rfl) trivial (by kernel_rfl) trivial (by kernel_rfl) ?_
  intro w0 W μ0 hμ
  unfold parrelref06_Of at h
  exact run_to mixed hμ (L := [0]) (n := 21) (s := [.reg [], .reg [], .reg []])
    (a_ (a_ (a_ tr tr) (a_ (a_ tr tr) tr)) (a_ (a_ (a_ tr tr) tr) (a_ (a_ (a_ tr tr) tr) tr))) (parrelref06_Of_l0_ok hμ c set  big _ _ r h) (by kernel_rfl) ⟨rfl, trivial⟩

theorem parrelref06_Of_tri (c : T_api_Config) (set : Int) (r : (Int)) (h : parrelref06_Of c set = some r) : FnTri Tryd.prog 34 [v_T_api_Config c, .int .u64 set] [] (parrelref06_Of_v r) [] := FnTri.none (parrelref06_Of_ok c set r h) rfl rfl

/-- parrel/parrelref20.Plan -/

def parrelref20_Plan_v (r : (List (T_parrelref18_Member)) × (List (Int)) × (Int)) : LV := .tup [.ds 5 (r.1).length (rowF c_T_parrelref18_Member default r.1), .ds 1 (r.2.1).length (rowF (cInt .u64) default r.2.1), .int .i64 r.2.2]

def parrelref20_Plan_T1 (locks : List (T_parrelref20_Lock)) (writes : List (T_api_Write)) (i : Int) (l : List (T_parrelref18_Member)) (y10 : (List (Int))) (yL0_4 : (T_api_Reg) × (Bool)) (x_k : Int) (l2 : List (T_api_Write)) : List LV := [.ds 10 (locks).length (rowF c_T_parrelref20_Lock default locks), .ds 21 (writes).length (rowF c_T_api_Write default writes), .any, .any, .any, .any, .any, .ds 1 (y10).length (rowF (cInt .i64) default y10), .gs 0 (l).length, .int .i64 i, .any, .any, .ptr 1 0 0, .int .i64 x_k, .any, .any, .any, .any, .any, .any, .any, .any, .any, .any, .any, .any, .any, .any, .any, .any, .any, .any, .any, .any, .any, .any, .any, .any, .any, .any, .any, .any, .any, .any, .any, .any, .any, .any, .any, .any, .any, .any, .any, .any, .any, .any, .any, .any, .any, .any, .any, .any, .any, .any, .any, .any, .any, .any, .any, .any, .any, .any, .any, .any, .any, .any, .any, .any, .any, .any, .any, .any, .any, .any, .any, .any, .any, .any, .any, .any, .any, .any, .any, .any, .any, .any, .any, .any, .any, .any, .any, .any, .any, .any, .any, .any, .any, .any, .any, .any, .any, .any, .any, .any, .any, .any, .any, .any, .any, .any, .any, .any, .any, .any, .any, .any, .any, .any, .any, .any, .any, .any, .any, .any, .any, .any, .any, .any, .any, .any, .any, .any, .any, .any, .any, .any, .any, .any, .any, .any, .any]

def parrelref20_Plan_H1 (locks : List (T_parrelref20_Lock)) (writes : List (T_api_Write)) (i : Int) (l : List (T_parrelref18_Member)) (y10 : (List (Int))) (yL0_4 : (T_api_Reg) × (Bool)) (x_k : Int) (l2 : List (T_api_Write)) : Heap := [some (.gr 5 (l).length (rowF c_T_parrelref18_Member default l)), some (.var [.int .u8 (IntKind.wrap .u8 (y10.getD i.toNat default)), .int .u32 yL0_4.1.f_Boot, .int .u32 yL0_4.1.f_N, .gs 2 (l2).length, .int .u8 0]), some (.gr 21 (l2).length (rowF c_T_api_Write default l2))]

def parrelref20_Plan_T4 (locks : List (T_parrelref20_Lock)) (writes : List (T_api_Write)) (l : List (T_parrelref18_Member)) (x_k3 : Int) (l3 : List (Int)) (yL3_4 : (Int)) (left : Int) (x_n : Int) : List LV := [.ds 10 (locks).length (rowF c_T_parrelref20_Lock default locks), .ds 21 (writes).length (rowF c_T_api_Write default writes), .any, .any, .any, .any, .any, .any, .gs 0 (l).length, .any, .any, .any, .any, .any, .any, .gs 1 (l3).length, .int .i64 x_k3, .int .u64 yL3_4, .ptr 2 0 0, .int .u64 left, .int .i64 x_n, .any, .any, .any, .any, .any, .any, .any, .any, .any, .any, .any, .any, .any, .any, .any, .any, .any, .any, .any, .any, .any, .any, .any, .any, .any, .any, .any, .any, .any, .any, .any, .any, .any, .any, .any, .any, .any, .any, .any, .any, .any, .any, .any, .any, .any, .any, .any, .any, .any, .any, .any, .any, .any, .any, .any, .any, .any, .any, .any, .any, .any, .any, .any, .any, .any, .any, .any, .any, .any, .any, .any, .any, .any, .any, .any, .any, .any, .any, .any, .any, .any, .any, .any, .any, .any, .any, .any, .any, .any, .any, .any, .any, .any, .any, .any, .any, .any, .any, .any, .any, .any, .any, .any, .any, .any, .any, .any, .any, .any, .any, .any, .any, .any, .any, .any, .any, .any, .any, .any, .any, .any, .any, .any, .any, .any, .any, .any, .any, .any, .any]

def parrelref20_Plan_H4 (locks : List (T_parrelref20_Lock)) (writes : List (T_api_Write)) (l : List (T_parrelref18_Member)) (x_k3 : Int) (l3 : List (Int)) (yL3_4 : (Int)) (left : Int) (x_n : Int) : Heap := [some (.gr 5 (l).length (rowF c_T_parrelref18_Member default l)), some (.gr 1 (l3).length (rowF (cInt .u64) default l3)), some (.var (c_T_api_Config (writes.getD x_k3.toNat default).f_Item.f_Conf))]

def parrelref20_Plan_T3 (locks : List (T_parrelref20_Lock)) (writes : List (T_api_Write)) (l : List (T_parrelref18_Member)) (x_k3 : Int) (l3 : List (Int)) : List LV := [.ds 10 (locks).length (rowF c_T_parrelref20_Lock default locks), .ds 21 (writes).length (rowF c_T_api_Write default writes), .any, .any, .any, .any, .any, .any, .gs 0 (l).length, .any, .any, .any, .any, .any, .any, .gs 1 (l3).length, .int .i64 x_k3, .any, .any, .any, .any, .any, .any, .any, .any, .any, .any, .any, .any, .any, .any, .any, .any, .any, .any, .any, .any, .any, .any, .any, .any, .any, .any, .any, .any, .any, .any, .any, .any, .any, .any, .any, .any, .any, .any, .any, .any, .any, .any, .any, .any, .any, .any, .any, .any, .any, .any, .any, .any, .any, .any, .any, .any, .any, .any, .any, .any, .any, .any, .any, .any, .any, .any, .any, .any, .any, .any, .any, .any, .any, .any, .any, .any, .any, .any, .any, .any, .any, .any, .any, .any, .any, .any, .any, .any, .any, .any, .any, .any, .any, .any, .any, .any, .any, .any, .any, .any, .any, .any, .any, .any, .any, .any, .any, .any, .any, .any, .any, .any, .any, .any, .any, .any, .any, .any, .any, .any, .any, .any, .any, .any, .any, .any, .any, .any, .any, .any, .any, .any, .any, .any]

def parrelref20_Plan_H3 (locks : List (T_parrelref20_Lock)) (writes : List (T_api_Write)) (l : List (T_parrelref18_Member)) (x_k3 : Int) (l3 : List (Int)) : Heap := [some (.gr 5 (l).length (rowF c_T_parrelref18_Member default l)), some (.gr 1 (l3).length (rowF (cInt .u64) default l3))]

def parrelref20_Plan_T2 (locks : List (T_parrelref20_Lock)) (writes : List (T_api_Write)) (l : List (T_parrelref18_Member)) (x_k2 : Int) : List LV := [.ds 10 (locks).length (rowF c_T_parrelref20_Lock default locks), .ds 21 (writes).length (rowF c_T_api_Write default writes), .any, .any, .any, .any, .any, .any, .gs 0 (l).length, .any, .any, .any, .any, .any, .int .i64 x_k2, .any, .any, .any, .any, .any, .any, .any, .any, .any, .any, .any, .any, .any, .any, .any, .any, .any, .any, .any, .any, .any, .any, .any, .any, .any, .any, .any, .any, .any, .any, .any, .any, .any, .any, .any, .any, .any, .any, .any, .any, .any, .any, .any, .any, .any, .any, .any, .any, .any, .any, .any, .any, .any, .any, .any, .any, .any, .any, .any, .any, .any, .any, .any, .any, .any, .any, .any, .any, .any, .any, .any, .any, .any, .any, .any, .any, .any, .any, .any, .any, .any, .any, .any, .any, .any, .any, .any, .any, .any, .any, .any, .any, .any, .any, .any, .any, .any, .any, .any, .any, .any, .any, .any, .any, .any, .any, .any, .any, .any, .any, .any, .any, .any, .any, .any, .any, .any, .any, .any, .any, .any, .any, .any, .any, .any, .any, .any, .any, .any, .any, .any, .any, .any, .any, .any, .any]

def parrelref20_Plan_H2 (locks : List (T_parrelref20_Lock)) (writes : List (T_api_Write)) (l : List (T_parrelref18_Member)) (x_k2 : Int) : Heap := [some (.gr 5 (l).length (rowF c_T_parrelref18_Member default l))]

def parrelref20_Plan_T0 (locks : List (T_parrelref20_Lock)) (writes : List (T_api_Write)) (y10 : (List (Int))) (i : Int) (l : List (T_parrelref18_Member)) : List LV := [.ds 10 (locks).length (rowF c_T_parrelref20_Lock default locks), .ds 21 (writes).length (rowF c_T_api_Write default writes), .any, .any, .any, .any, .any, .ds 1 (y10).length (rowF (cInt .i64) default y10), .gs 0 (l).length, .int .i64 i, .any, .any, .any, .any, .any, .any, .any, .any, .any, .any, .any, .any, .any, .any, .any, .any, .any, .any, .any, .any, .any, .any, .any, .any, .any, .any, .any, .any, .any, .any, .any, .any, .any, .any, .any, .any, .any, .any, .any, .any, .any, .any, .any, .any, .any, .any, .any, .any, .any, .any, .any, .any, .any, .any, .any, .any, .any, .any, .any, .any, .any, .any, .any, .any, .any, .any, .any, .any, .any, .any, .any, .any, .any, .any, .any, .any, .any, .any, .any, .any, .any, .any, .any, .any, .any, .any, .any, .any, .any, .any, .any, .any, .any, .any, .any, .any, .any, .any, .any, .any, .any, .any, .any, .any, .any, .any, .any, .any, .any, .any, .any, .any, .any, .any, .any, .any, .any, .any, .any, .any, .any, .any, .any, .any, .any, .any, .any, .any, .any, .any, .any, .any, .any, .any, .any, .any, .any, .any, .any, .any, .any]

def parrelref20_Plan_H0 (locks : List (T_parrelref20_Lock)) (writes : List (T_api_Write)) (y10 : (List (Int))) (i : Int) (l : List (T_parrelref18_Member)) : Heap := [some (.gr 5 (l).length (rowF c_T_parrelref18_Member default l))]

def parrelref20_Plan_l1 (locks : List (T_parrelref20_Lock)) (writes : List (T_api_Write)) (i : Int) (l : List (T_parrelref18_Member)) (y10 : (List (Int))) (yL0_4 : (T_api_Reg) × (Bool)) (k0 : (Int) → (List (T_parrelref18_Member)) → Option ((List (T_parrelref18_Member)) × (List (Int)) × (Int))) : Nat → (Int) → (List (T_api_Write)) → Option ((List (T_parrelref18_Member)) × (List (Int)) × (Int))
  | 0, _, _ => none
  | fuel + 1, x_k, l2 =>
    if ((decide (x_k < ((writes).length : Int))) : Bool) then
      if 0 ≤ x_k ∧ x_k < (((writes).length : Nat) : Int) then
      (parrelref20_of locks (writes.getD x_k.toNat default).f_Key).bind fun yL1_4 =>
      if 0 ≤ i ∧ i < (((y10).length : Nat) : Int) then
      (parrelref01_Has yL1_4 (y10.getD i.toNat default)).bind fun yL1_7 =>
      if (yL1_7 : Bool) then
        if ((l2).length + (([(writes.getD x_k.toNat default)] : List (T_api_Write))).length) * 48 ≤ 140737488351232 then
        parrelref20_Plan_l1 locks writes i l y10 yL0_4 k0 fuel (IntKind.wrap .i64 (x_k + 1)) (l2 ++ ([(writes.getD x_k.toNat default)] : List (T_api_Write)))
        else none
      else
        parrelref20_Plan_l1 locks writes i l y10 yL0_4 k0 fuel (IntKind.wrap .i64 (x_k + 1)) l2
      else none
      else none
    else
      if ((l).length + (([(T_parrelref18_Member.mk (IntKind.wrap .u8 (y10.getD i.toNat default)) yL0_4.1 l2 0)] : List (T_parrelref18_Member))).length) * 48 ≤ 140737488351232 then
      k0 (IntKind.wrap .i64 (i + 1)) (l ++ ([(T_parrelref18_Member.mk (IntKind.wrap .u8 (y10.getD i.toNat default)) yL0_4.1 l2 0)] : List (T_parrelref18_Member)))
      else none

def parrelref20_Plan_l4 (locks : List (T_parrelref20_Lock)) (writes : List (T_api_Write)) (l : List (T_parrelref18_Member)) (x_k3 : Int) (l3 : List (Int)) (yL3_4 : (Int)) (k3 : (Int) → (List (Int)) → Option ((List (T_parrelref18_Member)) × (List (Int)) × (Int))) : Nat → (Int) → (Int) → Option ((List (T_parrelref18_Member)) × (List (Int)) × (Int))
  | 0, _, _ => none
  | fuel + 1, left, x_n =>
    if ((decide (x_n < 8)) : Bool) then
      if 0 ≤ x_n ∧ x_n < 8 then
      if ((decide (0 < (A8.get (writes.getD x_k3.toNat default).f_Item.f_Conf.f_Votes x_n.toNat))) : Bool) then
        (parrelref01_Has yL3_4 x_n).bind fun yL4_5 =>
        if ((!yL4_5) : Bool) then
          (parrelref01_With left x_n).bind fun yL4_8 =>
          parrelref20_Plan_l4 locks writes l x_k3 l3 yL3_4 k3 fuel yL4_8 (IntKind.wrap .i64 (x_n + 1))
        else
          parrelref20_Plan_l4 locks writes l x_k3 l3 yL3_4 k3 fuel left (IntKind.wrap .i64 (x_n + 1))
      else
        parrelref20_Plan_l4 locks writes l x_k3 l3 yL3_4 k3 fuel left (IntKind.wrap .i64 (x_n + 1))
      else none
    else
      if ((l3).length + (([left] : List (Int))).length) * 8 ≤ 140737488351232 then
      k3 (IntKind.wrap .i64 (x_k3 + 1)) (l3 ++ ([left] : List (Int)))
      else none

def parrelref20_Plan_l3 (locks : List (T_parrelref20_Lock)) (writes : List (T_api_Write)) (l : List (T_parrelref18_Member))  : Nat → (Int) → (List (Int)) → Option ((List (T_parrelref18_Member)) × (List (Int)) × (Int))
  | 0, _, _ => none
  | fuel + 1, x_k3, l3 =>
    if ((decide (x_k3 < ((writes).length : Int))) : Bool) then
      if 0 ≤ x_k3 ∧ x_k3 < (((writes).length : Nat) : Int) then
      (parrelref20_of locks (writes.getD x_k3.toNat default).f_Key).bind fun yL3_4 =>
      (parrelref06_Of (writes.getD x_k3.toNat default).f_Item.f_Conf yL3_4).bind fun yL3_6 =>
      if ((decide (yL3_6 < (IntKind.wrap .i64 (writes.getD x_k3.toNat default).f_Item.f_Conf.f_W))) : Bool) then
        some (([] : List (T_parrelref18_Member)), ([] : List (Int)), 16)
      else
        parrelref20_Plan_l4 locks writes l x_k3 l3 yL3_4 (parrelref20_Plan_l3 locks writes l  fuel) big 0 0
      else none
    else
      some (l, l3, 0)

def parrelref20_Plan_l2 (locks : List (T_parrelref20_Lock)) (writes : List (T_api_Write)) (l : List (T_parrelref18_Member))  : Nat → (Int) → Option ((List (T_parrelref18_Member)) × (List (Int)) × (Int))
  | 0, _ => none
  | fuel + 1, x_k2 =>
    if ((decide (x_k2 < ((writes).length : Int))) : Bool) then
      if 0 ≤ x_k2 ∧ x_k2 < (((writes).length : Nat) : Int) then
      (parrelref20_of locks (writes.getD x_k2.toNat default).f_Key).bind fun yL2_4 =>
      if ((yL2_4 == 0) : Bool) then
        some (([] : List (T_parrelref18_Member)), ([] : List (Int)), 6)
      else
        parrelref20_Plan_l2 locks writes l  fuel (IntKind.wrap .i64 (x_k2 + 1))
      else none
    else
      parrelref20_Plan_l3 locks writes l  big 0 ([] : List (Int))

def parrelref20_Plan_l0 (locks : List (T_parrelref20_Lock)) (writes : List (T_api_Write)) (y10 : (List (Int)))  : Nat → (Int) → (List (T_parrelref18_Member)) → Option ((List (T_parrelref18_Member)) × (List (Int)) × (Int))
  | 0, _, _ => none
  | fuel + 1, i, l =>
    if ((decide (i < ((y10).length : Int))) : Bool) then
      if 0 ≤ i ∧ i < (((y10).length : Nat) : Int) then
      (parrelref20_reg locks (y10.getD i.toNat default)).bind fun yL0_4 =>
      if ((!yL0_4.2) : Bool) then
        some (([] : List (T_parrelref18_Member)), ([] : List (Int)), 14)
      else
        parrelref20_Plan_l1 locks writes i l y10 yL0_4 (parrelref20_Plan_l0 locks writes y10  fuel) big 0 ([] : List (T_api_Write))
      else none
    else
      parrelref20_Plan_l2 locks writes l  big 0

def parrelref20_Plan (locks : List (T_parrelref20_Lock)) (writes : List (T_api_Write)) : Option ((List (T_parrelref18_Member)) × (List (Int)) × (Int)) :=
  (parrelref20_may locks).bind fun y2 =>
  if ((!y2) : Bool) then
    some (([] : List (T_parrelref18_Member)), ([] : List (Int)), 1)
  else
    (parrelref10_WritesMay writes).bind fun y5 =>
    if ((!y5) : Bool) then
      some (([] : List (T_parrelref18_Member)), ([] : List (Int)), 1)
    else
      (parrelref20_Nodes locks).bind fun y8 =>
      (parrelref01_List y8).bind fun y10 =>
      parrelref20_Plan_l0 locks writes y10  big 0 ([] : List (T_parrelref18_Member))

theorem parrelref20_Plan_l1_ok {w0 : World} {W : Nat → Prop} {μ0 : Emb} (hμ : ∀ c p, μ0 c = some p → c < 0) (locks : List (T_parrelref20_Lock)) (writes : List (T_api_Write)) (i : Int) (l : List (T_parrelref18_Member)) (y10 : (List (Int))) (yL0_4 : (T_api_Reg) × (Bool)) (k0 : (Int) → (List (T_parrelref18_Member)) → Option ((List (T_parrelref18_Member)) × (List (Int)) × (Int))) (hk0 : ∀ (i : Int) (l : List (T_parrelref18_Member)) (r : (List (T_parrelref18_Member)) × (List (Int)) × (Int)), k0 i l = some r → kont Tryd.prog w0 W μ0 (FnPost Tryd.prog Tryd.f11 0 0 (parrelref20_Plan_v r) []) (kAt (bodyOf Tryd.f11) 0) none (parrelref20_Plan_T0 locks writes y10 i l) (parrelref20_Plan_H0 locks writes y10 i l)) : ∀ (fuel : Nat) (x_k : Int) (l2 : List (T_api_Write)) (r : (List (T_parrelref18_Member)) × (List (Int)) × (Int)), parrelref20_Plan_l1 locks writes i l y10 yL0_4 k0 fuel x_k l2 = some r → kont Tryd.prog w0 W μ0 (FnPost Tryd.prog Tryd.f11 0 0 (parrelref20_Plan_v r) []) (kAt (bodyOf Tryd.f11) 1) none (parrelref20_Plan_T1 locks writes i l y10 yL0_4 x_k l2) (parrelref20_Plan_H1 locks writes i l y10 yL0_4 x_k l2) := by
  intro fuel
  induction fuel with
  | zero => intro x_k l2 r h; rw [parrelref20_Plan_l1] at h; cases h
  | succ fuel ih =>
    intro x_k l2 r h
    rw [parrelref20_Plan_l1] at h
    rcases itb_some h with ⟨cL1_1, h⟩ | ⟨cL1_1, h⟩
    · skip
      obtain ⟨gL1_2, h⟩ := guard_some h
      obtain ⟨yL1_4, eL1_3, h⟩ := bind_some h
      obtain ⟨gL1_5, h⟩ := guard_some h
      obtain ⟨yL1_7, eL1_6, h⟩ := bind_some h
      rcases itb_some h with ⟨cL1_8, h⟩ | ⟨cL1_8, h⟩
      · skip
        obtain ⟨gL1_9, h⟩ := guard_some h
        exact run_to mixed hμ (L := [0, 1, 4]) (n := 27) (s := [.go, .reg [(3, { v := some (.bool true) })], .reg [(6, { call := some (parrelref20_of_v yL1_4, [], []) }), (11, { call := some (parrelref01_Has_v yL1_7, [], []), v := some (.bool true) })], .reg [(6, { os := [(3, .gr 21 (([(writes.getD x_k.toNat default)] : List (T_api_Write))).length (rowF c_T_api_Write default ([(writes.getD x_k.toNat default)] : List (T_api_Write))))], v := some (.gs 3 (([(writes.getD x_k.toNat default)] : List (T_api_Write))).length) }), (7, { app := 3, os := [(4, .gr 21 ((l2 ++ ([(writes.getD x_k.toNat default)] : List (T_api_Write)))).length (rowF c_T_api_Write default (l2 ++ ([(writes.getD x_k.toNat default)] : List (T_api_Write)))))], v := some (.gs 4 ((l2 ++ ([(writes.getD x_k.toNat default)] : List (T_api_Write)))).length) })], .reg []])
          (a_ (a_ (a_ tr tr) (a_ (a_ tr tr) (a_ (a_ tr tr) (a_ (a_ tr (a_ (leB cL1_1) tr)) tr)))) (a_ (a_ (a_ tr tr) (a_ (a_ tr tr) (a_ (a_ tr tr) (a_ (a_ (a_ (Eq.refl 21) gL1_2) tr) (a_ (a_ tr tr) (a_ (a_ (le_ 8 21 rfl) tr) (a_ (a_ (a_ (parrelref20_of_tri locks (writes.getD x_k.toNat default).f_Key yL1_4 eL1_3) tr) tr) (a_ (a_ tr tr) (a_ (a_ tr tr) (a_ (a_ (a_ (Eq.refl 1) gL1_5) tr) (a_ (a_ (lt_ 0 1 rfl) tr) (a_ (a_ (a_ (parrelref01_Has_tri yL1_4 (y10.getD i.toNat default) yL1_7 eL1_6) tr) (a_ (leB cL1_8) tr)) tr)))))))))))) (a_ (a_ (a_ tr tr) (a_ (a_ (a_ tr (lt_ 3 5 rfl)) tr) (a_ (a_ tr tr) (a_ (a_ tr tr) (a_ (a_ (a_ (Eq.refl 21) gL1_2) tr) (a_ (a_ (le_ 21 21 rfl) tr) (a_ (a_ (a_ (Eq.refl true) (a_ (Eq.refl 21) (a_ (lt_ 0 21 rfl) (le_ 21 16777216 rfl)))) (a_ (le_sl_gs 3 1 (some 1) rfl) (a_ (sub_lit c_T_api_Write default 21 (fun _ => rfl) ([(writes.getD x_k.toNat default)] : List (T_api_Write))) tr))) (a_ (a_ (a_ (a_ (Eq.refl 21) (Nat.le_refl (([(writes.getD x_k.toNat default)] : List (T_api_Write))).length)) (a_ (a_ (lt_ 0 21 rfl) (a_ (lt_ 0 48 rfl) (a_ gL1_9 (a_ (Eq.refl 21) (Eq.refl true))))) (a_ (Eq.refl 21) (Nat.le_refl (l2).length)))) (a_ (le_gs_app 4 l2 ([(writes.getD x_k.toNat default)] : List (T_api_Write))) (a_ (sub_app c_T_api_Write default 21 l2 ([(writes.getD x_k.toNat default)] : List (T_api_Write))) tr))) (a_ (a_ tr tr) (a_ (a_ (a_ (Eq.refl 1) (a_ (le_ 4 5 rfl) (Eq.refl 0))) tr) tr)))))))))) (a_ (a_ (a_ tr tr) (a_ (a_ tr tr) (a_ (a_ tr tr) tr))) tr)))) (ih _ _ r h) (by kernel_rfl) ⟨fun _ _ => rfl, rfl, fun _ _ => rfl, trivial⟩
      · skip
        exact run_to mixed hμ (L := [0, 1, 2]) (n := 26) (s := [.go, .reg [(3, { v := some (.bool true) })], .reg [(6, { call := some (parrelref20_of_v yL1_4, [], []) }), (11, { call := some (parrelref01_Has_v yL1_7, [], []), v := some (.bool false) })], .reg []])
          (a_ (a_ (a_ tr tr) (a_ (a_ tr tr) (a_ (a_ tr tr) (a_ (a_ tr (a_ (leB cL1_1) tr)) tr)))) (a_ (a_ (a_ tr tr) (a_ (a_ tr tr) (a_ (a_ tr tr) (a_ (a_ (a_ (Eq.refl 21) gL1_2) tr) (a_ (a_ tr tr) (a_ (a_ (le_ 8 21 rfl) tr) (a_ (a_ (a_ (parrelref20_of_tri locks (writes.getD x_k.toNat default).f_Key yL1_4 eL1_3) tr) tr) (a_ (a_ tr tr) (a_ (a_ tr tr) (a_ (a_ (a_ (Eq.refl 1) gL1_5) tr) (a_ (a_ (lt_ 0 1 rfl) tr) (a_ (a_ (a_ (parrelref01_Has_tri yL1_4 (y10.getD i.toNat default) yL1_7 eL1_6) tr) (a_ (leB cL1_8) tr)) tr)))))))))))) (a_ (a_ (a_ tr tr) (a_ (a_ tr tr) (a_ (a_ tr tr) tr))) tr))) (ih _ _ r h) (by kernel_rfl) ⟨fun _ _ => rfl, rfl, fun _ _ => rfl, trivial⟩
    · skip
      obtain ⟨gL1_2, h⟩ := guard_some h
      exact run_to mixed hμ (L := [4]) (n := 22) (s := [.go, .reg [(3, { v := some (.bool false) })], .frz 2, .reg [(2, { os := [(3, .gr 5 (([(T_parrelref18_Member.mk (IntKind.wrap .u8 (y10.getD i.toNat default)) yL0_4.1 l2 0)] : List (T_parrelref18_Member))).length (rowF c_T_parrelref18_Member default ([(T_parrelref18_Member.mk (IntKind.wrap .u8 (y10.getD i.toNat default)) yL0_4.1 l2 0)] : List (T_parrelref18_Member))))], v := some (.gs 3 (([(T_parrelref18_Member.mk (IntKind.wrap .u8 (y10.getD i.toNat default)) yL0_4.1 l2 0)] : List (T_parrelref18_Member))).length) }), (3, { app := 3, os := [(4, .gr 5 ((l ++ ([(T_parrelref18_Member.mk (IntKind.wrap .u8 (y10.getD i.toNat default)) yL0_4.1 l2 0)] : List (T_parrelref18_Member)))).length (rowF c_T_parrelref18_Member default (l ++ ([(T_parrelref18_Member.mk (IntKind.wrap .u8 (y10.getD i.toNat default)) yL0_4.1 l2 0)] : List (T_parrelref18_Member)))))], v := some (.gs 4 ((l ++ ([(T_parrelref18_Member.mk (IntKind.wrap .u8 (y10.getD i.toNat default)) yL0_4.1 l2 0)] : List (T_parrelref18_Member)))).length) })], .reg []])
        (a_ (a_ (a_ tr tr) (a_ (a_ tr tr) (a_ (a_ tr tr) (a_ (a_ tr (a_ (leB cL1_1) tr)) tr)))) (a_ (a_ (fz_row (enc := c_T_api_Write) (d := default) (fun _ => rfl) l2) (a_ (Nat.le_refl (l2).length) tr)) (a_ (a_ (a_ tr tr) (a_ (a_ (a_ tr (le_ 5 5 rfl)) tr) (a_ (a_ (a_ (Eq.refl true) (a_ (Eq.refl 5) (a_ (lt_ 0 5 rfl) (le_ 5 16777216 rfl)))) (a_ (le_sl_gs 3 1 (some 1) rfl) (a_ (sub_lit c_T_parrelref18_Member default 5 (fun _ => rfl) ([(T_parrelref18_Member.mk (IntKind.wrap .u8 (y10.getD i.toNat default)) yL0_4.1 l2 0)] : List (T_parrelref18_Member))) tr))) (a_ (a_ (a_ (a_ (Eq.refl 5) (Nat.le_refl (([(T_parrelref18_Member.mk (IntKind.wrap .u8 (y10.getD i.toNat default)) yL0_4.1 l2 0)] : List (T_parrelref18_Member))).length)) (a_ (a_ (lt_ 0 5 rfl) (a_ (lt_ 0 48 rfl) (a_ gL1_2 (a_ (Eq.refl 5) (Eq.refl true))))) (a_ (Eq.refl 5) (Nat.le_refl (l).length)))) (a_ (le_gs_app 4 l ([(T_parrelref18_Member.mk (IntKind.wrap .u8 (y10.getD i.toNat default)) yL0_4.1 l2 0)] : List (T_parrelref18_Member))) (a_ (sub_app c_T_parrelref18_Member default 5 l ([(T_parrelref18_Member.mk (IntKind.wrap .u8 (y10.getD i.toNat default)) yL0_4.1 l2 0)] : List (T_parrelref18_Member))) tr))) (a_ (a_ tr tr) tr))))) (a_ (a_ (a_ tr tr) (a_ (a_ tr tr) (a_ (a_ tr tr) tr))) tr)))) (hk0 _ _ r h) (by kernel_rfl) ⟨fun _ _ => rfl, trivial⟩

theorem parrelref20_Plan_l4_ok {w0 : World} {W : Nat → Prop} {μ0 : Emb} (hμ : ∀ c p, μ0 c = some p → c < 0) (locks : List (T_parrelref20_Lock)) (writes : List (T_api_Write)) (l : List (T_parrelref18_Member)) (x_k3 : Int) (l3 : List (Int)) (yL3_4 : (Int)) (k3 : (Int) → (List (Int)) → Option ((List (T_parrelref18_Member)) × (List (Int)) × (Int))) (hk3 : ∀ (x_k3 : Int) (l3 : List (Int)) (r : (List (T_parrelref18_Member)) × (List (Int)) × (Int)), k3 x_k3 l3 = some r → kont Tryd.prog w0 W μ0 (FnPost Tryd.prog Tryd.f11 0 0 (parrelref20_Plan_v r) []) (kAt (bodyOf Tryd.f11) 3) none (parrelref20_Plan_T3 locks writes l x_k3 l3) (parrelref20_Plan_H3 locks writes l x_k3 l3)) : ∀ (fuel : Nat) (left : Int) (x_n : Int) (r : (List (T_parrelref18_Member)) × (List (Int)) × (Int)), parrelref20_Plan_l4 locks writes l x_k3 l3 yL3_4 k3 fuel left x_n = some r → kont Tryd.prog w0 W μ0 (FnPost Tryd.prog Tryd.f11 0 0 (parrelref20_Plan_v r) []) (kAt (bodyOf Tryd.f11) 4) none (parrelref20_Plan_T4 locks writes l x_k3 l3 yL3_4 left x_n) (parrelref20_Plan_H4 locks writes l x_k3 l3 yL3_4 left x_n) := by
  intro fuel
  induction fuel with
  | zero => intro left x_n r h; rw [parrelref20_Plan_l4] at h; cases h
  | succ fuel ih =>
    intro left x_n r h
    rw [parrelref20_Plan_l4] at h
    rcases itb_some h with ⟨cL4_1, h⟩ | ⟨cL4_1, h⟩
    · skip
      obtain ⟨gL4_2, h⟩ := guard_some h
      rcases itb_some h with ⟨cL4_3, h⟩ | ⟨cL4_3, h⟩
      · skip
        obtain ⟨yL4_5, eL4_4, h⟩ := bind_some h
        rcases itb_some h with ⟨cL4_6, h⟩ | ⟨cL4_6, h⟩
        · skip
          obtain ⟨yL4_8, eL4_7, h⟩ := bind_some h
          exact run_to mixed hμ (L := [0, 1, 2]) (n := 27) (s := [.go, .reg [(1, { v := some (.bool true) })], .reg [(3, { v := some (.int .u8 (A8.get (writes.getD x_k3.toNat default).f_Item.f_Conf.f_Votes x_n.toNat)) }), (5, { v := some (.bool true) }), (8, { call := some (parrelref01_Has_v yL4_5, [], []) }), (10, { v := some (.bool true) })], .reg [(2, { call := some (parrelref01_With_v yL4_8, [], []) })], .reg []])
            (a_ (a_ (a_ tr tr) (a_ (a_ tr (a_ (leB cL4_1) tr)) tr)) (a_ (a_ (a_ tr tr) (a_ (a_ tr tr) (a_ (a_ gL4_2 tr) (a_ (a_ (a_ tr (arrLt (len := 8) gL4_2 3 1 11 rfl rfl)) (a_ (ld8s (cInt .u8) 1 (fun _ => rfl) (writes.getD x_k3.toNat default).f_Item.f_Conf.f_Votes [.int .u32 (writes.getD x_k3.toNat default).f_Item.f_Conf.f_Epoch, .int .u8 (writes.getD x_k3.toNat default).f_Item.f_Conf.f_R, .int .u8 (writes.getD x_k3.toNat default).f_Item.f_Conf.f_W] [] 3 rfl x_n.toNat (lt8N gL4_2) (le_ (0 + 1) 1 rfl)) tr)) (a_ (a_ tr tr) (a_ (a_ tr (a_ (leB cL4_3) tr)) (a_ (a_ tr tr) (a_ (a_ tr tr) (a_ (a_ (a_ (parrelref01_Has_tri yL3_4 x_n yL4_5 eL4_4) tr) tr) (a_ (a_ tr tr) (a_ (a_ tr (a_ (leB cL4_6) tr)) tr))))))))))) (a_ (a_ (a_ tr tr) (a_ (a_ tr tr) (a_ (a_ (a_ (parrelref01_With_tri left x_n yL4_8 eL4_7) tr) tr) (a_ (a_ tr tr) tr)))) (a_ (a_ (a_ tr tr) (a_ (a_ tr tr) (a_ (a_ tr tr) tr))) tr)))) (ih _ _ r h) (by kernel_rfl) ⟨fun _ _ => rfl, fun _ _ => rfl, rfl, trivial⟩
        · skip
          exact run_to mixed hμ (L := [0, 1, 2]) (n := 26) (s := [.go, .reg [(1, { v := some (.bool true) })], .reg [(3, { v := some (.int .u8 (A8.get (writes.getD x_k3.toNat default).f_Item.f_Conf.f_Votes x_n.toNat)) }), (5, { v := some (.bool true) }), (8, { call := some (parrelref01_Has_v yL4_5, [], []) }), (10, { v := some (.bool false) })], .reg []])
            (a_ (a_ (a_ tr tr) (a_ (a_ tr (a_ (leB cL4_1) tr)) tr)) (a_ (a_ (a_ tr tr) (a_ (a_ tr tr) (a_ (a_ gL4_2 tr) (a_ (a_ (a_ tr (arrLt (len := 8) gL4_2 3 1 11 rfl rfl)) (a_ (ld8s (cInt .u8) 1 (fun _ => rfl) (writes.getD x_k3.toNat default).f_Item.f_Conf.f_Votes [.int .u32 (writes.getD x_k3.toNat default).f_Item.f_Conf.f_Epoch, .int .u8 (writes.getD x_k3.toNat default).f_Item.f_Conf.f_R, .int .u8 (writes.getD x_k3.toNat default).f_Item.f_Conf.f_W] [] 3 rfl x_n.toNat (lt8N gL4_2) (le_ (0 + 1) 1 rfl)) tr)) (a_ (a_ tr tr) (a_ (a_ tr (a_ (leB cL4_3) tr)) (a_ (a_ tr tr) (a_ (a_ tr tr) (a_ (a_ (a_ (parrelref01_Has_tri yL3_4 x_n yL4_5 eL4_4) tr) tr) (a_ (a_ tr tr) (a_ (a_ tr (a_ (leB cL4_6) tr)) tr))))))))))) (a_ (a_ (a_ tr tr) (a_ (a_ tr tr) (a_ (a_ tr tr) tr))) tr))) (ih _ _ r h) (by kernel_rfl) ⟨fun _ _ => rfl, fun _ _ => rfl, rfl, trivial⟩
      · skip
        exact run_to mixed hμ (L := [0, 1, 2]) (n := 26) (s := [.go, .reg [(1, { v := some (.bool true) })], .reg [(3, { v := some (.int .u8 (A8.get (writes.getD x_k3.toNat default).f_Item.f_Conf.f_Votes x_n.toNat)) }), (5, { v := some (.bool false) })], .reg []])
          (a_ (a_ (a_ tr tr) (a_ (a_ tr (a_ (leB cL4_1) tr)) tr)) (a_ (a_ (a_ tr tr) (a_ (a_ tr tr) (a_ (a_ gL4_2 tr) (a_ (a_ (a_ tr (arrLt (len := 8) gL4_2 3 1 11 rfl rfl)) (a_ (ld8s (cInt .u8) 1 (fun _ => rfl) (writes.getD x_k3.toNat default).f_Item.f_Conf.f_Votes [.int .u32 (writes.getD x_k3.toNat default).f_Item.f_Conf.f_Epoch, .int .u8 (writes.getD x_k3.toNat default).f_Item.f_Conf.f_R, .int .u8 (writes.getD x_k3.toNat default).f_Item.f_Conf.f_W] [] 3 rfl x_n.toNat (lt8N gL4_2) (le_ (0 + 1) 1 rfl)) tr)) (a_ (a_ tr tr) (a_ (a_ tr (a_ (leB cL4_3) tr)) (a_ tr (a_ tr (a_ tr (a_ tr (a_ (a_ tr tr) tr))))))))))) (a_ (a_ (a_ tr tr) (a_ (a_ tr tr) (a_ (a_ tr tr) tr))) tr))) (ih _ _ r h) (by kernel_rfl) ⟨fun _ _ => rfl, fun _ _ => rfl, rfl, trivial⟩
    · skip
      obtain ⟨gL4_2, h⟩ := guard_some h
      exact run_to mixed hμ (L := [0, 4]) (n := 21) (s := [.go, .reg [(1, { v := some (.bool false) })], .reg [(2, { os := [(3, .gr 1 (([left] : List (Int))).length (rowF (cInt .u64) default ([left] : List (Int))))], v := some (.gs 3 (([left] : List (Int))).length) }), (3, { app := 3, os := [(4, .gr 1 ((l3 ++ ([left] : List (Int)))).length (rowF (cInt .u64) default (l3 ++ ([left] : List (Int)))))], v := some (.gs 4 ((l3 ++ ([left] : List (Int)))).length) })], .reg []])
        (a_ (a_ (a_ tr tr) (a_ (a_ tr (a_ (leB cL4_1) tr)) tr)) (a_ (a_ (a_ tr tr) (a_ (a_ tr tr) (a_ (a_ (a_ (Eq.refl true) (a_ (Eq.refl 1) (a_ (lt_ 0 1 rfl) (le_ 1 16777216 rfl)))) (a_ (le_sl_gs 3 1 (some 1) rfl) (a_ (sub_lit (cInt .u64) default 1 (fun _ => rfl) ([left] : List (Int))) tr))) (a_ (a_ (a_ (a_ (Eq.refl 1) (Nat.le_refl (([left] : List (Int))).length)) (a_ (a_ (lt_ 0 1 rfl) (a_ (lt_ 0 8 rfl) (a_ gL4_2 (a_ (Eq.refl 1) (Eq.refl true))))) (a_ (Eq.refl 1) (Nat.le_refl (l3).length)))) (a_ (le_gs_app 4 l3 ([left] : List (Int))) (a_ (sub_app (cInt .u64) default 1 l3 ([left] : List (Int))) tr))) (a_ (a_ tr tr) tr))))) (a_ (a_ (a_ tr tr) (a_ (a_ tr tr) (a_ (a_ tr tr) tr))) tr))) (hk3 _ _ r h) (by kernel_rfl) ⟨fun _ _ => rfl, fun _ _ => rfl, trivial⟩

theorem parrelref20_Plan_l3_ok {w0 : World} {W : Nat → Prop} {μ0 : Emb} (hμ : ∀ c p, μ0 c = some p → c < 0) (locks : List (T_parrelref20_Lock)) (writes : List (T_api_Write)) (l : List (T_parrelref18_Member))  : ∀ (fuel : Nat) (x_k3 : Int) (l3 : List (Int)) (r : (List (T_parrelref18_Member)) × (List (Int)) × (Int)), parrelref20_Plan_l3 locks writes l  fuel x_k3 l3 = some r → kont Tryd.prog w0 W μ0 (FnPost Tryd.prog Tryd.f11 0 0 (parrelref20_Plan_v r) []) (kAt (bodyOf Tryd.f11) 3) none (parrelref20_Plan_T3 locks writes l x_k3 l3) (parrelref20_Plan_H3 locks writes l x_k3 l3) := by
  intro fuel
  induction fuel with
  | zero => intro x_k3 l3 r h; rw [parrelref20_Plan_l3] at h; cases h
  | succ fuel ih =>
    intro x_k3 l3 r h
    rw [parrelref20_Plan_l3] at h
    rcases itb_some h with ⟨cL3_1, h⟩ | ⟨cL3_1, h⟩
    · skip
      obtain ⟨gL3_2, h⟩ := guard_some h
      obtain ⟨yL3_4, eL3_3, h⟩ := bind_some h
      obtain ⟨yL3_6, eL3_5, h⟩ := bind_some h
      rcases itb_some h with ⟨cL3_7, h⟩ | ⟨cL3_7, h⟩
      · skip
        obtain rfl := Option.some.inj h
        exact run_ret mixed (L := []) (n := 32) (s := [.go, .reg [(3, { v := some (.bool true) })], .reg [(6, { call := some (parrelref20_of_v yL3_4, [], []) })], .reg [], .reg [(2, { call := some (parrelref06_Of_v yL3_6, [], []) }), (6, { v := some (.bool true) })], .reg [(0, { v := some (.ds 5 (([] : List (T_parrelref18_Member))).length (rowF c_T_parrelref18_Member default ([] : List (T_parrelref18_Member)))) }), (1, { v := some (.ds 1 (([] : List (Int))).length (rowF (cInt .u64) default ([] : List (Int)))) })]])
          (a_ (a_ (a_ (a_ tr tr) (a_ (a_ tr tr) (a_ (a_ tr tr) (a_ (a_ tr (a_ (leB cL3_1) tr)) tr)))) (a_ (a_ (a_ tr tr) (a_ (a_ tr tr) (a_ (a_ tr tr) (a_ (a_ (a_ (Eq.refl 21) gL3_2) tr) (a_ (a_ tr tr) (a_ (a_ (le_ 8 21 rfl) tr) (a_ (a_ (a_ (parrelref20_of_tri locks (writes.getD x_k3.toNat default).f_Key yL3_4 eL3_3) tr) tr) (a_ (a_ tr tr) tr)))))))) (a_ (a_ (a_ tr tr) (a_ (a_ tr tr) (a_ (a_ (a_ (Eq.refl 21) gL3_2) tr) (a_ (a_ tr tr) (a_ (a_ tr tr) (a_ (a_ (le_ 11 11 rfl) tr) (a_ (a_ tr tr) (a_ (a_ (a_ (Eq.refl 11) (a_ (le_ 11 11 rfl) (Eq.refl 0))) tr) tr)))))))) (a_ (a_ (a_ (a_ tr (le_ 11 11 rfl)) tr) (a_ (a_ tr tr) (a_ (a_ (a_ (parrelref06_Of_tri (writes.getD x_k3.toNat default).f_Item.f_Conf yL3_4 yL3_6 eL3_5) tr) tr) (a_ (a_ tr tr) (a_ (a_ (a_ tr (lt_ 2 11 rfl)) tr) (a_ (a_ tr tr) (a_ (a_ tr (a_ (leB cL3_7) tr)) tr))))))) (a_ (a_ (a_ tr (a_ (le_nil_ds 5 (rowF c_T_parrelref18_Member default [])) tr)) (a_ (a_ tr (a_ (le_nil_ds 1 (rowF (cInt .u64) default [])) tr)) (a_ (a_ tr tr) tr))) tr))))) tr) (by kernel_rfl) rfl
      · skip
        exact run_to mixed hμ (L := [0, 1, 2]) (n := 39) (s := [.go, .reg [(3, { v := some (.bool true) })], .reg [(6, { call := some (parrelref20_of_v yL3_4, [], []) })], .reg [], .reg [(2, { call := some (parrelref06_Of_v yL3_6, [], []) }), (6, { v := some (.bool false) })], .reg [], .reg []])
          (a_ (a_ (a_ tr tr) (a_ (a_ tr tr) (a_ (a_ tr tr) (a_ (a_ tr (a_ (leB cL3_1) tr)) tr)))) (a_ (a_ (a_ tr tr) (a_ (a_ tr tr) (a_ (a_ tr tr) (a_ (a_ (a_ (Eq.refl 21) gL3_2) tr) (a_ (a_ tr tr) (a_ (a_ (le_ 8 21 rfl) tr) (a_ (a_ (a_ (parrelref20_of_tri locks (writes.getD x_k3.toNat default).f_Key yL3_4 eL3_3) tr) tr) (a_ (a_ tr tr) tr)))))))) (a_ (a_ (a_ tr tr) (a_ (a_ tr tr) (a_ (a_ (a_ (Eq.refl 21) gL3_2) tr) (a_ (a_ tr tr) (a_ (a_ tr tr) (a_ (a_ (le_ 11 11 rfl) tr) (a_ (a_ tr tr) (a_ (a_ (a_ (Eq.refl 11) (a_ (le_ 11 11 rfl) (Eq.refl 0))) tr) tr)))))))) (a_ (a_ (a_ (a_ tr (le_ 11 11 rfl)) tr) (a_ (a_ tr tr) (a_ (a_ (a_ (parrelref06_Of_tri (writes.getD x_k3.toNat default).f_Item.f_Conf yL3_4 yL3_6 eL3_5) tr) tr) (a_ (a_ tr tr) (a_ (a_ (a_ tr (lt_ 2 11 rfl)) tr) (a_ (a_ tr tr) (a_ (a_ tr (a_ (leB cL3_7) tr)) tr))))))) (a_ (a_ (a_ tr tr) tr) (a_ (a_ (a_ tr tr) tr) tr)))))) (parrelref20_Plan_l4_ok hμ locks writes l x_k3 l3 yL3_4 (parrelref20_Plan_l3 locks writes l  fuel) (fun x_k3 l3 r h => ih x_k3 l3 r h) big _ _ r h) (by kernel_rfl) ⟨fun _ _ => rfl, fun _ _ => rfl, rfl, trivial⟩
    · skip
      obtain rfl := Option.some.inj h
      exact run_ret mixed (L := []) (n := 21) (s := [.go, .reg [(3, { v := some (.bool false) })], .reg [], .frz 0, .frz 1])
        (a_ (a_ (a_ (a_ tr tr) (a_ (a_ tr tr) (a_ (a_ tr tr) (a_ (a_ tr (a_ (leB cL3_1) tr)) tr)))) (a_ (a_ (a_ tr tr) (a_ (a_ tr tr) (a_ (a_ tr tr) (a_ (a_ tr tr) (a_ (a_ tr tr) tr))))) (a_ (a_ (fz_row (enc := c_T_parrelref18_Member) (d := default) (fun _ => rfl) l) (a_ (Nat.le_refl (l).length) (a_ (Nat.le_refl (l).length) (a_ (Nat.le_refl (l).length) tr)))) (a_ (a_ (fz_row (enc := (cInt .u64)) (d := default) (fun _ => rfl) l3) (a_ (Nat.le_refl (l3).length) (a_ (Nat.le_refl (l3).length) (a_ (Nat.le_refl (l3).length) tr)))) tr)))) tr) (by kernel_rfl) rfl

theorem parrelref20_Plan_l2_ok {w0 : World} {W : Nat → Prop} {μ0 : Emb} (hμ : ∀ c p, μ0 c = some p → c < 0) (locks : List (T_parrelref20_Lock)) (writes : List (T_api_Write)) (l : List (T_parrelref18_Member))  : ∀ (fuel : Nat) (x_k2 : Int) (r : (List (T_parrelref18_Member)) × (List (Int)) × (Int)), parrelref20_Plan_l2 locks writes l  fuel x_k2 = some r → kont Tryd.prog w0 W μ0 (FnPost Tryd.prog Tryd.f11 0 0 (parrelref20_Plan_v r) []) (kAt (bodyOf Tryd.f11) 2) none (parrelref20_Plan_T2 locks writes l x_k2) (parrelref20_Plan_H2 locks writes l x_k2) := by
  intro fuel
  induction fuel with
  | zero => intro x_k2 r h; rw [parrelref20_Plan_l2] at h; cases h
  | succ fuel ih =>
    intro x_k2 r h
    rw [parrelref20_Plan_l2] at h
    rcases itb_some h with ⟨cL2_1, h⟩ | ⟨cL2_1, h⟩
    · skip
      obtain ⟨gL2_2, h⟩ := guard_some h
      obtain ⟨yL2_4, eL2_3, h⟩ := bind_some h
      rcases itb_some h with ⟨cL2_5, h⟩ | ⟨cL2_5, h⟩
      · skip
        obtain rfl := Option.some.inj h
        exact run_ret mixed (L := []) (n := 25) (s := [.go, .reg [(3, { v := some (.bool true) })], .reg [(6, { call := some (parrelref20_of_v yL2_4, [], []) }), (7, { v := some (.bool true) })], .reg [(0, { v := some (.ds 5 (([] : List (T_parrelref18_Member))).length (rowF c_T_parrelref18_Member default ([] : List (T_parrelref18_Member)))) }), (1, { v := some (.ds 1 (([] : List (Int))).length (rowF (cInt .u64) default ([] : List (Int)))) })]])
          (a_ (a_ (a_ (a_ tr tr) (a_ (a_ tr tr) (a_ (a_ tr tr) (a_ (a_ tr (a_ (leB cL2_1) tr)) tr)))) (a_ (a_ (a_ tr tr) (a_ (a_ tr tr) (a_ (a_ tr tr) (a_ (a_ (a_ (Eq.refl 21) gL2_2) tr) (a_ (a_ tr tr) (a_ (a_ (le_ 8 21 rfl) tr) (a_ (a_ (a_ (parrelref20_of_tri locks (writes.getD x_k2.toNat default).f_Key yL2_4 eL2_3) tr) tr) (a_ (a_ tr (a_ (leB cL2_5) tr)) tr)))))))) (a_ (a_ (a_ tr (a_ (le_nil_ds 5 (rowF c_T_parrelref18_Member default [])) tr)) (a_ (a_ tr (a_ (le_nil_ds 1 (rowF (cInt .u64) default [])) tr)) (a_ (a_ tr tr) tr))) tr))) tr) (by kernel_rfl) rfl
      · skip
        exact run_to mixed hμ (L := [0]) (n := 26) (s := [.go, .reg [(3, { v := some (.bool true) })], .reg [(6, { call := some (parrelref20_of_v yL2_4, [], []) }), (7, { v := some (.bool false) })], .reg []])
          (a_ (a_ (a_ tr tr) (a_ (a_ tr tr) (a_ (a_ tr tr) (a_ (a_ tr (a_ (leB cL2_1) tr)) tr)))) (a_ (a_ (a_ tr tr) (a_ (a_ tr tr) (a_ (a_ tr tr) (a_ (a_ (a_ (Eq.refl 21) gL2_2) tr) (a_ (a_ tr tr) (a_ (a_ (le_ 8 21 rfl) tr) (a_ (a_ (a_ (parrelref20_of_tri locks (writes.getD x_k2.toNat default).f_Key yL2_4 eL2_3) tr) tr) (a_ (a_ tr (a_ (leB cL2_5) tr)) tr)))))))) (a_ (a_ (a_ tr tr) (a_ (a_ tr tr) (a_ (a_ tr tr) tr))) tr))) (ih _ r h) (by kernel_rfl) ⟨fun _ _ => rfl, trivial⟩
    · skip
      exact run_to mixed hμ (L := [0, 1]) (n := 26) (s := [.go, .reg [(3, { v := some (.bool false) })], .void (.gr 1 (([] : List (Int))).length (rowF (cInt .u64) default ([] : List (Int)))), .reg [(0, { v := some (.gs 1 (([] : List (Int))).length) })], .reg []])
        (a_ (a_ (a_ tr tr) (a_ (a_ tr tr) (a_ (a_ tr tr) (a_ (a_ tr (a_ (leB cL2_1) tr)) tr)))) (a_ (Eq.refl 0) (a_ (a_ (a_ tr (a_ (le_nil_gs 1) tr)) tr) (a_ (a_ (a_ tr tr) tr) tr)))) (parrelref20_Plan_l3_ok hμ locks writes l  big _ _ r h) (by kernel_rfl) ⟨fun _ _ => rfl, fun _ _ => rfl, trivial⟩

theorem parrelref20_Plan_l0_ok {w0 : World} {W : Nat → Prop} {μ0 : Emb} (hμ : ∀ c p, μ0 c = some p → c < 0) (locks : List (T_parrelref20_Lock)) (writes : List (T_api_Write)) (y10 : (List (Int)))  : ∀ (fuel : Nat) (i : Int) (l : List (T_parrelref18_Member)) (r : (List (T_parrelref18_Member)) × (List (Int)) × (Int)), parrelref20_Plan_l0 locks writes y10  fuel i l = some r → kont Tryd.prog w0 W μ0 (FnPost Tryd.prog Tryd.f11 0 0 (parrelref20_Plan_v r) []) (kAt (bodyOf Tryd.f11) 0) none (parrelref20_Plan_T0 locks writes y10 i l) (parrelref20_Plan_H0 locks writes y10 i l) := by
  intro fuel
  induction fuel with
  | zero => intro i l r h; rw [parrelref20_Plan_l0] at h; cases h
  | succ fuel ih =>
    intro i l r h
    rw [parrelref20_Plan_l0] at h
    rcases itb_some h with ⟨cL0_1, h⟩ | ⟨cL0_1, h⟩
    · skip
      obtain ⟨gL0_2, h⟩ := guard_some h
      obtain ⟨yL0_4, eL0_3, h⟩ := bind_some h
      rcases itb_some h with ⟨cL0_5, h⟩ | ⟨cL0_5, h⟩
      · skip
        obtain rfl := Option.some.inj h
        exact run_ret mixed (L := []) (n := 29) (s := [.go, .reg [(3, { v := some (.bool true) })], .reg [(5, { call := some (parrelref20_reg_v yL0_4, [], []) })], .reg [(1, { v := some (.bool true) })], .reg [(0, { v := some (.ds 5 (([] : List (T_parrelref18_Member))).length (rowF c_T_parrelref18_Member default ([] : List (T_parrelref18_Member)))) }), (1, { v := some (.ds 1 (([] : List (Int))).length (rowF (cInt .u64) default ([] : List (Int)))) })]])
          (a_ (a_ (a_ (a_ tr tr) (a_ (a_ tr tr) (a_ (a_ tr tr) (a_ (a_ tr (a_ (leB cL0_1) tr)) tr)))) (a_ (a_ (a_ tr tr) (a_ (a_ tr tr) (a_ (a_ tr tr) (a_ (a_ (a_ (Eq.refl 1) gL0_2) tr) (a_ (a_ (lt_ 0 1 rfl) tr) (a_ (a_ (a_ (parrelref20_reg_tri locks (y10.getD i.toNat default) yL0_4 eL0_3) tr) tr) (a_ (a_ tr tr) (a_ (a_ tr tr) (a_ (a_ tr tr) (a_ (a_ tr tr) (a_ (a_ (a_ (Eq.refl 2) (a_ (le_ 2 2 rfl) (Eq.refl 0))) tr) (a_ (a_ tr tr) tr)))))))))))) (a_ (a_ (a_ tr tr) (a_ (a_ tr (a_ (leB cL0_5) tr)) tr)) (a_ (a_ (a_ tr (a_ (le_nil_ds 5 (rowF c_T_parrelref18_Member default [])) tr)) (a_ (a_ tr (a_ (le_nil_ds 1 (rowF (cInt .u64) default [])) tr)) (a_ (a_ tr tr) tr))) tr)))) tr) (by kernel_rfl) rfl
      · skip
        exact run_to mixed hμ (L := [0, 4, 3]) (n := 38) (s := [.go, .reg [(3, { v := some (.bool true) })], .reg [(5, { call := some (parrelref20_reg_v yL0_4, [], []) })], .reg [(1, { v := some (.bool false) })], .void (.gr 21 (([] : List (T_api_Write))).length (rowF c_T_api_Write default ([] : List (T_api_Write)))), .void (.gr 21 (([] : List (T_api_Write))).length (rowF c_T_api_Write default ([] : List (T_api_Write)))), .reg [(7, { os := [(4, .var [.int .u8 0, .int .u32 0, .int .u32 0, .gs 2 (([] : List (T_api_Write))).length, .int .u8 0])] }), (8, { os := [(4, .var [.int .u8 (IntKind.wrap .u8 (y10.getD i.toNat default)), .int .u32 yL0_4.1.f_Boot, .int .u32 yL0_4.1.f_N, .gs 3 (([] : List (T_api_Write))).length, .int .u8 0])] })], .reg []])
          (a_ (a_ (a_ tr tr) (a_ (a_ tr tr) (a_ (a_ tr tr) (a_ (a_ tr (a_ (leB cL0_1) tr)) tr)))) (a_ (a_ (a_ tr tr) (a_ (a_ tr tr) (a_ (a_ tr tr) (a_ (a_ (a_ (Eq.refl 1) gL0_2) tr) (a_ (a_ (lt_ 0 1 rfl) tr) (a_ (a_ (a_ (parrelref20_reg_tri locks (y10.getD i.toNat default) yL0_4 eL0_3) tr) tr) (a_ (a_ tr tr) (a_ (a_ tr tr) (a_ (a_ tr tr) (a_ (a_ tr tr) (a_ (a_ (a_ (Eq.refl 2) (a_ (le_ 2 2 rfl) (Eq.refl 0))) tr) (a_ (a_ tr tr) tr)))))))))))) (a_ (a_ (a_ tr tr) (a_ (a_ tr (a_ (leB cL0_5) tr)) tr)) (a_ (Eq.refl 0) (a_ (Eq.refl 0) (a_ (a_ (a_ tr tr) (a_ (a_ tr tr) (a_ (a_ (a_ (Eq.refl 1) gL0_2) tr) (a_ (a_ (lt_ 0 1 rfl) tr) (a_ (a_ tr tr) (a_ (a_ (a_ tr (le_ 2 2 rfl)) tr) (a_ (a_ (Eq.refl true) tr) (a_ (a_ tr (a_ (LO.Sub.var (a := [.int .u8 0, .int .u32 0, .int .u32 0, .nilsl, .int .u8 0]) (b := [.int .u8 0, .int .u32 0, .int .u32 0, .gs 2 (([] : List (T_api_Write))).length, .int .u8 0]) (a_ (LV.Le.refl (.int .u8 0)) (a_ (LV.Le.refl (.int .u32 0)) (a_ (LV.Le.refl (.int .u32 0)) (a_ (le_nil_gs 2) (a_ (LV.Le.refl (.int .u8 0)) tr)))))) tr)) (a_ (a_ (a_ (Eq.refl 5) (a_ (le_ 5 5 rfl) (Eq.refl 0))) (a_ (LO.Sub.var (a := [.int .u8 (IntKind.wrap .u8 (y10.getD i.toNat default)), .int .u32 yL0_4.1.f_Boot, .int .u32 yL0_4.1.f_N, .nilsl, .int .u8 0]) (b := [.int .u8 (IntKind.wrap .u8 (y10.getD i.toNat default)), .int .u32 yL0_4.1.f_Boot, .int .u32 yL0_4.1.f_N, .gs 3 (([] : List (T_api_Write))).length, .int .u8 0]) (a_ (LV.Le.refl (.int .u8 (IntKind.wrap .u8 (y10.getD i.toNat default)))) (a_ (LV.Le.refl (.int .u32 yL0_4.1.f_Boot)) (a_ (LV.Le.refl (.int .u32 yL0_4.1.f_N)) (a_ (le_nil_gs 3) (a_ (LV.Le.refl (.int .u8 0)) tr)))))) tr)) tr))))))))) (a_ (a_ (a_ tr tr) tr) tr))))))) (parrelref20_Plan_l1_ok hμ locks writes i l y10 yL0_4 (parrelref20_Plan_l0 locks writes y10  fuel) (fun i l r h => ih i l r h) big _ _ r h) (by kernel_rfl) ⟨fun _ _ => rfl, rfl, fun _ _ => rfl, trivial⟩
    · skip
      exact run_to mixed hμ (L := [0]) (n := 22) (s := [.go, .reg [(3, { v := some (.bool false) })], .reg []])
        (a_ (a_ (a_ tr tr) (a_ (a_ tr tr) (a_ (a_ tr tr) (a_ (a_ tr (a_ (leB cL0_1) tr)) tr)))) (a_ (a_ (a_ tr tr) tr) tr)) (parrelref20_Plan_l2_ok hμ locks writes l  big _ r h) (by kernel_rfl) ⟨fun _ _ => rfl, trivial⟩

theorem parrelref20_Plan_ok (locks : List (T_parrelref20_Lock)) (writes : List (T_api_Write)) (r : (List (T_parrelref18_Member)) × (List (Int)) × (Int)) (h : parrelref20_Plan locks writes = some r) : ∀ σ, Inj 0 σ → FnTri Tryd.prog 11 (renL σ [.ds 10 (locks).length (rowF c_T_parrelref20_Lock default locks), .ds 21 (writes).length (rowF c_T_api_Write default writes)]) (preOf σ 0 []) ((parrelref20_Plan_v r).ren σ) (upOf σ []) := by
  refine fn_of Tryd.func11 (by kernel_rfl) (by kernel_rfl) (by kernel_rfl) trivial (by kernel_rfl) trivial (by kernel_rfl) ?_
  intro w0 W μ0 hμ
  unfold parrelref20_Plan at h
  obtain ⟨y2, e1, h⟩ := bind_some h
  rcases itb_some h with ⟨c3, h⟩ | ⟨c3, h⟩
  · skip
    obtain rfl := Option.some.inj h
    exact run_ret mixed (L := []) (n := 20) (s := [.reg [(0, { v := some (.ds 5 (([] : List (T_parrelref18_Member))).length (rowF c_T_parrelref18_Member default ([] : List (T_parrelref18_Member)))) }), (1, { v := some (.ds 1 (([] : List (Int))).length (rowF (cInt .u64) default ([] : List (Int)))) })], .reg [(1, { call := some (parrelref20_may_v y2, [], []) }), (3, { v := some (.bool true) })], .reg [(0, { v := some (.ds 5 (([] : List (T_parrelref18_Member))).length (rowF c_T_parrelref18_Member default ([] : List (T_parrelref18_Member)))) }), (1, { v := some (.ds 1 (([] : List (Int))).length (rowF (cInt .u64) default ([] : List (Int)))) })]])
      (a_ (a_ (a_ (a_ tr (a_ (le_nil_ds 5 (rowF c_T_parrelref18_Member default [])) tr)) (a_ (a_ tr (a_ (le_nil_ds 1 (rowF (cInt .u64) default [])) tr)) (a_ (a_ tr tr) tr))) (a_ (a_ (a_ tr tr) (a_ (a_ (a_ (parrelref20_may_tri locks y2 e1) tr) tr) (a_ (a_ tr tr) (a_ (a_ tr (a_ (leB c3) tr)) (a_ tr (a_ tr (a_ tr (a_ (a_ tr tr) tr)))))))) (a_ (a_ (a_ tr (a_ (le_nil_ds 5 (rowF c_T_parrelref18_Member default [])) tr)) (a_ (a_ tr (a_ (le_nil_ds 1 (rowF (cInt .u64) default [])) tr)) (a_ (a_ tr tr) tr))) tr))) tr) (by kernel_rfl) rfl
  · skip
    obtain ⟨y5, e4, h⟩ := bind_some h
    rcases itb_some h with ⟨c6, h⟩ | ⟨c6, h⟩
    · skip
      obtain rfl := Option.some.inj h
      exact run_ret mixed (L := []) (n := 20) (s := [.reg [(0, { v := some (.ds 5 (([] : List (T_parrelref18_Member))).length (rowF c_T_parrelref18_Member default ([] : List (T_parrelref18_Member)))) }), (1, { v := some (.ds 1 (([] : List (Int))).length (rowF (cInt .u64) default ([] : List (Int)))) })], .reg [(1, { call := some (parrelref20_may_v y2, [], []) }), (3, { v := some (.bool false) }), (5, { call := some (parrelref10_WritesMay_v y5, [], []) }), (7, { v := some (.bool true) })], .reg [(0, { v := some (.ds 5 (([] : List (T_parrelref18_Member))).length (rowF c_T_parrelref18_Member default ([] : List (T_parrelref18_Member)))) }), (1, { v := some (.ds 1 (([] : List (Int))).length (rowF (cInt .u64) default ([] : List (Int)))) })]])
        (a_ (a_ (a_ (a_ tr (a_ (le_nil_ds 5 (rowF c_T_parrelref18_Member default [])) tr)) (a_ (a_ tr (a_ (le_nil_ds 1 (rowF (cInt .u64) default [])) tr)) (a_ (a_ tr tr) tr))) (a_ (a_ (a_ tr tr) (a_ (a_ (a_ (parrelref20_may_tri locks y2 e1) tr) tr) (a_ (a_ tr tr) (a_ (a_ tr (a_ (leB c3) tr)) (a_ (a_ tr tr) (a_ (a_ (a_ (parrelref10_WritesMay_tri writes y5 e4) tr) tr) (a_ (a_ tr tr) (a_ (a_ tr (a_ (leB c6) tr)) tr)))))))) (a_ (a_ (a_ tr (a_ (le_nil_ds 5 (rowF c_T_parrelref18_Member default [])) tr)) (a_ (a_ tr (a_ (le_nil_ds 1 (rowF (cInt .u64) default [])) tr)) (a_ (a_ tr tr) tr))) tr))) tr) (by kernel_rfl) rfl
    · skip
      obtain ⟨y8, e7, h⟩ := bind_some h
      obtain ⟨y10, e9, h⟩ := bind_some h
      exact run_to mixed hμ (L := [0]) (n := 31) (s := [.reg [(0, { v := some (.ds 5 (([] : List (T_parrelref18_Member))).length (rowF c_T_parrelref18_Member default ([] : List (T_parrelref18_Member)))) }), (1, { v := some (.ds 1 (([] : List (Int))).length (rowF (cInt .u64) default ([] : List (Int)))) })], .reg [(1, { call := some (parrelref20_may_v y2, [], []) }), (3, { v := some (.bool false) }), (5, { call := some (parrelref10_WritesMay_v y5, [], []) }), (7, { v := some (.bool false) })], .reg [(1, { call := some (parrelref20_Nodes_v y8, [], []) }), (2, { call := some (parrelref01_List_v y10, [], []) })], .void (.gr 5 (([] : List (T_parrelref18_Member))).length (rowF c_T_parrelref18_Member default ([] : List (T_parrelref18_Member)))), .reg [(0, { v := some (.gs 0 (([] : List (T_parrelref18_Member))).length) })], .reg []])
        (a_ (a_ (a_ tr (a_ (le_nil_ds 5 (rowF c_T_parrelref18_Member default [])) tr)) (a_ (a_ tr (a_ (le_nil_ds 1 (rowF (cInt .u64) default [])) tr)) (a_ (a_ tr tr) tr))) (a_ (a_ (a_ tr tr) (a_ (a_ (a_ (parrelref20_may_tri locks y2 e1) tr) tr) (a_ (a_ tr tr) (a_ (a_ tr (a_ (leB c3) tr)) (a_ (a_ tr tr) (a_ (a_ (a_ (parrelref10_WritesMay_tri writes y5 e4) tr) tr) (a_ (a_ tr tr) (a_ (a_ tr (a_ (leB c6) tr)) tr)))))))) (a_ (a_ (a_ tr tr) (a_ (a_ (a_ (parrelref20_Nodes_tri locks y8 e7) tr) tr) (a_ (a_ (a_ (parrelref01_List_tri y8 y10 e9) tr) tr) (a_ (a_ tr tr) tr)))) (a_ (Eq.refl 0) (a_ (a_ (a_ tr (a_ (le_nil_gs 0) tr)) tr) (a_ (a_ (a_ tr tr) tr) tr)))))) (parrelref20_Plan_l0_ok hμ locks writes y10  big _ _ r h) (by kernel_rfl) ⟨fun _ _ => rfl, trivial⟩

theorem parrelref20_Plan_tri (locks : List (T_parrelref20_Lock)) (writes : List (T_api_Write)) (r : (List (T_parrelref18_Member)) × (List (Int)) × (Int)) (h : parrelref20_Plan locks writes = some r) : FnTri Tryd.prog 11 [.ds 10 (locks).length (rowF c_T_parrelref20_Lock default locks), .ds 21 (writes).length (rowF c_T_api_Write default writes)] [] (parrelref20_Plan_v r) [] := FnTri.none (parrelref20_Plan_ok locks writes r h) rfl rfl

/-- parrel/parrelref10.SameWrites -/

def parrelref10_SameWrites_v (r : (Bool)) : LV := .bool r

def parrelref10_SameWrites_T0 (a : List (T_api_Write)) (b : List (T_api_Write)) (i : Int) : List LV := [.ds 21 (a).length (rowF c_T_api_Write default a), .ds 21 (b).length (rowF c_T_api_Write default b), .any, .any, .any, .int .i64 i, .any, .any, .any, .any, .any, .any, .any, .any, .any, .any, .any, .any, .any, .any, .any, .any, .any, .any, .any, .any]

def parrelref10_SameWrites_H0 (a : List (T_api_Write)) (b : List (T_api_Write)) (i : Int) : Heap := []

def parrelref10_SameWrites_l0 (a : List (T_api_Write)) (b : List (T_api_Write))  : Nat → (Int) → Option ((Bool))
  | 0, _ => none
  | fuel + 1, i =>
    if ((decide (i < ((a).length : Int))) : Bool) then
      if 0 ≤ i ∧ i < (((a).length : Nat) : Int) then
      if 0 ≤ i ∧ i < (((b).length : Nat) : Int) then
      if ((!decide ((a.getD i.toNat default) = (b.getD i.toNat default))) : Bool) then
        some false
      else
        parrelref10_SameWrites_l0 a b  fuel (IntKind.wrap .i64 (i + 1))
      else none
      else none
    else
      some true

def parrelref10_SameWrites (a : List (T_api_Write)) (b : List (T_api_Write)) : Option ((Bool)) :=
  if ((((a).length : Int) != ((b).length : Int)) : Bool) then
    some false
  else
    parrelref10_SameWrites_l0 a b  big 0

theorem parrelref10_SameWrites_l0_ok {w0 : World} {W : Nat → Prop} {μ0 : Emb} (hμ : ∀ c p, μ0 c = some p → c < 0) (a : List (T_api_Write)) (b : List (T_api_Write))  : ∀ (fuel : Nat) (i : Int) (r : (Bool)), parrelref10_SameWrites_l0 a b  fuel i = some r → kont Tryd.prog w0 W μ0 (FnPost Tryd.prog Tryd.f36 0 0 (parrelref10_SameWrites_v r) []) (kAt (bodyOf Tryd.f36) 0) none (parrelref10_SameWrites_T0 a b i) (parrelref10_SameWrites_H0 a b i) := by
  intro fuel
  induction fuel with
  | zero => intro i r h; rw [parrelref10_SameWrites_l0] at h; cases h
  | succ fuel ih =>
    intro i r h
    rw [parrelref10_SameWrites_l0] at h
    rcases itb_some h with ⟨cL0_1, h⟩ | ⟨cL0_1, h⟩
    · skip
      obtain ⟨gL0_2, h⟩ := guard_some h
      obtain ⟨gL0_3, h⟩ := guard_some h
      rcases itb_some h with ⟨cL0_4, h⟩ | ⟨cL0_4, h⟩
      · skip
        obtain rfl := Option.some.inj h
        exact run_ret mixed (L := []) (n := 25) (s := [.go, .reg [(3, { v := some (.bool true) })], .reg [(8, { v := some (.bool true) })], .reg []])
          (a_ (a_ (a_ (a_ tr tr) (a_ (a_ tr tr) (a_ (a_ tr tr) (a_ (a_ tr (a_ (leB cL0_1) tr)) tr)))) (a_ (a_ (a_ tr tr) (a_ (a_ tr tr) (a_ (a_ (a_ (Eq.refl 21) gL0_2) tr) (a_ (a_ (le_ 21 21 rfl) tr) (a_ (a_ tr tr) (a_ (a_ tr tr) (a_ (a_ (a_ (Eq.refl 21) gL0_3) tr) (a_ (a_ (le_ 21 21 rfl) tr) (a_ (a_ tr (a_ (LV.Le.trans (leB (congrArg not (k_T_api_Write (a.getD i.toNat default) (b.getD i.toNat default)))) (leB cL0_4)) tr)) tr))))))))) (a_ (a_ (a_ tr tr) tr) tr))) tr) (by kernel_rfl) rfl
      · skip
        exact run_to mixed hμ (L := []) (n := 26) (s := [.go, .reg [(3, { v := some (.bool true) })], .reg [(8, { v := some (.bool false) })], .reg []])
          (a_ (a_ (a_ tr tr) (a_ (a_ tr tr) (a_ (a_ tr tr) (a_ (a_ tr (a_ (leB cL0_1) tr)) tr)))) (a_ (a_ (a_ tr tr) (a_ (a_ tr tr) (a_ (a_ (a_ (Eq.refl 21) gL0_2) tr) (a_ (a_ (le_ 21 21 rfl) tr) (a_ (a_ tr tr) (a_ (a_ tr tr) (a_ (a_ (a_ (Eq.refl 21) gL0_3) tr) (a_ (a_ (le_ 21 21 rfl) tr) (a_ (a_ tr (a_ (LV.Le.trans (leB (congrArg not (k_T_api_Write (a.getD i.toNat default) (b.getD i.toNat default)))) (leB cL0_4)) tr)) tr))))))))) (a_ (a_ (a_ tr tr) (a_ (a_ tr tr) (a_ (a_ tr tr) tr))) tr))) (ih _ r h) (by kernel_rfl) trivial
    · skip
      obtain rfl := Option.some.inj h
      exact run_ret mixed (L := []) (n := 19) (s := [.go, .reg [(3, { v := some (.bool false) })], .reg []])
        (a_ (a_ (a_ (a_ tr tr) (a_ (a_ tr tr) (a_ (a_ tr tr) (a_ (a_ tr (a_ (leB cL0_1) tr)) tr)))) (a_ (a_ (a_ tr tr) tr) tr)) tr) (by kernel_rfl) rfl

theorem parrelref10_SameWrites_ok (a : List (T_api_Write)) (b : List (T_api_Write)) (r : (Bool)) (h : parrelref10_SameWrites a b = some r) : ∀ σ, Inj 0 σ → FnTri Tryd.prog 36 (renL σ [.ds 21 (a).length (rowF c_T_api_Write default a), .ds 21 (b).length (rowF c_T_api_Write default b)]) (preOf σ 0 []) ((parrelref10_SameWrites_v r).ren σ) (upOf σ []) := by
  refine fn_of Tryd.func36 (by kernel_rfl) (by kernel_rfl) (by kernel_rfl) trivial (by kernel_rfl) trivial (by kernel_rfl) ?_
  intro w0 W μ0 hμ
  unfold parrelref10_SameWrites at h
  rcases itb_some h with ⟨c1, h⟩ | ⟨c1, h⟩
  · skip
    obtain rfl := Option.some.inj h
    exact run_ret mixed (L := []) (n := 20) (s := [.reg [], .reg [(4, { v := some (.bool true) })], .reg []])
      (a_ (a_ (a_ (a_ tr tr) tr) (a_ (a_ (a_ tr tr) (a_ (a_ tr tr) (a_ (a_ tr tr) (a_ (a_ tr tr) (a_ (a_ tr (a_ (leB c1) tr)) tr))))) (a_ (a_ (a_ tr tr) tr) tr))) tr) (by kernel_rfl) rfl
  · skip
    exact run_to mixed hμ (L := []) (n := 24) (s := [.reg [], .reg [(4, { v := some (.bool false) })], .reg []])
      (a_ (a_ (a_ tr tr) tr) (a_ (a_ (a_ tr tr) (a_ (a_ tr tr) (a_ (a_ tr tr) (a_ (a_ tr tr) (a_ (a_ tr (a_ (leB c1) tr)) tr))))) (a_ (a_ (a_ tr tr) tr) tr))) (parrelref10_SameWrites_l0_ok hμ a b  big _ r h) (by kernel_rfl) trivial

theorem parrelref10_SameWrites_tri (a : List (T_api_Write)) (b : List (T_api_Write)) (r : (Bool)) (h : parrelref10_SameWrites a b = some r) : FnTri Tryd.prog 36 [.ds 21 (a).length (rowF c_T_api_Write default a), .ds 21 (b).length (rowF c_T_api_Write default b)] [] (parrelref10_SameWrites_v r) [] := FnTri.none (parrelref10_SameWrites_ok a b r h) rfl rfl

/-- parrel/parrellaw20.members -/

def parrellaw20_members_v (r : (Bool)) : LV := .bool r

def parrellaw20_members_T0 (a : List (T_coord_Member)) (b : List (T_parrelref18_Member)) (t13 : Int) : List LV := [.ds 4 (a).length (rowF c_T_coord_Member default a), .ds 5 (b).length (rowF c_T_parrelref18_Member default b), .any, .any, .any, .any, .any, .any, .any, .any, .any, .any, .int .i64 ((a).length : Int), .int .i64 t13, .any, .any, .any, .any, .any, .any, .any, .any, .any, .any, .any, .any, .any, .any, .any, .any, .any, .any, .any, .any, .any, .any, .any, .any, .any, .any, .any, .any, .any, .any, .any, .any, .any, .any, .any, .any, .any, .any, .any, .any, .any]

def parrellaw20_members_H0 (a : List (T_coord_Member)) (b : List (T_parrelref18_Member)) (t13 : Int) : Heap := []

def parrellaw20_members_l0 (a : List (T_coord_Member)) (b : List (T_parrelref18_Member))  : Nat → (Int) → Option ((Bool))
  | 0, _ => none
  | fuel + 1, t13 =>
    if ((decide (t13 < ((a).length : Int))) : Bool) then
      if 0 ≤ t13 ∧ t13 < (((a).length : Nat) : Int) then
      if 0 ≤ t13 ∧ t13 < (((b).length : Nat) : Int) then
      if (((a.getD t13.toNat default).f_Node != (b.getD t13.toNat default).f_Node) : Bool) then
        some false
      else
        if ((!decide ((a.getD t13.toNat default).f_Reg = (b.getD t13.toNat default).f_Reg)) : Bool) then
          some false
        else
          (parrelref10_SameWrites (a.getD t13.toNat default).f_Writes (b.getD t13.toNat default).f_Writes).bind fun yL0_7 =>
          if ((!yL0_7) : Bool) then
            some false
          else
            parrellaw20_members_l0 a b  fuel (IntKind.wrap .i64 (t13 + 1))
      else none
      else none
    else
      some true

def parrellaw20_members (a : List (T_coord_Member)) (b : List (T_parrelref18_Member)) : Option ((Bool)) :=
  if ((((a).length : Int) != ((b).length : Int)) : Bool) then
    some false
  else
    parrellaw20_members_l0 a b  big 0

theorem parrellaw20_members_l0_ok {w0 : World} {W : Nat → Prop} {μ0 : Emb} (hμ : ∀ c p, μ0 c = some p → c < 0) (a : List (T_coord_Member)) (b : List (T_parrelref18_Member))  : ∀ (fuel : Nat) (t13 : Int) (r : (Bool)), parrellaw20_members_l0 a b  fuel t13 = some r → kont Tryd.prog w0 W μ0 (FnPost Tryd.prog Tryd.f12 0 0 (parrellaw20_members_v r) []) (kAt (bodyOf Tryd.f12) 0) none (parrellaw20_members_T0 a b t13) (parrellaw20_members_H0 a b t13) := by
  intro fuel
  induction fuel with
  | zero => intro t13 r h; rw [parrellaw20_members_l0] at h; cases h
  | succ fuel ih =>
    intro t13 r h
    rw [parrellaw20_members_l0] at h
    rcases itb_some h with ⟨cL0_1, h⟩ | ⟨cL0_1, h⟩
    · skip
      obtain ⟨gL0_2, h⟩ := guard_some h
      obtain ⟨gL0_3, h⟩ := guard_some h
      rcases itb_some h with ⟨cL0_4, h⟩ | ⟨cL0_4, h⟩
      · skip
        obtain rfl := Option.some.inj h
        exact run_ret mixed (L := []) (n := 28) (s := [.go, .reg [(0, { v := some (.bool true) })], .reg [], .reg [(11, { v := some (.bool true) })], .reg []])
          (a_ (a_ (a_ (a_ tr (a_ (leB cL0_1) tr)) tr) (a_ (a_ (a_ tr tr) (a_ (a_ tr tr) tr)) (a_ (a_ (a_ tr tr) (a_ (a_ tr tr) (a_ (a_ (a_ (Eq.refl 4) gL0_2) tr) (a_ (a_ tr tr) (a_ (a_ (lt_ 0 4 rfl) tr) (a_ (a_ tr tr) (a_ (a_ tr tr) (a_ (a_ (a_ (Eq.refl 5) gL0_3) tr) (a_ (a_ tr tr) (a_ (a_ (lt_ 0 5 rfl) tr) (a_ (a_ tr tr) (a_ (a_ tr (a_ (leB cL0_4) tr)) (a_ tr (a_ tr (a_ tr (a_ tr (a_ tr (a_ tr (a_ tr (a_ tr (a_ tr (a_ tr (a_ tr (a_ (a_ tr tr) (a_ (a_ tr tr) (a_ tr (a_ tr (a_ tr (a_ tr (a_ tr (a_ tr (a_ tr (a_ tr (a_ tr (a_ tr (a_ tr (a_ tr (a_ (a_ tr tr) tr)))))))))))))))))))))))))))))))))))))) (a_ (a_ (a_ tr tr) tr) tr)))) tr) (by kernel_rfl) rfl
      · skip
        rcases itb_some h with ⟨cL0_5, h⟩ | ⟨cL0_5, h⟩
        · skip
          obtain rfl := Option.some.inj h
          exact run_ret mixed (L := []) (n := 28) (s := [.go, .reg [(0, { v := some (.bool true) })], .reg [], .reg [(11, { v := some (.bool false) }), (22, { v := some (.bool (!decide ((a.getD t13.toNat default).f_Reg = (b.getD t13.toNat default).f_Reg))) }), (24, { v := some (.bool true) })], .reg []])
            (a_ (a_ (a_ (a_ tr (a_ (leB cL0_1) tr)) tr) (a_ (a_ (a_ tr tr) (a_ (a_ tr tr) tr)) (a_ (a_ (a_ tr tr) (a_ (a_ tr tr) (a_ (a_ (a_ (Eq.refl 4) gL0_2) tr) (a_ (a_ tr tr) (a_ (a_ (lt_ 0 4 rfl) tr) (a_ (a_ tr tr) (a_ (a_ tr tr) (a_ (a_ (a_ (Eq.refl 5) gL0_3) tr) (a_ (a_ tr tr) (a_ (a_ (lt_ 0 5 rfl) tr) (a_ (a_ tr tr) (a_ (a_ tr (a_ (leB cL0_4) tr)) (a_ (a_ tr tr) (a_ (a_ tr tr) (a_ (a_ (a_ (Eq.refl 4) gL0_2) tr) (a_ (a_ tr tr) (a_ (a_ (le_ 2 3 rfl) tr) (a_ (a_ tr tr) (a_ (a_ tr tr) (a_ (a_ (a_ (Eq.refl 5) gL0_3) tr) (a_ (a_ tr tr) (a_ (a_ (le_ 2 4 rfl) tr) (a_ (a_ tr (a_ (leB (congrArg not (k_T_api_Reg (a.getD t13.toNat default).f_Reg (b.getD t13.toNat default).f_Reg))) tr)) (a_ (a_ tr tr) (a_ (a_ tr (a_ (leB cL0_5) tr)) (a_ tr (a_ tr (a_ tr (a_ tr (a_ tr (a_ tr (a_ tr (a_ tr (a_ tr (a_ tr (a_ tr (a_ tr (a_ (a_ tr tr) tr)))))))))))))))))))))))))))))))))))))) (a_ (a_ (a_ tr tr) tr) tr)))) tr) (by kernel_rfl) rfl
        · skip
          obtain ⟨yL0_7, eL0_6, h⟩ := bind_some h
          rcases itb_some h with ⟨cL0_8, h⟩ | ⟨cL0_8, h⟩
          · skip
            obtain rfl := Option.some.inj h
            exact run_ret mixed (L := []) (n := 28) (s := [.go, .reg [(0, { v := some (.bool true) })], .reg [], .reg [(11, { v := some (.bool false) }), (22, { v := some (.bool (!decide ((a.getD t13.toNat default).f_Reg = (b.getD t13.toNat default).f_Reg))) }), (24, { v := some (.bool false) }), (35, { call := some (parrelref10_SameWrites_v yL0_7, [], []) }), (37, { v := some (.bool true) })], .reg []])
              (a_ (a_ (a_ (a_ tr (a_ (leB cL0_1) tr)) tr) (a_ (a_ (a_ tr tr) (a_ (a_ tr tr) tr)) (a_ (a_ (a_ tr tr) (a_ (a_ tr tr) (a_ (a_ (a_ (Eq.refl 4) gL0_2) tr) (a_ (a_ tr tr) (a_ (a_ (lt_ 0 4 rfl) tr) (a_ (a_ tr tr) (a_ (a_ tr tr) (a_ (a_ (a_ (Eq.refl 5) gL0_3) tr) (a_ (a_ tr tr) (a_ (a_ (lt_ 0 5 rfl) tr) (a_ (a_ tr tr) (a_ (a_ tr (a_ (leB cL0_4) tr)) (a_ (a_ tr tr) (a_ (a_ tr tr) (a_ (a_ (a_ (Eq.refl 4) gL0_2) tr) (a_ (a_ tr tr) (a_ (a_ (le_ 2 3 rfl) tr) (a_ (a_ tr tr) (a_ (a_ tr tr) (a_ (a_ (a_ (Eq.refl 5) gL0_3) tr) (a_ (a_ tr tr) (a_ (a_ (le_ 2 4 rfl) tr) (a_ (a_ tr (a_ (leB (congrArg not (k_T_api_Reg (a.getD t13.toNat default).f_Reg (b.getD t13.toNat default).f_Reg))) tr)) (a_ (a_ tr tr) (a_ (a_ tr (a_ (leB cL0_5) tr)) (a_ (a_ tr tr) (a_ (a_ tr tr) (a_ (a_ (a_ (Eq.refl 4) gL0_2) tr) (a_ (a_ tr tr) (a_ (a_ (lt_ 0 1 rfl) tr) (a_ (a_ tr tr) (a_ (a_ tr tr) (a_ (a_ (a_ (Eq.refl 5) gL0_3) tr) (a_ (a_ tr tr) (a_ (a_ (lt_ 0 2 rfl) tr) (a_ (a_ (a_ (parrelref10_SameWrites_tri (a.getD t13.toNat default).f_Writes (b.getD t13.toNat default).f_Writes yL0_7 eL0_6) tr) tr) (a_ (a_ tr tr) (a_ (a_ tr (a_ (leB cL0_8) tr)) tr)))))))))))))))))))))))))))))))))))))) (a_ (a_ (a_ tr tr) tr) tr)))) tr) (by kernel_rfl) rfl
          · skip
            exact run_to mixed hμ (L := []) (n := 29) (s := [.go, .reg [(0, { v := some (.bool true) })], .reg [], .reg [(11, { v := some (.bool false) }), (22, { v := some (.bool (!decide ((a.getD t13.toNat default).f_Reg = (b.getD t13.toNat default).f_Reg))) }), (24, { v := some (.bool false) }), (35, { call := some (parrelref10_SameWrites_v yL0_7, [], []) }), (37, { v := some (.bool false) })], .reg []])
              (a_ (a_ (a_ tr (a_ (leB cL0_1) tr)) tr) (a_ (a_ (a_ tr tr) (a_ (a_ tr tr) tr)) (a_ (a_ (a_ tr tr) (a_ (a_ tr tr) (a_ (a_ (a_ (Eq.refl 4) gL0_2) tr) (a_ (a_ tr tr) (a_ (a_ (lt_ 0 4 rfl) tr) (a_ (a_ tr tr) (a_ (a_ tr tr) (a_ (a_ (a_ (Eq.refl 5) gL0_3) tr) (a_ (a_ tr tr) (a_ (a_ (lt_ 0 5 rfl) tr) (a_ (a_ tr tr) (a_ (a_ tr (a_ (leB cL0_4) tr)) (a_ (a_ tr tr) (a_ (a_ tr tr) (a_ (a_ (a_ (Eq.refl 4) gL0_2) tr) (a_ (a_ tr tr) (a_ (a_ (le_ 2 3 rfl) tr) (a_ (a_ tr tr) (a_ (a_ tr tr) (a_ (a_ (a_ (Eq.refl 5) gL0_3) tr) (a_ (a_ tr tr) (a_ (a_ (le_ 2 4 rfl) tr) (a_ (a_ tr (a_ (leB (congrArg not (k_T_api_Reg (a.getD t13.toNat default).f_Reg (b.getD t13.toNat default).f_Reg))) tr)) (a_ (a_ tr tr) (a_ (a_ tr (a_ (leB cL0_5) tr)) (a_ (a_ tr tr) (a_ (a_ tr tr) (a_ (a_ (a_ (Eq.refl 4) gL0_2) tr) (a_ (a_ tr tr) (a_ (a_ (lt_ 0 1 rfl) tr) (a_ (a_ tr tr) (a_ (a_ tr tr) (a_ (a_ (a_ (Eq.refl 5) gL0_3) tr) (a_ (a_ tr tr) (a_ (a_ (lt_ 0 2 rfl) tr) (a_ (a_ (a_ (parrelref10_SameWrites_tri (a.getD t13.toNat default).f_Writes (b.getD t13.toNat default).f_Writes yL0_7 eL0_6) tr) tr) (a_ (a_ tr tr) (a_ (a_ tr (a_ (leB cL0_8) tr)) tr)))))))))))))))))))))))))))))))))))))) (a_ (a_ (a_ tr tr) (a_ (a_ tr tr) tr)) tr)))) (ih _ r h) (by kernel_rfl) trivial
    · skip
      obtain rfl := Option.some.inj h
      exact run_ret mixed (L := []) (n := 19) (s := [.go, .reg [(0, { v := some (.bool false) })], .reg []])
        (a_ (a_ (a_ (a_ tr (a_ (leB cL0_1) tr)) tr) (a_ (a_ (a_ tr tr) tr) tr)) tr) (by kernel_rfl) rfl

theorem parrellaw20_members_ok (a : List (T_coord_Member)) (b : List (T_parrelref18_Member)) (r : (Bool)) (h : parrellaw20_members a b = some r) : ∀ σ, Inj 0 σ → FnTri Tryd.prog 12 (renL σ [.ds 4 (a).length (rowF c_T_coord_Member default a), .ds 5 (b).length (rowF c_T_parrelref18_Member default b)]) (preOf σ 0 []) ((parrellaw20_members_v r).ren σ) (upOf σ []) := by
  refine fn_of Tryd.func12 (by kernel_rfl) (by kernel_rfl) (by kernel_rfl) trivial (by kernel_rfl) trivial (by kernel_rfl) ?_
  intro w0 W μ0 hμ
  unfold parrellaw20_members at h
  rcases itb_some h with ⟨c1, h⟩ | ⟨c1, h⟩
  · skip
    obtain rfl := Option.some.inj h
    exact run_ret mixed (L := []) (n := 20) (s := [.reg [], .reg [(4, { v := some (.bool true) })], .reg []])
      (a_ (a_ (a_ (a_ tr tr) tr) (a_ (a_ (a_ tr tr) (a_ (a_ tr tr) (a_ (a_ tr tr) (a_ (a_ tr tr) (a_ (a_ tr (a_ (leB c1) tr)) tr))))) (a_ (a_ (a_ tr tr) tr) tr))) tr) (by kernel_rfl) rfl
  · skip
    exact run_to mixed hμ (L := []) (n := 24) (s := [.reg [], .reg [(4, { v := some (.bool false) })], .reg []])
      (a_ (a_ (a_ tr tr) tr) (a_ (a_ (a_ tr tr) (a_ (a_ tr tr) (a_ (a_ tr tr) (a_ (a_ tr tr) (a_ (a_ tr (a_ (leB c1) tr)) tr))))) (a_ (a_ (a_ tr tr) (a_ (a_ tr tr) (a_ (a_ tr tr) tr))) tr))) (parrellaw20_members_l0_ok hμ a b  big _ r h) (by kernel_rfl) trivial

theorem parrellaw20_members_tri (a : List (T_coord_Member)) (b : List (T_parrelref18_Member)) (r : (Bool)) (h : parrellaw20_members a b = some r) : FnTri Tryd.prog 12 [.ds 4 (a).length (rowF c_T_coord_Member default a), .ds 5 (b).length (rowF c_T_parrelref18_Member default b)] [] (parrellaw20_members_v r) [] := FnTri.none (parrellaw20_members_ok a b r h) rfl rfl

/-- parrel/parrellaw20.sets -/

def parrellaw20_sets_v (r : (Bool)) : LV := .bool r

def parrellaw20_sets_T0 (a : List (Int)) (b : List (Int)) (t13 : Int) : List LV := [.ds 1 (a).length (rowF (cInt .u64) default a), .ds 1 (b).length (rowF (cInt .u64) default b), .any, .any, .any, .any, .any, .any, .any, .any, .any, .any, .int .i64 ((a).length : Int), .int .i64 t13, .any, .any, .any, .any, .any, .any, .any, .any, .any, .any, .any, .any]

def parrellaw20_sets_H0 (a : List (Int)) (b : List (Int)) (t13 : Int) : Heap := []

def parrellaw20_sets_l0 (a : List (Int)) (b : List (Int))  : Nat → (Int) → Option ((Bool))
  | 0, _ => none
  | fuel + 1, t13 =>
    if ((decide (t13 < ((a).length : Int))) : Bool) then
      if 0 ≤ t13 ∧ t13 < (((a).length : Nat) : Int) then
      if 0 ≤ t13 ∧ t13 < (((b).length : Nat) : Int) then
      if (((a.getD t13.toNat default) != (b.getD t13.toNat default)) : Bool) then
        some false
      else
        parrellaw20_sets_l0 a b  fuel (IntKind.wrap .i64 (t13 + 1))
      else none
      else none
    else
      some true

def parrellaw20_sets (a : List (Int)) (b : List (Int)) : Option ((Bool)) :=
  if ((((a).length : Int) != ((b).length : Int)) : Bool) then
    some false
  else
    parrellaw20_sets_l0 a b  big 0

theorem parrellaw20_sets_l0_ok {w0 : World} {W : Nat → Prop} {μ0 : Emb} (hμ : ∀ c p, μ0 c = some p → c < 0) (a : List (Int)) (b : List (Int))  : ∀ (fuel : Nat) (t13 : Int) (r : (Bool)), parrellaw20_sets_l0 a b  fuel t13 = some r → kont Tryd.prog w0 W μ0 (FnPost Tryd.prog Tryd.f13 0 0 (parrellaw20_sets_v r) []) (kAt (bodyOf Tryd.f13) 0) none (parrellaw20_sets_T0 a b t13) (parrellaw20_sets_H0 a b t13) := by
  intro fuel
  induction fuel with
  | zero => intro t13 r h; rw [parrellaw20_sets_l0] at h; cases h
  | succ fuel ih =>
    intro t13 r h
    rw [parrellaw20_sets_l0] at h
    rcases itb_some h with ⟨cL0_1, h⟩ | ⟨cL0_1, h⟩
    · skip
      obtain ⟨gL0_2, h⟩ := guard_some h
      obtain ⟨gL0_3, h⟩ := guard_some h
      rcases itb_some h with ⟨cL0_4, h⟩ | ⟨cL0_4, h⟩
      · skip
        obtain rfl := Option.some.inj h
        exact run_ret mixed (L := []) (n := 28) (s := [.go, .reg [(0, { v := some (.bool true) })], .reg [], .reg [(8, { v := some (.bool true) })], .reg []])
          (a_ (a_ (a_ (a_ tr (a_ (leB cL0_1) tr)) tr) (a_ (a_ (a_ tr tr) (a_ (a_ tr tr) tr)) (a_ (a_ (a_ tr tr) (a_ (a_ tr tr) (a_ (a_ (a_ (Eq.refl 1) gL0_2) tr) (a_ (a_ (lt_ 0 1 rfl) tr) (a_ (a_ tr tr) (a_ (a_ tr tr) (a_ (a_ (a_ (Eq.refl 1) gL0_3) tr) (a_ (a_ (lt_ 0 1 rfl) tr) (a_ (a_ tr (a_ (leB cL0_4) tr)) tr))))))))) (a_ (a_ (a_ tr tr) tr) tr)))) tr) (by kernel_rfl) rfl
      · skip
        exact run_to mixed hμ (L := []) (n := 29) (s := [.go, .reg [(0, { v := some (.bool true) })], .reg [], .reg [(8, { v := some (.bool false) })], .reg []])
          (a_ (a_ (a_ tr (a_ (leB cL0_1) tr)) tr) (a_ (a_ (a_ tr tr) (a_ (a_ tr tr) tr)) (a_ (a_ (a_ tr tr) (a_ (a_ tr tr) (a_ (a_ (a_ (Eq.refl 1) gL0_2) tr) (a_ (a_ (lt_ 0 1 rfl) tr) (a_ (a_ tr tr) (a_ (a_ tr tr) (a_ (a_ (a_ (Eq.refl 1) gL0_3) tr) (a_ (a_ (lt_ 0 1 rfl) tr) (a_ (a_ tr (a_ (leB cL0_4) tr)) tr))))))))) (a_ (a_ (a_ tr tr) (a_ (a_ tr tr) tr)) tr)))) (ih _ r h) (by kernel_rfl) trivial
    · skip
      obtain rfl := Option.some.inj h
      exact run_ret mixed (L := []) (n := 19) (s := [.go, .reg [(0, { v := some (.bool false) })], .reg []])
        (a_ (a_ (a_ (a_ tr (a_ (leB cL0_1) tr)) tr) (a_ (a_ (a_ tr tr) tr) tr)) tr) (by kernel_rfl) rfl

theorem parrellaw20_sets_ok (a : List (Int)) (b : List (Int)) (r : (Bool)) (h : parrellaw20_sets a b = some r) : ∀ σ, Inj 0 σ → FnTri Tryd.prog 13 (renL σ [.ds 1 (a).length (rowF (cInt .u64) default a), .ds 1 (b).length (rowF (cInt .u64) default b)]) (preOf σ 0 []) ((parrellaw20_sets_v r).ren σ) (upOf σ []) := by
  refine fn_of Tryd.func13 (by kernel_rfl) (by kernel_rfl) (by kernel_rfl) trivial (by kernel_rfl) trivial (by kernel_rfl) ?_
  intro w0 W μ0 hμ
  unfold parrellaw20_sets at h
  rcases itb_some h with ⟨c1, h⟩ | ⟨c1, h⟩
  · skip
    obtain rfl := Option.some.inj h
    exact run_ret mixed (L := []) (n := 20) (s := [.reg [], .reg [(4, { v := some (.bool true) })], .reg []])
      (a_ (a_ (a_ (a_ tr tr) tr) (a_ (a_ (a_ tr tr) (a_ (a_ tr tr) (a_ (a_ tr tr) (a_ (a_ tr tr) (a_ (a_ tr (a_ (leB c1) tr)) tr))))) (a_ (a_ (a_ tr tr) tr) tr))) tr) (by kernel_rfl) rfl
  · skip
    exact run_to mixed hμ (L := []) (n := 24) (s := [.reg [], .reg [(4, { v := some (.bool false) })], .reg []])
      (a_ (a_ (a_ tr tr) tr) (a_ (a_ (a_ tr tr) (a_ (a_ tr tr) (a_ (a_ tr tr) (a_ (a_ tr tr) (a_ (a_ tr (a_ (leB c1) tr)) tr))))) (a_ (a_ (a_ tr tr) (a_ (a_ tr tr) (a_ (a_ tr tr) tr))) tr))) (parrellaw20_sets_l0_ok hμ a b  big _ r h) (by kernel_rfl) trivial

theorem parrellaw20_sets_tri (a : List (Int)) (b : List (Int)) (r : (Bool)) (h : parrellaw20_sets a b = some r) : FnTri Tryd.prog 13 [.ds 1 (a).length (rowF (cInt .u64) default a), .ds 1 (b).length (rowF (cInt .u64) default b)] [] (parrellaw20_sets_v r) [] := FnTri.none (parrellaw20_sets_ok a b r h) rfl rfl

/-- parrel/parrellaw20.MissPlans -/

def parrellaw20_MissPlans_v (r : (Bool)) : LV := .bool r

def parrellaw20_MissPlans (l : List (T_parrelref20_Lock)) (x_w : List (T_api_Write)) : Option ((Bool)) :=
  (parrellaw20_far l x_w).bind fun y2 =>
  if (y2 : Bool) then
    (parrellaw20_alive).bind fun y5 =>
    some y5
  else
    (parrellaw20_theirs l).bind fun y5 =>
    (miss_Plan y5 x_w).bind fun y7 =>
    (parrelref20_Plan l x_w).bind fun y9 =>
    (parrellaw20_members y7.1 y9.1).bind fun y11 =>
    if (y11 : Bool) then
      (parrellaw20_sets y7.2.1 y9.2.1).bind fun y14 =>
      if (y14 : Bool) then
        if ((y7.2.2 == y9.2.2) : Bool) then
          (parrellaw20_theirs l).bind fun y18 =>
          (miss_Nodes y18).bind fun y20 =>
          (parrelref20_Nodes l).bind fun y22 =>
          if ((y20 == y22) : Bool) then
            (parrellaw20_alive).bind fun y25 =>
            some y25
          else
            some false
        else
          some false
      else
        some false
    else
      some false

theorem parrellaw20_MissPlans_ok (l : List (T_parrelref20_Lock)) (x_w : List (T_api_Write)) (r : (Bool)) (h : parrellaw20_MissPlans l x_w = some r) : ∀ σ, Inj 0 σ → FnTri Tryd.prog 3 (renL σ [.ds 10 (l).length (rowF c_T_parrelref20_Lock default l), .ds 21 (x_w).length (rowF c_T_api_Write default x_w)]) (preOf σ 0 []) ((parrellaw20_MissPlans_v r).ren σ) (upOf σ []) := by
  refine fn_of Tryd.func3 (by kernel_rfl) (by kernel_rfl) (by kernel_rfl) trivial (by kernel_rfl) trivial (by kernel_rfl) ?_
  intro w0 W μ0 hμ
  unfold parrellaw20_MissPlans at h
  obtain ⟨y2, e1, h⟩ := bind_some h
  rcases itb_some h with ⟨c3, h⟩ | ⟨c3, h⟩
  · skip
    obtain ⟨y5, e4, h⟩ := bind_some h
    obtain rfl := Option.some.inj h
    exact run_ret mixed (L := []) (n := 20) (s := [.reg [], .reg [(2, { call := some (parrellaw20_far_v y2, [], []), v := some (.bool true) })], .reg [(0, { call := some (parrellaw20_alive_v y5, [], []) })]])
      (a_ (a_ (a_ (a_ tr tr) tr) (a_ (a_ (a_ tr tr) (a_ (a_ tr tr) (a_ (a_ (a_ (parrellaw20_far_tri l x_w y2 e1) tr) (a_ (leB c3) tr)) tr))) (a_ (a_ (a_ (a_ (parrellaw20_alive_tri  y5 e4) tr) tr) (a_ (a_ tr tr) tr)) tr))) tr) (by kernel_rfl) rfl
  · skip
    obtain ⟨y5, e4, h⟩ := bind_some h
    obtain ⟨y7, e6, h⟩ := bind_some h
    obtain ⟨y9, e8, h⟩ := bind_some h
    obtain ⟨y11, e10, h⟩ := bind_some h
    rcases itb_some h with ⟨c12, h⟩ | ⟨c12, h⟩
    · skip
      obtain ⟨y14, e13, h⟩ := bind_some h
      rcases itb_some h with ⟨c15, h⟩ | ⟨c15, h⟩
      · skip
        rcases itb_some h with ⟨c16, h⟩ | ⟨c16, h⟩
        · skip
          obtain ⟨y18, e17, h⟩ := bind_some h
          obtain ⟨y20, e19, h⟩ := bind_some h
          obtain ⟨y22, e21, h⟩ := bind_some h
          rcases itb_some h with ⟨c23, h⟩ | ⟨c23, h⟩
          · skip
            obtain ⟨y25, e24, h⟩ := bind_some h
            obtain rfl := Option.some.inj h
            exact run_ret mixed (L := []) (n := 27) (s := [.reg [], .reg [(2, { call := some (parrellaw20_far_v y2, [], []), v := some (.bool false) })], .reg [(1, { call := some (parrellaw20_theirs_v y5, [], []) }), (3, { call := some (miss_Plan_v y7, [], []) })], .reg [(2, { call := some (parrelref20_Plan_v y9, [], []) })], .reg [(2, { call := some (parrellaw20_members_v y11, [], []) }), (3, { v := some (.bool true) }), (6, { call := some (parrellaw20_sets_v y14, [], []) }), (8, { v := some (.bool true) }), (13, { v := some (.bool true) }), (15, { call := some (parrellaw20_theirs_v y18, [], []) }), (16, { call := some (miss_Nodes_v y20, [], []) }), (18, { call := some (parrelref20_Nodes_v y22, [], []) }), (21, { v := some (.bool true) }), (22, { call := some (parrellaw20_alive_v y25, [], []) })]])
              (a_ (a_ (a_ (a_ tr tr) tr) (a_ (a_ (a_ tr tr) (a_ (a_ tr tr) (a_ (a_ (a_ (parrellaw20_far_tri l x_w y2 e1) tr) (a_ (leB c3) tr)) tr))) (a_ (a_ (a_ tr tr) (a_ (a_ (a_ (parrellaw20_theirs_tri l y5 e4) tr) tr) (a_ (a_ tr tr) (a_ (a_ (a_ (miss_Plan_tri y5 x_w y7 e6) tr) tr) (a_ (a_ tr tr) (a_ (a_ tr tr) (a_ (a_ tr tr) (a_ (a_ tr tr) (a_ (a_ tr tr) (a_ (a_ tr tr) (a_ (a_ tr tr) tr))))))))))) (a_ (a_ (a_ tr tr) (a_ (a_ tr tr) (a_ (a_ (a_ (parrelref20_Plan_tri l x_w y9 e8) tr) tr) (a_ (a_ tr tr) (a_ (a_ tr tr) (a_ (a_ tr tr) (a_ (a_ tr tr) (a_ (a_ tr tr) (a_ (a_ tr tr) (a_ (a_ tr tr) tr)))))))))) (a_ (a_ (a_ tr tr) (a_ (a_ tr tr) (a_ (a_ (a_ (parrellaw20_members_tri y7.1 y9.1 y11 e10) tr) tr) (a_ (a_ tr (a_ (leB c12) tr)) (a_ (a_ tr tr) (a_ (a_ tr tr) (a_ (a_ (a_ (parrellaw20_sets_tri y7.2.1 y9.2.1 y14 e13) tr) tr) (a_ (a_ tr tr) (a_ (a_ tr (a_ (leB c15) tr)) (a_ (a_ tr tr) (a_ (a_ tr tr) (a_ (a_ tr tr) (a_ (a_ tr tr) (a_ (a_ tr (a_ (leB c16) tr)) (a_ (a_ tr tr) (a_ (a_ (a_ (parrellaw20_theirs_tri l y18 e17) tr) tr) (a_ (a_ (a_ (miss_Nodes_tri y18 y20 e19) tr) tr) (a_ (a_ tr tr) (a_ (a_ (a_ (parrelref20_Nodes_tri l y22 e21) tr) tr) (a_ (a_ tr tr) (a_ (a_ tr tr) (a_ (a_ tr (a_ (leB c23) tr)) (a_ (a_ (a_ (parrellaw20_alive_tri  y25 e24) tr) tr) (a_ (a_ tr tr) (a_ (a_ tr tr) tr))))))))))))))))))))))))) tr))))) tr) (by kernel_rfl) rfl
          · skip
            obtain rfl := Option.some.inj h
            exact run_ret mixed (L := []) (n := 27) (s := [.reg [], .reg [(2, { call := some (parrellaw20_far_v y2, [], []), v := some (.bool false) })], .reg [(1, { call := some (parrellaw20_theirs_v y5, [], []) }), (3, { call := some (miss_Plan_v y7, [], []) })], .reg [(2, { call := some (parrelref20_Plan_v y9, [], []) })], .reg [(2, { call := some (parrellaw20_members_v y11, [], []) }), (3, { v := some (.bool true) }), (6, { call := some (parrellaw20_sets_v y14, [], []) }), (8, { v := some (.bool true) }), (13, { v := some (.bool true) }), (15, { call := some (parrellaw20_theirs_v y18, [], []) }), (16, { call := some (miss_Nodes_v y20, [], []) }), (18, { call := some (parrelref20_Nodes_v y22, [], []) }), (21, { v := some (.bool false) })]])
              (a_ (a_ (a_ (a_ tr tr) tr) (a_ (a_ (a_ tr tr) (a_ (a_ tr tr) (a_ (a_ (a_ (parrellaw20_far_tri l x_w y2 e1) tr) (a_ (leB c3) tr)) tr))) (a_ (a_ (a_ tr tr) (a_ (a_ (a_ (parrellaw20_theirs_tri l y5 e4) tr) tr) (a_ (a_ tr tr) (a_ (a_ (a_ (miss_Plan_tri y5 x_w y7 e6) tr) tr) (a_ (a_ tr tr) (a_ (a_ tr tr) (a_ (a_ tr tr) (a_ (a_ tr tr) (a_ (a_ tr tr) (a_ (a_ tr tr) (a_ (a_ tr tr) tr))))))))))) (a_ (a_ (a_ tr tr) (a_ (a_ tr tr) (a_ (a_ (a_ (parrelref20_Plan_tri l x_w y9 e8) tr) tr) (a_ (a_ tr tr) (a_ (a_ tr tr) (a_ (a_ tr tr) (a_ (a_ tr tr) (a_ (a_ tr tr) (a_ (a_ tr tr) (a_ (a_ tr tr) tr)))))))))) (a_ (a_ (a_ tr tr) (a_ (a_ tr tr) (a_ (a_ (a_ (parrellaw20_members_tri y7.1 y9.1 y11 e10) tr) tr) (a_ (a_ tr (a_ (leB c12) tr)) (a_ (a_ tr tr) (a_ (a_ tr tr) (a_ (a_ (a_ (parrellaw20_sets_tri y7.2.1 y9.2.1 y14 e13) tr) tr) (a_ (a_ tr tr) (a_ (a_ tr (a_ (leB c15) tr)) (a_ (a_ tr tr) (a_ (a_ tr tr) (a_ (a_ tr tr) (a_ (a_ tr tr) (a_ (a_ tr (a_ (leB c16) tr)) (a_ (a_ tr tr) (a_ (a_ (a_ (parrellaw20_theirs_tri l y18 e17) tr) tr) (a_ (a_ (a_ (miss_Nodes_tri y18 y20 e19) tr) tr) (a_ (a_ tr tr) (a_ (a_ (a_ (parrelref20_Nodes_tri l y22 e21) tr) tr) (a_ (a_ tr tr) (a_ (a_ tr tr) (a_ (a_ tr (a_ (leB c23) tr)) (a_ tr (a_ (a_ tr tr) (a_ (a_ tr tr) tr))))))))))))))))))))))))) tr))))) tr) (by kernel_rfl) rfl
        · skip
          obtain rfl := Option.some.inj h
          exact run_ret mixed (L := []) (n := 27) (s := [.reg [], .reg [(2, { call := some (parrellaw20_far_v y2, [], []), v := some (.bool false) })], .reg [(1, { call := some (parrellaw20_theirs_v y5, [], []) }), (3, { call := some (miss_Plan_v y7, [], []) })], .reg [(2, { call := some (parrelref20_Plan_v y9, [], []) })], .reg [(2, { call := some (parrellaw20_members_v y11, [], []) }), (3, { v := some (.bool true) }), (6, { call := some (parrellaw20_sets_v y14, [], []) }), (8, { v := some (.bool true) }), (13, { v := some (.bool false) })]])
            (a_ (a_ (a_ (a_ tr tr) tr) (a_ (a_ (a_ tr tr) (a_ (a_ tr tr) (a_ (a_ (a_ (parrellaw20_far_tri l x_w y2 e1) tr) (a_ (leB c3) tr)) tr))) (a_ (a_ (a_ tr tr) (a_ (a_ (a_ (parrellaw20_theirs_tri l y5 e4) tr) tr) (a_ (a_ tr tr) (a_ (a_ (a_ (miss_Plan_tri y5 x_w y7 e6) tr) tr) (a_ (a_ tr tr) (a_ (a_ tr tr) (a_ (a_ tr tr) (a_ (a_ tr tr) (a_ (a_ tr tr) (a_ (a_ tr tr) (a_ (a_ tr tr) tr))))))))))) (a_ (a_ (a_ tr tr) (a_ (a_ tr tr) (a_ (a_ (a_ (parrelref20_Plan_tri l x_w y9 e8) tr) tr) (a_ (a_ tr tr) (a_ (a_ tr tr) (a_ (a_ tr tr) (a_ (a_ tr tr) (a_ (a_ tr tr) (a_ (a_ tr tr) (a_ (a_ tr tr) tr)))))))))) (a_ (a_ (a_ tr tr) (a_ (a_ tr tr) (a_ (a_ (a_ (parrellaw20_members_tri y7.1 y9.1 y11 e10) tr) tr) (a_ (a_ tr (a_ (leB c12) tr)) (a_ (a_ tr tr) (a_ (a_ tr tr) (a_ (a_ (a_ (parrellaw20_sets_tri y7.2.1 y9.2.1 y14 e13) tr) tr) (a_ (a_ tr tr) (a_ (a_ tr (a_ (leB c15) tr)) (a_ (a_ tr tr) (a_ (a_ tr tr) (a_ (a_ tr tr) (a_ (a_ tr tr) (a_ (a_ tr (a_ (leB c16) tr)) (a_ tr (a_ tr (a_ tr (a_ tr (a_ tr (a_ tr (a_ (a_ tr tr) (a_ (a_ tr tr) (a_ tr (a_ (a_ tr tr) (a_ (a_ tr tr) tr))))))))))))))))))))))))) tr))))) tr) (by kernel_rfl) rfl
      · skip
        obtain rfl := Option.some.inj h
        exact run_ret mixed (L := []) (n := 27) (s := [.reg [], .reg [(2, { call := some (parrellaw20_far_v y2, [], []), v := some (.bool false) })], .reg [(1, { call := some (parrellaw20_theirs_v y5, [], []) }), (3, { call := some (miss_Plan_v y7, [], []) })], .reg [(2, { call := some (parrelref20_Plan_v y9, [], []) })], .reg [(2, { call := some (parrellaw20_members_v y11, [], []) }), (3, { v := some (.bool true) }), (6, { call := some (parrellaw20_sets_v y14, [], []) }), (8, { v := some (.bool false) })]])
          (a_ (a_ (a_ (a_ tr tr) tr) (a_ (a_ (a_ tr tr) (a_ (a_ tr tr) (a_ (a_ (a_ (parrellaw20_far_tri l x_w y2 e1) tr) (a_ (leB c3) tr)) tr))) (a_ (a_ (a_ tr tr) (a_ (a_ (a_ (parrellaw20_theirs_tri l y5 e4) tr) tr) (a_ (a_ tr tr) (a_ (a_ (a_ (miss_Plan_tri y5 x_w y7 e6) tr) tr) (a_ (a_ tr tr) (a_ (a_ tr tr) (a_ (a_ tr tr) (a_ (a_ tr tr) (a_ (a_ tr tr) (a_ (a_ tr tr) (a_ (a_ tr tr) tr))))))))))) (a_ (a_ (a_ tr tr) (a_ (a_ tr tr) (a_ (a_ (a_ (parrelref20_Plan_tri l x_w y9 e8) tr) tr) (a_ (a_ tr tr) (a_ (a_ tr tr) (a_ (a_ tr tr) (a_ (a_ tr tr) (a_ (a_ tr tr) (a_ (a_ tr tr) (a_ (a_ tr tr) tr)))))))))) (a_ (a_ (a_ tr tr) (a_ (a_ tr tr) (a_ (a_ (a_ (parrellaw20_members_tri y7.1 y9.1 y11 e10) tr) tr) (a_ (a_ tr (a_ (leB c12) tr)) (a_ (a_ tr tr) (a_ (a_ tr tr) (a_ (a_ (a_ (parrellaw20_sets_tri y7.2.1 y9.2.1 y14 e13) tr) tr) (a_ (a_ tr tr) (a_ (a_ tr (a_ (leB c15) tr)) (a_ tr (a_ tr (a_ tr (a_ (a_ tr tr) (a_ (a_ tr tr) (a_ tr (a_ tr (a_ tr (a_ tr (a_ tr (a_ tr (a_ (a_ tr tr) (a_ (a_ tr tr) (a_ tr (a_ (a_ tr tr) (a_ (a_ tr tr) tr))))))))))))))))))))))))) tr))))) tr) (by kernel_rfl) rfl
    · skip
      obtain rfl := Option.some.inj h
      exact run_ret mixed (L := []) (n := 27) (s := [.reg [], .reg [(2, { call := some (parrellaw20_far_v y2, [], []), v := some (.bool false) })], .reg [(1, { call := some (parrellaw20_theirs_v y5, [], []) }), (3, { call := some (miss_Plan_v y7, [], []) })], .reg [(2, { call := some (parrelref20_Plan_v y9, [], []) })], .reg [(2, { call := some (parrellaw20_members_v y11, [], []) }), (3, { v := some (.bool false) })]])
        (a_ (a_ (a_ (a_ tr tr) tr) (a_ (a_ (a_ tr tr) (a_ (a_ tr tr) (a_ (a_ (a_ (parrellaw20_far_tri l x_w y2 e1) tr) (a_ (leB c3) tr)) tr))) (a_ (a_ (a_ tr tr) (a_ (a_ (a_ (parrellaw20_theirs_tri l y5 e4) tr) tr) (a_ (a_ tr tr) (a_ (a_ (a_ (miss_Plan_tri y5 x_w y7 e6) tr) tr) (a_ (a_ tr tr) (a_ (a_ tr tr) (a_ (a_ tr tr) (a_ (a_ tr tr) (a_ (a_ tr tr) (a_ (a_ tr tr) (a_ (a_ tr tr) tr))))))))))) (a_ (a_ (a_ tr tr) (a_ (a_ tr tr) (a_ (a_ (a_ (parrelref20_Plan_tri l x_w y9 e8) tr) tr) (a_ (a_ tr tr) (a_ (a_ tr tr) (a_ (a_ tr tr) (a_ (a_ tr tr) (a_ (a_ tr tr) (a_ (a_ tr tr) (a_ (a_ tr tr) tr)))))))))) (a_ (a_ (a_ tr tr) (a_ (a_ tr tr) (a_ (a_ (a_ (parrellaw20_members_tri y7.1 y9.1 y11 e10) tr) tr) (a_ (a_ tr (a_ (leB c12) tr)) (a_ tr (a_ tr (a_ tr (a_ (a_ tr tr) (a_ (a_ tr tr) (a_ tr (a_ tr (a_ tr (a_ (a_ tr tr) (a_ (a_ tr tr) (a_ tr (a_ tr (a_ tr (a_ tr (a_ tr (a_ tr (a_ (a_ tr tr) (a_ (a_ tr tr) (a_ tr (a_ (a_ tr tr) (a_ (a_ tr tr) tr))))))))))))))))))))))))) tr))))) tr) (by kernel_rfl) rfl

theorem parrellaw20_MissPlans_tri (l : List (T_parrelref20_Lock)) (x_w : List (T_api_Write)) (r : (Bool)) (h : parrellaw20_MissPlans l x_w = some r) : FnTri Tryd.prog 3 [.ds 10 (l).length (rowF c_T_parrelref20_Lock default l), .ds 21 (x_w).length (rowF c_T_api_Write default x_w)] [] (parrellaw20_MissPlans_v r) [] := FnTri.none (parrellaw20_MissPlans_ok l x_w r h) rfl rfl

end
end Go.Proofs.YtdjmfgknonkojaaDoor.Wk
