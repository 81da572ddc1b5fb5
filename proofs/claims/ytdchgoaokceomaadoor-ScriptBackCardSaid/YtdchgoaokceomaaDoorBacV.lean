/- Printed by tr.py: Go functions as Lean functions, with the proofs that they walk so. -/
import Derived.Test.YtdchgoaokceomaaDoorBacVb
namespace Go.Proofs.YtdchgoaokceomaaDoor.Wk
open Go Go.Cn Go.RowKit
set_option maxRecDepth 100000
set_option maxHeartbeats 4000000
set_option linter.unusedVariables false
set_option linter.unusedSimpArgs false
noncomputable section
/-- parrel/script.All -/

def script_All_v (r : (List (T_script_Step)) × (T_api_Fault)) : LV := .tup [.ds 25 (r.1).length (rowF c_T_script_Step default r.1), v_T_api_Fault r.2]

def script_All_T0  (text2 : List UInt8) (l : List (T_script_Step)) : List LV := [.str text2, .any, .any, .ptr 0 0 0, .gs 1 (l).length, .any, .any, .any, .any, .any, .any, .any, .any, .any, .any, .any, .any, .any, .any, .any, .any, .any, .any, .any, .any, .any, .any, .any, .any, .any, .any, .any, .any, .any, .any, .any, .any, .any, .any, .any, .any, .any, .any, .any, .any, .any, .any, .any]

def script_All_H0  (text2 : List UInt8) (l : List (T_script_Step)) : Heap := [some (.var (c_T_api_Fault (T_api_Fault.mk 0 0))), some (.gr 25 (l).length (rowF c_T_script_Step default l))]

def script_All_l0   : Nat → (List UInt8) → (List (T_script_Step)) → Option ((List (T_script_Step)) × (T_api_Fault))
  | 0, _, _ => none
  | fuel + 1, text2, l =>
    if ((!(text2 == [])) : Bool) then
      if ((((l).length : Int) == 4096) : Bool) then
        some (([] : List (T_script_Step)), (T_api_Fault.mk 5 ((l).length : Int)))
      else
        (strings_Cut text2).bind fun yL0_4 =>
        (script_Parse yL0_4.1).bind fun yL0_6 =>
        if ((yL0_6.2 == 0) : Bool) then
          if ((!yL0_4.2.2) : Bool) then
            some (([] : List (T_script_Step)), (T_api_Fault.mk 3 ((l).length : Int)))
          else
            if ((yL0_6.2 != 0) : Bool) then
              some (([] : List (T_script_Step)), (T_api_Fault.mk yL0_6.2 ((l).length : Int)))
            else
              if ((l).length + (([yL0_6.1] : List (T_script_Step))).length) * 152 ≤ 140737488351232 then
              script_All_l0   fuel yL0_4.2.1 (l ++ ([yL0_6.1] : List (T_script_Step)))
              else none
        else
          if ((yL0_6.2 != 0) : Bool) then
            some (([] : List (T_script_Step)), (T_api_Fault.mk yL0_6.2 ((l).length : Int)))
          else
            if ((l).length + (([yL0_6.1] : List (T_script_Step))).length) * 152 ≤ 140737488351232 then
            script_All_l0   fuel yL0_4.2.1 (l ++ ([yL0_6.1] : List (T_script_Step)))
            else none
    else
      some (l, (T_api_Fault.mk 0 0))

def script_All (text : List UInt8) : Option ((List (T_script_Step)) × (T_api_Fault)) :=
  script_All_l0   big text ([] : List (T_script_Step))

theorem script_All_l0_ok {w0 : World} {W : Nat → Prop} {μ0 : Emb} (hμ : ∀ c p, μ0 c = some p → c < 0)   : ∀ (fuel : Nat) (text2 : List UInt8) (l : List (T_script_Step)) (r : (List (T_script_Step)) × (T_api_Fault)), script_All_l0   fuel text2 l = some r → kont Tryd.prog w0 W μ0 (FnPost Tryd.prog Tryd.f16 0 0 (script_All_v r) []) (kAt (bodyOf Tryd.f16) 0) none (script_All_T0  text2 l) (script_All_H0  text2 l) := by
  intro fuel
  induction fuel with
  | zero => intro text2 l r h; rw [script_All_l0] at h; cases h
  | succ fuel ih =>
    intro text2 l r h
    rw [script_All_l0] at h
    rcases itb_some h with ⟨cL0_1, h⟩ | ⟨cL0_1, h⟩
    · skip
      rcases itb_some h with ⟨cL0_2, h⟩ | ⟨cL0_2, h⟩
      · skip
        obtain rfl := Option.some.inj h
        exact run_ret mixed (L := []) (n := 25) (s := [.go, .reg [(1, hT)], .reg [(2, hT)], .reg [(3, { v := some (.ds 25 (([] : List (T_script_Step))).length (rowF c_T_script_Step default ([] : List (T_script_Step)))) })]])
          (a_ (a_ (r1_ (f_ cL0_1 tr)) (a_ (r2_ (f_ cL0_2 tr)) (a_ (r2_ (a_ (a_ (Eq.refl true) tr) (a_ (a_ tr (a_ (le_nil_ds 25 (rowF c_T_script_Step default [])) tr)) (a_ (a_ (a_ (Eq.refl 2) (a_ (le_ 2 2 rfl) (Eq.refl 0))) tr) tr)))) tr))) (a_ (a_ tr (le_ 2 2 rfl)) tr)) (by kernel_rfl) rfl
      · skip
        obtain ⟨yL0_4, eL0_3, h⟩ := bind_some h
        obtain ⟨yL0_6, eL0_5, h⟩ := bind_some h
        rcases itb_some h with ⟨cL0_7, h⟩ | ⟨cL0_7, h⟩
        · skip
          rcases itb_some h with ⟨cL0_8, h⟩ | ⟨cL0_8, h⟩
          · skip
            obtain rfl := Option.some.inj h
            exact run_ret mixed (L := []) (n := 44) (s := [.go, .reg [(1, hT)], .reg [(2, hF)], .reg [(1, hC (strings_Cut_v yL0_4))], .reg [(1, hC (script_Parse_v yL0_6))], .reg [(2, hT), (5, hT)], .reg [], .reg [], .reg [(4, { v := some (.ds 25 (([] : List (T_script_Step))).length (rowF c_T_script_Step default ([] : List (T_script_Step)))) })]])
              (a_ (a_ (r1_ (f_ cL0_1 tr)) (a_ (r2_ (f_ cL0_2 tr)) (a_ (r1_ (c_ (strings_Cut_tri text2 yL0_4 eL0_3) (r1_ (r2_ (r4_ tr))))) (a_ (r1_ (c_ (script_Parse_tri yL0_4.1 yL0_6 eL0_5) (r4_ (a_ (a_ (a_ (Eq.refl 25) (a_ (le_ 25 25 rfl) (Eq.refl 0))) tr) (r1_ tr))))) (a_ (r2_ (f_ cL0_7 (r2_ (f_ cL0_8 tr)))) (a_ (r1_ tr) (a_ (r2_ tr) (a_ (r1_ (r2_ (a_ (a_ (Eq.refl true) tr) (a_ (a_ tr (a_ (le_nil_ds 25 (rowF c_T_script_Step default [])) tr)) (a_ (a_ (a_ (Eq.refl 2) (a_ (le_ 2 2 rfl) (Eq.refl 0))) tr) tr))))) tr)))))))) (a_ (a_ tr (le_ 2 2 rfl)) tr)) (by kernel_rfl) rfl
          · skip
            rcases itb_some h with ⟨cL0_9, h⟩ | ⟨cL0_9, h⟩
            · skip
              obtain rfl := Option.some.inj h
              exact run_ret mixed (L := []) (n := 43) (s := [.go, .reg [(1, hT)], .reg [(2, hF)], .reg [(1, hC (strings_Cut_v yL0_4))], .reg [(1, hC (script_Parse_v yL0_6))], .reg [(2, hT), (5, hF)], .reg [(1, hT)], .reg [(4, { v := some (.ds 25 (([] : List (T_script_Step))).length (rowF c_T_script_Step default ([] : List (T_script_Step)))) })]])
                (a_ (a_ (r1_ (f_ cL0_1 tr)) (a_ (r2_ (f_ cL0_2 tr)) (a_ (r1_ (c_ (strings_Cut_tri text2 yL0_4 eL0_3) (r1_ (r2_ (r4_ tr))))) (a_ (r1_ (c_ (script_Parse_tri yL0_4.1 yL0_6 eL0_5) (r4_ (a_ (a_ (a_ (Eq.refl 25) (a_ (le_ 25 25 rfl) (Eq.refl 0))) tr) (r1_ tr))))) (a_ (r2_ (f_ cL0_7 (r2_ (f_ cL0_8 tr)))) (a_ (r1_ (f_ cL0_9 tr)) (a_ (r1_ (r2_ (a_ (a_ (Eq.refl true) tr) (a_ (a_ tr (a_ (le_nil_ds 25 (rowF c_T_script_Step default [])) tr)) (a_ (a_ (a_ (Eq.refl 2) (a_ (le_ 2 2 rfl) (Eq.refl 0))) tr) tr))))) tr))))))) (a_ (a_ tr (le_ 2 2 rfl)) tr)) (by kernel_rfl) rfl
            · skip
              obtain ⟨gL0_10, h⟩ := guard_some h
              exact run_to mixed hμ (L := [0, 4]) (n := 47) (s := [.go, .reg [(1, hT)], .reg [(2, hF)], .reg [(1, hC (strings_Cut_v yL0_4))], .reg [(1, hC (script_Parse_v yL0_6))], .reg [(2, hT), (5, hF)], .reg [(1, hF)], .reg [(2, { os := [(3, .gr 25 (([yL0_6.1] : List (T_script_Step))).length (rowF c_T_script_Step default ([yL0_6.1] : List (T_script_Step))))], v := some (.gs 3 (([yL0_6.1] : List (T_script_Step))).length) }), (3, { app := 3, os := [(4, .gr 25 ((l ++ ([yL0_6.1] : List (T_script_Step)))).length (rowF c_T_script_Step default (l ++ ([yL0_6.1] : List (T_script_Step)))))], v := some (.gs 4 ((l ++ ([yL0_6.1] : List (T_script_Step)))).length) })], .reg []])
                (a_ (r1_ (f_ cL0_1 tr)) (a_ (r2_ (f_ cL0_2 tr)) (a_ (r1_ (c_ (strings_Cut_tri text2 yL0_4 eL0_3) (r1_ (r2_ (r4_ tr))))) (a_ (r1_ (c_ (script_Parse_tri yL0_4.1 yL0_6 eL0_5) (r4_ (a_ (a_ (a_ (Eq.refl 25) (a_ (le_ 25 25 rfl) (Eq.refl 0))) tr) (r1_ tr))))) (a_ (r2_ (f_ cL0_7 (r2_ (f_ cL0_8 tr)))) (a_ (r1_ (f_ cL0_9 tr)) (a_ (r1_ (m_ 25 25 rfl (a_ (a_ (a_ (Eq.refl true) (a_ (Eq.refl 25) (a_ (lt_ 0 25 rfl) (le_ 25 16777216 rfl)))) (a_ (le_sl_gs 3 1 (some 1) rfl) (a_ (sub_lit c_T_script_Step default 25 (fun _ => rfl) ([yL0_6.1] : List (T_script_Step))) tr))) (a_ (a_ (a_ (a_ (Eq.refl 25) (Nat.le_refl (([yL0_6.1] : List (T_script_Step))).length)) (a_ (a_ (lt_ 0 25 rfl) (a_ (lt_ 0 152 rfl) (a_ gL0_10 (a_ (Eq.refl 25) (Eq.refl true))))) (a_ (Eq.refl 25) (Nat.le_refl (l).length)))) (a_ (le_gs_app 4 l ([yL0_6.1] : List (T_script_Step))) (a_ (sub_app c_T_script_Step default 25 l ([yL0_6.1] : List (T_script_Step))) tr))) (r1_ tr))))) (a_ (r2_ tr) tr)))))))) (ih _ _ r h) (by kernel_rfl) ⟨rfl, fun _ _ => rfl, trivial⟩
        · skip
          rcases itb_some h with ⟨cL0_8, h⟩ | ⟨cL0_8, h⟩
          · skip
            obtain rfl := Option.some.inj h
            exact run_ret mixed (L := []) (n := 43) (s := [.go, .reg [(1, hT)], .reg [(2, hF)], .reg [(1, hC (strings_Cut_v yL0_4))], .reg [(1, hC (script_Parse_v yL0_6))], .reg [(2, hF)], .reg [(1, hT)], .reg [(4, { v := some (.ds 25 (([] : List (T_script_Step))).length (rowF c_T_script_Step default ([] : List (T_script_Step)))) })]])
              (a_ (a_ (r1_ (f_ cL0_1 tr)) (a_ (r2_ (f_ cL0_2 tr)) (a_ (r1_ (c_ (strings_Cut_tri text2 yL0_4 eL0_3) (r1_ (r2_ (r4_ tr))))) (a_ (r1_ (c_ (script_Parse_tri yL0_4.1 yL0_6 eL0_5) (r4_ (a_ (a_ (a_ (Eq.refl 25) (a_ (le_ 25 25 rfl) (Eq.refl 0))) tr) (r1_ tr))))) (a_ (r2_ (f_ cL0_7 (t2_ (r1_ tr)))) (a_ (r1_ (f_ cL0_8 tr)) (a_ (r1_ (r2_ (a_ (a_ (Eq.refl true) tr) (a_ (a_ tr (a_ (le_nil_ds 25 (rowF c_T_script_Step default [])) tr)) (a_ (a_ (a_ (Eq.refl 2) (a_ (le_ 2 2 rfl) (Eq.refl 0))) tr) tr))))) tr))))))) (a_ (a_ tr (le_ 2 2 rfl)) tr)) (by kernel_rfl) rfl
          · skip
            obtain ⟨gL0_9, h⟩ := guard_some h
            exact run_to mixed hμ (L := [0, 4]) (n := 47) (s := [.go, .reg [(1, hT)], .reg [(2, hF)], .reg [(1, hC (strings_Cut_v yL0_4))], .reg [(1, hC (script_Parse_v yL0_6))], .reg [(2, hF)], .reg [(1, hF)], .reg [(2, { os := [(3, .gr 25 (([yL0_6.1] : List (T_script_Step))).length (rowF c_T_script_Step default ([yL0_6.1] : List (T_script_Step))))], v := some (.gs 3 (([yL0_6.1] : List (T_script_Step))).length) }), (3, { app := 3, os := [(4, .gr 25 ((l ++ ([yL0_6.1] : List (T_script_Step)))).length (rowF c_T_script_Step default (l ++ ([yL0_6.1] : List (T_script_Step)))))], v := some (.gs 4 ((l ++ ([yL0_6.1] : List (T_script_Step)))).length) })], .reg []])
              (a_ (r1_ (f_ cL0_1 tr)) (a_ (r2_ (f_ cL0_2 tr)) (a_ (r1_ (c_ (strings_Cut_tri text2 yL0_4 eL0_3) (r1_ (r2_ (r4_ tr))))) (a_ (r1_ (c_ (script_Parse_tri yL0_4.1 yL0_6 eL0_5) (r4_ (a_ (a_ (a_ (Eq.refl 25) (a_ (le_ 25 25 rfl) (Eq.refl 0))) tr) (r1_ tr))))) (a_ (r2_ (f_ cL0_7 (t2_ (r1_ tr)))) (a_ (r1_ (f_ cL0_8 tr)) (a_ (r1_ (m_ 25 25 rfl (a_ (a_ (a_ (Eq.refl true) (a_ (Eq.refl 25) (a_ (lt_ 0 25 rfl) (le_ 25 16777216 rfl)))) (a_ (le_sl_gs 3 1 (some 1) rfl) (a_ (sub_lit c_T_script_Step default 25 (fun _ => rfl) ([yL0_6.1] : List (T_script_Step))) tr))) (a_ (a_ (a_ (a_ (Eq.refl 25) (Nat.le_refl (([yL0_6.1] : List (T_script_Step))).length)) (a_ (a_ (lt_ 0 25 rfl) (a_ (lt_ 0 152 rfl) (a_ gL0_9 (a_ (Eq.refl 25) (Eq.refl true))))) (a_ (Eq.refl 25) (Nat.le_refl (l).length)))) (a_ (le_gs_app 4 l ([yL0_6.1] : List (T_script_Step))) (a_ (sub_app c_T_script_Step default 25 l ([yL0_6.1] : List (T_script_Step))) tr))) (r1_ tr))))) (a_ (r2_ tr) tr)))))))) (ih _ _ r h) (by kernel_rfl) ⟨rfl, fun _ _ => rfl, trivial⟩
    · skip
      obtain rfl := Option.some.inj h
      exact run_ret mixed (L := []) (n := 20) (s := [.go, .reg [(1, hF)], .reg [], .frz 1])
        (a_ (a_ (r1_ (f_ cL0_1 tr)) (a_ (r1_ (a_ (a_ (Eq.refl true) tr) (r1_ (a_ (a_ (a_ (Eq.refl 2) (a_ (le_ 2 2 rfl) (Eq.refl 0))) tr) tr)))) (a_ (a_ (fz_row (enc := c_T_script_Step) (d := default) (fun _ => rfl) l) (a_ (Nat.le_refl (l).length) (a_ (Nat.le_refl (l).length) (a_ (Nat.le_refl (l).length) tr)))) tr))) (a_ (a_ tr (le_ 2 2 rfl)) tr)) (by kernel_rfl) rfl

theorem script_All_ok (text : List UInt8) (r : (List (T_script_Step)) × (T_api_Fault)) (h : script_All text = some r) : ∀ σ, Inj 0 σ → FnTri Tryd.prog 16 (renL σ [.str text]) (preOf σ 0 []) ((script_All_v r).ren σ) (upOf σ []) := by
  refine fn_of Tryd.func16 (by kernel_rfl) (by kernel_rfl) (by kernel_rfl) trivial (by kernel_rfl) trivial (by kernel_rfl) ?_
  intro w0 W μ0 hμ
  unfold script_All at h
  exact run_to mixed hμ (L := [0, 1]) (n := 19) (s := [.reg [(0, { v := some (.ds 25 (([] : List (T_script_Step))).length (rowF c_T_script_Step default ([] : List (T_script_Step)))) })], .void (.gr 25 (([] : List (T_script_Step))).length (rowF c_T_script_Step default ([] : List (T_script_Step)))), .reg [(0, { v := some (.gs 1 (([] : List (T_script_Step))).length) })]])
    (a_ (a_ (a_ tr (a_ (le_nil_ds 25 (rowF c_T_script_Step default [])) tr)) (r1_ tr)) (a_ (Eq.refl 0) (a_ (a_ (a_ tr (a_ (le_nil_gs 1) tr)) tr) tr))) (script_All_l0_ok hμ   big _ _ r h) (by kernel_rfl) ⟨rfl, fun _ _ => rfl, trivial⟩

theorem script_All_tri (text : List UInt8) (r : (List (T_script_Step)) × (T_api_Fault)) (h : script_All text = some r) : FnTri Tryd.prog 16 [.str text] [] (script_All_v r) [] := FnTri.none (script_All_ok text r h) rfl rfl

/-- parrel/parrellaw27.ScriptBack -/

def parrellaw27_ScriptBack_v (r : (Bool)) : LV := .bool r

def parrellaw27_ScriptBack_T1000022   : List LV := [.any, .any, .any, .any, .any, .any, .any, .any, .any, .any, .any, .any, .any, .any, .any, .any, .any, .any, .any, .any, .any, .any, .any, .any, .any, .any, .any, .any, .any, .any, .any, .any, .any, .any, .any, .any, .any, .any, .any, .any, .any, .any, .any, .any, .any, .any, .any, .any, .any, .any, .any, .any, .any, .any, .any, .any, .any, .any, .any, .any, .any, .any, .any, .any, .any, .any, .any, .any, .any, .any, .any, .any, .any, .any, .any, .any, .any, .any, .any, .any, .any, .any, .any, .any, .any, .any, .any, .any, .any, .any, .any, .any, .any, .any, .any, .any, .any, .any, .any, .any, .any, .any, .any, .any, .any, .any, .any, .any, .any, .any, .any, .any]

def parrellaw27_ScriptBack_H1000022   : Heap := []

def parrellaw27_ScriptBack_T1 (l2 : List (T_script_Step)) (yL0_5 : (List (T_script_Step)) × (T_api_Fault)) (t97 : Int) : List LV := [.any, .any, .any, .ds 25 (l2).length (rowF c_T_script_Step default l2), .any, .any, .any, .any, .any, .any, .any, .any, .any, .ds 25 (yL0_5.1).length (rowF c_T_script_Step default yL0_5.1), .any, .any, .any, .any, .any, .any, .any, .any, .any, .any, .any, .any, .any, .any, .any, .any, .any, .any, .any, .any, .any, .any, .any, .any, .any, .any, .any, .any, .any, .any, .any, .any, .any, .any, .any, .any, .any, .any, .any, .any, .any, .any, .any, .any, .any, .any, .any, .any, .any, .any, .any, .any, .any, .any, .any, .any, .any, .any, .any, .any, .any, .any, .any, .any, .any, .any, .any, .any, .any, .any, .any, .any, .any, .any, .any, .any, .any, .any, .any, .any, .any, .any, .int .i64 ((yL0_5.1).length : Int), .int .i64 t97, .any, .any, .any, .any, .any, .any, .any, .any, .any, .any, .any, .any, .any, .any]

def parrellaw27_ScriptBack_H1 (l2 : List (T_script_Step)) (yL0_5 : (List (T_script_Step)) × (T_api_Fault)) (t97 : Int) : Heap := []

def parrellaw27_ScriptBack_T1000023 (l2 : List (T_script_Step)) (yL0_5 : (List (T_script_Step)) × (T_api_Fault))  : List LV := [.any, .any, .any, .ds 25 (l2).length (rowF c_T_script_Step default l2), .any, .any, .any, .any, .any, .any, .any, .any, .any, .ds 25 (yL0_5.1).length (rowF c_T_script_Step default yL0_5.1), .any, .any, .any, .any, .any, .any, .any, .any, .any, .any, .any, .any, .any, .any, .any, .any, .any, .any, .any, .any, .any, .any, .any, .any, .any, .any, .any, .any, .any, .any, .any, .any, .any, .any, .any, .any, .any, .any, .any, .any, .any, .any, .any, .any, .any, .any, .any, .any, .any, .any, .any, .any, .any, .any, .any, .any, .any, .any, .any, .any, .any, .any, .any, .any, .any, .any, .any, .any, .any, .any, .any, .any, .any, .any, .any, .any, .any, .any, .any, .any, .any, .any, .any, .any, .any, .any, .any, .any, .any, .any, .any, .any, .any, .any, .any, .any, .any, .any]

def parrellaw27_ScriptBack_H1000023 (l2 : List (T_script_Step)) (yL0_5 : (List (T_script_Step)) × (T_api_Fault))  : Heap := []

def parrellaw27_ScriptBack_T0 (l : List (T_parrelref27_Step)) (t22 : Int) (l2 : List (T_script_Step)) : List LV := [.any, .any, .any, .gs 0 (l2).length, .any, .any, .any, .any, .any, .any, .any, .any, .any, .any, .any, .any, .any, .any, .any, .any, .ds 25 (l).length (rowF c_T_parrelref27_Step default l), .int .i64 ((l).length : Int), .int .i64 t22, .any, .any, .any, .any, .any, .any, .any, .any, .any, .any, .any, .any, .any, .any, .any, .any, .any, .any, .any, .any, .any, .any, .any, .any, .any, .any, .any, .any, .any, .any, .any, .any, .any, .any, .any, .any, .any, .any, .any, .any, .any, .any, .any, .any, .any, .any, .any, .any, .any, .any, .any, .any, .any, .any, .any, .any, .any, .any, .any, .any, .any, .any, .any, .any, .any, .any, .any, .any, .any, .any, .any, .any, .any, .any, .any, .any, .any, .any, .any, .any, .any, .any, .any, .any, .any, .any, .any, .any, .any]

def parrellaw27_ScriptBack_H0 (l : List (T_parrelref27_Step)) (t22 : Int) (l2 : List (T_script_Step)) : Heap := [some (.gr 25 (l2).length (rowF c_T_script_Step default l2))]

def parrellaw27_ScriptBack_c22    : Option ((Bool)) :=
  some false

def parrellaw27_ScriptBack_l1 (l2 : List (T_script_Step)) (yL0_5 : (List (T_script_Step)) × (T_api_Fault))  : Nat → (Int) → Option ((Bool))
  | 0, _ => none
  | fuel + 1, t97 =>
    if ((decide (t97 < ((yL0_5.1).length : Int))) : Bool) then
      if 0 ≤ t97 ∧ t97 < (((yL0_5.1).length : Nat) : Int) then
      if 0 ≤ t97 ∧ t97 < (((l2).length : Nat) : Int) then
      (script_Same (yL0_5.1.getD t97.toNat default) (l2.getD t97.toNat default)).bind fun yL1_5 =>
      if ((!yL1_5) : Bool) then
        some false
      else
        parrellaw27_ScriptBack_l1 l2 yL0_5  fuel (IntKind.wrap .i64 (t97 + 1))
      else none
      else none
    else
      (parrellaw27_alive).bind fun yL1_3 =>
      some yL1_3

def parrellaw27_ScriptBack_c23 (l2 : List (T_script_Step)) (yL0_5 : (List (T_script_Step)) × (T_api_Fault))   : Option ((Bool)) :=
  parrellaw27_ScriptBack_l1 l2 yL0_5  big 0

def parrellaw27_ScriptBack_l0 (l : List (T_parrelref27_Step))  : Nat → (Int) → (List (T_script_Step)) → Option ((Bool))
  | 0, _, _ => none
  | fuel + 1, t22, l2 =>
    if ((decide (t22 < ((l).length : Int))) : Bool) then
      if 0 ≤ t22 ∧ t22 < (((l).length : Nat) : Int) then
      (parrellaw27_long (l.getD t22.toNat default)).bind fun yL0_4 =>
      if (yL0_4 : Bool) then
        (parrellaw27_alive).bind fun yL0_7 =>
        some yL0_7
      else
        (parrellaw27_theirs (l.getD t22.toNat default)).bind fun yL0_8 =>
        (script_Line yL0_8).bind fun yL0_10 =>
        if ((yL0_10.2 != 0) : Bool) then
          if ((yL0_10.2 != 1) : Bool) then
            some false
          else
            if ((!(yL0_10.1 == [])) : Bool) then
              some false
            else
              (script_May yL0_8).bind fun yL0_15 =>
              if (yL0_15 : Bool) then
                some false
              else
                parrellaw27_ScriptBack_l0 l  fuel (IntKind.wrap .i64 (t22 + 1)) l2
        else
          (script_Parse yL0_10.1).bind fun yL0_13 =>
          if ((yL0_13.2 != 0) : Bool) then
            some false
          else
            (script_Same yL0_8 yL0_13.1).bind fun yL0_16 =>
            if ((!yL0_16) : Bool) then
              some false
            else
              (script_May yL0_8).bind fun yL0_19 =>
              if ((!yL0_19) : Bool) then
                some false
              else
                if ((l2).length + (([yL0_8] : List (T_script_Step))).length) * 152 ≤ 140737488351232 then
                parrellaw27_ScriptBack_l0 l  fuel (IntKind.wrap .i64 (t22 + 1)) (l2 ++ ([yL0_8] : List (T_script_Step)))
                else none
      else none
    else
      (script_Text l2).bind fun yL0_3 =>
      (script_All yL0_3.1).bind fun yL0_5 =>
      if ((yL0_3.2 != 0) : Bool) then
        parrellaw27_ScriptBack_c22   
      else
        if ((!decide (yL0_5.2 = (T_api_Fault.mk 0 0))) : Bool) then
          parrellaw27_ScriptBack_c22   
        else
          if ((((yL0_5.1).length : Int) != ((l2).length : Int)) : Bool) then
            parrellaw27_ScriptBack_c22   
          else
            parrellaw27_ScriptBack_c23 l2 yL0_5  

def parrellaw27_ScriptBack (l : List (T_parrelref27_Step)) : Option ((Bool)) :=
  if ((decide (30 < ((l).length : Int))) : Bool) then
    (parrellaw27_alive).bind fun y3 =>
    some y3
  else
    parrellaw27_ScriptBack_l0 l  big 0 ([] : List (T_script_Step))

theorem parrellaw27_ScriptBack_c22_ok {w0 : World} {W : Nat → Prop} {μ0 : Emb} (hμ : ∀ c p, μ0 c = some p → c < 0)    (r : (Bool)) (h : parrellaw27_ScriptBack_c22    = some r) : kont Tryd.prog w0 W μ0 (FnPost Tryd.prog Tryd.f5 0 0 (parrellaw27_ScriptBack_v r) []) (kAtR (bodyOf Tryd.f5) 22) none (parrellaw27_ScriptBack_T1000022  ) (parrellaw27_ScriptBack_H1000022  ) := by
  unfold parrellaw27_ScriptBack_c22 at h
  obtain rfl := Option.some.inj h
  exact run_ret mixed (L := []) (n := 11) (s := [.reg []])
    (a_ (a_ (r1_ tr) tr) tr) (by kernel_rfl) rfl

theorem parrellaw27_ScriptBack_l1_ok {w0 : World} {W : Nat → Prop} {μ0 : Emb} (hμ : ∀ c p, μ0 c = some p → c < 0) (l2 : List (T_script_Step)) (yL0_5 : (List (T_script_Step)) × (T_api_Fault))  : ∀ (fuel : Nat) (t97 : Int) (r : (Bool)), parrellaw27_ScriptBack_l1 l2 yL0_5  fuel t97 = some r → kont Tryd.prog w0 W μ0 (FnPost Tryd.prog Tryd.f5 0 0 (parrellaw27_ScriptBack_v r) []) (kAt (bodyOf Tryd.f5) 1) none (parrellaw27_ScriptBack_T1 l2 yL0_5 t97) (parrellaw27_ScriptBack_H1 l2 yL0_5 t97) := by
  intro fuel
  induction fuel with
  | zero => intro t97 r h; rw [parrellaw27_ScriptBack_l1] at h; cases h
  | succ fuel ih =>
    intro t97 r h
    rw [parrellaw27_ScriptBack_l1] at h
    rcases itb_some h with ⟨cL1_1, h⟩ | ⟨cL1_1, h⟩
    · skip
      obtain ⟨gL1_2, h⟩ := guard_some h
      obtain ⟨gL1_3, h⟩ := guard_some h
      obtain ⟨yL1_5, eL1_4, h⟩ := bind_some h
      rcases itb_some h with ⟨cL1_6, h⟩ | ⟨cL1_6, h⟩
      · skip
        obtain rfl := Option.some.inj h
        exact run_ret mixed (L := []) (n := 28) (s := [.go, .reg [(0, hT)], .reg [], .reg [(8, hC (script_Same_v yL1_5)), (9, hT)], .reg []])
          (a_ (a_ (f_ cL1_1 tr) (a_ (r2_ tr) (a_ (r2_ (a_ (a_ (a_ (Eq.refl 25) gL1_2) tr) (a_ (a_ (le_ 25 25 rfl) tr) (r2_ (a_ (a_ (a_ (Eq.refl 25) gL1_3) tr) (a_ (a_ (le_ 25 25 rfl) tr) (a_ (a_ (a_ (script_Same_tri (yL0_5.1.getD t97.toNat default) (l2.getD t97.toNat default) yL1_5 eL1_4) tr) tr) (f_ cL1_6 tr)))))))) (a_ (r1_ tr) tr)))) tr) (by kernel_rfl) rfl
      · skip
        exact run_to mixed hμ (L := []) (n := 29) (s := [.go, .reg [(0, hT)], .reg [], .reg [(8, hC (script_Same_v yL1_5)), (9, hF)], .reg []])
          (a_ (f_ cL1_1 tr) (a_ (r2_ tr) (a_ (r2_ (a_ (a_ (a_ (Eq.refl 25) gL1_2) tr) (a_ (a_ (le_ 25 25 rfl) tr) (r2_ (a_ (a_ (a_ (Eq.refl 25) gL1_3) tr) (a_ (a_ (le_ 25 25 rfl) tr) (a_ (a_ (a_ (script_Same_tri (yL0_5.1.getD t97.toNat default) (l2.getD t97.toNat default) yL1_5 eL1_4) tr) tr) (f_ cL1_6 tr)))))))) (a_ (r2_ tr) tr)))) (ih _ r h) (by kernel_rfl) trivial
    · skip
      obtain ⟨yL1_3, eL1_2, h⟩ := bind_some h
      obtain rfl := Option.some.inj h
      exact run_ret mixed (L := []) (n := 19) (s := [.go, .reg [(0, hF)], .reg [(0, hC (parrellaw27_alive_v yL1_3))]])
        (a_ (a_ (f_ cL1_1 tr) (a_ (c_ (parrellaw27_alive_tri  yL1_3 eL1_2) (r1_ tr)) tr)) tr) (by kernel_rfl) rfl

theorem parrellaw27_ScriptBack_c23_ok {w0 : World} {W : Nat → Prop} {μ0 : Emb} (hμ : ∀ c p, μ0 c = some p → c < 0) (l2 : List (T_script_Step)) (yL0_5 : (List (T_script_Step)) × (T_api_Fault))   (r : (Bool)) (h : parrellaw27_ScriptBack_c23 l2 yL0_5   = some r) : kont Tryd.prog w0 W μ0 (FnPost Tryd.prog Tryd.f5 0 0 (parrellaw27_ScriptBack_v r) []) (kAtR (bodyOf Tryd.f5) 23) none (parrellaw27_ScriptBack_T1000023 l2 yL0_5 ) (parrellaw27_ScriptBack_H1000023 l2 yL0_5 ) := by
  unfold parrellaw27_ScriptBack_c23 at h
  exact run_to mixed hμ (L := []) (n := 13) (s := [.reg []])
    (a_ (r1_ (r2_ tr)) tr) (parrellaw27_ScriptBack_l1_ok hμ l2 yL0_5  big _ r h) (by kernel_rfl) trivial

theorem parrellaw27_ScriptBack_l0_ok {w0 : World} {W : Nat → Prop} {μ0 : Emb} (hμ : ∀ c p, μ0 c = some p → c < 0) (l : List (T_parrelref27_Step))  : ∀ (fuel : Nat) (t22 : Int) (l2 : List (T_script_Step)) (r : (Bool)), parrellaw27_ScriptBack_l0 l  fuel t22 l2 = some r → kont Tryd.prog w0 W μ0 (FnPost Tryd.prog Tryd.f5 0 0 (parrellaw27_ScriptBack_v r) []) (kAt (bodyOf Tryd.f5) 0) none (parrellaw27_ScriptBack_T0 l t22 l2) (parrellaw27_ScriptBack_H0 l t22 l2) := by
  intro fuel
  induction fuel with
  | zero => intro t22 l2 r h; rw [parrellaw27_ScriptBack_l0] at h; cases h
  | succ fuel ih =>
    intro t22 l2 r h
    rw [parrellaw27_ScriptBack_l0] at h
    rcases itb_some h with ⟨cL0_1, h⟩ | ⟨cL0_1, h⟩
    · skip
      obtain ⟨gL0_2, h⟩ := guard_some h
      obtain ⟨yL0_4, eL0_3, h⟩ := bind_some h
      rcases itb_some h with ⟨cL0_5, h⟩ | ⟨cL0_5, h⟩
      · skip
        obtain ⟨yL0_7, eL0_6, h⟩ := bind_some h
        obtain rfl := Option.some.inj h
        exact run_ret mixed (L := []) (n := 29) (s := [.go, .reg [(0, hT)], .reg [], .reg [(1, { call := some (parrellaw27_long_v yL0_4, [], []), v := some (.bool true) })], .reg [(0, hC (parrellaw27_alive_v yL0_7))]])
          (a_ (a_ (f_ cL0_1 tr) (a_ (a_ (a_ (a_ (Eq.refl 25) gL0_2) tr) (a_ (a_ (le_ 25 25 rfl) tr) (r1_ (a_ (a_ (a_ (Eq.refl 25) (a_ (le_ 25 25 rfl) (Eq.refl 0))) tr) tr)))) (a_ (m_ 25 25 rfl (a_ (a_ (a_ (parrellaw27_long_tri (l.getD t22.toNat default) yL0_4 eL0_3) tr) (a_ (leB cL0_5) tr)) tr)) (a_ (c_ (parrellaw27_alive_tri  yL0_7 eL0_6) (r1_ tr)) tr)))) tr) (by kernel_rfl) rfl
      · skip
        obtain ⟨yL0_8, eL0_6, h⟩ := bind_some h
        obtain ⟨yL0_10, eL0_9, h⟩ := bind_some h
        rcases itb_some h with ⟨cL0_11, h⟩ | ⟨cL0_11, h⟩
        · skip
          rcases itb_some h with ⟨cL0_12, h⟩ | ⟨cL0_12, h⟩
          · skip
            obtain rfl := Option.some.inj h
            exact run_ret mixed (L := []) (n := 46) (s := [.go, .reg [(0, hT)], .reg [], .reg [(1, { call := some (parrellaw27_long_v yL0_4, [], []), v := some (.bool false) })], .reg [(1, hC (parrellaw27_theirs_v yL0_8))], .reg [(1, hC (script_Line_v yL0_10))], .reg [(1, hT)], .reg [(2, hT)], .reg []])
              (a_ (a_ (f_ cL0_1 tr) (a_ (a_ (a_ (a_ (Eq.refl 25) gL0_2) tr) (a_ (a_ (le_ 25 25 rfl) tr) (r1_ (a_ (a_ (a_ (Eq.refl 25) (a_ (le_ 25 25 rfl) (Eq.refl 0))) tr) tr)))) (a_ (m_ 25 25 rfl (a_ (a_ (a_ (parrellaw27_long_tri (l.getD t22.toNat default) yL0_4 eL0_3) tr) (a_ (leB cL0_5) tr)) tr)) (a_ (m_ 25 25 rfl (a_ (a_ (a_ (parrellaw27_theirs_tri (l.getD t22.toNat default) yL0_8 eL0_6) tr) tr) (r1_ (a_ (a_ (a_ (Eq.refl 25) (a_ (le_ 25 25 rfl) (Eq.refl 0))) tr) tr)))) (a_ (m_ 25 25 rfl (c_ (script_Line_tri yL0_8 yL0_10 eL0_9) (r1_ (r4_ tr)))) (a_ (r1_ (f_ cL0_11 tr)) (a_ (r2_ (f_ cL0_12 (t2_ (r2_ (t2_ (r1_ tr)))))) (a_ (r1_ tr) tr)))))))) tr) (by kernel_rfl) rfl
          · skip
            rcases itb_some h with ⟨cL0_13, h⟩ | ⟨cL0_13, h⟩
            · skip
              obtain rfl := Option.some.inj h
              exact run_ret mixed (L := []) (n := 46) (s := [.go, .reg [(0, hT)], .reg [], .reg [(1, { call := some (parrellaw27_long_v yL0_4, [], []), v := some (.bool false) })], .reg [(1, hC (parrellaw27_theirs_v yL0_8))], .reg [(1, hC (script_Line_v yL0_10))], .reg [(1, hT)], .reg [(2, hF), (6, hT)], .reg []])
                (a_ (a_ (f_ cL0_1 tr) (a_ (a_ (a_ (a_ (Eq.refl 25) gL0_2) tr) (a_ (a_ (le_ 25 25 rfl) tr) (r1_ (a_ (a_ (a_ (Eq.refl 25) (a_ (le_ 25 25 rfl) (Eq.refl 0))) tr) tr)))) (a_ (m_ 25 25 rfl (a_ (a_ (a_ (parrellaw27_long_tri (l.getD t22.toNat default) yL0_4 eL0_3) tr) (a_ (leB cL0_5) tr)) tr)) (a_ (m_ 25 25 rfl (a_ (a_ (a_ (parrellaw27_theirs_tri (l.getD t22.toNat default) yL0_8 eL0_6) tr) tr) (r1_ (a_ (a_ (a_ (Eq.refl 25) (a_ (le_ 25 25 rfl) (Eq.refl 0))) tr) tr)))) (a_ (m_ 25 25 rfl (c_ (script_Line_tri yL0_8 yL0_10 eL0_9) (r1_ (r4_ tr)))) (a_ (r1_ (f_ cL0_11 tr)) (a_ (r2_ (f_ cL0_12 (r1_ (r2_ (f_ cL0_13 (t2_ (r1_ tr))))))) (a_ (r1_ tr) tr)))))))) tr) (by kernel_rfl) rfl
            · skip
              obtain ⟨yL0_15, eL0_14, h⟩ := bind_some h
              rcases itb_some h with ⟨cL0_16, h⟩ | ⟨cL0_16, h⟩
              · skip
                obtain rfl := Option.some.inj h
                exact run_ret mixed (L := []) (n := 46) (s := [.go, .reg [(0, hT)], .reg [], .reg [(1, { call := some (parrellaw27_long_v yL0_4, [], []), v := some (.bool false) })], .reg [(1, hC (parrellaw27_theirs_v yL0_8))], .reg [(1, hC (script_Line_v yL0_10))], .reg [(1, hT)], .reg [(2, hF), (6, hF), (8, hC (script_May_v yL0_15)), (9, hT)], .reg []])
                  (a_ (a_ (f_ cL0_1 tr) (a_ (a_ (a_ (a_ (Eq.refl 25) gL0_2) tr) (a_ (a_ (le_ 25 25 rfl) tr) (r1_ (a_ (a_ (a_ (Eq.refl 25) (a_ (le_ 25 25 rfl) (Eq.refl 0))) tr) tr)))) (a_ (m_ 25 25 rfl (a_ (a_ (a_ (parrellaw27_long_tri (l.getD t22.toNat default) yL0_4 eL0_3) tr) (a_ (leB cL0_5) tr)) tr)) (a_ (m_ 25 25 rfl (a_ (a_ (a_ (parrellaw27_theirs_tri (l.getD t22.toNat default) yL0_8 eL0_6) tr) tr) (r1_ (a_ (a_ (a_ (Eq.refl 25) (a_ (le_ 25 25 rfl) (Eq.refl 0))) tr) tr)))) (a_ (m_ 25 25 rfl (c_ (script_Line_tri yL0_8 yL0_10 eL0_9) (r1_ (r4_ tr)))) (a_ (r1_ (f_ cL0_11 tr)) (a_ (r2_ (f_ cL0_12 (r1_ (r2_ (f_ cL0_13 (m_ 25 25 rfl (c_ (script_May_tri yL0_8 yL0_15 eL0_14) (f_ cL0_16 tr)))))))) (a_ (r1_ tr) tr)))))))) tr) (by kernel_rfl) rfl
              · skip
                exact run_to mixed hμ (L := [0]) (n := 47) (s := [.go, .reg [(0, hT)], .reg [], .reg [(1, { call := some (parrellaw27_long_v yL0_4, [], []), v := some (.bool false) })], .reg [(1, hC (parrellaw27_theirs_v yL0_8))], .reg [(1, hC (script_Line_v yL0_10))], .reg [(1, hT)], .reg [(2, hF), (6, hF), (8, hC (script_May_v yL0_15)), (9, hF)], .reg []])
                  (a_ (f_ cL0_1 tr) (a_ (a_ (a_ (a_ (Eq.refl 25) gL0_2) tr) (a_ (a_ (le_ 25 25 rfl) tr) (r1_ (a_ (a_ (a_ (Eq.refl 25) (a_ (le_ 25 25 rfl) (Eq.refl 0))) tr) tr)))) (a_ (m_ 25 25 rfl (a_ (a_ (a_ (parrellaw27_long_tri (l.getD t22.toNat default) yL0_4 eL0_3) tr) (a_ (leB cL0_5) tr)) tr)) (a_ (m_ 25 25 rfl (a_ (a_ (a_ (parrellaw27_theirs_tri (l.getD t22.toNat default) yL0_8 eL0_6) tr) tr) (r1_ (a_ (a_ (a_ (Eq.refl 25) (a_ (le_ 25 25 rfl) (Eq.refl 0))) tr) tr)))) (a_ (m_ 25 25 rfl (c_ (script_Line_tri yL0_8 yL0_10 eL0_9) (r1_ (r4_ tr)))) (a_ (r1_ (f_ cL0_11 tr)) (a_ (r2_ (f_ cL0_12 (r1_ (r2_ (f_ cL0_13 (m_ 25 25 rfl (c_ (script_May_tri yL0_8 yL0_15 eL0_14) (f_ cL0_16 tr)))))))) (a_ (r2_ tr) tr)))))))) (ih _ _ r h) (by kernel_rfl) ⟨fun _ _ => rfl, trivial⟩
        · skip
          obtain ⟨yL0_13, eL0_12, h⟩ := bind_some h
          rcases itb_some h with ⟨cL0_14, h⟩ | ⟨cL0_14, h⟩
          · skip
            obtain rfl := Option.some.inj h
            exact run_ret mixed (L := []) (n := 50) (s := [.go, .reg [(0, hT)], .reg [], .reg [(1, { call := some (parrellaw27_long_v yL0_4, [], []), v := some (.bool false) })], .reg [(1, hC (parrellaw27_theirs_v yL0_8))], .reg [(1, hC (script_Line_v yL0_10))], .reg [(1, hF)], .reg [(1, hC (script_Parse_v yL0_13))], .reg [(2, hT)], .reg []])
              (a_ (a_ (f_ cL0_1 tr) (a_ (a_ (a_ (a_ (Eq.refl 25) gL0_2) tr) (a_ (a_ (le_ 25 25 rfl) tr) (r1_ (a_ (a_ (a_ (Eq.refl 25) (a_ (le_ 25 25 rfl) (Eq.refl 0))) tr) tr)))) (a_ (m_ 25 25 rfl (a_ (a_ (a_ (parrellaw27_long_tri (l.getD t22.toNat default) yL0_4 eL0_3) tr) (a_ (leB cL0_5) tr)) tr)) (a_ (m_ 25 25 rfl (a_ (a_ (a_ (parrellaw27_theirs_tri (l.getD t22.toNat default) yL0_8 eL0_6) tr) tr) (r1_ (a_ (a_ (a_ (Eq.refl 25) (a_ (le_ 25 25 rfl) (Eq.refl 0))) tr) tr)))) (a_ (m_ 25 25 rfl (c_ (script_Line_tri yL0_8 yL0_10 eL0_9) (r1_ (r4_ tr)))) (a_ (r1_ (f_ cL0_11 tr)) (a_ (r1_ (c_ (script_Parse_tri yL0_10.1 yL0_13 eL0_12) (r4_ (a_ (a_ (a_ (Eq.refl 25) (a_ (le_ 25 25 rfl) (Eq.refl 0))) tr) (r1_ tr))))) (a_ (r2_ (f_ cL0_14 (t4_ (r2_ (a_ tr (t2_ (r1_ tr))))))) (a_ (r1_ tr) tr))))))))) tr) (by kernel_rfl) rfl
          · skip
            obtain ⟨yL0_16, eL0_15, h⟩ := bind_some h
            rcases itb_some h with ⟨cL0_17, h⟩ | ⟨cL0_17, h⟩
            · skip
              obtain rfl := Option.some.inj h
              exact run_ret mixed (L := []) (n := 50) (s := [.go, .reg [(0, hT)], .reg [], .reg [(1, { call := some (parrellaw27_long_v yL0_4, [], []), v := some (.bool false) })], .reg [(1, hC (parrellaw27_theirs_v yL0_8))], .reg [(1, hC (script_Line_v yL0_10))], .reg [(1, hF)], .reg [(1, hC (script_Parse_v yL0_13))], .reg [(2, hF), (5, hC (script_Same_v yL0_16)), (8, hT)], .reg []])
                (a_ (a_ (f_ cL0_1 tr) (a_ (a_ (a_ (a_ (Eq.refl 25) gL0_2) tr) (a_ (a_ (le_ 25 25 rfl) tr) (r1_ (a_ (a_ (a_ (Eq.refl 25) (a_ (le_ 25 25 rfl) (Eq.refl 0))) tr) tr)))) (a_ (m_ 25 25 rfl (a_ (a_ (a_ (parrellaw27_long_tri (l.getD t22.toNat default) yL0_4 eL0_3) tr) (a_ (leB cL0_5) tr)) tr)) (a_ (m_ 25 25 rfl (a_ (a_ (a_ (parrellaw27_theirs_tri (l.getD t22.toNat default) yL0_8 eL0_6) tr) tr) (r1_ (a_ (a_ (a_ (Eq.refl 25) (a_ (le_ 25 25 rfl) (Eq.refl 0))) tr) tr)))) (a_ (m_ 25 25 rfl (c_ (script_Line_tri yL0_8 yL0_10 eL0_9) (r1_ (r4_ tr)))) (a_ (r1_ (f_ cL0_11 tr)) (a_ (r1_ (c_ (script_Parse_tri yL0_10.1 yL0_13 eL0_12) (r4_ (a_ (a_ (a_ (Eq.refl 25) (a_ (le_ 25 25 rfl) (Eq.refl 0))) tr) (r1_ tr))))) (a_ (r2_ (f_ cL0_14 (m_ 25 25 rfl (m_ 25 25 rfl (c_ (script_Same_tri yL0_8 yL0_13.1 yL0_16 eL0_15) (r2_ (f_ cL0_17 (a_ tr (t2_ (r1_ tr)))))))))) (a_ (r1_ tr) tr))))))))) tr) (by kernel_rfl) rfl
            · skip
              obtain ⟨yL0_19, eL0_18, h⟩ := bind_some h
              rcases itb_some h with ⟨cL0_20, h⟩ | ⟨cL0_20, h⟩
              · skip
                obtain rfl := Option.some.inj h
                exact run_ret mixed (L := []) (n := 50) (s := [.go, .reg [(0, hT)], .reg [], .reg [(1, { call := some (parrellaw27_long_v yL0_4, [], []), v := some (.bool false) })], .reg [(1, hC (parrellaw27_theirs_v yL0_8))], .reg [(1, hC (script_Line_v yL0_10))], .reg [(1, hF)], .reg [(1, hC (script_Parse_v yL0_13))], .reg [(2, hF), (5, hC (script_Same_v yL0_16)), (8, hF), (10, hC (script_May_v yL0_19)), (12, hT)], .reg []])
                  (a_ (a_ (f_ cL0_1 tr) (a_ (a_ (a_ (a_ (Eq.refl 25) gL0_2) tr) (a_ (a_ (le_ 25 25 rfl) tr) (r1_ (a_ (a_ (a_ (Eq.refl 25) (a_ (le_ 25 25 rfl) (Eq.refl 0))) tr) tr)))) (a_ (m_ 25 25 rfl (a_ (a_ (a_ (parrellaw27_long_tri (l.getD t22.toNat default) yL0_4 eL0_3) tr) (a_ (leB cL0_5) tr)) tr)) (a_ (m_ 25 25 rfl (a_ (a_ (a_ (parrellaw27_theirs_tri (l.getD t22.toNat default) yL0_8 eL0_6) tr) tr) (r1_ (a_ (a_ (a_ (Eq.refl 25) (a_ (le_ 25 25 rfl) (Eq.refl 0))) tr) tr)))) (a_ (m_ 25 25 rfl (c_ (script_Line_tri yL0_8 yL0_10 eL0_9) (r1_ (r4_ tr)))) (a_ (r1_ (f_ cL0_11 tr)) (a_ (r1_ (c_ (script_Parse_tri yL0_10.1 yL0_13 eL0_12) (r4_ (a_ (a_ (a_ (Eq.refl 25) (a_ (le_ 25 25 rfl) (Eq.refl 0))) tr) (r1_ tr))))) (a_ (r2_ (f_ cL0_14 (m_ 25 25 rfl (m_ 25 25 rfl (c_ (script_Same_tri yL0_8 yL0_13.1 yL0_16 eL0_15) (r2_ (f_ cL0_17 (m_ 25 25 rfl (c_ (script_May_tri yL0_8 yL0_19 eL0_18) (r1_ (f_ cL0_20 tr))))))))))) (a_ (r1_ tr) tr))))))))) tr) (by kernel_rfl) rfl
              · skip
                obtain ⟨gL0_21, h⟩ := guard_some h
                exact run_to mixed hμ (L := [5]) (n := 53) (s := [.go, .reg [(0, hT)], .reg [], .reg [(1, { call := some (parrellaw27_long_v yL0_4, [], []), v := some (.bool false) })], .reg [(1, hC (parrellaw27_theirs_v yL0_8))], .reg [(1, hC (script_Line_v yL0_10))], .reg [(1, hF)], .reg [(1, hC (script_Parse_v yL0_13))], .reg [(2, hF), (5, hC (script_Same_v yL0_16)), (8, hF), (10, hC (script_May_v yL0_19)), (12, hF)], .reg [(2, { os := [(4, .gr 25 (([yL0_8] : List (T_script_Step))).length (rowF c_T_script_Step default ([yL0_8] : List (T_script_Step))))], v := some (.gs 4 (([yL0_8] : List (T_script_Step))).length) }), (3, { app := 3, os := [(5, .gr 25 ((l2 ++ ([yL0_8] : List (T_script_Step)))).length (rowF c_T_script_Step default (l2 ++ ([yL0_8] : List (T_script_Step)))))], v := some (.gs 5 ((l2 ++ ([yL0_8] : List (T_script_Step)))).length) })], .reg []])
                  (a_ (f_ cL0_1 tr) (a_ (a_ (a_ (a_ (Eq.refl 25) gL0_2) tr) (a_ (a_ (le_ 25 25 rfl) tr) (r1_ (a_ (a_ (a_ (Eq.refl 25) (a_ (le_ 25 25 rfl) (Eq.refl 0))) tr) tr)))) (a_ (m_ 25 25 rfl (a_ (a_ (a_ (parrellaw27_long_tri (l.getD t22.toNat default) yL0_4 eL0_3) tr) (a_ (leB cL0_5) tr)) tr)) (a_ (m_ 25 25 rfl (a_ (a_ (a_ (parrellaw27_theirs_tri (l.getD t22.toNat default) yL0_8 eL0_6) tr) tr) (r1_ (a_ (a_ (a_ (Eq.refl 25) (a_ (le_ 25 25 rfl) (Eq.refl 0))) tr) tr)))) (a_ (m_ 25 25 rfl (c_ (script_Line_tri yL0_8 yL0_10 eL0_9) (r1_ (r4_ tr)))) (a_ (r1_ (f_ cL0_11 tr)) (a_ (r1_ (c_ (script_Parse_tri yL0_10.1 yL0_13 eL0_12) (r4_ (a_ (a_ (a_ (Eq.refl 25) (a_ (le_ 25 25 rfl) (Eq.refl 0))) tr) (r1_ tr))))) (a_ (r2_ (f_ cL0_14 (m_ 25 25 rfl (m_ 25 25 rfl (c_ (script_Same_tri yL0_8 yL0_13.1 yL0_16 eL0_15) (r2_ (f_ cL0_17 (m_ 25 25 rfl (c_ (script_May_tri yL0_8 yL0_19 eL0_18) (r1_ (f_ cL0_20 tr))))))))))) (a_ (r1_ (m_ 25 25 rfl (a_ (a_ (a_ (Eq.refl true) (a_ (Eq.refl 25) (a_ (lt_ 0 25 rfl) (le_ 25 16777216 rfl)))) (a_ (le_sl_gs 4 1 (some 1) rfl) (a_ (sub_lit c_T_script_Step default 25 (fun _ => rfl) ([yL0_8] : List (T_script_Step))) tr))) (a_ (a_ (a_ (a_ (Eq.refl 25) (Nat.le_refl (([yL0_8] : List (T_script_Step))).length)) (a_ (a_ (lt_ 0 25 rfl) (a_ (lt_ 0 152 rfl) (a_ gL0_21 (a_ (Eq.refl 25) (Eq.refl true))))) (a_ (Eq.refl 25) (Nat.le_refl (l2).length)))) (a_ (le_gs_app 5 l2 ([yL0_8] : List (T_script_Step))) (a_ (sub_app c_T_script_Step default 25 l2 ([yL0_8] : List (T_script_Step))) tr))) (r1_ tr))))) (a_ (r2_ tr) tr)))))))))) (ih _ _ r h) (by kernel_rfl) ⟨fun _ _ => rfl, trivial⟩
    · skip
      obtain ⟨yL0_3, eL0_2, h⟩ := bind_some h
      obtain ⟨yL0_5, eL0_4, h⟩ := bind_some h
      rcases itb_some h with ⟨cL0_6, h⟩ | ⟨cL0_6, h⟩
      · skip
        exact run_to mixed hμ (L := []) (n := 29) (s := [.go, .reg [(0, hF)], .frz 0, .reg [(1, hC (script_Text_v yL0_3))], .reg [(1, hC (script_All_v yL0_5))], .reg [(2, hT)]])
          (a_ (f_ cL0_1 tr) (a_ (a_ (fz_row (enc := c_T_script_Step) (d := default) (fun _ => rfl) l2) (a_ (Nat.le_refl (l2).length) tr)) (a_ (r1_ (c_ (script_Text_tri l2 yL0_3 eL0_2) (r1_ (r4_ tr)))) (a_ (r1_ (c_ (script_All_tri yL0_3.1 yL0_5 eL0_4) (r1_ (r4_ (a_ (a_ (a_ (Eq.refl 2) (a_ (le_ 2 2 rfl) (Eq.refl 0))) tr) tr))))) (a_ (r2_ (f_ cL0_6 (a_ tr (t2_ (r2_ (a_ tr (t4_ (r1_ tr)))))))) tr))))) (parrellaw27_ScriptBack_c22_ok hμ    r h) (by kernel_rfl) trivial
      · skip
        rcases itb_some h with ⟨cL0_7, h⟩ | ⟨cL0_7, h⟩
        · skip
          exact run_to mixed hμ (L := []) (n := 29) (s := [.go, .reg [(0, hF)], .frz 0, .reg [(1, hC (script_Text_v yL0_3))], .reg [(1, hC (script_All_v yL0_5))], .reg [(2, hF), (5, { v := some (.bool (!decide (yL0_5.2 = (T_api_Fault.mk 0 0)))) }), (7, hT)]])
            (a_ (f_ cL0_1 tr) (a_ (a_ (fz_row (enc := c_T_script_Step) (d := default) (fun _ => rfl) l2) (a_ (Nat.le_refl (l2).length) tr)) (a_ (r1_ (c_ (script_Text_tri l2 yL0_3 eL0_2) (r1_ (r4_ tr)))) (a_ (r1_ (c_ (script_All_tri yL0_3.1 yL0_5 eL0_4) (r1_ (r4_ (a_ (a_ (a_ (Eq.refl 2) (a_ (le_ 2 2 rfl) (Eq.refl 0))) tr) tr))))) (a_ (r2_ (f_ cL0_6 (m_ 2 2 rfl (a_ (a_ (Eq.refl true) tr) (a_ (a_ tr (a_ (leB (congrArg not (k_T_api_Fault yL0_5.2 (T_api_Fault.mk 0 0)))) tr)) (r1_ (f_ cL0_7 (a_ tr (t4_ (r1_ tr)))))))))) tr))))) (parrellaw27_ScriptBack_c22_ok hμ    r h) (by kernel_rfl) trivial
        · skip
          rcases itb_some h with ⟨cL0_8, h⟩ | ⟨cL0_8, h⟩
          · skip
            exact run_to mixed hμ (L := []) (n := 29) (s := [.go, .reg [(0, hF)], .frz 0, .reg [(1, hC (script_Text_v yL0_3))], .reg [(1, hC (script_All_v yL0_5))], .reg [(2, hF), (5, { v := some (.bool (!decide (yL0_5.2 = (T_api_Fault.mk 0 0)))) }), (7, hF), (13, hT)]])
              (a_ (f_ cL0_1 tr) (a_ (a_ (fz_row (enc := c_T_script_Step) (d := default) (fun _ => rfl) l2) (a_ (Nat.le_refl (l2).length) tr)) (a_ (r1_ (c_ (script_Text_tri l2 yL0_3 eL0_2) (r1_ (r4_ tr)))) (a_ (r1_ (c_ (script_All_tri yL0_3.1 yL0_5 eL0_4) (r1_ (r4_ (a_ (a_ (a_ (Eq.refl 2) (a_ (le_ 2 2 rfl) (Eq.refl 0))) tr) tr))))) (a_ (r2_ (f_ cL0_6 (m_ 2 2 rfl (a_ (a_ (Eq.refl true) tr) (a_ (a_ tr (a_ (leB (congrArg not (k_T_api_Fault yL0_5.2 (T_api_Fault.mk 0 0)))) tr)) (r1_ (f_ cL0_7 (r1_ (r4_ (f_ cL0_8 tr)))))))))) tr))))) (parrellaw27_ScriptBack_c22_ok hμ    r h) (by kernel_rfl) trivial
          · skip
            exact run_to mixed hμ (L := []) (n := 31) (s := [.go, .reg [(0, hF)], .frz 0, .reg [(1, hC (script_Text_v yL0_3))], .reg [(1, hC (script_All_v yL0_5))], .reg [(2, hF), (5, { v := some (.bool (!decide (yL0_5.2 = (T_api_Fault.mk 0 0)))) }), (7, hF), (13, hF)]])
              (a_ (f_ cL0_1 tr) (a_ (a_ (fz_row (enc := c_T_script_Step) (d := default) (fun _ => rfl) l2) (a_ (Nat.le_refl (l2).length) tr)) (a_ (r1_ (c_ (script_Text_tri l2 yL0_3 eL0_2) (r1_ (r4_ tr)))) (a_ (r1_ (c_ (script_All_tri yL0_3.1 yL0_5 eL0_4) (r1_ (r4_ (a_ (a_ (a_ (Eq.refl 2) (a_ (le_ 2 2 rfl) (Eq.refl 0))) tr) tr))))) (a_ (r2_ (f_ cL0_6 (m_ 2 2 rfl (a_ (a_ (Eq.refl true) tr) (a_ (a_ tr (a_ (leB (congrArg not (k_T_api_Fault yL0_5.2 (T_api_Fault.mk 0 0)))) tr)) (r1_ (f_ cL0_7 (r1_ (r4_ (f_ cL0_8 tr)))))))))) tr))))) (parrellaw27_ScriptBack_c23_ok hμ l2 yL0_5   r h) (by kernel_rfl) trivial

theorem parrellaw27_ScriptBack_ok (l : List (T_parrelref27_Step)) (r : (Bool)) (h : parrellaw27_ScriptBack l = some r) : ∀ σ, Inj 0 σ → FnTri Tryd.prog 5 (renL σ [.ds 25 (l).length (rowF c_T_parrelref27_Step default l)]) (preOf σ 0 []) ((parrellaw27_ScriptBack_v r).ren σ) (upOf σ []) := by
  refine fn_of Tryd.func5 (by kernel_rfl) (by kernel_rfl) (by kernel_rfl) trivial (by kernel_rfl) trivial (by kernel_rfl) ?_
  intro w0 W μ0 hμ
  unfold parrellaw27_ScriptBack at h
  rcases itb_some h with ⟨c1, h⟩ | ⟨c1, h⟩
  · skip
    obtain ⟨y3, e2, h⟩ := bind_some h
    obtain rfl := Option.some.inj h
    exact run_ret mixed (L := []) (n := 20) (s := [.reg [], .reg [(2, hT)], .reg [(0, hC (parrellaw27_alive_v y3))]])
      (a_ (a_ (r1_ tr) (a_ (r2_ (f_ c1 tr)) (a_ (c_ (parrellaw27_alive_tri  y3 e2) (r1_ tr)) tr))) tr) (by kernel_rfl) rfl
  · skip
    exact run_to mixed hμ (L := [0]) (n := 28) (s := [.reg [], .reg [(2, hF)], .void (.gr 25 (([] : List (T_script_Step))).length (rowF c_T_script_Step default ([] : List (T_script_Step)))), .reg [(0, { v := some (.gs 0 (([] : List (T_script_Step))).length) })], .reg []])
      (a_ (r1_ tr) (a_ (r2_ (f_ c1 tr)) (a_ (Eq.refl 0) (a_ (a_ (a_ tr (a_ (le_nil_gs 0) tr)) tr) (a_ (r1_ (r2_ tr)) tr))))) (parrellaw27_ScriptBack_l0_ok hμ l  big _ _ r h) (by kernel_rfl) ⟨fun _ _ => rfl, trivial⟩

theorem parrellaw27_ScriptBack_tri (l : List (T_parrelref27_Step)) (r : (Bool)) (h : parrellaw27_ScriptBack l = some r) : FnTri Tryd.prog 5 [.ds 25 (l).length (rowF c_T_parrelref27_Step default l)] [] (parrellaw27_ScriptBack_v r) [] := FnTri.none (parrellaw27_ScriptBack_ok l r h) rfl rfl

end
end Go.Proofs.YtdchgoaokceomaaDoor.Wk
