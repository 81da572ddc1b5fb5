/- Printed by tr.py: Go functions as Lean functions, with the proofs that they walk so. -/
import Derived.Test.YtdchgoaokceomaaDoorOneVb
namespace Go.Proofs.YtdchgoaokceomaaDoor.Wk
open Go Go.Cn Go.RowKit
set_option maxRecDepth 100000
set_option maxHeartbeats 4000000
set_option linter.unusedVariables false
set_option linter.unusedSimpArgs false
noncomputable section
/-- parrel/script.Text -/

def script_Text_v (r : (List UInt8) × (Int)) : LV := .tup [.str r.1, .int .i64 r.2]

def script_Text_T0 (l : List (T_script_Step)) (t11 : Int) (text : List UInt8) : List LV := [.ds 25 (l).length (rowF c_T_script_Step default l), .any, .any, .any, .ptr 0 0 0, .any, .any, .any, .any, .ds 25 (l).length (rowF c_T_script_Step default l), .int .i64 ((l).length : Int), .int .i64 t11, .any, .any, .any, .any, .any, .any, .any, .any, .any, .any, .any, .any, .any, .any, .any, .any, .any, .any, .any]

def script_Text_H0 (l : List (T_script_Step)) (t11 : Int) (text : List UInt8) : Heap := [some (.bld 89 1 (text).length), some (.tg 5 text)]

def script_Text_l0 (l : List (T_script_Step))  : Nat → (Int) → (List UInt8) → Option ((List UInt8) × (Int))
  | 0, _, _ => none
  | fuel + 1, t11, text =>
    if ((decide (t11 < ((l).length : Int))) : Bool) then
      if 0 ≤ t11 ∧ t11 < (((l).length : Nat) : Int) then
      (script_Line (l.getD t11.toNat default)).bind fun yL0_4 =>
      if ((yL0_4.2 != 0) : Bool) then
        some ([], yL0_4.2)
      else
        if (text).length + (yL0_4.1).length ≤ 140737488351232 then
        if ((text ++ yL0_4.1)).length + 1 ≤ 140737488351232 then
        script_Text_l0 l  fuel (IntKind.wrap .i64 (t11 + 1)) ((text ++ yL0_4.1) ++ [10])
        else none
        else none
      else none
    else
      if ((decide (4096 < ((l).length : Int))) : Bool) then
        some ([], 5)
      else
        some (text, 0)

def script_Text (l : List (T_script_Step)) : Option ((List UInt8) × (Int)) :=
  script_Text_l0 l  big 0 ([] : List UInt8)

theorem script_Text_l0_ok {w0 : World} {W : Nat → Prop} {μ0 : Emb} (hμ : ∀ c p, μ0 c = some p → c < 0) (l : List (T_script_Step))  : ∀ (fuel : Nat) (t11 : Int) (text : List UInt8) (r : (List UInt8) × (Int)), script_Text_l0 l  fuel t11 text = some r → kont Tryd.prog w0 W μ0 (FnPost Tryd.prog Tryd.f18 0 0 (script_Text_v r) []) (kAt (bodyOf Tryd.f18) 0) none (script_Text_T0 l t11 text) (script_Text_H0 l t11 text) := by
  intro fuel
  induction fuel with
  | zero => intro t11 text r h; rw [script_Text_l0] at h; cases h
  | succ fuel ih =>
    intro t11 text r h
    rw [script_Text_l0] at h
    rcases itb_some h with ⟨cL0_1, h⟩ | ⟨cL0_1, h⟩
    · skip
      obtain ⟨gL0_2, h⟩ := guard_some h
      obtain ⟨yL0_4, eL0_3, h⟩ := bind_some h
      rcases itb_some h with ⟨cL0_5, h⟩ | ⟨cL0_5, h⟩
      · skip
        obtain rfl := Option.some.inj h
        exact run_ret mixed (L := []) (n := 32) (s := [.go, .reg [(0, hT)], .reg [], .reg [(1, hC (script_Line_v yL0_4))], .reg [(1, hT)], .reg []])
          (a_ (a_ (f_ cL0_1 tr) (a_ (a_ (a_ (a_ (Eq.refl 25) gL0_2) tr) (a_ (a_ (le_ 25 25 rfl) tr) (r1_ (a_ (a_ (a_ (Eq.refl 25) (a_ (le_ 25 25 rfl) (Eq.refl 0))) tr) tr)))) (a_ (m_ 25 25 rfl (a_ (a_ (a_ (script_Line_tri (l.getD t11.toNat default) yL0_4 eL0_3) tr) tr) (r1_ (r4_ tr)))) (a_ (r1_ (f_ cL0_5 tr)) (a_ (r1_ (r2_ tr)) tr))))) tr) (by kernel_rfl) rfl
      · skip
        obtain ⟨gL0_6, h⟩ := guard_some h
        obtain ⟨gL0_7, h⟩ := guard_some h
        exact run_to mixed hμ (L := [0, 4]) (n := 38) (s := [.go, .reg [(0, hT)], .reg [], .reg [(1, hC (script_Line_v yL0_4))], .reg [(1, hF)], .reg [(1, { call := some (.tup [.int .i64 (((yL0_4.1).length : Nat) : Int), .any], [(0, .bld 89 1 (text).length), (1, .tg 5 text)], [(0, some (.bld 89 3 ((text ++ yL0_4.1)).length)), (1, none), (3, some (.tg 5 (text ++ yL0_4.1)))]) })], .reg [(0, { call := some (.any, [(0, .bld 89 3 ((text ++ yL0_4.1)).length), (3, .tg 5 (text ++ yL0_4.1))], [(0, some (.bld 89 4 (((text ++ yL0_4.1) ++ [10])).length)), (3, none), (4, some (.tg 5 ((text ++ yL0_4.1) ++ [10])))]) })], .reg []])
          (a_ (f_ cL0_1 tr) (a_ (a_ (a_ (a_ (Eq.refl 25) gL0_2) tr) (a_ (a_ (le_ 25 25 rfl) tr) (r1_ (a_ (a_ (a_ (Eq.refl 25) (a_ (le_ 25 25 rfl) (Eq.refl 0))) tr) tr)))) (a_ (m_ 25 25 rfl (a_ (a_ (a_ (script_Line_tri (l.getD t11.toNat default) yL0_4 eL0_3) tr) tr) (r1_ (r4_ tr)))) (a_ (r1_ (f_ cL0_5 tr)) (a_ (r1_ (a_ (a_ (a_ (bd_wsT 0 1 3 (by decide) (by decide) (by decide) text yL0_4.1 gL0_6) (a_ (LO.Le.refl (.bld 89 1 (text).length)) (a_ (LO.Le.refl (.tg 5 text)) tr))) tr) tr)) (a_ (a_ (a_ (a_ (bd_wbT 0 3 4 (by decide) (by decide) (by decide) (text ++ yL0_4.1) 10 gL0_7) (a_ (LO.Le.refl (.bld 89 3 ((text ++ yL0_4.1)).length)) (a_ (LO.Le.refl (.tg 5 (text ++ yL0_4.1))) tr))) tr) tr) (a_ (r2_ tr) tr))))))) (ih _ _ r h) (by kernel_rfl) ⟨lt_ 1 2 rfl, trivial, trivial⟩
    · skip
      rcases itb_some h with ⟨cL0_2, h⟩ | ⟨cL0_2, h⟩
      · skip
        obtain rfl := Option.some.inj h
        exact run_ret mixed (L := []) (n := 24) (s := [.go, .reg [(0, hF)], .reg [(2, hT)], .reg []])
          (a_ (a_ (f_ cL0_1 tr) (a_ (r2_ (f_ cL0_2 tr)) (a_ (r2_ tr) tr))) tr) (by kernel_rfl) rfl
      · skip
        obtain rfl := Option.some.inj h
        exact run_ret mixed (L := []) (n := 25) (s := [.go, .reg [(0, hF)], .reg [(2, hF)], .reg [(0, { call := some (.str text, [(0, .bld 89 1 (text).length), (1, .tg 5 text)], [(0, none), (1, none)]) })]])
          (a_ (a_ (f_ cL0_1 tr) (a_ (r2_ (f_ cL0_2 tr)) (a_ (a_ (a_ (a_ (bd_stT 0 1 (by decide) text) (a_ (LO.Le.refl (.bld 89 1 (text).length)) (a_ (LO.Le.refl (.tg 5 text)) tr))) tr) (r2_ tr)) tr))) tr) (by kernel_rfl) rfl

theorem script_Text_ok (l : List (T_script_Step)) (r : (List UInt8) × (Int)) (h : script_Text l = some r) : ∀ σ, Inj 0 σ → FnTri Tryd.prog 18 (renL σ [.ds 25 (l).length (rowF c_T_script_Step default l)]) (preOf σ 0 []) ((script_Text_v r).ren σ) (upOf σ []) := by
  refine fn_of Tryd.func18 (by kernel_rfl) (by kernel_rfl) (by kernel_rfl) trivial (by kernel_rfl) trivial (by kernel_rfl) ?_
  intro w0 W μ0 hμ
  unfold script_Text at h
  exact run_to mixed hμ (L := [1, 0]) (n := 22) (s := [.reg [], .void (.tg 5 ([] : List UInt8)), .reg [(0, { app := 100 })], .reg []])
    (a_ (r2_ tr) (a_ (Eq.refl ([] : List UInt8)) (a_ (r1_ tr) (a_ (r1_ (r2_ tr)) tr)))) (script_Text_l0_ok hμ l  big _ _ r h) (by kernel_rfl) ⟨lt_ 1 2 rfl, trivial, trivial⟩

theorem script_Text_tri (l : List (T_script_Step)) (r : (List UInt8) × (Int)) (h : script_Text l = some r) : FnTri Tryd.prog 18 [.ds 25 (l).length (rowF c_T_script_Step default l)] [] (script_Text_v r) [] := FnTri.none (script_Text_ok l r h) rfl rfl

/-- parrel/parrellaw27.ScriptOne -/

def parrellaw27_ScriptOne_v (r : (Bool)) : LV := .bool r

def parrellaw27_ScriptOne_T1000009 (text : List UInt8) (y11 : (List (T_script_Step)) × (T_api_Fault))  : List LV := [.str text, .any, .any, .any, .any, .any, .any, .ds 25 (y11.1).length (rowF c_T_script_Step default y11.1), .ptr 0 0 0, .any, .any, .any, .any, .any, .any, .any, .any, .any, .any, .any, .any, .any, .any, .any, .any, .any, .any, .any, .any, .any, .any, .any, .any, .any, .any, .any, .any, .any, .any, .any, .any, .any, .any, .any, .any, .any, .any, .any, .any, .any, .any, .any, .any, .any, .any, .any, .any, .any, .any, .any, .any, .any, .any, .any, .any, .any, .any, .any]

def parrellaw27_ScriptOne_H1000009 (text : List UInt8) (y11 : (List (T_script_Step)) × (T_api_Fault))  : Heap := [some (.var (c_T_api_Fault y11.2))]

def parrellaw27_ScriptOne_T1000010 (y8 : (List (T_script_Step)) × (T_api_Fault))  : List LV := [.any, .any, .any, .any, .any, .any, .any, .ds 25 (y8.1).length (rowF c_T_script_Step default y8.1), .ptr 0 0 0, .any, .any, .any, .any, .any, .any, .any, .any, .any, .any, .any, .any, .any, .any, .any, .any, .any, .any, .any, .any, .any, .any, .any, .any, .any, .any, .any, .any, .any, .any, .any, .any, .any, .any, .any, .any, .any, .any, .any, .any, .any, .any, .any, .any, .any, .any, .any, .any, .any, .any, .any, .any, .any, .any, .any, .any, .any, .any, .any]

def parrellaw27_ScriptOne_H1000010 (y8 : (List (T_script_Step)) × (T_api_Fault))  : Heap := [some (.var (c_T_api_Fault y8.2))]

def parrellaw27_ScriptOne_T1000011 (text : List UInt8) (y8 : (List (T_script_Step)) × (T_api_Fault))  : List LV := [.str text, .any, .any, .any, .any, .any, .any, .ds 25 (y8.1).length (rowF c_T_script_Step default y8.1), .any, .any, .any, .any, .any, .any, .any, .any, .any, .any, .any, .any, .any, .any, .any, .any, .any, .any, .any, .any, .any, .any, .any, .any, .any, .any, .any, .any, .any, .any, .any, .any, .any, .any, .any, .any, .any, .any, .any, .any, .any, .any, .any, .any, .any, .any, .any, .any, .any, .any, .any, .any, .any, .any, .any, .any, .any, .any, .any, .any]

def parrellaw27_ScriptOne_H1000011 (text : List UInt8) (y8 : (List (T_script_Step)) × (T_api_Fault))  : Heap := []

def parrellaw27_ScriptOne_c9 (text : List UInt8) (y11 : (List (T_script_Step)) × (T_api_Fault))   : Option ((Bool)) :=
  if ((!decide (y11.2 = (T_api_Fault.mk 0 0))) : Bool) then
    if ((((y11.1).length : Int) == 0) : Bool) then
      if ((decide (0 ≤ y11.2.f_At)) : Bool) then
        (parrellaw27_alive).bind fun yC9_5 =>
        some yC9_5
      else
        some false
    else
      some false
  else
    (script_Text y11.1).bind fun yC9_3 =>
    if ((yC9_3.1 == text) : Bool) then
      if ((yC9_3.2 == 0) : Bool) then
        (parrellaw27_alive).bind fun yC9_7 =>
        some yC9_7
      else
        some false
    else
      some false

def parrellaw27_ScriptOne_c10 (y8 : (List (T_script_Step)) × (T_api_Fault))   : Option ((Bool)) :=
  if ((((y8.1).length : Int) == 0) : Bool) then
    if ((decide (0 ≤ y8.2.f_At)) : Bool) then
      (parrellaw27_alive).bind fun yC10_4 =>
      some yC10_4
    else
      some false
  else
    some false

def parrellaw27_ScriptOne_c11 (text : List UInt8) (y8 : (List (T_script_Step)) × (T_api_Fault))   : Option ((Bool)) :=
  (script_Text y8.1).bind fun yC11_2 =>
  if ((yC11_2.1 == text) : Bool) then
    if ((yC11_2.2 == 0) : Bool) then
      (parrellaw27_alive).bind fun yC11_6 =>
      some yC11_6
    else
      some false
  else
    some false

def parrellaw27_ScriptOne (text : List UInt8) : Option ((Bool)) :=
  if ((decide (20000 < ((text).length : Int))) : Bool) then
    (parrellaw27_alive).bind fun y3 =>
    some y3
  else
    (script_Parse text).bind fun y4 =>
    if ((y4.2 == 0) : Bool) then
      (script_Line y4.1).bind fun y7 =>
      if ((!(y7.1 == text)) : Bool) then
        some false
      else
        if ((y7.2 != 0) : Bool) then
          some false
        else
          (script_All text).bind fun y11 =>
          parrellaw27_ScriptOne_c9 text y11  
    else
      (script_All text).bind fun y8 =>
      if ((!decide (y8.2 = (T_api_Fault.mk 0 0))) : Bool) then
        parrellaw27_ScriptOne_c10 y8  
      else
        parrellaw27_ScriptOne_c11 text y8  

theorem parrellaw27_ScriptOne_c9_ok {w0 : World} {W : Nat → Prop} {μ0 : Emb} (hμ : ∀ c p, μ0 c = some p → c < 0) (text : List UInt8) (y11 : (List (T_script_Step)) × (T_api_Fault))   (r : (Bool)) (h : parrellaw27_ScriptOne_c9 text y11   = some r) : kont Tryd.prog w0 W μ0 (FnPost Tryd.prog Tryd.f6 0 0 (parrellaw27_ScriptOne_v r) []) (kAtR (bodyOf Tryd.f6) 9) none (parrellaw27_ScriptOne_T1000009 text y11 ) (parrellaw27_ScriptOne_H1000009 text y11 ) := by
  unfold parrellaw27_ScriptOne_c9 at h
  rcases itb_some h with ⟨cC9_1, h⟩ | ⟨cC9_1, h⟩
  · skip
    rcases itb_some h with ⟨cC9_2, h⟩ | ⟨cC9_2, h⟩
    · skip
      rcases itb_some h with ⟨cC9_3, h⟩ | ⟨cC9_3, h⟩
      · skip
        obtain ⟨yC9_5, eC9_4, h⟩ := bind_some h
        obtain rfl := Option.some.inj h
        exact run_ret mixed (L := []) (n := 15) (s := [.reg [(2, hT)], .reg [(3, hT), (8, hT), (9, hC (parrellaw27_alive_v yC9_5))]])
          (a_ (a_ (m_ 2 2 rfl (a_ (a_ (Eq.refl true) tr) (a_ (a_ tr (a_ (LV.Le.trans (leB (congrArg not (k_T_api_Fault y11.2 (T_api_Fault.mk 0 0)))) (leB cC9_1)) tr)) tr))) (a_ (r1_ (r2_ (f_ cC9_2 (r1_ (l_ 1 2 rfl (r2_ (f_ cC9_3 (c_ (parrellaw27_alive_tri  yC9_5 eC9_4) (r2_ tr))))))))) tr)) tr) (by kernel_rfl) rfl
      · skip
        obtain rfl := Option.some.inj h
        exact run_ret mixed (L := []) (n := 15) (s := [.reg [(2, hT)], .reg [(3, hT), (8, hF)]])
          (a_ (a_ (m_ 2 2 rfl (a_ (a_ (Eq.refl true) tr) (a_ (a_ tr (a_ (LV.Le.trans (leB (congrArg not (k_T_api_Fault y11.2 (T_api_Fault.mk 0 0)))) (leB cC9_1)) tr)) tr))) (a_ (r1_ (r2_ (f_ cC9_2 (r1_ (l_ 1 2 rfl (r2_ (f_ cC9_3 (a_ tr (r2_ tr))))))))) tr)) tr) (by kernel_rfl) rfl
    · skip
      obtain rfl := Option.some.inj h
      exact run_ret mixed (L := []) (n := 15) (s := [.reg [(2, hT)], .reg [(3, hF)]])
        (a_ (a_ (m_ 2 2 rfl (a_ (a_ (Eq.refl true) tr) (a_ (a_ tr (a_ (LV.Le.trans (leB (congrArg not (k_T_api_Fault y11.2 (T_api_Fault.mk 0 0)))) (leB cC9_1)) tr)) tr))) (a_ (r1_ (r2_ (f_ cC9_2 (a_ tr (t2_ (r2_ (a_ tr (r2_ tr)))))))) tr)) tr) (by kernel_rfl) rfl
  · skip
    obtain ⟨yC9_3, eC9_2, h⟩ := bind_some h
    rcases itb_some h with ⟨cC9_4, h⟩ | ⟨cC9_4, h⟩
    · skip
      rcases itb_some h with ⟨cC9_5, h⟩ | ⟨cC9_5, h⟩
      · skip
        obtain ⟨yC9_7, eC9_6, h⟩ := bind_some h
        obtain rfl := Option.some.inj h
        exact run_ret mixed (L := []) (n := 19) (s := [.reg [(2, hF)], .reg [(1, hC (script_Text_v yC9_3))], .reg [(3, hT), (7, hT), (8, hC (parrellaw27_alive_v yC9_7))]])
          (a_ (a_ (m_ 2 2 rfl (a_ (a_ (Eq.refl true) tr) (a_ (a_ tr (a_ (LV.Le.trans (leB (congrArg not (k_T_api_Fault y11.2 (T_api_Fault.mk 0 0)))) (leB cC9_1)) tr)) tr))) (a_ (r1_ (c_ (script_Text_tri y11.1 yC9_3 eC9_2) (r1_ (r4_ tr)))) (a_ (r1_ (r2_ (f_ cC9_4 (r1_ (r2_ (f_ cC9_5 (c_ (parrellaw27_alive_tri  yC9_7 eC9_6) (r2_ tr)))))))) tr))) tr) (by kernel_rfl) rfl
      · skip
        obtain rfl := Option.some.inj h
        exact run_ret mixed (L := []) (n := 19) (s := [.reg [(2, hF)], .reg [(1, hC (script_Text_v yC9_3))], .reg [(3, hT), (7, hF)]])
          (a_ (a_ (m_ 2 2 rfl (a_ (a_ (Eq.refl true) tr) (a_ (a_ tr (a_ (LV.Le.trans (leB (congrArg not (k_T_api_Fault y11.2 (T_api_Fault.mk 0 0)))) (leB cC9_1)) tr)) tr))) (a_ (r1_ (c_ (script_Text_tri y11.1 yC9_3 eC9_2) (r1_ (r4_ tr)))) (a_ (r1_ (r2_ (f_ cC9_4 (r1_ (r2_ (f_ cC9_5 (a_ tr (r2_ tr)))))))) tr))) tr) (by kernel_rfl) rfl
    · skip
      obtain rfl := Option.some.inj h
      exact run_ret mixed (L := []) (n := 19) (s := [.reg [(2, hF)], .reg [(1, hC (script_Text_v yC9_3))], .reg [(3, hF)]])
        (a_ (a_ (m_ 2 2 rfl (a_ (a_ (Eq.refl true) tr) (a_ (a_ tr (a_ (LV.Le.trans (leB (congrArg not (k_T_api_Fault y11.2 (T_api_Fault.mk 0 0)))) (leB cC9_1)) tr)) tr))) (a_ (r1_ (c_ (script_Text_tri y11.1 yC9_3 eC9_2) (r1_ (r4_ tr)))) (a_ (r1_ (r2_ (f_ cC9_4 (t2_ (r2_ (a_ tr (r2_ tr))))))) tr))) tr) (by kernel_rfl) rfl

theorem parrellaw27_ScriptOne_c10_ok {w0 : World} {W : Nat → Prop} {μ0 : Emb} (hμ : ∀ c p, μ0 c = some p → c < 0) (y8 : (List (T_script_Step)) × (T_api_Fault))   (r : (Bool)) (h : parrellaw27_ScriptOne_c10 y8   = some r) : kont Tryd.prog w0 W μ0 (FnPost Tryd.prog Tryd.f6 0 0 (parrellaw27_ScriptOne_v r) []) (kAtR (bodyOf Tryd.f6) 10) none (parrellaw27_ScriptOne_T1000010 y8 ) (parrellaw27_ScriptOne_H1000010 y8 ) := by
  unfold parrellaw27_ScriptOne_c10 at h
  rcases itb_some h with ⟨cC10_1, h⟩ | ⟨cC10_1, h⟩
  · skip
    rcases itb_some h with ⟨cC10_2, h⟩ | ⟨cC10_2, h⟩
    · skip
      obtain ⟨yC10_4, eC10_3, h⟩ := bind_some h
      obtain rfl := Option.some.inj h
      exact run_ret mixed (L := []) (n := 11) (s := [.reg [(3, hT), (8, hT), (9, hC (parrellaw27_alive_v yC10_4))]])
        (a_ (a_ (r1_ (r2_ (f_ cC10_1 (r1_ (l_ 1 2 rfl (r2_ (f_ cC10_2 (c_ (parrellaw27_alive_tri  yC10_4 eC10_3) (r2_ tr))))))))) tr) tr) (by kernel_rfl) rfl
    · skip
      obtain rfl := Option.some.inj h
      exact run_ret mixed (L := []) (n := 11) (s := [.reg [(3, hT), (8, hF)]])
        (a_ (a_ (r1_ (r2_ (f_ cC10_1 (r1_ (l_ 1 2 rfl (r2_ (f_ cC10_2 (a_ tr (r2_ tr))))))))) tr) tr) (by kernel_rfl) rfl
  · skip
    obtain rfl := Option.some.inj h
    exact run_ret mixed (L := []) (n := 11) (s := [.reg [(3, hF)]])
      (a_ (a_ (r1_ (r2_ (f_ cC10_1 (a_ tr (t2_ (r2_ (a_ tr (r2_ tr)))))))) tr) tr) (by kernel_rfl) rfl

theorem parrellaw27_ScriptOne_c11_ok {w0 : World} {W : Nat → Prop} {μ0 : Emb} (hμ : ∀ c p, μ0 c = some p → c < 0) (text : List UInt8) (y8 : (List (T_script_Step)) × (T_api_Fault))   (r : (Bool)) (h : parrellaw27_ScriptOne_c11 text y8   = some r) : kont Tryd.prog w0 W μ0 (FnPost Tryd.prog Tryd.f6 0 0 (parrellaw27_ScriptOne_v r) []) (kAtR (bodyOf Tryd.f6) 11) none (parrellaw27_ScriptOne_T1000011 text y8 ) (parrellaw27_ScriptOne_H1000011 text y8 ) := by
  unfold parrellaw27_ScriptOne_c11 at h
  obtain ⟨yC11_2, eC11_1, h⟩ := bind_some h
  rcases itb_some h with ⟨cC11_3, h⟩ | ⟨cC11_3, h⟩
  · skip
    rcases itb_some h with ⟨cC11_4, h⟩ | ⟨cC11_4, h⟩
    · skip
      obtain ⟨yC11_6, eC11_5, h⟩ := bind_some h
      obtain rfl := Option.some.inj h
      exact run_ret mixed (L := []) (n := 14) (s := [.reg [(1, hC (script_Text_v yC11_2))], .reg [(3, hT), (7, hT), (8, hC (parrellaw27_alive_v yC11_6))]])
        (a_ (a_ (r1_ (c_ (script_Text_tri y8.1 yC11_2 eC11_1) (r1_ (r4_ tr)))) (a_ (r1_ (r2_ (f_ cC11_3 (r1_ (r2_ (f_ cC11_4 (c_ (parrellaw27_alive_tri  yC11_6 eC11_5) (r2_ tr)))))))) tr)) tr) (by kernel_rfl) rfl
    · skip
      obtain rfl := Option.some.inj h
      exact run_ret mixed (L := []) (n := 14) (s := [.reg [(1, hC (script_Text_v yC11_2))], .reg [(3, hT), (7, hF)]])
        (a_ (a_ (r1_ (c_ (script_Text_tri y8.1 yC11_2 eC11_1) (r1_ (r4_ tr)))) (a_ (r1_ (r2_ (f_ cC11_3 (r1_ (r2_ (f_ cC11_4 (a_ tr (r2_ tr)))))))) tr)) tr) (by kernel_rfl) rfl
  · skip
    obtain rfl := Option.some.inj h
    exact run_ret mixed (L := []) (n := 14) (s := [.reg [(1, hC (script_Text_v yC11_2))], .reg [(3, hF)]])
      (a_ (a_ (r1_ (c_ (script_Text_tri y8.1 yC11_2 eC11_1) (r1_ (r4_ tr)))) (a_ (r1_ (r2_ (f_ cC11_3 (t2_ (r2_ (a_ tr (r2_ tr))))))) tr)) tr) (by kernel_rfl) rfl

theorem parrellaw27_ScriptOne_ok (text : List UInt8) (r : (Bool)) (h : parrellaw27_ScriptOne text = some r) : ∀ σ, Inj 0 σ → FnTri Tryd.prog 6 (renL σ [.str text]) (preOf σ 0 []) ((parrellaw27_ScriptOne_v r).ren σ) (upOf σ []) := by
  refine fn_of Tryd.func6 (by kernel_rfl) (by kernel_rfl) (by kernel_rfl) trivial (by kernel_rfl) trivial (by kernel_rfl) ?_
  intro w0 W μ0 hμ
  unfold parrellaw27_ScriptOne at h
  rcases itb_some h with ⟨c1, h⟩ | ⟨c1, h⟩
  · skip
    obtain ⟨y3, e2, h⟩ := bind_some h
    obtain rfl := Option.some.inj h
    exact run_ret mixed (L := []) (n := 20) (s := [.reg [], .reg [(2, hT)], .reg [(0, hC (parrellaw27_alive_v y3))]])
      (a_ (a_ (r1_ tr) (a_ (r2_ (f_ c1 tr)) (a_ (c_ (parrellaw27_alive_tri  y3 e2) (r1_ tr)) tr))) tr) (by kernel_rfl) rfl
  · skip
    obtain ⟨y4, e2, h⟩ := bind_some h
    rcases itb_some h with ⟨c5, h⟩ | ⟨c5, h⟩
    · skip
      obtain ⟨y7, e6, h⟩ := bind_some h
      rcases itb_some h with ⟨c8, h⟩ | ⟨c8, h⟩
      · skip
        obtain rfl := Option.some.inj h
        exact run_ret mixed (L := []) (n := 36) (s := [.reg [], .reg [(2, hF)], .reg [(1, hC (script_Parse_v y4))], .reg [(1, hT)], .reg [(1, hC (script_Line_v y7))], .reg [(3, hT)], .reg []])
          (a_ (a_ (r1_ tr) (a_ (r2_ (f_ c1 tr)) (a_ (r1_ (c_ (script_Parse_tri text y4 e2) (r4_ (a_ (a_ (a_ (Eq.refl 25) (a_ (le_ 25 25 rfl) (Eq.refl 0))) tr) (r1_ tr))))) (a_ (r1_ (f_ c5 tr)) (a_ (m_ 25 25 rfl (c_ (script_Line_tri y4.1 y7 e6) (r1_ (r4_ tr)))) (a_ (r1_ (r2_ (f_ c8 (t2_ (r1_ tr))))) (a_ (r1_ tr) tr))))))) tr) (by kernel_rfl) rfl
      · skip
        rcases itb_some h with ⟨c9, h⟩ | ⟨c9, h⟩
        · skip
          obtain rfl := Option.some.inj h
          exact run_ret mixed (L := []) (n := 36) (s := [.reg [], .reg [(2, hF)], .reg [(1, hC (script_Parse_v y4))], .reg [(1, hT)], .reg [(1, hC (script_Line_v y7))], .reg [(3, hF), (6, hT)], .reg []])
            (a_ (a_ (r1_ tr) (a_ (r2_ (f_ c1 tr)) (a_ (r1_ (c_ (script_Parse_tri text y4 e2) (r4_ (a_ (a_ (a_ (Eq.refl 25) (a_ (le_ 25 25 rfl) (Eq.refl 0))) tr) (r1_ tr))))) (a_ (r1_ (f_ c5 tr)) (a_ (m_ 25 25 rfl (c_ (script_Line_tri y4.1 y7 e6) (r1_ (r4_ tr)))) (a_ (r1_ (r2_ (f_ c8 (r2_ (f_ c9 tr))))) (a_ (r1_ tr) tr))))))) tr) (by kernel_rfl) rfl
        · skip
          obtain ⟨y11, e10, h⟩ := bind_some h
          exact run_to mixed hμ (L := [1]) (n := 39) (s := [.reg [], .reg [(2, hF)], .reg [(1, hC (script_Parse_v y4))], .reg [(1, hT)], .reg [(1, hC (script_Line_v y7))], .reg [(3, hF), (6, hF)], .reg [(1, hC (script_All_v y11))]])
            (a_ (r1_ tr) (a_ (r2_ (f_ c1 tr)) (a_ (r1_ (c_ (script_Parse_tri text y4 e2) (r4_ (a_ (a_ (a_ (Eq.refl 25) (a_ (le_ 25 25 rfl) (Eq.refl 0))) tr) (r1_ tr))))) (a_ (r1_ (f_ c5 tr)) (a_ (m_ 25 25 rfl (c_ (script_Line_tri y4.1 y7 e6) (r1_ (r4_ tr)))) (a_ (r1_ (r2_ (f_ c8 (r2_ (f_ c9 tr))))) (a_ (r1_ (c_ (script_All_tri text y11 e10) (r1_ (r4_ (a_ (a_ (a_ (Eq.refl 2) (a_ (le_ 2 2 rfl) (Eq.refl 0))) tr) tr))))) tr))))))) (parrellaw27_ScriptOne_c9_ok hμ text y11   r h) (by kernel_rfl) ⟨rfl, trivial⟩
    · skip
      obtain ⟨y8, e6, h⟩ := bind_some h
      rcases itb_some h with ⟨c9, h⟩ | ⟨c9, h⟩
      · skip
        exact run_to mixed hμ (L := [1]) (n := 36) (s := [.reg [], .reg [(2, hF)], .reg [(1, hC (script_Parse_v y4))], .reg [(1, hF)], .reg [(1, hC (script_All_v y8))], .reg [(2, hT)]])
          (a_ (r1_ tr) (a_ (r2_ (f_ c1 tr)) (a_ (r1_ (c_ (script_Parse_tri text y4 e2) (r4_ (a_ (a_ (a_ (Eq.refl 25) (a_ (le_ 25 25 rfl) (Eq.refl 0))) tr) (r1_ tr))))) (a_ (r1_ (f_ c5 tr)) (a_ (r1_ (c_ (script_All_tri text y8 e6) (r1_ (r4_ (a_ (a_ (a_ (Eq.refl 2) (a_ (le_ 2 2 rfl) (Eq.refl 0))) tr) tr))))) (a_ (m_ 2 2 rfl (a_ (a_ (Eq.refl true) tr) (a_ (a_ tr (a_ (LV.Le.trans (leB (congrArg not (k_T_api_Fault y8.2 (T_api_Fault.mk 0 0)))) (leB c9)) tr)) tr))) tr)))))) (parrellaw27_ScriptOne_c10_ok hμ y8   r h) (by kernel_rfl) ⟨rfl, trivial⟩
      · skip
        exact run_to mixed hμ (L := []) (n := 37) (s := [.reg [], .reg [(2, hF)], .reg [(1, hC (script_Parse_v y4))], .reg [(1, hF)], .reg [(1, hC (script_All_v y8))], .reg [(2, hF)]])
          (a_ (r1_ tr) (a_ (r2_ (f_ c1 tr)) (a_ (r1_ (c_ (script_Parse_tri text y4 e2) (r4_ (a_ (a_ (a_ (Eq.refl 25) (a_ (le_ 25 25 rfl) (Eq.refl 0))) tr) (r1_ tr))))) (a_ (r1_ (f_ c5 tr)) (a_ (r1_ (c_ (script_All_tri text y8 e6) (r1_ (r4_ (a_ (a_ (a_ (Eq.refl 2) (a_ (le_ 2 2 rfl) (Eq.refl 0))) tr) tr))))) (a_ (m_ 2 2 rfl (a_ (a_ (Eq.refl true) tr) (a_ (a_ tr (a_ (LV.Le.trans (leB (congrArg not (k_T_api_Fault y8.2 (T_api_Fault.mk 0 0)))) (leB c9)) tr)) tr))) tr)))))) (parrellaw27_ScriptOne_c11_ok hμ text y8   r h) (by kernel_rfl) trivial

theorem parrellaw27_ScriptOne_tri (text : List UInt8) (r : (Bool)) (h : parrellaw27_ScriptOne text = some r) : FnTri Tryd.prog 6 [.str text] [] (parrellaw27_ScriptOne_v r) [] := FnTri.none (parrellaw27_ScriptOne_ok text r h) rfl rfl

end
end Go.Proofs.YtdchgoaokceomaaDoor.Wk
