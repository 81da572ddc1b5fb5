/- Printed by tr.py: Go functions as Lean functions, with the proofs that they walk so. -/
import Derived.Test.YtffmmflapagkhaaDoorGathWa
namespace Go.Proofs.YtffmmflapagkhaaDoor.Wk
open Go Go.Cn Go.RowKit
set_option maxRecDepth 100000
set_option maxHeartbeats 4000000
set_option linter.unusedVariables false
set_option linter.unusedSimpArgs false
noncomputable section
/-- parrel/parrelref06.May -/

def parrelref06_May_v (r : (Bool)) : LV := .bool r

def parrelref06_May_T0 (c : T_api_Config) (y2 : (Int)) (i : Int) : List LV := [.any, .ptr 0 0 0, .any, .int .i64 y2, .int .i64 (IntKind.wrap .i64 c.f_R), .int .i64 (IntKind.wrap .i64 c.f_W), .int .i64 i, .any, .any, .any, .any, .any, .any, .any, .any, .any, .any, .any, .any, .any, .any, .any, .any, .any, .any, .any, .any, .any, .any, .any, .any, .any, .any, .any, .any, .any, .any, .any, .any, .any, .any, .any, .any, .any, .any, .any, .any, .any, .any, .any, .any, .any, .any, .any, .any, .any, .any, .any, .any, .any, .any, .any, .any]

def parrelref06_May_H0 (c : T_api_Config) (y2 : (Int)) (i : Int) : Heap := [some (.var (c_T_api_Config c))]

def parrelref06_May_l0 (c : T_api_Config) (y2 : (Int))  : Nat → (Int) → Option ((Bool))
  | 0, _ => none
  | fuel + 1, i =>
    if ((decide (i < 8)) : Bool) then
      if 0 ≤ i ∧ i < 8 then
      if ((decide (15 < (A8.get c.f_Votes i.toNat))) : Bool) then
        some false
      else
        parrelref06_May_l0 c y2  fuel (IntKind.wrap .i64 (i + 1))
      else none
    else
      if ((decide (1 ≤ c.f_Epoch)) : Bool) then
        if ((decide (c.f_Epoch ≤ 2147483647)) : Bool) then
          if ((decide (1 ≤ (IntKind.wrap .i64 c.f_R))) : Bool) then
            if ((decide (1 ≤ (IntKind.wrap .i64 c.f_W))) : Bool) then
              if ((decide ((IntKind.wrap .i64 c.f_R) ≤ y2)) : Bool) then
                if ((decide ((IntKind.wrap .i64 c.f_W) ≤ y2)) : Bool) then
                  if ((decide (y2 < (IntKind.wrap .i64 ((IntKind.wrap .i64 c.f_R) + (IntKind.wrap .i64 c.f_W))))) : Bool) then
                    some (decide (y2 < (IntKind.wrap .i64 (2 * (IntKind.wrap .i64 c.f_W)))))
                  else
                    some false
                else
                  some false
              else
                some false
            else
              some false
          else
            some false
        else
          some false
      else
        some false

def parrelref06_May (c : T_api_Config) : Option ((Bool)) :=
  (parrelref06_Total c).bind fun y2 =>
  parrelref06_May_l0 c y2  big 0

theorem parrelref06_May_l0_ok {w0 : World} {W : Nat → Prop} {μ0 : Emb} (hμ : ∀ c p, μ0 c = some p → c < 0) (c : T_api_Config) (y2 : (Int))  : ∀ (fuel : Nat) (i : Int) (r : (Bool)), parrelref06_May_l0 c y2  fuel i = some r → kont Tryd.prog w0 W μ0 (FnPost Tryd.prog Tryd.f9 0 0 (parrelref06_May_v r) []) (kAt (bodyOf Tryd.f9) 0) none (parrelref06_May_T0 c y2 i) (parrelref06_May_H0 c y2 i) := by
  intro fuel
  induction fuel with
  | zero => intro i r h; rw [parrelref06_May_l0] at h; cases h
  | succ fuel ih =>
    intro i r h
    rw [parrelref06_May_l0] at h
    rcases itb_some h with ⟨cL0_1, h⟩ | ⟨cL0_1, h⟩
    · skip
      obtain ⟨gL0_2, h⟩ := guard_some h
      rcases itb_some h with ⟨cL0_3, h⟩ | ⟨cL0_3, h⟩
      · skip
        obtain rfl := Option.some.inj h
        exact run_ret mixed (L := []) (n := 25) (s := [.go, .reg [(1, { v := some (.bool true) })], .reg [(3, { v := some (.int .u8 (A8.get c.f_Votes i.toNat)) }), (4, { v := some (.bool true) })], .reg []])
          (a_ (a_ (r1_ (a_ (a_ tr (a_ (leB cL0_1) tr)) tr)) (a_ (r2_ (a_ (a_ gL0_2 tr) (a_ (a_ (a_ tr (arrLt (len := 8) gL0_2 3 1 11 rfl rfl)) (a_ (ld8s (cInt .u8) 1 (fun _ => rfl) c.f_Votes [.int .u32 c.f_Epoch, .int .u8 c.f_R, .int .u8 c.f_W] [] 3 rfl i.toNat (lt8N gL0_2) (le_ (0 + 1) 1 rfl)) tr)) (a_ (a_ tr (a_ (leB cL0_3) tr)) tr)))) (a_ (r1_ tr) tr))) tr) (by kernel_rfl) rfl
      · skip
        exact run_to mixed hμ (L := [0]) (n := 26) (s := [.go, .reg [(1, { v := some (.bool true) })], .reg [(3, { v := some (.int .u8 (A8.get c.f_Votes i.toNat)) }), (4, { v := some (.bool false) })], .reg []])
          (a_ (r1_ (a_ (a_ tr (a_ (leB cL0_1) tr)) tr)) (a_ (r2_ (a_ (a_ gL0_2 tr) (a_ (a_ (a_ tr (arrLt (len := 8) gL0_2 3 1 11 rfl rfl)) (a_ (ld8s (cInt .u8) 1 (fun _ => rfl) c.f_Votes [.int .u32 c.f_Epoch, .int .u8 c.f_R, .int .u8 c.f_W] [] 3 rfl i.toNat (lt8N gL0_2) (le_ (0 + 1) 1 rfl)) tr)) (a_ (a_ tr (a_ (leB cL0_3) tr)) tr)))) (a_ (r1_ (r2_ tr)) tr))) (ih _ r h) (by kernel_rfl) ⟨rfl, trivial⟩
    · skip
      rcases itb_some h with ⟨cL0_2, h⟩ | ⟨cL0_2, h⟩
      · skip
        rcases itb_some h with ⟨cL0_3, h⟩ | ⟨cL0_3, h⟩
        · skip
          rcases itb_some h with ⟨cL0_4, h⟩ | ⟨cL0_4, h⟩
          · skip
            rcases itb_some h with ⟨cL0_5, h⟩ | ⟨cL0_5, h⟩
            · skip
              rcases itb_some h with ⟨cL0_6, h⟩ | ⟨cL0_6, h⟩
              · skip
                rcases itb_some h with ⟨cL0_7, h⟩ | ⟨cL0_7, h⟩
                · skip
                  rcases itb_some h with ⟨cL0_8, h⟩ | ⟨cL0_8, h⟩
                  · skip
                    obtain rfl := Option.some.inj h
                    exact run_ret mixed (L := []) (n := 19) (s := [.go, .reg [(1, { v := some (.bool false) })], .reg [(3, { v := some (.bool true) }), (8, { v := some (.bool true) }), (12, { v := some (.bool true) }), (16, { v := some (.bool true) }), (21, { v := some (.bool true) }), (26, { v := some (.bool true) }), (33, { v := some (.bool true) })]])
                      (a_ (a_ (r1_ (a_ (a_ tr (a_ (leB cL0_1) tr)) tr)) (a_ (r1_ (a_ (a_ (a_ tr (lt_ 0 11 rfl)) tr) (r1_ (a_ (a_ tr (a_ (leB cL0_2) tr)) (r1_ (a_ (a_ (a_ tr (lt_ 0 11 rfl)) tr) (r2_ (a_ (a_ tr (a_ (leB cL0_3) tr)) (r1_ (r2_ (a_ (a_ tr (a_ (leB cL0_4) tr)) (r1_ (r2_ (a_ (a_ tr (a_ (leB cL0_5) tr)) (r4_ (a_ (a_ tr (a_ (leB cL0_6) tr)) (r4_ (a_ (a_ tr (a_ (leB cL0_7) tr)) (r2_ (r4_ (a_ (a_ tr (a_ (leB cL0_8) tr)) (r2_ (r4_ tr))))))))))))))))))))))) tr)) tr) (by kernel_rfl) rfl
                  · skip
                    obtain rfl := Option.some.inj h
                    exact run_ret mixed (L := []) (n := 19) (s := [.go, .reg [(1, { v := some (.bool false) })], .reg [(3, { v := some (.bool true) }), (8, { v := some (.bool true) }), (12, { v := some (.bool true) }), (16, { v := some (.bool true) }), (21, { v := some (.bool true) }), (26, { v := some (.bool true) }), (33, { v := some (.bool false) })]])
                      (a_ (a_ (r1_ (a_ (a_ tr (a_ (leB cL0_1) tr)) tr)) (a_ (r1_ (a_ (a_ (a_ tr (lt_ 0 11 rfl)) tr) (r1_ (a_ (a_ tr (a_ (leB cL0_2) tr)) (r1_ (a_ (a_ (a_ tr (lt_ 0 11 rfl)) tr) (r2_ (a_ (a_ tr (a_ (leB cL0_3) tr)) (r1_ (r2_ (a_ (a_ tr (a_ (leB cL0_4) tr)) (r1_ (r2_ (a_ (a_ tr (a_ (leB cL0_5) tr)) (r4_ (a_ (a_ tr (a_ (leB cL0_6) tr)) (r4_ (a_ (a_ tr (a_ (leB cL0_7) tr)) (r2_ (r4_ (a_ (a_ tr (a_ (leB cL0_8) tr)) (t4_ (r2_ tr))))))))))))))))))))))) tr)) tr) (by kernel_rfl) rfl
                · skip
                  obtain rfl := Option.some.inj h
                  exact run_ret mixed (L := []) (n := 19) (s := [.go, .reg [(1, { v := some (.bool false) })], .reg [(3, { v := some (.bool true) }), (8, { v := some (.bool true) }), (12, { v := some (.bool true) }), (16, { v := some (.bool true) }), (21, { v := some (.bool true) }), (26, { v := some (.bool false) })]])
                    (a_ (a_ (r1_ (a_ (a_ tr (a_ (leB cL0_1) tr)) tr)) (a_ (r1_ (a_ (a_ (a_ tr (lt_ 0 11 rfl)) tr) (r1_ (a_ (a_ tr (a_ (leB cL0_2) tr)) (r1_ (a_ (a_ (a_ tr (lt_ 0 11 rfl)) tr) (r2_ (a_ (a_ tr (a_ (leB cL0_3) tr)) (r1_ (r2_ (a_ (a_ tr (a_ (leB cL0_4) tr)) (r1_ (r2_ (a_ (a_ tr (a_ (leB cL0_5) tr)) (r4_ (a_ (a_ tr (a_ (leB cL0_6) tr)) (r4_ (a_ (a_ tr (a_ (leB cL0_7) tr)) (a_ tr (t4_ (r2_ (t4_ (r2_ tr))))))))))))))))))))))) tr)) tr) (by kernel_rfl) rfl
              · skip
                obtain rfl := Option.some.inj h
                exact run_ret mixed (L := []) (n := 19) (s := [.go, .reg [(1, { v := some (.bool false) })], .reg [(3, { v := some (.bool true) }), (8, { v := some (.bool true) }), (12, { v := some (.bool true) }), (16, { v := some (.bool true) }), (21, { v := some (.bool false) })]])
                  (a_ (a_ (r1_ (a_ (a_ tr (a_ (leB cL0_1) tr)) tr)) (a_ (r1_ (a_ (a_ (a_ tr (lt_ 0 11 rfl)) tr) (r1_ (a_ (a_ tr (a_ (leB cL0_2) tr)) (r1_ (a_ (a_ (a_ tr (lt_ 0 11 rfl)) tr) (r2_ (a_ (a_ tr (a_ (leB cL0_3) tr)) (r1_ (r2_ (a_ (a_ tr (a_ (leB cL0_4) tr)) (r1_ (r2_ (a_ (a_ tr (a_ (leB cL0_5) tr)) (r4_ (a_ (a_ tr (a_ (leB cL0_6) tr)) (a_ tr (t2_ (r2_ (a_ tr (t4_ (r2_ (t4_ (r2_ tr)))))))))))))))))))))))) tr)) tr) (by kernel_rfl) rfl
            · skip
              obtain rfl := Option.some.inj h
              exact run_ret mixed (L := []) (n := 19) (s := [.go, .reg [(1, { v := some (.bool false) })], .reg [(3, { v := some (.bool true) }), (8, { v := some (.bool true) }), (12, { v := some (.bool true) }), (16, { v := some (.bool false) })]])
                (a_ (a_ (r1_ (a_ (a_ tr (a_ (leB cL0_1) tr)) tr)) (a_ (r1_ (a_ (a_ (a_ tr (lt_ 0 11 rfl)) tr) (r1_ (a_ (a_ tr (a_ (leB cL0_2) tr)) (r1_ (a_ (a_ (a_ tr (lt_ 0 11 rfl)) tr) (r2_ (a_ (a_ tr (a_ (leB cL0_3) tr)) (r1_ (r2_ (a_ (a_ tr (a_ (leB cL0_4) tr)) (r1_ (r2_ (a_ (a_ tr (a_ (leB cL0_5) tr)) (a_ tr (t2_ (r2_ (a_ tr (t2_ (r2_ (a_ tr (t4_ (r2_ (t4_ (r2_ tr))))))))))))))))))))))))) tr)) tr) (by kernel_rfl) rfl
          · skip
            obtain rfl := Option.some.inj h
            exact run_ret mixed (L := []) (n := 19) (s := [.go, .reg [(1, { v := some (.bool false) })], .reg [(3, { v := some (.bool true) }), (8, { v := some (.bool true) }), (12, { v := some (.bool false) })]])
              (a_ (a_ (r1_ (a_ (a_ tr (a_ (leB cL0_1) tr)) tr)) (a_ (r1_ (a_ (a_ (a_ tr (lt_ 0 11 rfl)) tr) (r1_ (a_ (a_ tr (a_ (leB cL0_2) tr)) (r1_ (a_ (a_ (a_ tr (lt_ 0 11 rfl)) tr) (r2_ (a_ (a_ tr (a_ (leB cL0_3) tr)) (r1_ (r2_ (a_ (a_ tr (a_ (leB cL0_4) tr)) (t2_ (r2_ (a_ tr (t2_ (r2_ (a_ tr (t2_ (r2_ (a_ tr (t4_ (r2_ (t4_ (r2_ tr)))))))))))))))))))))))) tr)) tr) (by kernel_rfl) rfl
        · skip
          obtain rfl := Option.some.inj h
          exact run_ret mixed (L := []) (n := 19) (s := [.go, .reg [(1, { v := some (.bool false) })], .reg [(3, { v := some (.bool true) }), (8, { v := some (.bool false) })]])
            (a_ (a_ (r1_ (a_ (a_ tr (a_ (leB cL0_1) tr)) tr)) (a_ (r1_ (a_ (a_ (a_ tr (lt_ 0 11 rfl)) tr) (r1_ (a_ (a_ tr (a_ (leB cL0_2) tr)) (r1_ (a_ (a_ (a_ tr (lt_ 0 11 rfl)) tr) (r2_ (a_ (a_ tr (a_ (leB cL0_3) tr)) (t2_ (r2_ (t2_ (r2_ (a_ tr (t2_ (r2_ (a_ tr (t2_ (r2_ (a_ tr (t4_ (r2_ (t4_ (r2_ tr))))))))))))))))))))))) tr)) tr) (by kernel_rfl) rfl
      · skip
        obtain rfl := Option.some.inj h
        exact run_ret mixed (L := []) (n := 19) (s := [.go, .reg [(1, { v := some (.bool false) })], .reg [(3, { v := some (.bool false) })]])
          (a_ (a_ (r1_ (a_ (a_ tr (a_ (leB cL0_1) tr)) tr)) (a_ (r1_ (a_ (a_ (a_ tr (lt_ 0 11 rfl)) tr) (r1_ (a_ (a_ tr (a_ (leB cL0_2) tr)) (a_ tr (t2_ (r2_ (t2_ (r2_ (t2_ (r2_ (a_ tr (t2_ (r2_ (a_ tr (t2_ (r2_ (a_ tr (t4_ (r2_ (t4_ (r2_ tr)))))))))))))))))))))) tr)) tr) (by kernel_rfl) rfl

theorem parrelref06_May_ok (c : T_api_Config) (r : (Bool)) (h : parrelref06_May c = some r) : ∀ σ, Inj 0 σ → FnTri Tryd.prog 9 (renL σ [v_T_api_Config c]) (preOf σ 0 []) ((parrelref06_May_v r).ren σ) (upOf σ []) := by
  refine fn_of Tryd.func9 (by kernel_rfl) (by kernel_rfl) (by kernel_rfl) trivial (by kernel_rfl) trivial (by kernel_rfl) ?_
  intro w0 W μ0 hμ
  unfold parrelref06_May at h
  obtain ⟨y2, e1, h⟩ := bind_some h
  exact run_to mixed hμ (L := [0]) (n := 21) (s := [.reg [], .reg [(1, { call := some (parrelref06_Total_v y2, [], []) })], .reg []])
    (a_ (r2_ tr) (a_ (a_ (a_ (a_ tr (le_ 11 11 rfl)) tr) (a_ (a_ (a_ (parrelref06_Total_tri c y2 e1) tr) tr) (r1_ (a_ (a_ (a_ tr (lt_ 1 11 rfl)) tr) (r2_ (a_ (a_ (a_ tr (lt_ 2 11 rfl)) tr) (r4_ tr))))))) (a_ (r1_ tr) tr))) (parrelref06_May_l0_ok hμ c y2  big _ r h) (by kernel_rfl) ⟨rfl, trivial⟩

theorem parrelref06_May_tri (c : T_api_Config) (r : (Bool)) (h : parrelref06_May c = some r) : FnTri Tryd.prog 9 [v_T_api_Config c] [] (parrelref06_May_v r) [] := FnTri.none (parrelref06_May_ok c r h) rfl rfl

/-- parrel/parrelref19.New -/

def parrelref19_New_v (r : (T_parrelref19_Gather) × (Int)) : LV := .tup [v_T_parrelref19_Gather r.1, .int .i64 r.2]

def parrelref19_New_T0 (mode : Int) (c : T_api_Config) (more : List (T_api_Config)) (i : Int) : List LV := [.any, .int .u8 mode, .any, .ds 11 (more).length (rowF c_T_api_Config default more), .any, .any, .ptr 0 0 0, .any, .ptr 1 0 0, .any, .int .i64 i, .any, .any, .any, .any, .any, .any, .any, .any, .any, .any, .any, .any, .any, .any, .any, .any, .any, .any, .any, .any, .any, .any, .any, .any, .any, .any, .any, .any, .any, .any, .any, .any, .any, .any, .any]

def parrelref19_New_H0 (mode : Int) (c : T_api_Config) (more : List (T_api_Config)) (i : Int) : Heap := [some (.var (c_T_api_Config c)), some (.var [.int .u8 0, .int .u32 0, .int .u8 0, .int .u8 0, .int .u8 0, .int .u8 0, .int .u8 0, .int .u8 0, .int .u8 0, .int .u8 0, .int .u8 0, .int .u8 0, .nilsl, .nilsl])]

def parrelref19_New_l0 (mode : Int) (c : T_api_Config) (more : List (T_api_Config))  : Nat → (Int) → Option ((T_parrelref19_Gather) × (Int))
  | 0, _ => none
  | fuel + 1, i =>
    if ((decide (i < ((more).length : Int))) : Bool) then
      if 0 ≤ i ∧ i < (((more).length : Nat) : Int) then
      (parrelref06_May (more.getD i.toNat default)).bind fun yL0_4 =>
      if ((!yL0_4) : Bool) then
        some ((T_parrelref19_Gather.mk 0 (T_api_Config.mk 0 0 0 (A8.mk 0 0 0 0 0 0 0 0)) ([] : List (T_api_Config)) ([] : List (T_parrelref19_Got))), 1)
      else
        parrelref19_New_l0 mode c more  fuel (IntKind.wrap .i64 (i + 1))
      else none
    else
      if (0 + (more).length) * 16 ≤ 140737488351232 then
      some ((T_parrelref19_Gather.mk mode c more ([] : List (T_parrelref19_Got))), 0)
      else none

def parrelref19_New (x_k : A8 (Int)) (mode : Int) (c : T_api_Config) (more : List (T_api_Config)) : Option ((T_parrelref19_Gather) × (Int)) :=
  (parrelref10_KeyMay x_k).bind fun y2 =>
  if ((!y2) : Bool) then
    some ((T_parrelref19_Gather.mk 0 (T_api_Config.mk 0 0 0 (A8.mk 0 0 0 0 0 0 0 0)) ([] : List (T_api_Config)) ([] : List (T_parrelref19_Got))), 1)
  else
    if ((decide (mode < 1)) : Bool) then
      some ((T_parrelref19_Gather.mk 0 (T_api_Config.mk 0 0 0 (A8.mk 0 0 0 0 0 0 0 0)) ([] : List (T_api_Config)) ([] : List (T_parrelref19_Got))), 1)
    else
      if ((decide (2 < mode)) : Bool) then
        some ((T_parrelref19_Gather.mk 0 (T_api_Config.mk 0 0 0 (A8.mk 0 0 0 0 0 0 0 0)) ([] : List (T_api_Config)) ([] : List (T_parrelref19_Got))), 1)
      else
        (parrelref06_May c).bind fun y7 =>
        if ((!y7) : Bool) then
          some ((T_parrelref19_Gather.mk 0 (T_api_Config.mk 0 0 0 (A8.mk 0 0 0 0 0 0 0 0)) ([] : List (T_api_Config)) ([] : List (T_parrelref19_Got))), 1)
        else
          parrelref19_New_l0 mode c more  big 0

theorem parrelref19_New_l0_ok {w0 : World} {W : Nat → Prop} {μ0 : Emb} (hμ : ∀ c p, μ0 c = some p → c < 0) (mode : Int) (c : T_api_Config) (more : List (T_api_Config))  : ∀ (fuel : Nat) (i : Int) (r : (T_parrelref19_Gather) × (Int)), parrelref19_New_l0 mode c more  fuel i = some r → kont Tryd.prog w0 W μ0 (FnPost Tryd.prog Tryd.f22 0 0 (parrelref19_New_v r) []) (kAt (bodyOf Tryd.f22) 0) none (parrelref19_New_T0 mode c more i) (parrelref19_New_H0 mode c more i) := by
  intro fuel
  induction fuel with
  | zero => intro i r h; rw [parrelref19_New_l0] at h; cases h
  | succ fuel ih =>
    intro i r h
    rw [parrelref19_New_l0] at h
    rcases itb_some h with ⟨cL0_1, h⟩ | ⟨cL0_1, h⟩
    · skip
      obtain ⟨gL0_2, h⟩ := guard_some h
      obtain ⟨yL0_4, eL0_3, h⟩ := bind_some h
      rcases itb_some h with ⟨cL0_5, h⟩ | ⟨cL0_5, h⟩
      · skip
        obtain rfl := Option.some.inj h
        exact run_ret mixed (L := []) (n := 27) (s := [.go, .reg [(3, { v := some (.bool true) })], .reg [(4, { call := some (parrelref06_May_v yL0_4, [], []) }), (5, { v := some (.bool true) })], .reg [], .wk [] [(1, .var [.int .u8 0, .int .u32 0, .int .u8 0, .int .u8 0, .int .u8 0, .int .u8 0, .int .u8 0, .int .u8 0, .int .u8 0, .int .u8 0, .int .u8 0, .int .u8 0, .ds 11 (([] : List (T_api_Config))).length (rowF c_T_api_Config default ([] : List (T_api_Config))), .nilsl])], .wk [] [(1, .var (c_T_parrelref19_Gather (T_parrelref19_Gather.mk 0 (T_api_Config.mk 0 0 0 (A8.mk 0 0 0 0 0 0 0 0)) ([] : List (T_api_Config)) ([] : List (T_parrelref19_Got)))))]])
          (a_ (a_ (r1_ (r2_ (a_ (a_ tr (a_ (leB cL0_1) tr)) tr))) (a_ (r2_ (a_ (a_ (a_ (Eq.refl 11) gL0_2) tr) (a_ (a_ (le_ 11 11 rfl) tr) (a_ (a_ (a_ (parrelref06_May_tri (more.getD i.toNat default) yL0_4 eL0_3) tr) tr) (a_ (a_ tr (a_ (leB cL0_5) tr)) tr))))) (a_ (a_ (a_ (Eq.refl true) tr) (a_ (a_ (a_ (Eq.refl 14) (a_ (le_ 14 14 rfl) (Eq.refl 0))) tr) (r1_ tr))) (a_ (a_ tr (a_ (LO.Sub.var (a := [.int .u8 0, .int .u32 0, .int .u8 0, .int .u8 0, .int .u8 0, .int .u8 0, .int .u8 0, .int .u8 0, .int .u8 0, .int .u8 0, .int .u8 0, .int .u8 0, .nilsl, .nilsl]) (b := [.int .u8 0, .int .u32 0, .int .u8 0, .int .u8 0, .int .u8 0, .int .u8 0, .int .u8 0, .int .u8 0, .int .u8 0, .int .u8 0, .int .u8 0, .int .u8 0, .ds 11 (([] : List (T_api_Config))).length (rowF c_T_api_Config default ([] : List (T_api_Config))), .nilsl]) (a_ (LV.Le.refl (.int .u8 0)) (a_ (LV.Le.refl (.int .u32 0)) (a_ (LV.Le.refl (.int .u8 0)) (a_ (LV.Le.refl (.int .u8 0)) (a_ (LV.Le.refl (.int .u8 0)) (a_ (LV.Le.refl (.int .u8 0)) (a_ (LV.Le.refl (.int .u8 0)) (a_ (LV.Le.refl (.int .u8 0)) (a_ (LV.Le.refl (.int .u8 0)) (a_ (LV.Le.refl (.int .u8 0)) (a_ (LV.Le.refl (.int .u8 0)) (a_ (LV.Le.refl (.int .u8 0)) (a_ (le_nil_ds 11 (rowF c_T_api_Config default [])) (a_ (LV.Le.refl (.nilsl)) tr))))))))))))))) tr)) (a_ (a_ tr (a_ (LO.Sub.var (a := [.int .u8 0, .int .u32 0, .int .u8 0, .int .u8 0, .int .u8 0, .int .u8 0, .int .u8 0, .int .u8 0, .int .u8 0, .int .u8 0, .int .u8 0, .int .u8 0, .ds 11 (([] : List (T_api_Config))).length (rowF c_T_api_Config default ([] : List (T_api_Config))), .nilsl]) (b := [.int .u8 0, .int .u32 0, .int .u8 0, .int .u8 0, .int .u8 0, .int .u8 0, .int .u8 0, .int .u8 0, .int .u8 0, .int .u8 0, .int .u8 0, .int .u8 0, .ds 11 (([] : List (T_api_Config))).length (rowF c_T_api_Config default ([] : List (T_api_Config))), .ds 16 (([] : List (T_parrelref19_Got))).length (rowF c_T_parrelref19_Got default ([] : List (T_parrelref19_Got)))]) (a_ (LV.Le.refl (.int .u8 0)) (a_ (LV.Le.refl (.int .u32 0)) (a_ (LV.Le.refl (.int .u8 0)) (a_ (LV.Le.refl (.int .u8 0)) (a_ (LV.Le.refl (.int .u8 0)) (a_ (LV.Le.refl (.int .u8 0)) (a_ (LV.Le.refl (.int .u8 0)) (a_ (LV.Le.refl (.int .u8 0)) (a_ (LV.Le.refl (.int .u8 0)) (a_ (LV.Le.refl (.int .u8 0)) (a_ (LV.Le.refl (.int .u8 0)) (a_ (LV.Le.refl (.int .u8 0)) (a_ (LV.Le.refl (.ds 11 (([] : List (T_api_Config))).length (rowF c_T_api_Config default ([] : List (T_api_Config))))) (a_ (le_nil_ds 16 (rowF c_T_parrelref19_Got default [])) tr))))))))))))))) tr)) tr))))) (a_ (a_ tr (le_ 14 14 rfl)) tr)) (by kernel_rfl) rfl
      · skip
        exact run_to mixed hμ (L := [0, 1]) (n := 26) (s := [.go, .reg [(3, { v := some (.bool true) })], .reg [(4, { call := some (parrelref06_May_v yL0_4, [], []) }), (5, { v := some (.bool false) })], .reg []])
          (a_ (r1_ (r2_ (a_ (a_ tr (a_ (leB cL0_1) tr)) tr))) (a_ (r2_ (a_ (a_ (a_ (Eq.refl 11) gL0_2) tr) (a_ (a_ (le_ 11 11 rfl) tr) (a_ (a_ (a_ (parrelref06_May_tri (more.getD i.toNat default) yL0_4 eL0_3) tr) tr) (a_ (a_ tr (a_ (leB cL0_5) tr)) tr))))) (a_ (r1_ (r2_ tr)) tr))) (ih _ r h) (by kernel_rfl) ⟨rfl, rfl, trivial⟩
    · skip
      obtain ⟨gL0_2, h⟩ := guard_some h
      obtain rfl := Option.some.inj h
      exact run_ret mixed (L := []) (n := 21) (s := [.go, .reg [(3, { v := some (.bool false) })], .reg [(3, { app := 3 })], .frz 2, .wk [] [(1, .var (c_T_parrelref19_Gather (T_parrelref19_Gather.mk mode c more ([] : List (T_parrelref19_Got)))))]])
        (a_ (a_ (r1_ (r2_ (a_ (a_ tr (a_ (leB cL0_1) tr)) tr))) (a_ (r1_ (a_ (a_ (a_ tr (le_ 11 11 rfl)) tr) (r1_ (a_ (a_ (a_ (Eq.refl 11) (a_ (lt_ 0 11 rfl) (a_ (lt_ 0 16 rfl) (a_ gL0_2 (a_ (Eq.refl 11) (Eq.refl true)))))) tr) (a_ (a_ (Eq.refl true) tr) (a_ (a_ (a_ (Eq.refl 14) (a_ (le_ 14 14 rfl) (Eq.refl 0))) tr) (r1_ tr))))))) (a_ (a_ (fz_row (enc := c_T_api_Config) (d := default) (fun _ => rfl) more) (a_ (Nat.le_refl (more).length) (a_ (Nat.le_refl (more).length) (a_ (Nat.le_refl (more).length) tr)))) (a_ (a_ tr (a_ (LO.Sub.var (a := [.int .u8 mode, .int .u32 c.f_Epoch, .int .u8 c.f_R, .int .u8 c.f_W, .int .u8 c.f_Votes.a0, .int .u8 c.f_Votes.a1, .int .u8 c.f_Votes.a2, .int .u8 c.f_Votes.a3, .int .u8 c.f_Votes.a4, .int .u8 c.f_Votes.a5, .int .u8 c.f_Votes.a6, .int .u8 c.f_Votes.a7, .ds 11 (more).length (rowF c_T_api_Config default more), .nilsl]) (b := [.int .u8 mode, .int .u32 c.f_Epoch, .int .u8 c.f_R, .int .u8 c.f_W, .int .u8 c.f_Votes.a0, .int .u8 c.f_Votes.a1, .int .u8 c.f_Votes.a2, .int .u8 c.f_Votes.a3, .int .u8 c.f_Votes.a4, .int .u8 c.f_Votes.a5, .int .u8 c.f_Votes.a6, .int .u8 c.f_Votes.a7, .ds 11 (more).length (rowF c_T_api_Config default more), .ds 16 (([] : List (T_parrelref19_Got))).length (rowF c_T_parrelref19_Got default ([] : List (T_parrelref19_Got)))]) (a_ (LV.Le.refl (.int .u8 mode)) (a_ (LV.Le.refl (.int .u32 c.f_Epoch)) (a_ (LV.Le.refl (.int .u8 c.f_R)) (a_ (LV.Le.refl (.int .u8 c.f_W)) (a_ (LV.Le.refl (.int .u8 c.f_Votes.a0)) (a_ (LV.Le.refl (.int .u8 c.f_Votes.a1)) (a_ (LV.Le.refl (.int .u8 c.f_Votes.a2)) (a_ (LV.Le.refl (.int .u8 c.f_Votes.a3)) (a_ (LV.Le.refl (.int .u8 c.f_Votes.a4)) (a_ (LV.Le.refl (.int .u8 c.f_Votes.a5)) (a_ (LV.Le.refl (.int .u8 c.f_Votes.a6)) (a_ (LV.Le.refl (.int .u8 c.f_Votes.a7)) (a_ (LV.Le.refl (.ds 11 (more).length (rowF c_T_api_Config default more))) (a_ (le_nil_ds 16 (rowF c_T_parrelref19_Got default [])) tr))))))))))))))) tr)) tr)))) (a_ (a_ tr (le_ 14 14 rfl)) tr)) (by kernel_rfl) rfl

theorem parrelref19_New_ok (x_k : A8 (Int)) (mode : Int) (c : T_api_Config) (more : List (T_api_Config)) (r : (T_parrelref19_Gather) × (Int)) (h : parrelref19_New x_k mode c more = some r) : ∀ σ, Inj 0 σ → FnTri Tryd.prog 22 (renL σ [.agg [.int .u8 x_k.a0, .int .u8 x_k.a1, .int .u8 x_k.a2, .int .u8 x_k.a3, .int .u8 x_k.a4, .int .u8 x_k.a5, .int .u8 x_k.a6, .int .u8 x_k.a7], .int .u8 mode, v_T_api_Config c, .ds 11 (more).length (rowF c_T_api_Config default more)]) (preOf σ 0 []) ((parrelref19_New_v r).ren σ) (upOf σ []) := by
  refine fn_of Tryd.func22 (by kernel_rfl) (by kernel_rfl) (by kernel_rfl) trivial (by kernel_rfl) trivial (by kernel_rfl) ?_
  intro w0 W μ0 hμ
  unfold parrelref19_New at h
  obtain ⟨y2, e1, h⟩ := bind_some h
  rcases itb_some h with ⟨c3, h⟩ | ⟨c3, h⟩
  · skip
    obtain rfl := Option.some.inj h
    exact run_ret mixed (L := []) (n := 22) (s := [.reg [], .reg [(1, { call := some (parrelref10_KeyMay_v y2, [], []) }), (3, { v := some (.bool true) })], .reg [], .wk [] [(2, .var [.int .u8 0, .int .u32 0, .int .u8 0, .int .u8 0, .int .u8 0, .int .u8 0, .int .u8 0, .int .u8 0, .int .u8 0, .int .u8 0, .int .u8 0, .int .u8 0, .ds 11 (([] : List (T_api_Config))).length (rowF c_T_api_Config default ([] : List (T_api_Config))), .nilsl])], .wk [] [(2, .var (c_T_parrelref19_Gather (T_parrelref19_Gather.mk 0 (T_api_Config.mk 0 0 0 (A8.mk 0 0 0 0 0 0 0 0)) ([] : List (T_api_Config)) ([] : List (T_parrelref19_Got)))))]])
      (a_ (a_ (r4_ tr) (a_ (a_ (a_ (a_ tr (le_ 8 8 rfl)) tr) (a_ (a_ (a_ (parrelref10_KeyMay_tri x_k y2 e1) tr) tr) (r1_ (a_ (a_ tr (a_ (leB c3) tr)) (t2_ (r2_ (t2_ (r2_ (a_ tr (t2_ (r1_ tr))))))))))) (a_ (a_ (a_ (Eq.refl true) tr) (a_ (a_ (a_ (Eq.refl 14) (a_ (le_ 14 14 rfl) (Eq.refl 0))) tr) (r1_ tr))) (a_ (a_ tr (a_ (LO.Sub.var (a := [.int .u8 0, .int .u32 0, .int .u8 0, .int .u8 0, .int .u8 0, .int .u8 0, .int .u8 0, .int .u8 0, .int .u8 0, .int .u8 0, .int .u8 0, .int .u8 0, .nilsl, .nilsl]) (b := [.int .u8 0, .int .u32 0, .int .u8 0, .int .u8 0, .int .u8 0, .int .u8 0, .int .u8 0, .int .u8 0, .int .u8 0, .int .u8 0, .int .u8 0, .int .u8 0, .ds 11 (([] : List (T_api_Config))).length (rowF c_T_api_Config default ([] : List (T_api_Config))), .nilsl]) (a_ (LV.Le.refl (.int .u8 0)) (a_ (LV.Le.refl (.int .u32 0)) (a_ (LV.Le.refl (.int .u8 0)) (a_ (LV.Le.refl (.int .u8 0)) (a_ (LV.Le.refl (.int .u8 0)) (a_ (LV.Le.refl (.int .u8 0)) (a_ (LV.Le.refl (.int .u8 0)) (a_ (LV.Le.refl (.int .u8 0)) (a_ (LV.Le.refl (.int .u8 0)) (a_ (LV.Le.refl (.int .u8 0)) (a_ (LV.Le.refl (.int .u8 0)) (a_ (LV.Le.refl (.int .u8 0)) (a_ (le_nil_ds 11 (rowF c_T_api_Config default [])) (a_ (LV.Le.refl (.nilsl)) tr))))))))))))))) tr)) (a_ (a_ tr (a_ (LO.Sub.var (a := [.int .u8 0, .int .u32 0, .int .u8 0, .int .u8 0, .int .u8 0, .int .u8 0, .int .u8 0, .int .u8 0, .int .u8 0, .int .u8 0, .int .u8 0, .int .u8 0, .ds 11 (([] : List (T_api_Config))).length (rowF c_T_api_Config default ([] : List (T_api_Config))), .nilsl]) (b := [.int .u8 0, .int .u32 0, .int .u8 0, .int .u8 0, .int .u8 0, .int .u8 0, .int .u8 0, .int .u8 0, .int .u8 0, .int .u8 0, .int .u8 0, .int .u8 0, .ds 11 (([] : List (T_api_Config))).length (rowF c_T_api_Config default ([] : List (T_api_Config))), .ds 16 (([] : List (T_parrelref19_Got))).length (rowF c_T_parrelref19_Got default ([] : List (T_parrelref19_Got)))]) (a_ (LV.Le.refl (.int .u8 0)) (a_ (LV.Le.refl (.int .u32 0)) (a_ (LV.Le.refl (.int .u8 0)) (a_ (LV.Le.refl (.int .u8 0)) (a_ (LV.Le.refl (.int .u8 0)) (a_ (LV.Le.refl (.int .u8 0)) (a_ (LV.Le.refl (.int .u8 0)) (a_ (LV.Le.refl (.int .u8 0)) (a_ (LV.Le.refl (.int .u8 0)) (a_ (LV.Le.refl (.int .u8 0)) (a_ (LV.Le.refl (.int .u8 0)) (a_ (LV.Le.refl (.int .u8 0)) (a_ (LV.Le.refl (.ds 11 (([] : List (T_api_Config))).length (rowF c_T_api_Config default ([] : List (T_api_Config))))) (a_ (le_nil_ds 16 (rowF c_T_parrelref19_Got default [])) tr))))))))))))))) tr)) tr))))) (a_ (a_ tr (le_ 14 14 rfl)) tr)) (by kernel_rfl) rfl
  · skip
    rcases itb_some h with ⟨c4, h⟩ | ⟨c4, h⟩
    · skip
      obtain rfl := Option.some.inj h
      exact run_ret mixed (L := []) (n := 22) (s := [.reg [], .reg [(1, { call := some (parrelref10_KeyMay_v y2, [], []) }), (3, { v := some (.bool false) }), (7, { v := some (.bool true) })], .reg [], .wk [] [(2, .var [.int .u8 0, .int .u32 0, .int .u8 0, .int .u8 0, .int .u8 0, .int .u8 0, .int .u8 0, .int .u8 0, .int .u8 0, .int .u8 0, .int .u8 0, .int .u8 0, .ds 11 (([] : List (T_api_Config))).length (rowF c_T_api_Config default ([] : List (T_api_Config))), .nilsl])], .wk [] [(2, .var (c_T_parrelref19_Gather (T_parrelref19_Gather.mk 0 (T_api_Config.mk 0 0 0 (A8.mk 0 0 0 0 0 0 0 0)) ([] : List (T_api_Config)) ([] : List (T_parrelref19_Got)))))]])
        (a_ (a_ (r4_ tr) (a_ (a_ (a_ (a_ tr (le_ 8 8 rfl)) tr) (a_ (a_ (a_ (parrelref10_KeyMay_tri x_k y2 e1) tr) tr) (r1_ (a_ (a_ tr (a_ (leB c3) tr)) (r1_ (r2_ (a_ (a_ tr (a_ (leB c4) tr)) (t2_ (r2_ (a_ tr (t2_ (r1_ tr)))))))))))) (a_ (a_ (a_ (Eq.refl true) tr) (a_ (a_ (a_ (Eq.refl 14) (a_ (le_ 14 14 rfl) (Eq.refl 0))) tr) (r1_ tr))) (a_ (a_ tr (a_ (LO.Sub.var (a := [.int .u8 0, .int .u32 0, .int .u8 0, .int .u8 0, .int .u8 0, .int .u8 0, .int .u8 0, .int .u8 0, .int .u8 0, .int .u8 0, .int .u8 0, .int .u8 0, .nilsl, .nilsl]) (b := [.int .u8 0, .int .u32 0, .int .u8 0, .int .u8 0, .int .u8 0, .int .u8 0, .int .u8 0, .int .u8 0, .int .u8 0, .int .u8 0, .int .u8 0, .int .u8 0, .ds 11 (([] : List (T_api_Config))).length (rowF c_T_api_Config default ([] : List (T_api_Config))), .nilsl]) (a_ (LV.Le.refl (.int .u8 0)) (a_ (LV.Le.refl (.int .u32 0)) (a_ (LV.Le.refl (.int .u8 0)) (a_ (LV.Le.refl (.int .u8 0)) (a_ (LV.Le.refl (.int .u8 0)) (a_ (LV.Le.refl (.int .u8 0)) (a_ (LV.Le.refl (.int .u8 0)) (a_ (LV.Le.refl (.int .u8 0)) (a_ (LV.Le.refl (.int .u8 0)) (a_ (LV.Le.refl (.int .u8 0)) (a_ (LV.Le.refl (.int .u8 0)) (a_ (LV.Le.refl (.int .u8 0)) (a_ (le_nil_ds 11 (rowF c_T_api_Config default [])) (a_ (LV.Le.refl (.nilsl)) tr))))))))))))))) tr)) (a_ (a_ tr (a_ (LO.Sub.var (a := [.int .u8 0, .int .u32 0, .int .u8 0, .int .u8 0, .int .u8 0, .int .u8 0, .int .u8 0, .int .u8 0, .int .u8 0, .int .u8 0, .int .u8 0, .int .u8 0, .ds 11 (([] : List (T_api_Config))).length (rowF c_T_api_Config default ([] : List (T_api_Config))), .nilsl]) (b := [.int .u8 0, .int .u32 0, .int .u8 0, .int .u8 0, .int .u8 0, .int .u8 0, .int .u8 0, .int .u8 0, .int .u8 0, .int .u8 0, .int .u8 0, .int .u8 0, .ds 11 (([] : List (T_api_Config))).length (rowF c_T_api_Config default ([] : List (T_api_Config))), .ds 16 (([] : List (T_parrelref19_Got))).length (rowF c_T_parrelref19_Got default ([] : List (T_parrelref19_Got)))]) (a_ (LV.Le.refl (.int .u8 0)) (a_ (LV.Le.refl (.int .u32 0)) (a_ (LV.Le.refl (.int .u8 0)) (a_ (LV.Le.refl (.int .u8 0)) (a_ (LV.Le.refl (.int .u8 0)) (a_ (LV.Le.refl (.int .u8 0)) (a_ (LV.Le.refl (.int .u8 0)) (a_ (LV.Le.refl (.int .u8 0)) (a_ (LV.Le.refl (.int .u8 0)) (a_ (LV.Le.refl (.int .u8 0)) (a_ (LV.Le.refl (.int .u8 0)) (a_ (LV.Le.refl (.int .u8 0)) (a_ (LV.Le.refl (.ds 11 (([] : List (T_api_Config))).length (rowF c_T_api_Config default ([] : List (T_api_Config))))) (a_ (le_nil_ds 16 (rowF c_T_parrelref19_Got default [])) tr))))))))))))))) tr)) tr))))) (a_ (a_ tr (le_ 14 14 rfl)) tr)) (by kernel_rfl) rfl
    · skip
      rcases itb_some h with ⟨c5, h⟩ | ⟨c5, h⟩
      · skip
        obtain rfl := Option.some.inj h
        exact run_ret mixed (L := []) (n := 22) (s := [.reg [], .reg [(1, { call := some (parrelref10_KeyMay_v y2, [], []) }), (3, { v := some (.bool false) }), (7, { v := some (.bool false) }), (11, { v := some (.bool true) })], .reg [], .wk [] [(2, .var [.int .u8 0, .int .u32 0, .int .u8 0, .int .u8 0, .int .u8 0, .int .u8 0, .int .u8 0, .int .u8 0, .int .u8 0, .int .u8 0, .int .u8 0, .int .u8 0, .ds 11 (([] : List (T_api_Config))).length (rowF c_T_api_Config default ([] : List (T_api_Config))), .nilsl])], .wk [] [(2, .var (c_T_parrelref19_Gather (T_parrelref19_Gather.mk 0 (T_api_Config.mk 0 0 0 (A8.mk 0 0 0 0 0 0 0 0)) ([] : List (T_api_Config)) ([] : List (T_parrelref19_Got)))))]])
          (a_ (a_ (r4_ tr) (a_ (a_ (a_ (a_ tr (le_ 8 8 rfl)) tr) (a_ (a_ (a_ (parrelref10_KeyMay_tri x_k y2 e1) tr) tr) (r1_ (a_ (a_ tr (a_ (leB c3) tr)) (r1_ (r2_ (a_ (a_ tr (a_ (leB c4) tr)) (r1_ (r2_ (a_ (a_ tr (a_ (leB c5) tr)) (a_ tr (t2_ (r1_ tr))))))))))))) (a_ (a_ (a_ (Eq.refl true) tr) (a_ (a_ (a_ (Eq.refl 14) (a_ (le_ 14 14 rfl) (Eq.refl 0))) tr) (r1_ tr))) (a_ (a_ tr (a_ (LO.Sub.var (a := [.int .u8 0, .int .u32 0, .int .u8 0, .int .u8 0, .int .u8 0, .int .u8 0, .int .u8 0, .int .u8 0, .int .u8 0, .int .u8 0, .int .u8 0, .int .u8 0, .nilsl, .nilsl]) (b := [.int .u8 0, .int .u32 0, .int .u8 0, .int .u8 0, .int .u8 0, .int .u8 0, .int .u8 0, .int .u8 0, .int .u8 0, .int .u8 0, .int .u8 0, .int .u8 0, .ds 11 (([] : List (T_api_Config))).length (rowF c_T_api_Config default ([] : List (T_api_Config))), .nilsl]) (a_ (LV.Le.refl (.int .u8 0)) (a_ (LV.Le.refl (.int .u32 0)) (a_ (LV.Le.refl (.int .u8 0)) (a_ (LV.Le.refl (.int .u8 0)) (a_ (LV.Le.refl (.int .u8 0)) (a_ (LV.Le.refl (.int .u8 0)) (a_ (LV.Le.refl (.int .u8 0)) (a_ (LV.Le.refl (.int .u8 0)) (a_ (LV.Le.refl (.int .u8 0)) (a_ (LV.Le.refl (.int .u8 0)) (a_ (LV.Le.refl (.int .u8 0)) (a_ (LV.Le.refl (.int .u8 0)) (a_ (le_nil_ds 11 (rowF c_T_api_Config default [])) (a_ (LV.Le.refl (.nilsl)) tr))))))))))))))) tr)) (a_ (a_ tr (a_ (LO.Sub.var (a := [.int .u8 0, .int .u32 0, .int .u8 0, .int .u8 0, .int .u8 0, .int .u8 0, .int .u8 0, .int .u8 0, .int .u8 0, .int .u8 0, .int .u8 0, .int .u8 0, .ds 11 (([] : List (T_api_Config))).length (rowF c_T_api_Config default ([] : List (T_api_Config))), .nilsl]) (b := [.int .u8 0, .int .u32 0, .int .u8 0, .int .u8 0, .int .u8 0, .int .u8 0, .int .u8 0, .int .u8 0, .int .u8 0, .int .u8 0, .int .u8 0, .int .u8 0, .ds 11 (([] : List (T_api_Config))).length (rowF c_T_api_Config default ([] : List (T_api_Config))), .ds 16 (([] : List (T_parrelref19_Got))).length (rowF c_T_parrelref19_Got default ([] : List (T_parrelref19_Got)))]) (a_ (LV.Le.refl (.int .u8 0)) (a_ (LV.Le.refl (.int .u32 0)) (a_ (LV.Le.refl (.int .u8 0)) (a_ (LV.Le.refl (.int .u8 0)) (a_ (LV.Le.refl (.int .u8 0)) (a_ (LV.Le.refl (.int .u8 0)) (a_ (LV.Le.refl (.int .u8 0)) (a_ (LV.Le.refl (.int .u8 0)) (a_ (LV.Le.refl (.int .u8 0)) (a_ (LV.Le.refl (.int .u8 0)) (a_ (LV.Le.refl (.int .u8 0)) (a_ (LV.Le.refl (.int .u8 0)) (a_ (LV.Le.refl (.ds 11 (([] : List (T_api_Config))).length (rowF c_T_api_Config default ([] : List (T_api_Config))))) (a_ (le_nil_ds 16 (rowF c_T_parrelref19_Got default [])) tr))))))))))))))) tr)) tr))))) (a_ (a_ tr (le_ 14 14 rfl)) tr)) (by kernel_rfl) rfl
      · skip
        obtain ⟨y7, e6, h⟩ := bind_some h
        rcases itb_some h with ⟨c8, h⟩ | ⟨c8, h⟩
        · skip
          obtain rfl := Option.some.inj h
          exact run_ret mixed (L := []) (n := 22) (s := [.reg [], .reg [(1, { call := some (parrelref10_KeyMay_v y2, [], []) }), (3, { v := some (.bool false) }), (7, { v := some (.bool false) }), (11, { v := some (.bool false) }), (13, { call := some (parrelref06_May_v y7, [], []) }), (15, { v := some (.bool true) })], .reg [], .wk [] [(2, .var [.int .u8 0, .int .u32 0, .int .u8 0, .int .u8 0, .int .u8 0, .int .u8 0, .int .u8 0, .int .u8 0, .int .u8 0, .int .u8 0, .int .u8 0, .int .u8 0, .ds 11 (([] : List (T_api_Config))).length (rowF c_T_api_Config default ([] : List (T_api_Config))), .nilsl])], .wk [] [(2, .var (c_T_parrelref19_Gather (T_parrelref19_Gather.mk 0 (T_api_Config.mk 0 0 0 (A8.mk 0 0 0 0 0 0 0 0)) ([] : List (T_api_Config)) ([] : List (T_parrelref19_Got)))))]])
            (a_ (a_ (r4_ tr) (a_ (a_ (a_ (a_ tr (le_ 8 8 rfl)) tr) (a_ (a_ (a_ (parrelref10_KeyMay_tri x_k y2 e1) tr) tr) (r1_ (a_ (a_ tr (a_ (leB c3) tr)) (r1_ (r2_ (a_ (a_ tr (a_ (leB c4) tr)) (r1_ (r2_ (a_ (a_ tr (a_ (leB c5) tr)) (a_ (a_ (a_ tr (le_ 11 11 rfl)) tr) (a_ (a_ (a_ (parrelref06_May_tri c y7 e6) tr) tr) (r1_ (a_ (a_ tr (a_ (leB c8) tr)) tr)))))))))))))) (a_ (a_ (a_ (Eq.refl true) tr) (a_ (a_ (a_ (Eq.refl 14) (a_ (le_ 14 14 rfl) (Eq.refl 0))) tr) (r1_ tr))) (a_ (a_ tr (a_ (LO.Sub.var (a := [.int .u8 0, .int .u32 0, .int .u8 0, .int .u8 0, .int .u8 0, .int .u8 0, .int .u8 0, .int .u8 0, .int .u8 0, .int .u8 0, .int .u8 0, .int .u8 0, .nilsl, .nilsl]) (b := [.int .u8 0, .int .u32 0, .int .u8 0, .int .u8 0, .int .u8 0, .int .u8 0, .int .u8 0, .int .u8 0, .int .u8 0, .int .u8 0, .int .u8 0, .int .u8 0, .ds 11 (([] : List (T_api_Config))).length (rowF c_T_api_Config default ([] : List (T_api_Config))), .nilsl]) (a_ (LV.Le.refl (.int .u8 0)) (a_ (LV.Le.refl (.int .u32 0)) (a_ (LV.Le.refl (.int .u8 0)) (a_ (LV.Le.refl (.int .u8 0)) (a_ (LV.Le.refl (.int .u8 0)) (a_ (LV.Le.refl (.int .u8 0)) (a_ (LV.Le.refl (.int .u8 0)) (a_ (LV.Le.refl (.int .u8 0)) (a_ (LV.Le.refl (.int .u8 0)) (a_ (LV.Le.refl (.int .u8 0)) (a_ (LV.Le.refl (.int .u8 0)) (a_ (LV.Le.refl (.int .u8 0)) (a_ (le_nil_ds 11 (rowF c_T_api_Config default [])) (a_ (LV.Le.refl (.nilsl)) tr))))))))))))))) tr)) (a_ (a_ tr (a_ (LO.Sub.var (a := [.int .u8 0, .int .u32 0, .int .u8 0, .int .u8 0, .int .u8 0, .int .u8 0, .int .u8 0, .int .u8 0, .int .u8 0, .int .u8 0, .int .u8 0, .int .u8 0, .ds 11 (([] : List (T_api_Config))).length (rowF c_T_api_Config default ([] : List (T_api_Config))), .nilsl]) (b := [.int .u8 0, .int .u32 0, .int .u8 0, .int .u8 0, .int .u8 0, .int .u8 0, .int .u8 0, .int .u8 0, .int .u8 0, .int .u8 0, .int .u8 0, .int .u8 0, .ds 11 (([] : List (T_api_Config))).length (rowF c_T_api_Config default ([] : List (T_api_Config))), .ds 16 (([] : List (T_parrelref19_Got))).length (rowF c_T_parrelref19_Got default ([] : List (T_parrelref19_Got)))]) (a_ (LV.Le.refl (.int .u8 0)) (a_ (LV.Le.refl (.int .u32 0)) (a_ (LV.Le.refl (.int .u8 0)) (a_ (LV.Le.refl (.int .u8 0)) (a_ (LV.Le.refl (.int .u8 0)) (a_ (LV.Le.refl (.int .u8 0)) (a_ (LV.Le.refl (.int .u8 0)) (a_ (LV.Le.refl (.int .u8 0)) (a_ (LV.Le.refl (.int .u8 0)) (a_ (LV.Le.refl (.int .u8 0)) (a_ (LV.Le.refl (.int .u8 0)) (a_ (LV.Le.refl (.int .u8 0)) (a_ (LV.Le.refl (.ds 11 (([] : List (T_api_Config))).length (rowF c_T_api_Config default ([] : List (T_api_Config))))) (a_ (le_nil_ds 16 (rowF c_T_parrelref19_Got default [])) tr))))))))))))))) tr)) tr))))) (a_ (a_ tr (le_ 14 14 rfl)) tr)) (by kernel_rfl) rfl
        · skip
          exact run_to mixed hμ (L := [1, 2]) (n := 24) (s := [.reg [], .reg [(1, { call := some (parrelref10_KeyMay_v y2, [], []) }), (3, { v := some (.bool false) }), (7, { v := some (.bool false) }), (11, { v := some (.bool false) }), (13, { call := some (parrelref06_May_v y7, [], []) }), (15, { v := some (.bool false) })], .reg []])
            (a_ (r4_ tr) (a_ (a_ (a_ (a_ tr (le_ 8 8 rfl)) tr) (a_ (a_ (a_ (parrelref10_KeyMay_tri x_k y2 e1) tr) tr) (r1_ (a_ (a_ tr (a_ (leB c3) tr)) (r1_ (r2_ (a_ (a_ tr (a_ (leB c4) tr)) (r1_ (r2_ (a_ (a_ tr (a_ (leB c5) tr)) (a_ (a_ (a_ tr (le_ 11 11 rfl)) tr) (a_ (a_ (a_ (parrelref06_May_tri c y7 e6) tr) tr) (r1_ (a_ (a_ tr (a_ (leB c8) tr)) tr)))))))))))))) (a_ (r1_ tr) tr))) (parrelref19_New_l0_ok hμ mode c more  big _ r h) (by kernel_rfl) ⟨rfl, rfl, trivial⟩

theorem parrelref19_New_tri (x_k : A8 (Int)) (mode : Int) (c : T_api_Config) (more : List (T_api_Config)) (r : (T_parrelref19_Gather) × (Int)) (h : parrelref19_New x_k mode c more = some r) : FnTri Tryd.prog 22 [.agg [.int .u8 x_k.a0, .int .u8 x_k.a1, .int .u8 x_k.a2, .int .u8 x_k.a3, .int .u8 x_k.a4, .int .u8 x_k.a5, .int .u8 x_k.a6, .int .u8 x_k.a7], .int .u8 mode, v_T_api_Config c, .ds 11 (more).length (rowF c_T_api_Config default more)] [] (parrelref19_New_v r) [] := FnTri.none (parrelref19_New_ok x_k mode c more r h) rfl rfl

/-- parrel/parrelref05.count -/

def parrelref05_count_v (r : (Bool)) : LV := .bool r

def parrelref05_count (x_n : Int) : Option ((Bool)) :=
  if ((decide (1 ≤ x_n)) : Bool) then
    some (decide (x_n ≤ 2147483647))
  else
    some false

theorem parrelref05_count_ok (x_n : Int) (r : (Bool)) (h : parrelref05_count x_n = some r) : ∀ σ, Inj 0 σ → FnTri Tryd.prog 70 (renL σ [.int .u32 x_n]) (preOf σ 0 []) ((parrelref05_count_v r).ren σ) (upOf σ []) := by
  refine fn_of Tryd.func70 (by kernel_rfl) (by kernel_rfl) (by kernel_rfl) trivial (by kernel_rfl) trivial (by kernel_rfl) ?_
  intro w0 W μ0 hμ
  unfold parrelref05_count at h
  rcases itb_some h with ⟨c1, h⟩ | ⟨c1, h⟩
  · skip
    obtain rfl := Option.some.inj h
    exact run_ret mixed (L := []) (n := 15) (s := [.reg [], .reg [(2, { v := some (.bool true) })]])
      (a_ (a_ (r1_ tr) (a_ (r2_ (a_ (a_ tr (a_ (leB c1) tr)) (r4_ tr))) tr)) tr) (by kernel_rfl) rfl
  · skip
    obtain rfl := Option.some.inj h
    exact run_ret mixed (L := []) (n := 15) (s := [.reg [], .reg [(2, { v := some (.bool false) })]])
      (a_ (a_ (r1_ tr) (a_ (r2_ (a_ (a_ tr (a_ (leB c1) tr)) (t2_ (r2_ tr)))) tr)) tr) (by kernel_rfl) rfl

theorem parrelref05_count_tri (x_n : Int) (r : (Bool)) (h : parrelref05_count x_n = some r) : FnTri Tryd.prog 70 [.int .u32 x_n] [] (parrelref05_count_v r) [] := FnTri.none (parrelref05_count_ok x_n r h) rfl rfl

/-- parrel/parrelref05.RegMay -/

def parrelref05_RegMay_v (r : (Bool)) : LV := .bool r

def parrelref05_RegMay (g : T_api_Reg) : Option ((Bool)) :=
  (parrelref05_count g.f_Boot).bind fun y2 =>
  if (y2 : Bool) then
    (parrelref05_count g.f_N).bind fun y5 =>
    some y5
  else
    some false

theorem parrelref05_RegMay_ok (g : T_api_Reg) (r : (Bool)) (h : parrelref05_RegMay g = some r) : ∀ σ, Inj 0 σ → FnTri Tryd.prog 55 (renL σ [v_T_api_Reg g]) (preOf σ 0 []) ((parrelref05_RegMay_v r).ren σ) (upOf σ []) := by
  refine fn_of Tryd.func55 (by kernel_rfl) (by kernel_rfl) (by kernel_rfl) trivial (by kernel_rfl) trivial (by kernel_rfl) ?_
  intro w0 W μ0 hμ
  unfold parrelref05_RegMay at h
  obtain ⟨y2, e1, h⟩ := bind_some h
  rcases itb_some h with ⟨c3, h⟩ | ⟨c3, h⟩
  · skip
    obtain ⟨y5, e4, h⟩ := bind_some h
    obtain rfl := Option.some.inj h
    exact run_ret mixed (L := []) (n := 15) (s := [.reg [], .reg [(2, { call := some (parrelref05_count_v y2, [], []) }), (3, { v := some (.bool true) }), (6, { call := some (parrelref05_count_v y5, [], []) })]])
      (a_ (a_ (r2_ tr) (a_ (r1_ (a_ (a_ (a_ tr (lt_ 0 2 rfl)) tr) (a_ (a_ (a_ (parrelref05_count_tri g.f_Boot y2 e1) tr) tr) (a_ (a_ tr (a_ (leB c3) tr)) (r1_ (a_ (a_ (a_ tr (lt_ 1 2 rfl)) tr) (a_ (a_ (a_ (parrelref05_count_tri g.f_N y5 e4) tr) tr) (r2_ tr)))))))) tr)) tr) (by kernel_rfl) rfl
  · skip
    obtain rfl := Option.some.inj h
    exact run_ret mixed (L := []) (n := 15) (s := [.reg [], .reg [(2, { call := some (parrelref05_count_v y2, [], []) }), (3, { v := some (.bool false) })]])
      (a_ (a_ (r2_ tr) (a_ (r1_ (a_ (a_ (a_ tr (lt_ 0 2 rfl)) tr) (a_ (a_ (a_ (parrelref05_count_tri g.f_Boot y2 e1) tr) tr) (a_ (a_ tr (a_ (leB c3) tr)) (a_ tr (t2_ (r2_ tr))))))) tr)) tr) (by kernel_rfl) rfl

theorem parrelref05_RegMay_tri (g : T_api_Reg) (r : (Bool)) (h : parrelref05_RegMay g = some r) : FnTri Tryd.prog 55 [v_T_api_Reg g] [] (parrelref05_RegMay_v r) [] := FnTri.none (parrelref05_RegMay_ok g r h) rfl rfl

/-- parrel/parrelref10.ItemMay -/

def parrelref10_ItemMay_v (r : (Bool)) : LV := .bool r

def parrelref10_ItemMay (i : T_api_Item) : Option ((Bool)) :=
  if ((decide (i.f_Version ≤ 2147483647)) : Bool) then
    if ((decide (((i.f_Value).length : Int) ≤ 64)) : Bool) then
      (parrelref06_May i.f_Conf).bind fun y4 =>
      some y4
    else
      some false
  else
    some false

theorem parrelref10_ItemMay_ok (i : T_api_Item) (r : (Bool)) (h : parrelref10_ItemMay i = some r) : ∀ σ, Inj 0 σ → FnTri Tryd.prog 56 (renL σ [v_T_api_Item i]) (preOf σ 0 []) ((parrelref10_ItemMay_v r).ren σ) (upOf σ []) := by
  refine fn_of Tryd.func56 (by kernel_rfl) (by kernel_rfl) (by kernel_rfl) trivial (by kernel_rfl) trivial (by kernel_rfl) ?_
  intro w0 W μ0 hμ
  unfold parrelref10_ItemMay at h
  rcases itb_some h with ⟨c1, h⟩ | ⟨c1, h⟩
  · skip
    rcases itb_some h with ⟨c2, h⟩ | ⟨c2, h⟩
    · skip
      obtain ⟨y4, e3, h⟩ := bind_some h
      obtain rfl := Option.some.inj h
      exact run_ret mixed (L := []) (n := 15) (s := [.reg [], .reg [(3, { v := some (.bool true) }), (9, { v := some (.bool true) }), (12, { call := some (parrelref06_May_v y4, [], []) })]])
        (a_ (a_ (r2_ tr) (a_ (r1_ (a_ (a_ (a_ tr (lt_ 0 13 rfl)) tr) (r1_ (a_ (a_ tr (a_ (leB c1) tr)) (r1_ (a_ (a_ (a_ tr (lt_ 1 13 rfl)) tr) (r1_ (r2_ (a_ (a_ tr (a_ (leB c2) tr)) (r1_ (a_ (a_ (a_ tr (le_ 13 13 rfl)) tr) (a_ (a_ (a_ (parrelref06_May_tri i.f_Conf y4 e3) tr) tr) (r2_ tr))))))))))))) tr)) tr) (by kernel_rfl) rfl
    · skip
      obtain rfl := Option.some.inj h
      exact run_ret mixed (L := []) (n := 15) (s := [.reg [], .reg [(3, { v := some (.bool true) }), (9, { v := some (.bool false) })]])
        (a_ (a_ (r2_ tr) (a_ (r1_ (a_ (a_ (a_ tr (lt_ 0 13 rfl)) tr) (r1_ (a_ (a_ tr (a_ (leB c1) tr)) (r1_ (a_ (a_ (a_ tr (lt_ 1 13 rfl)) tr) (r1_ (r2_ (a_ (a_ tr (a_ (leB c2) tr)) (a_ tr (t2_ (r2_ tr)))))))))))) tr)) tr) (by kernel_rfl) rfl
  · skip
    obtain rfl := Option.some.inj h
    exact run_ret mixed (L := []) (n := 15) (s := [.reg [], .reg [(3, { v := some (.bool false) })]])
      (a_ (a_ (r2_ tr) (a_ (r1_ (a_ (a_ (a_ tr (lt_ 0 13 rfl)) tr) (r1_ (a_ (a_ tr (a_ (leB c1) tr)) (t4_ (r2_ (a_ tr (t2_ (r2_ tr))))))))) tr)) tr) (by kernel_rfl) rfl

theorem parrelref10_ItemMay_tri (i : T_api_Item) (r : (Bool)) (h : parrelref10_ItemMay i = some r) : FnTri Tryd.prog 56 [v_T_api_Item i] [] (parrelref10_ItemMay_v r) [] := FnTri.none (parrelref10_ItemMay_ok i r h) rfl rfl

/-- (*parrel/parrelref19.Gather).Grant -/

def parrelref19_Gather_Grant_v (r : (Int) × (Int) × (T_api_Config) × (List (T_api_Config)) × (List (T_parrelref19_Got))) : LV := .int .i64 r.1

def parrelref19_Gather_Grant_up (g : T_parrelref19_Gather) (x : T_parrelref19_Got) (r : (Int) × (Int) × (T_api_Config) × (List (T_api_Config)) × (List (T_parrelref19_Got))) : Upd := [(0, some (.var (c_T_parrelref19_Gather (T_parrelref19_Gather.mk r.2.1 r.2.2.1 r.2.2.2.1 r.2.2.2.2))))]

def parrelref19_Gather_Grant_objs (g : T_parrelref19_Gather) (x : T_parrelref19_Got) : List LO := [.var (c_T_parrelref19_Gather g)]

def parrelref19_Gather_Grant_T0 (g : T_parrelref19_Gather) (x : T_parrelref19_Got) (i : Int) : List LV := [.ptr 0 0 0, .any, .any, .ptr 1 0 0, .any, .int .i64 i, .any, .any, .any, .any, .any, .any, .any, .any, .any, .any, .any, .any, .any, .any, .any, .any, .any, .any, .any, .any, .any, .any, .any, .any, .any, .any, .any, .any, .any, .any, .any, .any, .any, .any, .any, .any, .any, .any, .any, .any, .any, .any, .any, .any, .any, .any, .any, .any, .any, .any, .any, .any, .any, .any, .any, .any, .any, .any, .any, .any, .any, .any, .any, .any, .any, .any, .any, .any, .any, .any, .any, .any, .any, .any, .any, .any, .any, .any, .any, .any, .any, .any, .any, .any, .any, .any, .any, .any, .any, .any, .any, .any, .any, .any, .any, .any, .any, .any, .any, .any, .any, .any, .any, .any]

def parrelref19_Gather_Grant_H0 (g : T_parrelref19_Gather) (x : T_parrelref19_Got) (i : Int) : Heap := [some (.var (c_T_parrelref19_Gather g)), some (.var (c_T_parrelref19_Got x))]

def parrelref19_Gather_Grant_l0 (g : T_parrelref19_Gather) (x : T_parrelref19_Got)  : Nat → (Int) → Option ((Int) × (Int) × (T_api_Config) × (List (T_api_Config)) × (List (T_parrelref19_Got)))
  | 0, _ => none
  | fuel + 1, i =>
    if ((decide (i < ((g.f_L).length : Int))) : Bool) then
      if 0 ≤ i ∧ i < (((g.f_L).length : Nat) : Int) then
      if ((decide ((g.f_L.getD i.toNat default).f_Node < x.f_Node)) : Bool) then
        parrelref19_Gather_Grant_l0 g x  fuel (IntKind.wrap .i64 (i + 1))
      else
        if ((decide (i < ((g.f_L).length : Int))) : Bool) then
          if (((g.f_L.getD i.toNat default).f_Node == x.f_Node) : Bool) then
            if ((decide ((g.f_L.getD i.toNat default).f_Reg = x.f_Reg)) : Bool) then
              some (7, g.f_Mode, g.f_Conf, g.f_More, g.f_L)
            else
              some (14, g.f_Mode, g.f_Conf, g.f_More, g.f_L)
          else
            if 0 ≤ (0 : Int) ∧ 0 ≤ i ∧ i ≤ (((g.f_L).length : Nat) : Int) then
            if (0 + ((g.f_L.take i.toNat)).length) * 56 ≤ 140737488351232 then
            if (((g.f_L.take i.toNat)).length + (([x] : List (T_parrelref19_Got))).length) * 56 ≤ 140737488351232 then
            if 0 ≤ i ∧ i ≤ (((g.f_L).length : Nat) : Int) ∧ (((g.f_L).length : Nat) : Int) ≤ (((g.f_L).length : Nat) : Int) then
            if ((((g.f_L.take i.toNat) ++ ([x] : List (T_parrelref19_Got)))).length + ((g.f_L.drop i.toNat)).length) * 56 ≤ 140737488351232 then
            if ((decide (g.f_Conf.f_Epoch < x.f_Item.f_Conf.f_Epoch)) : Bool) then
              some (0, g.f_Mode, x.f_Item.f_Conf, g.f_More, (((g.f_L.take i.toNat) ++ ([x] : List (T_parrelref19_Got))) ++ (g.f_L.drop i.toNat)))
            else
              some (0, g.f_Mode, g.f_Conf, g.f_More, (((g.f_L.take i.toNat) ++ ([x] : List (T_parrelref19_Got))) ++ (g.f_L.drop i.toNat)))
            else none
            else none
            else none
            else none
            else none
        else
          if 0 ≤ (0 : Int) ∧ 0 ≤ i ∧ i ≤ (((g.f_L).length : Nat) : Int) then
          if (0 + ((g.f_L.take i.toNat)).length) * 56 ≤ 140737488351232 then
          if (((g.f_L.take i.toNat)).length + (([x] : List (T_parrelref19_Got))).length) * 56 ≤ 140737488351232 then
          if 0 ≤ i ∧ i ≤ (((g.f_L).length : Nat) : Int) ∧ (((g.f_L).length : Nat) : Int) ≤ (((g.f_L).length : Nat) : Int) then
          if ((((g.f_L.take i.toNat) ++ ([x] : List (T_parrelref19_Got)))).length + ((g.f_L.drop i.toNat)).length) * 56 ≤ 140737488351232 then
          if ((decide (g.f_Conf.f_Epoch < x.f_Item.f_Conf.f_Epoch)) : Bool) then
            some (0, g.f_Mode, x.f_Item.f_Conf, g.f_More, (((g.f_L.take i.toNat) ++ ([x] : List (T_parrelref19_Got))) ++ (g.f_L.drop i.toNat)))
          else
            some (0, g.f_Mode, g.f_Conf, g.f_More, (((g.f_L.take i.toNat) ++ ([x] : List (T_parrelref19_Got))) ++ (g.f_L.drop i.toNat)))
          else none
          else none
          else none
          else none
          else none
      else none
    else
      if ((decide (i < ((g.f_L).length : Int))) : Bool) then
        if 0 ≤ i ∧ i < (((g.f_L).length : Nat) : Int) then
        if (((g.f_L.getD i.toNat default).f_Node == x.f_Node) : Bool) then
          if ((decide ((g.f_L.getD i.toNat default).f_Reg = x.f_Reg)) : Bool) then
            some (7, g.f_Mode, g.f_Conf, g.f_More, g.f_L)
          else
            some (14, g.f_Mode, g.f_Conf, g.f_More, g.f_L)
        else
          if 0 ≤ (0 : Int) ∧ 0 ≤ i ∧ i ≤ (((g.f_L).length : Nat) : Int) then
          if (0 + ((g.f_L.take i.toNat)).length) * 56 ≤ 140737488351232 then
          if (((g.f_L.take i.toNat)).length + (([x] : List (T_parrelref19_Got))).length) * 56 ≤ 140737488351232 then
          if 0 ≤ i ∧ i ≤ (((g.f_L).length : Nat) : Int) ∧ (((g.f_L).length : Nat) : Int) ≤ (((g.f_L).length : Nat) : Int) then
          if ((((g.f_L.take i.toNat) ++ ([x] : List (T_parrelref19_Got)))).length + ((g.f_L.drop i.toNat)).length) * 56 ≤ 140737488351232 then
          if ((decide (g.f_Conf.f_Epoch < x.f_Item.f_Conf.f_Epoch)) : Bool) then
            some (0, g.f_Mode, x.f_Item.f_Conf, g.f_More, (((g.f_L.take i.toNat) ++ ([x] : List (T_parrelref19_Got))) ++ (g.f_L.drop i.toNat)))
          else
            some (0, g.f_Mode, g.f_Conf, g.f_More, (((g.f_L.take i.toNat) ++ ([x] : List (T_parrelref19_Got))) ++ (g.f_L.drop i.toNat)))
          else none
          else none
          else none
          else none
          else none
        else none
      else
        if 0 ≤ (0 : Int) ∧ 0 ≤ i ∧ i ≤ (((g.f_L).length : Nat) : Int) then
        if (0 + ((g.f_L.take i.toNat)).length) * 56 ≤ 140737488351232 then
        if (((g.f_L.take i.toNat)).length + (([x] : List (T_parrelref19_Got))).length) * 56 ≤ 140737488351232 then
        if 0 ≤ i ∧ i ≤ (((g.f_L).length : Nat) : Int) ∧ (((g.f_L).length : Nat) : Int) ≤ (((g.f_L).length : Nat) : Int) then
        if ((((g.f_L.take i.toNat) ++ ([x] : List (T_parrelref19_Got)))).length + ((g.f_L.drop i.toNat)).length) * 56 ≤ 140737488351232 then
        if ((decide (g.f_Conf.f_Epoch < x.f_Item.f_Conf.f_Epoch)) : Bool) then
          some (0, g.f_Mode, x.f_Item.f_Conf, g.f_More, (((g.f_L.take i.toNat) ++ ([x] : List (T_parrelref19_Got))) ++ (g.f_L.drop i.toNat)))
        else
          some (0, g.f_Mode, g.f_Conf, g.f_More, (((g.f_L.take i.toNat) ++ ([x] : List (T_parrelref19_Got))) ++ (g.f_L.drop i.toNat)))
        else none
        else none
        else none
        else none
        else none

def parrelref19_Gather_Grant (g : T_parrelref19_Gather) (x : T_parrelref19_Got) : Option ((Int) × (Int) × (T_api_Config) × (List (T_api_Config)) × (List (T_parrelref19_Got))) :=
  if ((decide (8 ≤ x.f_Node)) : Bool) then
    some (1, g.f_Mode, g.f_Conf, g.f_More, g.f_L)
  else
    (parrelref05_RegMay x.f_Reg).bind fun y3 =>
    if ((!y3) : Bool) then
      some (1, g.f_Mode, g.f_Conf, g.f_More, g.f_L)
    else
      (parrelref10_ItemMay x.f_Item).bind fun y6 =>
      if ((!y6) : Bool) then
        some (1, g.f_Mode, g.f_Conf, g.f_More, g.f_L)
      else
        parrelref19_Gather_Grant_l0 g x  big 0

theorem parrelref19_Gather_Grant_l0_ok {w0 : World} {W : Nat → Prop} {μ0 : Emb} (hμ : ∀ c p, μ0 c = some p → c < 1) (g : T_parrelref19_Gather) (x : T_parrelref19_Got)  : ∀ (fuel : Nat) (i : Int) (r : (Int) × (Int) × (T_api_Config) × (List (T_api_Config)) × (List (T_parrelref19_Got))), parrelref19_Gather_Grant_l0 g x  fuel i = some r → kont Tryd.prog w0 W μ0 (FnPost Tryd.prog Tryd.f24 1 1 (parrelref19_Gather_Grant_v r) (parrelref19_Gather_Grant_up g x r)) (kAt (bodyOf Tryd.f24) 0) none (parrelref19_Gather_Grant_T0 g x i) (parrelref19_Gather_Grant_H0 g x i) := by
  intro fuel
  induction fuel with
  | zero => intro i r h; rw [parrelref19_Gather_Grant_l0] at h; cases h
  | succ fuel ih =>
    intro i r h
    rw [parrelref19_Gather_Grant_l0] at h
    rcases itb_some h with ⟨cL0_1, h⟩ | ⟨cL0_1, h⟩
    · skip
      obtain ⟨gL0_2, h⟩ := guard_some h
      rcases itb_some h with ⟨cL0_3, h⟩ | ⟨cL0_3, h⟩
      · skip
        exact run_to mixed hμ (L := [1]) (n := 20) (s := [.go, .reg [(7, { v := some (.bool true) }), (19, { v := some (.bool true) })], .reg []])
          (a_ (r4_ (a_ (a_ (a_ tr (lt_ 13 14 rfl)) tr) (r2_ (a_ (a_ tr (a_ (leB cL0_1) tr)) (r1_ (r2_ (a_ (a_ (a_ tr (lt_ 13 14 rfl)) tr) (r1_ (a_ (a_ (a_ (Eq.refl 16) gL0_2) tr) (r1_ (a_ (a_ (lt_ 0 16 rfl) tr) (r1_ (a_ (a_ (a_ tr (lt_ 0 16 rfl)) tr) (r1_ (a_ (a_ tr (a_ (leB cL0_3) tr)) tr))))))))))))))) (a_ (r1_ (r2_ tr)) tr)) (ih _ r h) (by kernel_rfl) ⟨rfl, rfl, trivial⟩
      · skip
        rcases itb_some h with ⟨cL0_4, h⟩ | ⟨cL0_4, h⟩
        · skip
          rcases itb_some h with ⟨cL0_5, h⟩ | ⟨cL0_5, h⟩
          · skip
            rcases itb_some h with ⟨cL0_6, h⟩ | ⟨cL0_6, h⟩
            · skip
              obtain rfl := Option.some.inj h
              exact run_ret mixed (L := []) (n := 29) (s := [.go, .reg [(7, { v := some (.bool true) }), (19, { v := some (.bool false) })], .reg [(7, { v := some (.bool true) }), (19, { v := some (.bool true) })], .reg [(10, { v := some (.bool true) })], .reg []])
                (a_ (a_ (r4_ (a_ (a_ (a_ tr (lt_ 13 14 rfl)) tr) (r2_ (a_ (a_ tr (a_ (leB cL0_1) tr)) (r1_ (r2_ (a_ (a_ (a_ tr (lt_ 13 14 rfl)) tr) (r1_ (a_ (a_ (a_ (Eq.refl 16) gL0_2) tr) (r1_ (a_ (a_ (lt_ 0 16 rfl) tr) (r1_ (a_ (a_ (a_ tr (lt_ 0 16 rfl)) tr) (r1_ (a_ (a_ tr (a_ (leB cL0_3) tr)) tr))))))))))))))) (a_ (r4_ (a_ (a_ (a_ tr (lt_ 13 14 rfl)) tr) (r2_ (a_ (a_ tr (a_ (leB cL0_4) tr)) (r1_ (r2_ (a_ (a_ (a_ tr (lt_ 13 14 rfl)) tr) (r1_ (a_ (a_ (a_ (Eq.refl 16) gL0_2) tr) (r1_ (a_ (a_ (lt_ 0 16 rfl) tr) (r1_ (a_ (a_ (a_ tr (lt_ 0 16 rfl)) tr) (r1_ (a_ (a_ tr (a_ (leB cL0_5) tr)) tr))))))))))))))) (a_ (r1_ (r2_ (a_ (a_ (a_ tr (lt_ 13 14 rfl)) tr) (r1_ (a_ (a_ (a_ (Eq.refl 16) gL0_2) tr) (r1_ (a_ (a_ (le_ 2 15 rfl) tr) (r1_ (a_ (a_ (a_ tr (le_ 3 16 rfl)) tr) (a_ (a_ tr (a_ (LV.Le.trans (leB (k_T_api_Reg (g.f_L.getD i.toNat default).f_Reg x.f_Reg)) (leB cL0_6)) tr)) tr)))))))))) (a_ (r1_ tr) tr)))) tr) (by kernel_rfl) rfl
            · skip
              obtain rfl := Option.some.inj h
              exact run_ret mixed (L := []) (n := 30) (s := [.go, .reg [(7, { v := some (.bool true) }), (19, { v := some (.bool false) })], .reg [(7, { v := some (.bool true) }), (19, { v := some (.bool true) })], .reg [(10, { v := some (.bool false) })], .reg []])
                (a_ (a_ (r4_ (a_ (a_ (a_ tr (lt_ 13 14 rfl)) tr) (r2_ (a_ (a_ tr (a_ (leB cL0_1) tr)) (r1_ (r2_ (a_ (a_ (a_ tr (lt_ 13 14 rfl)) tr) (r1_ (a_ (a_ (a_ (Eq.refl 16) gL0_2) tr) (r1_ (a_ (a_ (lt_ 0 16 rfl) tr) (r1_ (a_ (a_ (a_ tr (lt_ 0 16 rfl)) tr) (r1_ (a_ (a_ tr (a_ (leB cL0_3) tr)) tr))))))))))))))) (a_ (r4_ (a_ (a_ (a_ tr (lt_ 13 14 rfl)) tr) (r2_ (a_ (a_ tr (a_ (leB cL0_4) tr)) (r1_ (r2_ (a_ (a_ (a_ tr (lt_ 13 14 rfl)) tr) (r1_ (a_ (a_ (a_ (Eq.refl 16) gL0_2) tr) (r1_ (a_ (a_ (lt_ 0 16 rfl) tr) (r1_ (a_ (a_ (a_ tr (lt_ 0 16 rfl)) tr) (r1_ (a_ (a_ tr (a_ (leB cL0_5) tr)) tr))))))))))))))) (a_ (r1_ (r2_ (a_ (a_ (a_ tr (lt_ 13 14 rfl)) tr) (r1_ (a_ (a_ (a_ (Eq.refl 16) gL0_2) tr) (r1_ (a_ (a_ (le_ 2 15 rfl) tr) (r1_ (a_ (a_ (a_ tr (le_ 3 16 rfl)) tr) (a_ (a_ tr (a_ (LV.Le.trans (leB (k_T_api_Reg (g.f_L.getD i.toNat default).f_Reg x.f_Reg)) (leB cL0_6)) tr)) tr)))))))))) (a_ (r1_ tr) tr)))) tr) (by kernel_rfl) rfl
          · skip
            obtain ⟨gL0_6, h⟩ := guard_some h
            obtain ⟨gL0_7, h⟩ := guard_some h
            obtain ⟨gL0_8, h⟩ := guard_some h
            obtain ⟨gL0_9, h⟩ := guard_some h
            obtain ⟨gL0_10, h⟩ := guard_some h
            rcases itb_some h with ⟨cL0_11, h⟩ | ⟨cL0_11, h⟩
            · skip
              obtain rfl := Option.some.inj h
              exact run_ret mixed (L := []) (n := 36) (s := [.go, .reg [(7, { v := some (.bool true) }), (19, { v := some (.bool false) })], .reg [(7, { v := some (.bool true) }), (19, { v := some (.bool false) })], .reg [(6, { v := some (.ds 16 ((g.f_L.take i.toNat)).length (rowF c_T_parrelref19_Got default (g.f_L.take i.toNat))) }), (7, { app := 3 }), (9, { os := [(3, .gr 16 (([x] : List (T_parrelref19_Got))).length (rowF c_T_parrelref19_Got default ([x] : List (T_parrelref19_Got))))], v := some (.gs 3 (([x] : List (T_parrelref19_Got))).length) }), (10, { app := 3, os := [(4, .gr 16 (((g.f_L.take i.toNat) ++ ([x] : List (T_parrelref19_Got)))).length (rowF c_T_parrelref19_Got default ((g.f_L.take i.toNat) ++ ([x] : List (T_parrelref19_Got)))))], v := some (.gs 4 (((g.f_L.take i.toNat) ++ ([x] : List (T_parrelref19_Got)))).length) }), (16, { v := some (.ds 16 ((g.f_L.drop i.toNat)).length (rowF c_T_parrelref19_Got default (g.f_L.drop i.toNat))) }), (17, { app := 3, os := [(5, .gr 16 ((((g.f_L.take i.toNat) ++ ([x] : List (T_parrelref19_Got))) ++ (g.f_L.drop i.toNat))).length (rowF c_T_parrelref19_Got default (((g.f_L.take i.toNat) ++ ([x] : List (T_parrelref19_Got))) ++ (g.f_L.drop i.toNat))))], v := some (.gs 5 ((((g.f_L.take i.toNat) ++ ([x] : List (T_parrelref19_Got))) ++ (g.f_L.drop i.toNat))).length) })], .reg [(9, { v := some (.bool true) })], .reg [], .reg [], .frz 5])
                (a_ (a_ (r4_ (a_ (a_ (a_ tr (lt_ 13 14 rfl)) tr) (r2_ (a_ (a_ tr (a_ (leB cL0_1) tr)) (r1_ (r2_ (a_ (a_ (a_ tr (lt_ 13 14 rfl)) tr) (r1_ (a_ (a_ (a_ (Eq.refl 16) gL0_2) tr) (r1_ (a_ (a_ (lt_ 0 16 rfl) tr) (r1_ (a_ (a_ (a_ tr (lt_ 0 16 rfl)) tr) (r1_ (a_ (a_ tr (a_ (leB cL0_3) tr)) tr))))))))))))))) (a_ (r4_ (a_ (a_ (a_ tr (lt_ 13 14 rfl)) tr) (r2_ (a_ (a_ tr (a_ (leB cL0_4) tr)) (r1_ (r2_ (a_ (a_ (a_ tr (lt_ 13 14 rfl)) tr) (r1_ (a_ (a_ (a_ (Eq.refl 16) gL0_2) tr) (r1_ (a_ (a_ (lt_ 0 16 rfl) tr) (r1_ (a_ (a_ (a_ tr (lt_ 0 16 rfl)) tr) (r1_ (a_ (a_ tr (a_ (leB cL0_5) tr)) tr))))))))))))))) (a_ (r4_ (a_ (a_ (a_ tr (lt_ 13 14 rfl)) tr) (r1_ (a_ (a_ (a_ (Eq.refl 16) gL0_6) (a_ (le_take c_T_parrelref19_Got default 16 g.f_L i.toNat (toN_le gL0_6.2.2)) tr)) (a_ (a_ (a_ (Eq.refl 16) (a_ (lt_ 0 16 rfl) (a_ (lt_ 0 56 rfl) (a_ gL0_7 (a_ (Eq.refl 16) (Eq.refl true)))))) tr) (a_ (a_ (a_ tr (le_ 16 16 rfl)) tr) (a_ (a_ (a_ (Eq.refl true) (a_ (Eq.refl 16) (a_ (lt_ 0 16 rfl) (le_ 16 16777216 rfl)))) (a_ (le_sl_gs 3 1 (some 1) rfl) (a_ (sub_lit c_T_parrelref19_Got default 16 (fun _ => rfl) ([x] : List (T_parrelref19_Got))) tr))) (a_ (a_ (a_ (a_ (Eq.refl 16) (Nat.le_refl (([x] : List (T_parrelref19_Got))).length)) (a_ (a_ (lt_ 0 16 rfl) (a_ (lt_ 0 56 rfl) (a_ gL0_8 (a_ (Eq.refl 16) (Eq.refl true))))) (a_ (Eq.refl 16) (Nat.le_refl ((g.f_L.take i.toNat)).length)))) (a_ (le_gs_app 4 (g.f_L.take i.toNat) ([x] : List (T_parrelref19_Got))) (a_ (sub_app c_T_parrelref19_Got default 16 (g.f_L.take i.toNat) ([x] : List (T_parrelref19_Got))) tr))) (r1_ (r2_ (a_ (a_ (a_ tr (lt_ 13 14 rfl)) tr) (r1_ (a_ (a_ (a_ (Eq.refl 16) gL0_9) (a_ (le_drop c_T_parrelref19_Got default 16 g.f_L i.toNat (toN_le gL0_9.2.1)) tr)) (a_ (a_ (a_ (Eq.refl 16) (a_ (a_ (lt_ 0 16 rfl) (a_ (lt_ 0 56 rfl) (a_ gL0_10 (a_ (Eq.refl 16) (Eq.refl true))))) (a_ (Eq.refl 16) (Nat.le_refl (((g.f_L.take i.toNat) ++ ([x] : List (T_parrelref19_Got)))).length)))) (a_ (le_gs_app 5 ((g.f_L.take i.toNat) ++ ([x] : List (T_parrelref19_Got))) (g.f_L.drop i.toNat)) (a_ (sub_app c_T_parrelref19_Got default 16 ((g.f_L.take i.toNat) ++ ([x] : List (T_parrelref19_Got))) (g.f_L.drop i.toNat)) tr))) (r2_ (a_ (a_ (a_ (Eq.refl 1) (a_ (le_ 14 14 rfl) (Eq.refl 0))) tr) tr)))))))))))))))) (a_ (r1_ (r2_ (a_ (a_ (a_ tr (lt_ 5 16 rfl)) tr) (r4_ (a_ (a_ (a_ tr (lt_ 1 14 rfl)) tr) (a_ (a_ tr (a_ (leB cL0_11) tr)) tr)))))) (a_ (r1_ (r2_ (a_ (a_ (a_ tr (le_ 16 16 rfl)) tr) (r2_ (a_ (a_ (a_ (Eq.refl 11) (a_ (le_ 12 14 rfl) (Eq.refl 0))) tr) tr))))) (a_ (r1_ tr) (a_ (a_ (fz_row (enc := c_T_parrelref19_Got) (d := default) (fun _ => rfl) (((g.f_L.take i.toNat) ++ ([x] : List (T_parrelref19_Got))) ++ (g.f_L.drop i.toNat))) (a_ (Nat.le_refl ((((g.f_L.take i.toNat) ++ ([x] : List (T_parrelref19_Got))) ++ (g.f_L.drop i.toNat))).length) (a_ (Nat.le_refl ((((g.f_L.take i.toNat) ++ ([x] : List (T_parrelref19_Got))) ++ (g.f_L.drop i.toNat))).length) tr))) tr))))))) tr) (by kernel_rfl) rfl
            · skip
              obtain rfl := Option.some.inj h
              exact run_ret mixed (L := []) (n := 35) (s := [.go, .reg [(7, { v := some (.bool true) }), (19, { v := some (.bool false) })], .reg [(7, { v := some (.bool true) }), (19, { v := some (.bool false) })], .reg [(6, { v := some (.ds 16 ((g.f_L.take i.toNat)).length (rowF c_T_parrelref19_Got default (g.f_L.take i.toNat))) }), (7, { app := 3 }), (9, { os := [(3, .gr 16 (([x] : List (T_parrelref19_Got))).length (rowF c_T_parrelref19_Got default ([x] : List (T_parrelref19_Got))))], v := some (.gs 3 (([x] : List (T_parrelref19_Got))).length) }), (10, { app := 3, os := [(4, .gr 16 (((g.f_L.take i.toNat) ++ ([x] : List (T_parrelref19_Got)))).length (rowF c_T_parrelref19_Got default ((g.f_L.take i.toNat) ++ ([x] : List (T_parrelref19_Got)))))], v := some (.gs 4 (((g.f_L.take i.toNat) ++ ([x] : List (T_parrelref19_Got)))).length) }), (16, { v := some (.ds 16 ((g.f_L.drop i.toNat)).length (rowF c_T_parrelref19_Got default (g.f_L.drop i.toNat))) }), (17, { app := 3, os := [(5, .gr 16 ((((g.f_L.take i.toNat) ++ ([x] : List (T_parrelref19_Got))) ++ (g.f_L.drop i.toNat))).length (rowF c_T_parrelref19_Got default (((g.f_L.take i.toNat) ++ ([x] : List (T_parrelref19_Got))) ++ (g.f_L.drop i.toNat))))], v := some (.gs 5 ((((g.f_L.take i.toNat) ++ ([x] : List (T_parrelref19_Got))) ++ (g.f_L.drop i.toNat))).length) })], .reg [(9, { v := some (.bool false) })], .reg [], .frz 5])
                (a_ (a_ (r4_ (a_ (a_ (a_ tr (lt_ 13 14 rfl)) tr) (r2_ (a_ (a_ tr (a_ (leB cL0_1) tr)) (r1_ (r2_ (a_ (a_ (a_ tr (lt_ 13 14 rfl)) tr) (r1_ (a_ (a_ (a_ (Eq.refl 16) gL0_2) tr) (r1_ (a_ (a_ (lt_ 0 16 rfl) tr) (r1_ (a_ (a_ (a_ tr (lt_ 0 16 rfl)) tr) (r1_ (a_ (a_ tr (a_ (leB cL0_3) tr)) tr))))))))))))))) (a_ (r4_ (a_ (a_ (a_ tr (lt_ 13 14 rfl)) tr) (r2_ (a_ (a_ tr (a_ (leB cL0_4) tr)) (r1_ (r2_ (a_ (a_ (a_ tr (lt_ 13 14 rfl)) tr) (r1_ (a_ (a_ (a_ (Eq.refl 16) gL0_2) tr) (r1_ (a_ (a_ (lt_ 0 16 rfl) tr) (r1_ (a_ (a_ (a_ tr (lt_ 0 16 rfl)) tr) (r1_ (a_ (a_ tr (a_ (leB cL0_5) tr)) tr))))))))))))))) (a_ (r4_ (a_ (a_ (a_ tr (lt_ 13 14 rfl)) tr) (r1_ (a_ (a_ (a_ (Eq.refl 16) gL0_6) (a_ (le_take c_T_parrelref19_Got default 16 g.f_L i.toNat (toN_le gL0_6.2.2)) tr)) (a_ (a_ (a_ (Eq.refl 16) (a_ (lt_ 0 16 rfl) (a_ (lt_ 0 56 rfl) (a_ gL0_7 (a_ (Eq.refl 16) (Eq.refl true)))))) tr) (a_ (a_ (a_ tr (le_ 16 16 rfl)) tr) (a_ (a_ (a_ (Eq.refl true) (a_ (Eq.refl 16) (a_ (lt_ 0 16 rfl) (le_ 16 16777216 rfl)))) (a_ (le_sl_gs 3 1 (some 1) rfl) (a_ (sub_lit c_T_parrelref19_Got default 16 (fun _ => rfl) ([x] : List (T_parrelref19_Got))) tr))) (a_ (a_ (a_ (a_ (Eq.refl 16) (Nat.le_refl (([x] : List (T_parrelref19_Got))).length)) (a_ (a_ (lt_ 0 16 rfl) (a_ (lt_ 0 56 rfl) (a_ gL0_8 (a_ (Eq.refl 16) (Eq.refl true))))) (a_ (Eq.refl 16) (Nat.le_refl ((g.f_L.take i.toNat)).length)))) (a_ (le_gs_app 4 (g.f_L.take i.toNat) ([x] : List (T_parrelref19_Got))) (a_ (sub_app c_T_parrelref19_Got default 16 (g.f_L.take i.toNat) ([x] : List (T_parrelref19_Got))) tr))) (r1_ (r2_ (a_ (a_ (a_ tr (lt_ 13 14 rfl)) tr) (r1_ (a_ (a_ (a_ (Eq.refl 16) gL0_9) (a_ (le_drop c_T_parrelref19_Got default 16 g.f_L i.toNat (toN_le gL0_9.2.1)) tr)) (a_ (a_ (a_ (Eq.refl 16) (a_ (a_ (lt_ 0 16 rfl) (a_ (lt_ 0 56 rfl) (a_ gL0_10 (a_ (Eq.refl 16) (Eq.refl true))))) (a_ (Eq.refl 16) (Nat.le_refl (((g.f_L.take i.toNat) ++ ([x] : List (T_parrelref19_Got)))).length)))) (a_ (le_gs_app 5 ((g.f_L.take i.toNat) ++ ([x] : List (T_parrelref19_Got))) (g.f_L.drop i.toNat)) (a_ (sub_app c_T_parrelref19_Got default 16 ((g.f_L.take i.toNat) ++ ([x] : List (T_parrelref19_Got))) (g.f_L.drop i.toNat)) tr))) (r2_ (a_ (a_ (a_ (Eq.refl 1) (a_ (le_ 14 14 rfl) (Eq.refl 0))) tr) tr)))))))))))))))) (a_ (r1_ (r2_ (a_ (a_ (a_ tr (lt_ 5 16 rfl)) tr) (r4_ (a_ (a_ (a_ tr (lt_ 1 14 rfl)) tr) (a_ (a_ tr (a_ (leB cL0_11) tr)) tr)))))) (a_ (r1_ tr) (a_ (a_ (fz_row (enc := c_T_parrelref19_Got) (d := default) (fun _ => rfl) (((g.f_L.take i.toNat) ++ ([x] : List (T_parrelref19_Got))) ++ (g.f_L.drop i.toNat))) (a_ (Nat.le_refl ((((g.f_L.take i.toNat) ++ ([x] : List (T_parrelref19_Got))) ++ (g.f_L.drop i.toNat))).length) (a_ (Nat.le_refl ((((g.f_L.take i.toNat) ++ ([x] : List (T_parrelref19_Got))) ++ (g.f_L.drop i.toNat))).length) tr))) tr)))))) tr) (by kernel_rfl) rfl
        · skip
          obtain ⟨gL0_5, h⟩ := guard_some h
          obtain ⟨gL0_6, h⟩ := guard_some h
          obtain ⟨gL0_7, h⟩ := guard_some h
          obtain ⟨gL0_8, h⟩ := guard_some h
          obtain ⟨gL0_9, h⟩ := guard_some h
          rcases itb_some h with ⟨cL0_10, h⟩ | ⟨cL0_10, h⟩
          · skip
            obtain rfl := Option.some.inj h
            exact run_ret mixed (L := []) (n := 36) (s := [.go, .reg [(7, { v := some (.bool true) }), (19, { v := some (.bool false) })], .reg [(7, { v := some (.bool false) })], .reg [(6, { v := some (.ds 16 ((g.f_L.take i.toNat)).length (rowF c_T_parrelref19_Got default (g.f_L.take i.toNat))) }), (7, { app := 3 }), (9, { os := [(3, .gr 16 (([x] : List (T_parrelref19_Got))).length (rowF c_T_parrelref19_Got default ([x] : List (T_parrelref19_Got))))], v := some (.gs 3 (([x] : List (T_parrelref19_Got))).length) }), (10, { app := 3, os := [(4, .gr 16 (((g.f_L.take i.toNat) ++ ([x] : List (T_parrelref19_Got)))).length (rowF c_T_parrelref19_Got default ((g.f_L.take i.toNat) ++ ([x] : List (T_parrelref19_Got)))))], v := some (.gs 4 (((g.f_L.take i.toNat) ++ ([x] : List (T_parrelref19_Got)))).length) }), (16, { v := some (.ds 16 ((g.f_L.drop i.toNat)).length (rowF c_T_parrelref19_Got default (g.f_L.drop i.toNat))) }), (17, { app := 3, os := [(5, .gr 16 ((((g.f_L.take i.toNat) ++ ([x] : List (T_parrelref19_Got))) ++ (g.f_L.drop i.toNat))).length (rowF c_T_parrelref19_Got default (((g.f_L.take i.toNat) ++ ([x] : List (T_parrelref19_Got))) ++ (g.f_L.drop i.toNat))))], v := some (.gs 5 ((((g.f_L.take i.toNat) ++ ([x] : List (T_parrelref19_Got))) ++ (g.f_L.drop i.toNat))).length) })], .reg [(9, { v := some (.bool true) })], .reg [], .reg [], .frz 5])
              (a_ (a_ (r4_ (a_ (a_ (a_ tr (lt_ 13 14 rfl)) tr) (r2_ (a_ (a_ tr (a_ (leB cL0_1) tr)) (r1_ (r2_ (a_ (a_ (a_ tr (lt_ 13 14 rfl)) tr) (r1_ (a_ (a_ (a_ (Eq.refl 16) gL0_2) tr) (r1_ (a_ (a_ (lt_ 0 16 rfl) tr) (r1_ (a_ (a_ (a_ tr (lt_ 0 16 rfl)) tr) (r1_ (a_ (a_ tr (a_ (leB cL0_3) tr)) tr))))))))))))))) (a_ (r4_ (a_ (a_ (a_ tr (lt_ 13 14 rfl)) tr) (r2_ (a_ (a_ tr (a_ (leB cL0_4) tr)) (a_ tr (t2_ (t8_ (r1_ tr)))))))) (a_ (r4_ (a_ (a_ (a_ tr (lt_ 13 14 rfl)) tr) (r1_ (a_ (a_ (a_ (Eq.refl 16) gL0_5) (a_ (le_take c_T_parrelref19_Got default 16 g.f_L i.toNat (toN_le gL0_5.2.2)) tr)) (a_ (a_ (a_ (Eq.refl 16) (a_ (lt_ 0 16 rfl) (a_ (lt_ 0 56 rfl) (a_ gL0_6 (a_ (Eq.refl 16) (Eq.refl true)))))) tr) (a_ (a_ (a_ tr (le_ 16 16 rfl)) tr) (a_ (a_ (a_ (Eq.refl true) (a_ (Eq.refl 16) (a_ (lt_ 0 16 rfl) (le_ 16 16777216 rfl)))) (a_ (le_sl_gs 3 1 (some 1) rfl) (a_ (sub_lit c_T_parrelref19_Got default 16 (fun _ => rfl) ([x] : List (T_parrelref19_Got))) tr))) (a_ (a_ (a_ (a_ (Eq.refl 16) (Nat.le_refl (([x] : List (T_parrelref19_Got))).length)) (a_ (a_ (lt_ 0 16 rfl) (a_ (lt_ 0 56 rfl) (a_ gL0_7 (a_ (Eq.refl 16) (Eq.refl true))))) (a_ (Eq.refl 16) (Nat.le_refl ((g.f_L.take i.toNat)).length)))) (a_ (le_gs_app 4 (g.f_L.take i.toNat) ([x] : List (T_parrelref19_Got))) (a_ (sub_app c_T_parrelref19_Got default 16 (g.f_L.take i.toNat) ([x] : List (T_parrelref19_Got))) tr))) (r1_ (r2_ (a_ (a_ (a_ tr (lt_ 13 14 rfl)) tr) (r1_ (a_ (a_ (a_ (Eq.refl 16) gL0_8) (a_ (le_drop c_T_parrelref19_Got default 16 g.f_L i.toNat (toN_le gL0_8.2.1)) tr)) (a_ (a_ (a_ (Eq.refl 16) (a_ (a_ (lt_ 0 16 rfl) (a_ (lt_ 0 56 rfl) (a_ gL0_9 (a_ (Eq.refl 16) (Eq.refl true))))) (a_ (Eq.refl 16) (Nat.le_refl (((g.f_L.take i.toNat) ++ ([x] : List (T_parrelref19_Got)))).length)))) (a_ (le_gs_app 5 ((g.f_L.take i.toNat) ++ ([x] : List (T_parrelref19_Got))) (g.f_L.drop i.toNat)) (a_ (sub_app c_T_parrelref19_Got default 16 ((g.f_L.take i.toNat) ++ ([x] : List (T_parrelref19_Got))) (g.f_L.drop i.toNat)) tr))) (r2_ (a_ (a_ (a_ (Eq.refl 1) (a_ (le_ 14 14 rfl) (Eq.refl 0))) tr) tr)))))))))))))))) (a_ (r1_ (r2_ (a_ (a_ (a_ tr (lt_ 5 16 rfl)) tr) (r4_ (a_ (a_ (a_ tr (lt_ 1 14 rfl)) tr) (a_ (a_ tr (a_ (leB cL0_10) tr)) tr)))))) (a_ (r1_ (r2_ (a_ (a_ (a_ tr (le_ 16 16 rfl)) tr) (r2_ (a_ (a_ (a_ (Eq.refl 11) (a_ (le_ 12 14 rfl) (Eq.refl 0))) tr) tr))))) (a_ (r1_ tr) (a_ (a_ (fz_row (enc := c_T_parrelref19_Got) (d := default) (fun _ => rfl) (((g.f_L.take i.toNat) ++ ([x] : List (T_parrelref19_Got))) ++ (g.f_L.drop i.toNat))) (a_ (Nat.le_refl ((((g.f_L.take i.toNat) ++ ([x] : List (T_parrelref19_Got))) ++ (g.f_L.drop i.toNat))).length) (a_ (Nat.le_refl ((((g.f_L.take i.toNat) ++ ([x] : List (T_parrelref19_Got))) ++ (g.f_L.drop i.toNat))).length) tr))) tr))))))) tr) (by kernel_rfl) rfl
          · skip
            obtain rfl := Option.some.inj h
            exact run_ret mixed (L := []) (n := 35) (s := [.go, .reg [(7, { v := some (.bool true) }), (19, { v := some (.bool false) })], .reg [(7, { v := some (.bool false) })], .reg [(6, { v := some (.ds 16 ((g.f_L.take i.toNat)).length (rowF c_T_parrelref19_Got default (g.f_L.take i.toNat))) }), (7, { app := 3 }), (9, { os := [(3, .gr 16 (([x] : List (T_parrelref19_Got))).length (rowF c_T_parrelref19_Got default ([x] : List (T_parrelref19_Got))))], v := some (.gs 3 (([x] : List (T_parrelref19_Got))).length) }), (10, { app := 3, os := [(4, .gr 16 (((g.f_L.take i.toNat) ++ ([x] : List (T_parrelref19_Got)))).length (rowF c_T_parrelref19_Got default ((g.f_L.take i.toNat) ++ ([x] : List (T_parrelref19_Got)))))], v := some (.gs 4 (((g.f_L.take i.toNat) ++ ([x] : List (T_parrelref19_Got)))).length) }), (16, { v := some (.ds 16 ((g.f_L.drop i.toNat)).length (rowF c_T_parrelref19_Got default (g.f_L.drop i.toNat))) }), (17, { app := 3, os := [(5, .gr 16 ((((g.f_L.take i.toNat) ++ ([x] : List (T_parrelref19_Got))) ++ (g.f_L.drop i.toNat))).length (rowF c_T_parrelref19_Got default (((g.f_L.take i.toNat) ++ ([x] : List (T_parrelref19_Got))) ++ (g.f_L.drop i.toNat))))], v := some (.gs 5 ((((g.f_L.take i.toNat) ++ ([x] : List (T_parrelref19_Got))) ++ (g.f_L.drop i.toNat))).length) })], .reg [(9, { v := some (.bool false) })], .reg [], .frz 5])
              (a_ (a_ (r4_ (a_ (a_ (a_ tr (lt_ 13 14 rfl)) tr) (r2_ (a_ (a_ tr (a_ (leB cL0_1) tr)) (r1_ (r2_ (a_ (a_ (a_ tr (lt_ 13 14 rfl)) tr) (r1_ (a_ (a_ (a_ (Eq.refl 16) gL0_2) tr) (r1_ (a_ (a_ (lt_ 0 16 rfl) tr) (r1_ (a_ (a_ (a_ tr (lt_ 0 16 rfl)) tr) (r1_ (a_ (a_ tr (a_ (leB cL0_3) tr)) tr))))))))))))))) (a_ (r4_ (a_ (a_ (a_ tr (lt_ 13 14 rfl)) tr) (r2_ (a_ (a_ tr (a_ (leB cL0_4) tr)) (a_ tr (t2_ (t8_ (r1_ tr)))))))) (a_ (r4_ (a_ (a_ (a_ tr (lt_ 13 14 rfl)) tr) (r1_ (a_ (a_ (a_ (Eq.refl 16) gL0_5) (a_ (le_take c_T_parrelref19_Got default 16 g.f_L i.toNat (toN_le gL0_5.2.2)) tr)) (a_ (a_ (a_ (Eq.refl 16) (a_ (lt_ 0 16 rfl) (a_ (lt_ 0 56 rfl) (a_ gL0_6 (a_ (Eq.refl 16) (Eq.refl true)))))) tr) (a_ (a_ (a_ tr (le_ 16 16 rfl)) tr) (a_ (a_ (a_ (Eq.refl true) (a_ (Eq.refl 16) (a_ (lt_ 0 16 rfl) (le_ 16 16777216 rfl)))) (a_ (le_sl_gs 3 1 (some 1) rfl) (a_ (sub_lit c_T_parrelref19_Got default 16 (fun _ => rfl) ([x] : List (T_parrelref19_Got))) tr))) (a_ (a_ (a_ (a_ (Eq.refl 16) (Nat.le_refl (([x] : List (T_parrelref19_Got))).length)) (a_ (a_ (lt_ 0 16 rfl) (a_ (lt_ 0 56 rfl) (a_ gL0_7 (a_ (Eq.refl 16) (Eq.refl true))))) (a_ (Eq.refl 16) (Nat.le_refl ((g.f_L.take i.toNat)).length)))) (a_ (le_gs_app 4 (g.f_L.take i.toNat) ([x] : List (T_parrelref19_Got))) (a_ (sub_app c_T_parrelref19_Got default 16 (g.f_L.take i.toNat) ([x] : List (T_parrelref19_Got))) tr))) (r1_ (r2_ (a_ (a_ (a_ tr (lt_ 13 14 rfl)) tr) (r1_ (a_ (a_ (a_ (Eq.refl 16) gL0_8) (a_ (le_drop c_T_parrelref19_Got default 16 g.f_L i.toNat (toN_le gL0_8.2.1)) tr)) (a_ (a_ (a_ (Eq.refl 16) (a_ (a_ (lt_ 0 16 rfl) (a_ (lt_ 0 56 rfl) (a_ gL0_9 (a_ (Eq.refl 16) (Eq.refl true))))) (a_ (Eq.refl 16) (Nat.le_refl (((g.f_L.take i.toNat) ++ ([x] : List (T_parrelref19_Got)))).length)))) (a_ (le_gs_app 5 ((g.f_L.take i.toNat) ++ ([x] : List (T_parrelref19_Got))) (g.f_L.drop i.toNat)) (a_ (sub_app c_T_parrelref19_Got default 16 ((g.f_L.take i.toNat) ++ ([x] : List (T_parrelref19_Got))) (g.f_L.drop i.toNat)) tr))) (r2_ (a_ (a_ (a_ (Eq.refl 1) (a_ (le_ 14 14 rfl) (Eq.refl 0))) tr) tr)))))))))))))))) (a_ (r1_ (r2_ (a_ (a_ (a_ tr (lt_ 5 16 rfl)) tr) (r4_ (a_ (a_ (a_ tr (lt_ 1 14 rfl)) tr) (a_ (a_ tr (a_ (leB cL0_10) tr)) tr)))))) (a_ (r1_ tr) (a_ (a_ (fz_row (enc := c_T_parrelref19_Got) (d := default) (fun _ => rfl) (((g.f_L.take i.toNat) ++ ([x] : List (T_parrelref19_Got))) ++ (g.f_L.drop i.toNat))) (a_ (Nat.le_refl ((((g.f_L.take i.toNat) ++ ([x] : List (T_parrelref19_Got))) ++ (g.f_L.drop i.toNat))).length) (a_ (Nat.le_refl ((((g.f_L.take i.toNat) ++ ([x] : List (T_parrelref19_Got))) ++ (g.f_L.drop i.toNat))).length) tr))) tr)))))) tr) (by kernel_rfl) rfl
    · skip
      rcases itb_some h with ⟨cL0_2, h⟩ | ⟨cL0_2, h⟩
      · skip
        obtain ⟨gL0_3, h⟩ := guard_some h
        rcases itb_some h with ⟨cL0_4, h⟩ | ⟨cL0_4, h⟩
        · skip
          rcases itb_some h with ⟨cL0_5, h⟩ | ⟨cL0_5, h⟩
          · skip
            obtain rfl := Option.some.inj h
            exact run_ret mixed (L := []) (n := 29) (s := [.go, .reg [(7, { v := some (.bool false) })], .reg [(7, { v := some (.bool true) }), (19, { v := some (.bool true) })], .reg [(10, { v := some (.bool true) })], .reg []])
              (a_ (a_ (r4_ (a_ (a_ (a_ tr (lt_ 13 14 rfl)) tr) (r2_ (a_ (a_ tr (a_ (leB cL0_1) tr)) (a_ tr (t2_ (t8_ (r1_ tr)))))))) (a_ (r4_ (a_ (a_ (a_ tr (lt_ 13 14 rfl)) tr) (r2_ (a_ (a_ tr (a_ (leB cL0_2) tr)) (r1_ (r2_ (a_ (a_ (a_ tr (lt_ 13 14 rfl)) tr) (r1_ (a_ (a_ (a_ (Eq.refl 16) gL0_3) tr) (r1_ (a_ (a_ (lt_ 0 16 rfl) tr) (r1_ (a_ (a_ (a_ tr (lt_ 0 16 rfl)) tr) (r1_ (a_ (a_ tr (a_ (leB cL0_4) tr)) tr))))))))))))))) (a_ (r1_ (r2_ (a_ (a_ (a_ tr (lt_ 13 14 rfl)) tr) (r1_ (a_ (a_ (a_ (Eq.refl 16) gL0_3) tr) (r1_ (a_ (a_ (le_ 2 15 rfl) tr) (r1_ (a_ (a_ (a_ tr (le_ 3 16 rfl)) tr) (a_ (a_ tr (a_ (LV.Le.trans (leB (k_T_api_Reg (g.f_L.getD i.toNat default).f_Reg x.f_Reg)) (leB cL0_5)) tr)) tr)))))))))) (a_ (r1_ tr) tr)))) tr) (by kernel_rfl) rfl
          · skip
            obtain rfl := Option.some.inj h
            exact run_ret mixed (L := []) (n := 30) (s := [.go, .reg [(7, { v := some (.bool false) })], .reg [(7, { v := some (.bool true) }), (19, { v := some (.bool true) })], .reg [(10, { v := some (.bool false) })], .reg []])
              (a_ (a_ (r4_ (a_ (a_ (a_ tr (lt_ 13 14 rfl)) tr) (r2_ (a_ (a_ tr (a_ (leB cL0_1) tr)) (a_ tr (t2_ (t8_ (r1_ tr)))))))) (a_ (r4_ (a_ (a_ (a_ tr (lt_ 13 14 rfl)) tr) (r2_ (a_ (a_ tr (a_ (leB cL0_2) tr)) (r1_ (r2_ (a_ (a_ (a_ tr (lt_ 13 14 rfl)) tr) (r1_ (a_ (a_ (a_ (Eq.refl 16) gL0_3) tr) (r1_ (a_ (a_ (lt_ 0 16 rfl) tr) (r1_ (a_ (a_ (a_ tr (lt_ 0 16 rfl)) tr) (r1_ (a_ (a_ tr (a_ (leB cL0_4) tr)) tr))))))))))))))) (a_ (r1_ (r2_ (a_ (a_ (a_ tr (lt_ 13 14 rfl)) tr) (r1_ (a_ (a_ (a_ (Eq.refl 16) gL0_3) tr) (r1_ (a_ (a_ (le_ 2 15 rfl) tr) (r1_ (a_ (a_ (a_ tr (le_ 3 16 rfl)) tr) (a_ (a_ tr (a_ (LV.Le.trans (leB (k_T_api_Reg (g.f_L.getD i.toNat default).f_Reg x.f_Reg)) (leB cL0_5)) tr)) tr)))))))))) (a_ (r1_ tr) tr)))) tr) (by kernel_rfl) rfl
        · skip
          obtain ⟨gL0_5, h⟩ := guard_some h
          obtain ⟨gL0_6, h⟩ := guard_some h
          obtain ⟨gL0_7, h⟩ := guard_some h
          obtain ⟨gL0_8, h⟩ := guard_some h
          obtain ⟨gL0_9, h⟩ := guard_some h
          rcases itb_some h with ⟨cL0_10, h⟩ | ⟨cL0_10, h⟩
          · skip
            obtain rfl := Option.some.inj h
            exact run_ret mixed (L := []) (n := 36) (s := [.go, .reg [(7, { v := some (.bool false) })], .reg [(7, { v := some (.bool true) }), (19, { v := some (.bool false) })], .reg [(6, { v := some (.ds 16 ((g.f_L.take i.toNat)).length (rowF c_T_parrelref19_Got default (g.f_L.take i.toNat))) }), (7, { app := 3 }), (9, { os := [(3, .gr 16 (([x] : List (T_parrelref19_Got))).length (rowF c_T_parrelref19_Got default ([x] : List (T_parrelref19_Got))))], v := some (.gs 3 (([x] : List (T_parrelref19_Got))).length) }), (10, { app := 3, os := [(4, .gr 16 (((g.f_L.take i.toNat) ++ ([x] : List (T_parrelref19_Got)))).length (rowF c_T_parrelref19_Got default ((g.f_L.take i.toNat) ++ ([x] : List (T_parrelref19_Got)))))], v := some (.gs 4 (((g.f_L.take i.toNat) ++ ([x] : List (T_parrelref19_Got)))).length) }), (16, { v := some (.ds 16 ((g.f_L.drop i.toNat)).length (rowF c_T_parrelref19_Got default (g.f_L.drop i.toNat))) }), (17, { app := 3, os := [(5, .gr 16 ((((g.f_L.take i.toNat) ++ ([x] : List (T_parrelref19_Got))) ++ (g.f_L.drop i.toNat))).length (rowF c_T_parrelref19_Got default (((g.f_L.take i.toNat) ++ ([x] : List (T_parrelref19_Got))) ++ (g.f_L.drop i.toNat))))], v := some (.gs 5 ((((g.f_L.take i.toNat) ++ ([x] : List (T_parrelref19_Got))) ++ (g.f_L.drop i.toNat))).length) })], .reg [(9, { v := some (.bool true) })], .reg [], .reg [], .frz 5])
              (a_ (a_ (r4_ (a_ (a_ (a_ tr (lt_ 13 14 rfl)) tr) (r2_ (a_ (a_ tr (a_ (leB cL0_1) tr)) (a_ tr (t2_ (t8_ (r1_ tr)))))))) (a_ (r4_ (a_ (a_ (a_ tr (lt_ 13 14 rfl)) tr) (r2_ (a_ (a_ tr (a_ (leB cL0_2) tr)) (r1_ (r2_ (a_ (a_ (a_ tr (lt_ 13 14 rfl)) tr) (r1_ (a_ (a_ (a_ (Eq.refl 16) gL0_3) tr) (r1_ (a_ (a_ (lt_ 0 16 rfl) tr) (r1_ (a_ (a_ (a_ tr (lt_ 0 16 rfl)) tr) (r1_ (a_ (a_ tr (a_ (leB cL0_4) tr)) tr))))))))))))))) (a_ (r4_ (a_ (a_ (a_ tr (lt_ 13 14 rfl)) tr) (r1_ (a_ (a_ (a_ (Eq.refl 16) gL0_5) (a_ (le_take c_T_parrelref19_Got default 16 g.f_L i.toNat (toN_le gL0_5.2.2)) tr)) (a_ (a_ (a_ (Eq.refl 16) (a_ (lt_ 0 16 rfl) (a_ (lt_ 0 56 rfl) (a_ gL0_6 (a_ (Eq.refl 16) (Eq.refl true)))))) tr) (a_ (a_ (a_ tr (le_ 16 16 rfl)) tr) (a_ (a_ (a_ (Eq.refl true) (a_ (Eq.refl 16) (a_ (lt_ 0 16 rfl) (le_ 16 16777216 rfl)))) (a_ (le_sl_gs 3 1 (some 1) rfl) (a_ (sub_lit c_T_parrelref19_Got default 16 (fun _ => rfl) ([x] : List (T_parrelref19_Got))) tr))) (a_ (a_ (a_ (a_ (Eq.refl 16) (Nat.le_refl (([x] : List (T_parrelref19_Got))).length)) (a_ (a_ (lt_ 0 16 rfl) (a_ (lt_ 0 56 rfl) (a_ gL0_7 (a_ (Eq.refl 16) (Eq.refl true))))) (a_ (Eq.refl 16) (Nat.le_refl ((g.f_L.take i.toNat)).length)))) (a_ (le_gs_app 4 (g.f_L.take i.toNat) ([x] : List (T_parrelref19_Got))) (a_ (sub_app c_T_parrelref19_Got default 16 (g.f_L.take i.toNat) ([x] : List (T_parrelref19_Got))) tr))) (r1_ (r2_ (a_ (a_ (a_ tr (lt_ 13 14 rfl)) tr) (r1_ (a_ (a_ (a_ (Eq.refl 16) gL0_8) (a_ (le_drop c_T_parrelref19_Got default 16 g.f_L i.toNat (toN_le gL0_8.2.1)) tr)) (a_ (a_ (a_ (Eq.refl 16) (a_ (a_ (lt_ 0 16 rfl) (a_ (lt_ 0 56 rfl) (a_ gL0_9 (a_ (Eq.refl 16) (Eq.refl true))))) (a_ (Eq.refl 16) (Nat.le_refl (((g.f_L.take i.toNat) ++ ([x] : List (T_parrelref19_Got)))).length)))) (a_ (le_gs_app 5 ((g.f_L.take i.toNat) ++ ([x] : List (T_parrelref19_Got))) (g.f_L.drop i.toNat)) (a_ (sub_app c_T_parrelref19_Got default 16 ((g.f_L.take i.toNat) ++ ([x] : List (T_parrelref19_Got))) (g.f_L.drop i.toNat)) tr))) (r2_ (a_ (a_ (a_ (Eq.refl 1) (a_ (le_ 14 14 rfl) (Eq.refl 0))) tr) tr)))))))))))))))) (a_ (r1_ (r2_ (a_ (a_ (a_ tr (lt_ 5 16 rfl)) tr) (r4_ (a_ (a_ (a_ tr (lt_ 1 14 rfl)) tr) (a_ (a_ tr (a_ (leB cL0_10) tr)) tr)))))) (a_ (r1_ (r2_ (a_ (a_ (a_ tr (le_ 16 16 rfl)) tr) (r2_ (a_ (a_ (a_ (Eq.refl 11) (a_ (le_ 12 14 rfl) (Eq.refl 0))) tr) tr))))) (a_ (r1_ tr) (a_ (a_ (fz_row (enc := c_T_parrelref19_Got) (d := default) (fun _ => rfl) (((g.f_L.take i.toNat) ++ ([x] : List (T_parrelref19_Got))) ++ (g.f_L.drop i.toNat))) (a_ (Nat.le_refl ((((g.f_L.take i.toNat) ++ ([x] : List (T_parrelref19_Got))) ++ (g.f_L.drop i.toNat))).length) (a_ (Nat.le_refl ((((g.f_L.take i.toNat) ++ ([x] : List (T_parrelref19_Got))) ++ (g.f_L.drop i.toNat))).length) tr))) tr))))))) tr) (by kernel_rfl) rfl
          · skip
            obtain rfl := Option.some.inj h
            exact run_ret mixed (L := []) (n := 35) (s := [.go, .reg [(7, { v := some (.bool false) })], .reg [(7, { v := some (.bool true) }), (19, { v := some (.bool false) })], .reg [(6, { v := some (.ds 16 ((g.f_L.take i.toNat)).length (rowF c_T_parrelref19_Got default (g.f_L.take i.toNat))) }), (7, { app := 3 }), (9, { os := [(3, .gr 16 (([x] : List (T_parrelref19_Got))).length (rowF c_T_parrelref19_Got default ([x] : List (T_parrelref19_Got))))], v := some (.gs 3 (([x] : List (T_parrelref19_Got))).length) }), (10, { app := 3, os := [(4, .gr 16 (((g.f_L.take i.toNat) ++ ([x] : List (T_parrelref19_Got)))).length (rowF c_T_parrelref19_Got default ((g.f_L.take i.toNat) ++ ([x] : List (T_parrelref19_Got)))))], v := some (.gs 4 (((g.f_L.take i.toNat) ++ ([x] : List (T_parrelref19_Got)))).length) }), (16, { v := some (.ds 16 ((g.f_L.drop i.toNat)).length (rowF c_T_parrelref19_Got default (g.f_L.drop i.toNat))) }), (17, { app := 3, os := [(5, .gr 16 ((((g.f_L.take i.toNat) ++ ([x] : List (T_parrelref19_Got))) ++ (g.f_L.drop i.toNat))).length (rowF c_T_parrelref19_Got default (((g.f_L.take i.toNat) ++ ([x] : List (T_parrelref19_Got))) ++ (g.f_L.drop i.toNat))))], v := some (.gs 5 ((((g.f_L.take i.toNat) ++ ([x] : List (T_parrelref19_Got))) ++ (g.f_L.drop i.toNat))).length) })], .reg [(9, { v := some (.bool false) })], .reg [], .frz 5])
              (a_ (a_ (r4_ (a_ (a_ (a_ tr (lt_ 13 14 rfl)) tr) (r2_ (a_ (a_ tr (a_ (leB cL0_1) tr)) (a_ tr (t2_ (t8_ (r1_ tr)))))))) (a_ (r4_ (a_ (a_ (a_ tr (lt_ 13 14 rfl)) tr) (r2_ (a_ (a_ tr (a_ (leB cL0_2) tr)) (r1_ (r2_ (a_ (a_ (a_ tr (lt_ 13 14 rfl)) tr) (r1_ (a_ (a_ (a_ (Eq.refl 16) gL0_3) tr) (r1_ (a_ (a_ (lt_ 0 16 rfl) tr) (r1_ (a_ (a_ (a_ tr (lt_ 0 16 rfl)) tr) (r1_ (a_ (a_ tr (a_ (leB cL0_4) tr)) tr))))))))))))))) (a_ (r4_ (a_ (a_ (a_ tr (lt_ 13 14 rfl)) tr) (r1_ (a_ (a_ (a_ (Eq.refl 16) gL0_5) (a_ (le_take c_T_parrelref19_Got default 16 g.f_L i.toNat (toN_le gL0_5.2.2)) tr)) (a_ (a_ (a_ (Eq.refl 16) (a_ (lt_ 0 16 rfl) (a_ (lt_ 0 56 rfl) (a_ gL0_6 (a_ (Eq.refl 16) (Eq.refl true)))))) tr) (a_ (a_ (a_ tr (le_ 16 16 rfl)) tr) (a_ (a_ (a_ (Eq.refl true) (a_ (Eq.refl 16) (a_ (lt_ 0 16 rfl) (le_ 16 16777216 rfl)))) (a_ (le_sl_gs 3 1 (some 1) rfl) (a_ (sub_lit c_T_parrelref19_Got default 16 (fun _ => rfl) ([x] : List (T_parrelref19_Got))) tr))) (a_ (a_ (a_ (a_ (Eq.refl 16) (Nat.le_refl (([x] : List (T_parrelref19_Got))).length)) (a_ (a_ (lt_ 0 16 rfl) (a_ (lt_ 0 56 rfl) (a_ gL0_7 (a_ (Eq.refl 16) (Eq.refl true))))) (a_ (Eq.refl 16) (Nat.le_refl ((g.f_L.take i.toNat)).length)))) (a_ (le_gs_app 4 (g.f_L.take i.toNat) ([x] : List (T_parrelref19_Got))) (a_ (sub_app c_T_parrelref19_Got default 16 (g.f_L.take i.toNat) ([x] : List (T_parrelref19_Got))) tr))) (r1_ (r2_ (a_ (a_ (a_ tr (lt_ 13 14 rfl)) tr) (r1_ (a_ (a_ (a_ (Eq.refl 16) gL0_8) (a_ (le_drop c_T_parrelref19_Got default 16 g.f_L i.toNat (toN_le gL0_8.2.1)) tr)) (a_ (a_ (a_ (Eq.refl 16) (a_ (a_ (lt_ 0 16 rfl) (a_ (lt_ 0 56 rfl) (a_ gL0_9 (a_ (Eq.refl 16) (Eq.refl true))))) (a_ (Eq.refl 16) (Nat.le_refl (((g.f_L.take i.toNat) ++ ([x] : List (T_parrelref19_Got)))).length)))) (a_ (le_gs_app 5 ((g.f_L.take i.toNat) ++ ([x] : List (T_parrelref19_Got))) (g.f_L.drop i.toNat)) (a_ (sub_app c_T_parrelref19_Got default 16 ((g.f_L.take i.toNat) ++ ([x] : List (T_parrelref19_Got))) (g.f_L.drop i.toNat)) tr))) (r2_ (a_ (a_ (a_ (Eq.refl 1) (a_ (le_ 14 14 rfl) (Eq.refl 0))) tr) tr)))))))))))))))) (a_ (r1_ (r2_ (a_ (a_ (a_ tr (lt_ 5 16 rfl)) tr) (r4_ (a_ (a_ (a_ tr (lt_ 1 14 rfl)) tr) (a_ (a_ tr (a_ (leB cL0_10) tr)) tr)))))) (a_ (r1_ tr) (a_ (a_ (fz_row (enc := c_T_parrelref19_Got) (d := default) (fun _ => rfl) (((g.f_L.take i.toNat) ++ ([x] : List (T_parrelref19_Got))) ++ (g.f_L.drop i.toNat))) (a_ (Nat.le_refl ((((g.f_L.take i.toNat) ++ ([x] : List (T_parrelref19_Got))) ++ (g.f_L.drop i.toNat))).length) (a_ (Nat.le_refl ((((g.f_L.take i.toNat) ++ ([x] : List (T_parrelref19_Got))) ++ (g.f_L.drop i.toNat))).length) tr))) tr)))))) tr) (by kernel_rfl) rfl
      · skip
        obtain ⟨gL0_3, h⟩ := guard_some h
        obtain ⟨gL0_4, h⟩ := guard_some h
        obtain ⟨gL0_5, h⟩ := guard_some h
        obtain ⟨gL0_6, h⟩ := guard_some h
        obtain ⟨gL0_7, h⟩ := guard_some h
        rcases itb_some h with ⟨cL0_8, h⟩ | ⟨cL0_8, h⟩
        · skip
          obtain rfl := Option.some.inj h
          exact run_ret mixed (L := []) (n := 36) (s := [.go, .reg [(7, { v := some (.bool false) })], .reg [(7, { v := some (.bool false) })], .reg [(6, { v := some (.ds 16 ((g.f_L.take i.toNat)).length (rowF c_T_parrelref19_Got default (g.f_L.take i.toNat))) }), (7, { app := 3 }), (9, { os := [(3, .gr 16 (([x] : List (T_parrelref19_Got))).length (rowF c_T_parrelref19_Got default ([x] : List (T_parrelref19_Got))))], v := some (.gs 3 (([x] : List (T_parrelref19_Got))).length) }), (10, { app := 3, os := [(4, .gr 16 (((g.f_L.take i.toNat) ++ ([x] : List (T_parrelref19_Got)))).length (rowF c_T_parrelref19_Got default ((g.f_L.take i.toNat) ++ ([x] : List (T_parrelref19_Got)))))], v := some (.gs 4 (((g.f_L.take i.toNat) ++ ([x] : List (T_parrelref19_Got)))).length) }), (16, { v := some (.ds 16 ((g.f_L.drop i.toNat)).length (rowF c_T_parrelref19_Got default (g.f_L.drop i.toNat))) }), (17, { app := 3, os := [(5, .gr 16 ((((g.f_L.take i.toNat) ++ ([x] : List (T_parrelref19_Got))) ++ (g.f_L.drop i.toNat))).length (rowF c_T_parrelref19_Got default (((g.f_L.take i.toNat) ++ ([x] : List (T_parrelref19_Got))) ++ (g.f_L.drop i.toNat))))], v := some (.gs 5 ((((g.f_L.take i.toNat) ++ ([x] : List (T_parrelref19_Got))) ++ (g.f_L.drop i.toNat))).length) })], .reg [(9, { v := some (.bool true) })], .reg [], .reg [], .frz 5])
            (a_ (a_ (r4_ (a_ (a_ (a_ tr (lt_ 13 14 rfl)) tr) (r2_ (a_ (a_ tr (a_ (leB cL0_1) tr)) (a_ tr (t2_ (t8_ (r1_ tr)))))))) (a_ (r4_ (a_ (a_ (a_ tr (lt_ 13 14 rfl)) tr) (r2_ (a_ (a_ tr (a_ (leB cL0_2) tr)) (a_ tr (t2_ (t8_ (r1_ tr)))))))) (a_ (r4_ (a_ (a_ (a_ tr (lt_ 13 14 rfl)) tr) (r1_ (a_ (a_ (a_ (Eq.refl 16) gL0_3) (a_ (le_take c_T_parrelref19_Got default 16 g.f_L i.toNat (toN_le gL0_3.2.2)) tr)) (a_ (a_ (a_ (Eq.refl 16) (a_ (lt_ 0 16 rfl) (a_ (lt_ 0 56 rfl) (a_ gL0_4 (a_ (Eq.refl 16) (Eq.refl true)))))) tr) (a_ (a_ (a_ tr (le_ 16 16 rfl)) tr) (a_ (a_ (a_ (Eq.refl true) (a_ (Eq.refl 16) (a_ (lt_ 0 16 rfl) (le_ 16 16777216 rfl)))) (a_ (le_sl_gs 3 1 (some 1) rfl) (a_ (sub_lit c_T_parrelref19_Got default 16 (fun _ => rfl) ([x] : List (T_parrelref19_Got))) tr))) (a_ (a_ (a_ (a_ (Eq.refl 16) (Nat.le_refl (([x] : List (T_parrelref19_Got))).length)) (a_ (a_ (lt_ 0 16 rfl) (a_ (lt_ 0 56 rfl) (a_ gL0_5 (a_ (Eq.refl 16) (Eq.refl true))))) (a_ (Eq.refl 16) (Nat.le_refl ((g.f_L.take i.toNat)).length)))) (a_ (le_gs_app 4 (g.f_L.take i.toNat) ([x] : List (T_parrelref19_Got))) (a_ (sub_app c_T_parrelref19_Got default 16 (g.f_L.take i.toNat) ([x] : List (T_parrelref19_Got))) tr))) (r1_ (r2_ (a_ (a_ (a_ tr (lt_ 13 14 rfl)) tr) (r1_ (a_ (a_ (a_ (Eq.refl 16) gL0_6) (a_ (le_drop c_T_parrelref19_Got default 16 g.f_L i.toNat (toN_le gL0_6.2.1)) tr)) (a_ (a_ (a_ (Eq.refl 16) (a_ (a_ (lt_ 0 16 rfl) (a_ (lt_ 0 56 rfl) (a_ gL0_7 (a_ (Eq.refl 16) (Eq.refl true))))) (a_ (Eq.refl 16) (Nat.le_refl (((g.f_L.take i.toNat) ++ ([x] : List (T_parrelref19_Got)))).length)))) (a_ (le_gs_app 5 ((g.f_L.take i.toNat) ++ ([x] : List (T_parrelref19_Got))) (g.f_L.drop i.toNat)) (a_ (sub_app c_T_parrelref19_Got default 16 ((g.f_L.take i.toNat) ++ ([x] : List (T_parrelref19_Got))) (g.f_L.drop i.toNat)) tr))) (r2_ (a_ (a_ (a_ (Eq.refl 1) (a_ (le_ 14 14 rfl) (Eq.refl 0))) tr) tr)))))))))))))))) (a_ (r1_ (r2_ (a_ (a_ (a_ tr (lt_ 5 16 rfl)) tr) (r4_ (a_ (a_ (a_ tr (lt_ 1 14 rfl)) tr) (a_ (a_ tr (a_ (leB cL0_8) tr)) tr)))))) (a_ (r1_ (r2_ (a_ (a_ (a_ tr (le_ 16 16 rfl)) tr) (r2_ (a_ (a_ (a_ (Eq.refl 11) (a_ (le_ 12 14 rfl) (Eq.refl 0))) tr) tr))))) (a_ (r1_ tr) (a_ (a_ (fz_row (enc := c_T_parrelref19_Got) (d := default) (fun _ => rfl) (((g.f_L.take i.toNat) ++ ([x] : List (T_parrelref19_Got))) ++ (g.f_L.drop i.toNat))) (a_ (Nat.le_refl ((((g.f_L.take i.toNat) ++ ([x] : List (T_parrelref19_Got))) ++ (g.f_L.drop i.toNat))).length) (a_ (Nat.le_refl ((((g.f_L.take i.toNat) ++ ([x] : List (T_parrelref19_Got))) ++ (g.f_L.drop i.toNat))).length) tr))) tr))))))) tr) (by kernel_rfl) rfl
        · skip
          obtain rfl := Option.some.inj h
          exact run_ret mixed (L := []) (n := 35) (s := [.go, .reg [(7, { v := some (.bool false) })], .reg [(7, { v := some (.bool false) })], .reg [(6, { v := some (.ds 16 ((g.f_L.take i.toNat)).length (rowF c_T_parrelref19_Got default (g.f_L.take i.toNat))) }), (7, { app := 3 }), (9, { os := [(3, .gr 16 (([x] : List (T_parrelref19_Got))).length (rowF c_T_parrelref19_Got default ([x] : List (T_parrelref19_Got))))], v := some (.gs 3 (([x] : List (T_parrelref19_Got))).length) }), (10, { app := 3, os := [(4, .gr 16 (((g.f_L.take i.toNat) ++ ([x] : List (T_parrelref19_Got)))).length (rowF c_T_parrelref19_Got default ((g.f_L.take i.toNat) ++ ([x] : List (T_parrelref19_Got)))))], v := some (.gs 4 (((g.f_L.take i.toNat) ++ ([x] : List (T_parrelref19_Got)))).length) }), (16, { v := some (.ds 16 ((g.f_L.drop i.toNat)).length (rowF c_T_parrelref19_Got default (g.f_L.drop i.toNat))) }), (17, { app := 3, os := [(5, .gr 16 ((((g.f_L.take i.toNat) ++ ([x] : List (T_parrelref19_Got))) ++ (g.f_L.drop i.toNat))).length (rowF c_T_parrelref19_Got default (((g.f_L.take i.toNat) ++ ([x] : List (T_parrelref19_Got))) ++ (g.f_L.drop i.toNat))))], v := some (.gs 5 ((((g.f_L.take i.toNat) ++ ([x] : List (T_parrelref19_Got))) ++ (g.f_L.drop i.toNat))).length) })], .reg [(9, { v := some (.bool false) })], .reg [], .frz 5])
            (a_ (a_ (r4_ (a_ (a_ (a_ tr (lt_ 13 14 rfl)) tr) (r2_ (a_ (a_ tr (a_ (leB cL0_1) tr)) (a_ tr (t2_ (t8_ (r1_ tr)))))))) (a_ (r4_ (a_ (a_ (a_ tr (lt_ 13 14 rfl)) tr) (r2_ (a_ (a_ tr (a_ (leB cL0_2) tr)) (a_ tr (t2_ (t8_ (r1_ tr)))))))) (a_ (r4_ (a_ (a_ (a_ tr (lt_ 13 14 rfl)) tr) (r1_ (a_ (a_ (a_ (Eq.refl 16) gL0_3) (a_ (le_take c_T_parrelref19_Got default 16 g.f_L i.toNat (toN_le gL0_3.2.2)) tr)) (a_ (a_ (a_ (Eq.refl 16) (a_ (lt_ 0 16 rfl) (a_ (lt_ 0 56 rfl) (a_ gL0_4 (a_ (Eq.refl 16) (Eq.refl true)))))) tr) (a_ (a_ (a_ tr (le_ 16 16 rfl)) tr) (a_ (a_ (a_ (Eq.refl true) (a_ (Eq.refl 16) (a_ (lt_ 0 16 rfl) (le_ 16 16777216 rfl)))) (a_ (le_sl_gs 3 1 (some 1) rfl) (a_ (sub_lit c_T_parrelref19_Got default 16 (fun _ => rfl) ([x] : List (T_parrelref19_Got))) tr))) (a_ (a_ (a_ (a_ (Eq.refl 16) (Nat.le_refl (([x] : List (T_parrelref19_Got))).length)) (a_ (a_ (lt_ 0 16 rfl) (a_ (lt_ 0 56 rfl) (a_ gL0_5 (a_ (Eq.refl 16) (Eq.refl true))))) (a_ (Eq.refl 16) (Nat.le_refl ((g.f_L.take i.toNat)).length)))) (a_ (le_gs_app 4 (g.f_L.take i.toNat) ([x] : List (T_parrelref19_Got))) (a_ (sub_app c_T_parrelref19_Got default 16 (g.f_L.take i.toNat) ([x] : List (T_parrelref19_Got))) tr))) (r1_ (r2_ (a_ (a_ (a_ tr (lt_ 13 14 rfl)) tr) (r1_ (a_ (a_ (a_ (Eq.refl 16) gL0_6) (a_ (le_drop c_T_parrelref19_Got default 16 g.f_L i.toNat (toN_le gL0_6.2.1)) tr)) (a_ (a_ (a_ (Eq.refl 16) (a_ (a_ (lt_ 0 16 rfl) (a_ (lt_ 0 56 rfl) (a_ gL0_7 (a_ (Eq.refl 16) (Eq.refl true))))) (a_ (Eq.refl 16) (Nat.le_refl (((g.f_L.take i.toNat) ++ ([x] : List (T_parrelref19_Got)))).length)))) (a_ (le_gs_app 5 ((g.f_L.take i.toNat) ++ ([x] : List (T_parrelref19_Got))) (g.f_L.drop i.toNat)) (a_ (sub_app c_T_parrelref19_Got default 16 ((g.f_L.take i.toNat) ++ ([x] : List (T_parrelref19_Got))) (g.f_L.drop i.toNat)) tr))) (r2_ (a_ (a_ (a_ (Eq.refl 1) (a_ (le_ 14 14 rfl) (Eq.refl 0))) tr) tr)))))))))))))))) (a_ (r1_ (r2_ (a_ (a_ (a_ tr (lt_ 5 16 rfl)) tr) (r4_ (a_ (a_ (a_ tr (lt_ 1 14 rfl)) tr) (a_ (a_ tr (a_ (leB cL0_8) tr)) tr)))))) (a_ (r1_ tr) (a_ (a_ (fz_row (enc := c_T_parrelref19_Got) (d := default) (fun _ => rfl) (((g.f_L.take i.toNat) ++ ([x] : List (T_parrelref19_Got))) ++ (g.f_L.drop i.toNat))) (a_ (Nat.le_refl ((((g.f_L.take i.toNat) ++ ([x] : List (T_parrelref19_Got))) ++ (g.f_L.drop i.toNat))).length) (a_ (Nat.le_refl ((((g.f_L.take i.toNat) ++ ([x] : List (T_parrelref19_Got))) ++ (g.f_L.drop i.toNat))).length) tr))) tr)))))) tr) (by kernel_rfl) rfl

theorem parrelref19_Gather_Grant_ok (g : T_parrelref19_Gather) (x : T_parrelref19_Got) (r : (Int) × (Int) × (T_api_Config) × (List (T_api_Config)) × (List (T_parrelref19_Got))) (h : parrelref19_Gather_Grant g x = some r) : ∀ σ, Inj 1 σ → FnTri Tryd.prog 24 (renL σ [.ptr 0 0 0, v_T_parrelref19_Got x]) (preOf σ 0 (parrelref19_Gather_Grant_objs g x)) ((parrelref19_Gather_Grant_v r).ren σ) (upOf σ (parrelref19_Gather_Grant_up g x r)) := by
  refine fn_of Tryd.func24 (by kernel_rfl) (by kernel_rfl) (by kernel_rfl) ⟨rfl, trivial⟩ (by kernel_rfl) ⟨rfl, trivial⟩ (by kernel_rfl) ?_
  intro w0 W μ0 hμ
  unfold parrelref19_Gather_Grant at h
  rcases itb_some h with ⟨c1, h⟩ | ⟨c1, h⟩
  · skip
    obtain rfl := Option.some.inj h
    exact run_ret mixed (L := []) (n := 20) (s := [.reg [], .reg [(3, { v := some (.bool true) })], .reg []])
      (a_ (a_ (r2_ tr) (a_ (r1_ (a_ (a_ (a_ tr (lt_ 0 16 rfl)) tr) (r1_ (a_ (a_ tr (a_ (leB c1) tr)) (t4_ (r2_ (t4_ (r1_ tr)))))))) (a_ (r1_ tr) tr))) tr) (by kernel_rfl) rfl
  · skip
    obtain ⟨y3, e2, h⟩ := bind_some h
    rcases itb_some h with ⟨c4, h⟩ | ⟨c4, h⟩
    · skip
      obtain rfl := Option.some.inj h
      exact run_ret mixed (L := []) (n := 20) (s := [.reg [], .reg [(3, { v := some (.bool false) }), (6, { call := some (parrelref05_RegMay_v y3, [], []) }), (9, { v := some (.bool true) })], .reg []])
        (a_ (a_ (r2_ tr) (a_ (r1_ (a_ (a_ (a_ tr (lt_ 0 16 rfl)) tr) (r1_ (a_ (a_ tr (a_ (leB c1) tr)) (r1_ (a_ (a_ (a_ tr (le_ 3 16 rfl)) tr) (a_ (a_ (a_ (parrelref05_RegMay_tri x.f_Reg y3 e2) tr) tr) (r2_ (a_ (a_ tr (a_ (leB c4) tr)) (t4_ (r1_ tr))))))))))) (a_ (r1_ tr) tr))) tr) (by kernel_rfl) rfl
    · skip
      obtain ⟨y6, e5, h⟩ := bind_some h
      rcases itb_some h with ⟨c7, h⟩ | ⟨c7, h⟩
      · skip
        obtain rfl := Option.some.inj h
        exact run_ret mixed (L := []) (n := 20) (s := [.reg [], .reg [(3, { v := some (.bool false) }), (6, { call := some (parrelref05_RegMay_v y3, [], []) }), (9, { v := some (.bool false) }), (12, { call := some (parrelref10_ItemMay_v y6, [], []) }), (14, { v := some (.bool true) })], .reg []])
          (a_ (a_ (r2_ tr) (a_ (r1_ (a_ (a_ (a_ tr (lt_ 0 16 rfl)) tr) (r1_ (a_ (a_ tr (a_ (leB c1) tr)) (r1_ (a_ (a_ (a_ tr (le_ 3 16 rfl)) tr) (a_ (a_ (a_ (parrelref05_RegMay_tri x.f_Reg y3 e2) tr) tr) (r2_ (a_ (a_ tr (a_ (leB c4) tr)) (r1_ (a_ (a_ (a_ tr (le_ 16 16 rfl)) tr) (a_ (a_ (a_ (parrelref10_ItemMay_tri x.f_Item y6 e5) tr) tr) (r1_ (a_ (a_ tr (a_ (leB c7) tr)) tr)))))))))))))) (a_ (r1_ tr) tr))) tr) (by kernel_rfl) rfl
      · skip
        exact run_to mixed hμ (L := [1]) (n := 24) (s := [.reg [], .reg [(3, { v := some (.bool false) }), (6, { call := some (parrelref05_RegMay_v y3, [], []) }), (9, { v := some (.bool false) }), (12, { call := some (parrelref10_ItemMay_v y6, [], []) }), (14, { v := some (.bool false) })], .reg []])
          (a_ (r2_ tr) (a_ (r1_ (a_ (a_ (a_ tr (lt_ 0 16 rfl)) tr) (r1_ (a_ (a_ tr (a_ (leB c1) tr)) (r1_ (a_ (a_ (a_ tr (le_ 3 16 rfl)) tr) (a_ (a_ (a_ (parrelref05_RegMay_tri x.f_Reg y3 e2) tr) tr) (r2_ (a_ (a_ tr (a_ (leB c4) tr)) (r1_ (a_ (a_ (a_ tr (le_ 16 16 rfl)) tr) (a_ (a_ (a_ (parrelref10_ItemMay_tri x.f_Item y6 e5) tr) tr) (r1_ (a_ (a_ tr (a_ (leB c7) tr)) tr)))))))))))))) (a_ (r1_ tr) tr))) (parrelref19_Gather_Grant_l0_ok hμ g x  big _ r h) (by kernel_rfl) ⟨rfl, rfl, trivial⟩

/-- (*parrel/gather.Gather).Conf -/

def gather_Gather_Conf_v (r : (T_api_Config)) : LV := v_T_api_Config r

def gather_Gather_Conf_up (g : T_gather_Gather) (r : (T_api_Config)) : Upd := [(0, some (.var (c_T_gather_Gather g)))]

def gather_Gather_Conf_objs (g : T_gather_Gather) : List LO := [.var (c_T_gather_Gather g)]

def gather_Gather_Conf (g : T_gather_Gather) : Option ((T_api_Config)) :=
  (gather_Gather_ok g).bind fun y2 =>
  if ((!y2) : Bool) then
    some (T_api_Config.mk 0 0 0 (A8.mk 0 0 0 0 0 0 0 0))
  else
    some g.f_conf

theorem gather_Gather_Conf_ok (g : T_gather_Gather) (r : (T_api_Config)) (h : gather_Gather_Conf g = some r) : ∀ σ, Inj 1 σ → FnTri Tryd.prog 25 (renL σ [.ptr 0 0 0]) (preOf σ 0 (gather_Gather_Conf_objs g)) ((gather_Gather_Conf_v r).ren σ) (upOf σ (gather_Gather_Conf_up g r)) := by
  refine fn_of Tryd.func25 (by kernel_rfl) (by kernel_rfl) (by kernel_rfl) ⟨rfl, trivial⟩ (by kernel_rfl) ⟨rfl, trivial⟩ (by kernel_rfl) ?_
  intro w0 W μ0 hμ
  unfold gather_Gather_Conf at h
  obtain ⟨y2, e1, h⟩ := bind_some h
  rcases itb_some h with ⟨c3, h⟩ | ⟨c3, h⟩
  · skip
    obtain rfl := Option.some.inj h
    exact run_ret mixed (L := []) (n := 20) (s := [.reg [], .reg [(1, { call := some ((gather_Gather_ok_v y2).ren (sel [0]), preOf (sel [0]) 0 (gather_Gather_ok_objs g), upOf (sel [0]) (gather_Gather_ok_up g y2)) }), (2, { v := some (.bool true) })], .reg []])
      (a_ (a_ (r1_ tr) (a_ (r1_ (a_ (a_ (a_ (gather_Gather_ok_ok g y2 e1 (sel [0]) (sel_inj rfl rfl)) (a_ (LO.Le.refl (.var (c_T_gather_Gather g))) tr)) tr) (a_ (a_ tr (a_ (leB c3) tr)) tr))) (a_ (a_ (a_ (Eq.refl true) tr) (a_ (a_ (a_ (Eq.refl 11) (a_ (le_ 11 11 rfl) (Eq.refl 0))) tr) tr)) tr))) (a_ (a_ tr (le_ 11 11 rfl)) tr)) (by kernel_rfl) rfl
  · skip
    obtain rfl := Option.some.inj h
    exact run_ret mixed (L := []) (n := 21) (s := [.reg [], .reg [(1, { call := some ((gather_Gather_ok_v y2).ren (sel [0]), preOf (sel [0]) 0 (gather_Gather_ok_objs g), upOf (sel [0]) (gather_Gather_ok_up g y2)) }), (2, { v := some (.bool false) })], .reg []])
      (a_ (a_ (r1_ tr) (a_ (r1_ (a_ (a_ (a_ (gather_Gather_ok_ok g y2 e1 (sel [0]) (sel_inj rfl rfl)) (a_ (LO.Le.refl (.var (c_T_gather_Gather g))) tr)) tr) (a_ (a_ tr (a_ (leB c3) tr)) tr))) (a_ (r1_ (r2_ (a_ (a_ (a_ tr (le_ 12 142 rfl)) tr) (a_ (a_ (a_ (Eq.refl 11) (a_ (le_ 11 11 rfl) (Eq.refl 0))) tr) tr)))) tr))) (a_ (a_ tr (le_ 11 11 rfl)) tr)) (by kernel_rfl) rfl

/-- parrel/parrelref01.power -/

def parrelref01_power_v (r : (Int)) : LV := .int .u64 r

def parrelref01_power_T0 (x_n : Int) (p : Int) (i : Int) : List LV := [.int .i64 x_n, .any, .any, .int .u64 p, .int .i64 i, .any, .any, .any, .any, .any, .any, .any, .any]

def parrelref01_power_H0 (x_n : Int) (p : Int) (i : Int) : Heap := []

def parrelref01_power_l0 (x_n : Int)  : Nat → (Int) → (Int) → Option ((Int))
  | 0, _, _ => none
  | fuel + 1, p, i =>
    if ((decide (i < x_n)) : Bool) then
      parrelref01_power_l0 x_n  fuel (IntKind.wrap .u64 (p * 2)) (IntKind.wrap .i64 (i + 1))
    else
      some p

def parrelref01_power (x_n : Int) : Option ((Int)) :=
  parrelref01_power_l0 x_n  big 1 0

theorem parrelref01_power_l0_ok {w0 : World} {W : Nat → Prop} {μ0 : Emb} (hμ : ∀ c p, μ0 c = some p → c < 0) (x_n : Int)  : ∀ (fuel : Nat) (p : Int) (i : Int) (r : (Int)), parrelref01_power_l0 x_n  fuel p i = some r → kont Tryd.prog w0 W μ0 (FnPost Tryd.prog Tryd.f61 0 0 (parrelref01_power_v r) []) (kAt (bodyOf Tryd.f61) 0) none (parrelref01_power_T0 x_n p i) (parrelref01_power_H0 x_n p i) := by
  intro fuel
  induction fuel with
  | zero => intro p i r h; rw [parrelref01_power_l0] at h; cases h
  | succ fuel ih =>
    intro p i r h
    rw [parrelref01_power_l0] at h
    rcases itb_some h with ⟨cL0_1, h⟩ | ⟨cL0_1, h⟩
    · skip
      exact run_to mixed hμ (L := []) (n := 23) (s := [.go, .reg [(2, { v := some (.bool true) })], .reg [], .reg []])
        (a_ (r2_ (a_ (a_ tr (a_ (leB cL0_1) tr)) tr)) (a_ (r1_ (r2_ tr)) (a_ (r1_ (r2_ tr)) tr))) (ih _ _ r h) (by kernel_rfl) trivial
    · skip
      obtain rfl := Option.some.inj h
      exact run_ret mixed (L := []) (n := 19) (s := [.go, .reg [(2, { v := some (.bool false) })], .reg []])
        (a_ (a_ (r2_ (a_ (a_ tr (a_ (leB cL0_1) tr)) tr)) (a_ (r2_ tr) tr)) tr) (by kernel_rfl) rfl

theorem parrelref01_power_ok (x_n : Int) (r : (Int)) (h : parrelref01_power x_n = some r) : ∀ σ, Inj 0 σ → FnTri Tryd.prog 61 (renL σ [.int .i64 x_n]) (preOf σ 0 []) ((parrelref01_power_v r).ren σ) (upOf σ []) := by
  refine fn_of Tryd.func61 (by kernel_rfl) (by kernel_rfl) (by kernel_rfl) trivial (by kernel_rfl) trivial (by kernel_rfl) ?_
  intro w0 W μ0 hμ
  unfold parrelref01_power at h
  exact run_to mixed hμ (L := []) (n := 21) (s := [.reg [], .reg [], .reg []])
    (a_ (r1_ tr) (a_ (r1_ tr) (a_ (r1_ tr) tr))) (parrelref01_power_l0_ok hμ x_n  big _ _ r h) (by kernel_rfl) trivial

theorem parrelref01_power_tri (x_n : Int) (r : (Int)) (h : parrelref01_power x_n = some r) : FnTri Tryd.prog 61 [.int .i64 x_n] [] (parrelref01_power_v r) [] := FnTri.none (parrelref01_power_ok x_n r h) rfl rfl

/-- parrel/parrelref01.Has -/

def parrelref01_Has_v (r : (Bool)) : LV := .bool r

def parrelref01_Has (set : Int) (x_n : Int) : Option ((Bool)) :=
  if ((decide (0 ≤ x_n)) : Bool) then
    if ((decide (x_n < 64)) : Bool) then
      (parrelref01_power x_n).bind fun y4 =>
      if y4 ≠ 0 then
      some ((Int.tmod (IntKind.wrap .u64 (Int.tdiv set y4)) 2) == 1)
      else none
    else
      some false
  else
    some false

theorem parrelref01_Has_ok (set : Int) (x_n : Int) (r : (Bool)) (h : parrelref01_Has set x_n = some r) : ∀ σ, Inj 0 σ → FnTri Tryd.prog 44 (renL σ [.int .u64 set, .int .i64 x_n]) (preOf σ 0 []) ((parrelref01_Has_v r).ren σ) (upOf σ []) := by
  refine fn_of Tryd.func44 (by kernel_rfl) (by kernel_rfl) (by kernel_rfl) trivial (by kernel_rfl) trivial (by kernel_rfl) ?_
  intro w0 W μ0 hμ
  unfold parrelref01_Has at h
  rcases itb_some h with ⟨c1, h⟩ | ⟨c1, h⟩
  · skip
    rcases itb_some h with ⟨c2, h⟩ | ⟨c2, h⟩
    · skip
      obtain ⟨y4, e3, h⟩ := bind_some h
      obtain ⟨g5, h⟩ := guard_some h
      obtain rfl := Option.some.inj h
      exact run_ret mixed (L := []) (n := 15) (s := [.reg [], .reg [(2, { v := some (.bool true) }), (6, { v := some (.bool true) }), (9, { call := some (parrelref01_power_v y4, [], []) })]])
        (a_ (a_ (r1_ tr) (a_ (r2_ (a_ (a_ tr (a_ (leB c1) tr)) (r1_ (r2_ (a_ (a_ tr (a_ (leB c2) tr)) (r2_ (a_ (a_ (a_ (parrelref01_power_tri x_n y4 e3) tr) tr) (a_ (a_ g5 tr) (a_ (a_ (ne0 2 rfl) tr) (r1_ (r2_ tr))))))))))) tr)) tr) (by kernel_rfl) rfl
    · skip
      obtain rfl := Option.some.inj h
      exact run_ret mixed (L := []) (n := 15) (s := [.reg [], .reg [(2, { v := some (.bool true) }), (6, { v := some (.bool false) })]])
        (a_ (a_ (r1_ tr) (a_ (r2_ (a_ (a_ tr (a_ (leB c1) tr)) (r1_ (r2_ (a_ (a_ tr (a_ (leB c2) tr)) (t2_ (t4_ (r2_ tr)))))))) tr)) tr) (by kernel_rfl) rfl
  · skip
    obtain rfl := Option.some.inj h
    exact run_ret mixed (L := []) (n := 15) (s := [.reg [], .reg [(2, { v := some (.bool false) })]])
      (a_ (a_ (r1_ tr) (a_ (r2_ (a_ (a_ tr (a_ (leB c1) tr)) (t2_ (r2_ (t2_ (t4_ (r2_ tr))))))) tr)) tr) (by kernel_rfl) rfl

theorem parrelref01_Has_tri (set : Int) (x_n : Int) (r : (Bool)) (h : parrelref01_Has set x_n = some r) : FnTri Tryd.prog 44 [.int .u64 set, .int .i64 x_n] [] (parrelref01_Has_v r) [] := FnTri.none (parrelref01_Has_ok set x_n r h) rfl rfl

/-- parrel/parrelref01.With -/

def parrelref01_With_v (r : (Int)) : LV := .int .u64 r

def parrelref01_With (set : Int) (x_n : Int) : Option ((Int)) :=
  if ((decide (x_n < 0)) : Bool) then
    some set
  else
    if ((decide (63 < x_n)) : Bool) then
      some set
    else
      (parrelref01_Has set x_n).bind fun y4 =>
      if (y4 : Bool) then
        some set
      else
        (parrelref01_power x_n).bind fun y7 =>
        some (IntKind.wrap .u64 (set + y7))

theorem parrelref01_With_ok (set : Int) (x_n : Int) (r : (Int)) (h : parrelref01_With set x_n = some r) : ∀ σ, Inj 0 σ → FnTri Tryd.prog 57 (renL σ [.int .u64 set, .int .i64 x_n]) (preOf σ 0 []) ((parrelref01_With_v r).ren σ) (upOf σ []) := by
  refine fn_of Tryd.func57 (by kernel_rfl) (by kernel_rfl) (by kernel_rfl) trivial (by kernel_rfl) trivial (by kernel_rfl) ?_
  intro w0 W μ0 hμ
  unfold parrelref01_With at h
  rcases itb_some h with ⟨c1, h⟩ | ⟨c1, h⟩
  · skip
    obtain rfl := Option.some.inj h
    exact run_ret mixed (L := []) (n := 20) (s := [.reg [], .reg [(2, { v := some (.bool true) })], .reg []])
      (a_ (a_ (r1_ tr) (a_ (r2_ (a_ (a_ tr (a_ (leB c1) tr)) (t2_ (r2_ (a_ tr (t2_ (r1_ tr))))))) (a_ (r2_ tr) tr))) tr) (by kernel_rfl) rfl
  · skip
    rcases itb_some h with ⟨c2, h⟩ | ⟨c2, h⟩
    · skip
      obtain rfl := Option.some.inj h
      exact run_ret mixed (L := []) (n := 20) (s := [.reg [], .reg [(2, { v := some (.bool false) }), (6, { v := some (.bool true) })], .reg []])
        (a_ (a_ (r1_ tr) (a_ (r2_ (a_ (a_ tr (a_ (leB c1) tr)) (r1_ (r2_ (a_ (a_ tr (a_ (leB c2) tr)) (a_ tr (t2_ (r1_ tr)))))))) (a_ (r2_ tr) tr))) tr) (by kernel_rfl) rfl
    · skip
      obtain ⟨y4, e3, h⟩ := bind_some h
      rcases itb_some h with ⟨c5, h⟩ | ⟨c5, h⟩
      · skip
        obtain rfl := Option.some.inj h
        exact run_ret mixed (L := []) (n := 20) (s := [.reg [], .reg [(2, { v := some (.bool false) }), (6, { v := some (.bool false) }), (9, { call := some (parrelref01_Has_v y4, [], []) }), (10, { v := some (.bool true) })], .reg []])
          (a_ (a_ (r1_ tr) (a_ (r2_ (a_ (a_ tr (a_ (leB c1) tr)) (r1_ (r2_ (a_ (a_ tr (a_ (leB c2) tr)) (r2_ (a_ (a_ (a_ (parrelref01_Has_tri set x_n y4 e3) tr) tr) (a_ (a_ tr (a_ (leB c5) tr)) tr)))))))) (a_ (r2_ tr) tr))) tr) (by kernel_rfl) rfl
      · skip
        obtain ⟨y7, e6, h⟩ := bind_some h
        obtain rfl := Option.some.inj h
        exact run_ret mixed (L := []) (n := 21) (s := [.reg [], .reg [(2, { v := some (.bool false) }), (6, { v := some (.bool false) }), (9, { call := some (parrelref01_Has_v y4, [], []) }), (10, { v := some (.bool false) })], .reg [(2, { call := some (parrelref01_power_v y7, [], []) })]])
          (a_ (a_ (r1_ tr) (a_ (r2_ (a_ (a_ tr (a_ (leB c1) tr)) (r1_ (r2_ (a_ (a_ tr (a_ (leB c2) tr)) (r2_ (a_ (a_ (a_ (parrelref01_Has_tri set x_n y4 e3) tr) tr) (a_ (a_ tr (a_ (leB c5) tr)) tr)))))))) (a_ (r2_ (a_ (a_ (a_ (parrelref01_power_tri x_n y7 e6) tr) tr) (r2_ tr))) tr))) tr) (by kernel_rfl) rfl

theorem parrelref01_With_tri (set : Int) (x_n : Int) (r : (Int)) (h : parrelref01_With set x_n = some r) : FnTri Tryd.prog 57 [.int .u64 set, .int .i64 x_n] [] (parrelref01_With_v r) [] := FnTri.none (parrelref01_With_ok set x_n r h) rfl rfl

/-- (*parrel/parrelref19.Gather).Nodes -/

def parrelref19_Gather_Nodes_v (r : (Int)) : LV := .int .u64 r

def parrelref19_Gather_Nodes_up (g : T_parrelref19_Gather) (r : (Int)) : Upd := []

def parrelref19_Gather_Nodes_objs (g : T_parrelref19_Gather) : List LO := [.row 14 1 (fun _ => c_T_parrelref19_Gather g) false]

def parrelref19_Gather_Nodes_T0 (g : T_parrelref19_Gather) (set : Int) (i : Int) : List LV := [.ptr 0 0 0, .any, .any, .int .u64 set, .int .i64 i, .any, .any, .any, .any, .any, .any, .any, .any, .any, .any, .any, .any, .any, .any, .any, .any, .any, .any, .any, .any, .any]

def parrelref19_Gather_Nodes_H0 (g : T_parrelref19_Gather) (set : Int) (i : Int) : Heap := [some (.row 14 1 (fun _ => c_T_parrelref19_Gather g) false)]

def parrelref19_Gather_Nodes_l0 (g : T_parrelref19_Gather)  : Nat → (Int) → (Int) → Option ((Int))
  | 0, _, _ => none
  | fuel + 1, set, i =>
    if ((decide (i < ((g.f_L).length : Int))) : Bool) then
      if 0 ≤ i ∧ i < (((g.f_L).length : Nat) : Int) then
      (parrelref01_With set (IntKind.wrap .i64 (g.f_L.getD i.toNat default).f_Node)).bind fun yL0_4 =>
      parrelref19_Gather_Nodes_l0 g  fuel yL0_4 (IntKind.wrap .i64 (i + 1))
      else none
    else
      some set

def parrelref19_Gather_Nodes (g : T_parrelref19_Gather) : Option ((Int)) :=
  parrelref19_Gather_Nodes_l0 g  big 0 0

theorem parrelref19_Gather_Nodes_l0_ok {w0 : World} {W : Nat → Prop} {μ0 : Emb} (hμ : ∀ c p, μ0 c = some p → c < 1) (g : T_parrelref19_Gather)  : ∀ (fuel : Nat) (set : Int) (i : Int) (r : (Int)), parrelref19_Gather_Nodes_l0 g  fuel set i = some r → kont Tryd.prog w0 W μ0 (FnPost Tryd.prog Tryd.f27 1 1 (parrelref19_Gather_Nodes_v r) (parrelref19_Gather_Nodes_up g r)) (kAt (bodyOf Tryd.f27) 0) none (parrelref19_Gather_Nodes_T0 g set i) (parrelref19_Gather_Nodes_H0 g set i) := by
  intro fuel
  induction fuel with
  | zero => intro set i r h; rw [parrelref19_Gather_Nodes_l0] at h; cases h
  | succ fuel ih =>
    intro set i r h
    rw [parrelref19_Gather_Nodes_l0] at h
    rcases itb_some h with ⟨cL0_1, h⟩ | ⟨cL0_1, h⟩
    · skip
      obtain ⟨gL0_2, h⟩ := guard_some h
      obtain ⟨yL0_4, eL0_3, h⟩ := bind_some h
      exact run_to mixed hμ (L := []) (n := 23) (s := [.go, .reg [(6, { v := some (.bool true) })], .reg [(10, { call := some (parrelref01_With_v yL0_4, [], []) })], .reg []])
        (a_ (r4_ (a_ (a_ (a_ (lt_ 0 1 rfl) (lt_ 13 14 rfl)) tr) (r1_ (a_ (a_ tr (a_ (leB cL0_1) tr)) tr)))) (a_ (r4_ (a_ (a_ (a_ (lt_ 0 1 rfl) (lt_ 13 14 rfl)) tr) (r1_ (a_ (a_ (a_ (Eq.refl 16) gL0_2) tr) (r1_ (a_ (a_ (lt_ 0 16 rfl) tr) (r1_ (a_ (a_ (a_ (parrelref01_With_tri set (IntKind.wrap .i64 (g.f_L.getD i.toNat default).f_Node) yL0_4 eL0_3) tr) tr) (r1_ tr))))))))) (a_ (r1_ (r2_ tr)) tr))) (ih _ _ r h) (by kernel_rfl) ⟨fun _ _ => rfl, trivial⟩
    · skip
      obtain rfl := Option.some.inj h
      exact run_ret mixed (L := []) (n := 19) (s := [.go, .reg [(6, { v := some (.bool false) })], .reg []])
        (a_ (a_ (r4_ (a_ (a_ (a_ (lt_ 0 1 rfl) (lt_ 13 14 rfl)) tr) (r1_ (a_ (a_ tr (a_ (leB cL0_1) tr)) tr)))) (a_ (r2_ tr) tr)) tr) (by kernel_rfl) rfl

theorem parrelref19_Gather_Nodes_ok (g : T_parrelref19_Gather) (r : (Int)) (h : parrelref19_Gather_Nodes g = some r) : ∀ σ, Inj 1 σ → FnTri Tryd.prog 27 (renL σ [.ptr 0 0 0]) (preOf σ 0 (parrelref19_Gather_Nodes_objs g)) ((parrelref19_Gather_Nodes_v r).ren σ) (upOf σ (parrelref19_Gather_Nodes_up g r)) := by
  refine fn_of Tryd.func27 (by kernel_rfl) (by kernel_rfl) (by kernel_rfl) ⟨fun _ _ => rfl, trivial⟩ (by kernel_rfl) trivial (by kernel_rfl) ?_
  intro w0 W μ0 hμ
  unfold parrelref19_Gather_Nodes at h
  exact run_to mixed hμ (L := []) (n := 21) (s := [.reg [], .reg [], .reg []])
    (a_ (r1_ tr) (a_ (r1_ tr) (a_ (r1_ tr) tr))) (parrelref19_Gather_Nodes_l0_ok hμ g  big _ _ r h) (by kernel_rfl) ⟨fun _ _ => rfl, trivial⟩

/-- parrel/parrelref06.Of -/

def parrelref06_Of_v (r : (Int)) : LV := .int .i64 r

def parrelref06_Of_T0 (c : T_api_Config) (set : Int) (x_n : Int) (i : Int) : List LV := [.any, .int .u64 set, .ptr 0 0 0, .any, .any, .int .i64 x_n, .int .i64 i, .any, .any, .any, .any, .any, .any, .any, .any, .any, .any, .any, .any, .any, .any, .any]

def parrelref06_Of_H0 (c : T_api_Config) (set : Int) (x_n : Int) (i : Int) : Heap := [some (.var (c_T_api_Config c))]

def parrelref06_Of_l0 (c : T_api_Config) (set : Int)  : Nat → (Int) → (Int) → Option ((Int))
  | 0, _, _ => none
  | fuel + 1, x_n, i =>
    if ((decide (i < 8)) : Bool) then
      (parrelref01_Has set i).bind fun yL0_3 =>
      if (yL0_3 : Bool) then
        if 0 ≤ i ∧ i < 8 then
        parrelref06_Of_l0 c set  fuel (IntKind.wrap .i64 (x_n + (IntKind.wrap .i64 (A8.get c.f_Votes i.toNat)))) (IntKind.wrap .i64 (i + 1))
        else none
      else
        parrelref06_Of_l0 c set  fuel x_n (IntKind.wrap .i64 (i + 1))
    else
      some x_n

def parrelref06_Of (c : T_api_Config) (set : Int) : Option ((Int)) :=
  parrelref06_Of_l0 c set  big 0 0

theorem parrelref06_Of_l0_ok {w0 : World} {W : Nat → Prop} {μ0 : Emb} (hμ : ∀ c p, μ0 c = some p → c < 0) (c : T_api_Config) (set : Int)  : ∀ (fuel : Nat) (x_n : Int) (i : Int) (r : (Int)), parrelref06_Of_l0 c set  fuel x_n i = some r → kont Tryd.prog w0 W μ0 (FnPost Tryd.prog Tryd.f17 0 0 (parrelref06_Of_v r) []) (kAt (bodyOf Tryd.f17) 0) none (parrelref06_Of_T0 c set x_n i) (parrelref06_Of_H0 c set x_n i) := by
  intro fuel
  induction fuel with
  | zero => intro x_n i r h; rw [parrelref06_Of_l0] at h; cases h
  | succ fuel ih =>
    intro x_n i r h
    rw [parrelref06_Of_l0] at h
    rcases itb_some h with ⟨cL0_1, h⟩ | ⟨cL0_1, h⟩
    · skip
      obtain ⟨yL0_3, eL0_2, h⟩ := bind_some h
      rcases itb_some h with ⟨cL0_4, h⟩ | ⟨cL0_4, h⟩
      · skip
        obtain ⟨gL0_5, h⟩ := guard_some h
        exact run_to mixed hμ (L := [0]) (n := 27) (s := [.go, .reg [(1, { v := some (.bool true) })], .reg [(2, { call := some (parrelref01_Has_v yL0_3, [], []), v := some (.bool true) })], .reg [(4, { v := some (.int .u8 (A8.get c.f_Votes i.toNat)) })], .reg []])
          (a_ (r1_ (a_ (a_ tr (a_ (leB cL0_1) tr)) tr)) (a_ (r2_ (a_ (a_ (a_ (parrelref01_Has_tri set i yL0_3 eL0_2) tr) (a_ (leB cL0_4) tr)) tr)) (a_ (r1_ (r2_ (a_ (a_ gL0_5 tr) (a_ (a_ (a_ tr (arrLt (len := 8) gL0_5 3 1 11 rfl rfl)) (a_ (ld8s (cInt .u8) 1 (fun _ => rfl) c.f_Votes [.int .u32 c.f_Epoch, .int .u8 c.f_R, .int .u8 c.f_W] [] 3 rfl i.toNat (lt8N gL0_5) (le_ (0 + 1) 1 rfl)) tr)) (r1_ (r2_ tr)))))) (a_ (r1_ (r2_ tr)) tr)))) (ih _ _ r h) (by kernel_rfl) ⟨rfl, trivial⟩
      · skip
        exact run_to mixed hμ (L := [0]) (n := 26) (s := [.go, .reg [(1, { v := some (.bool true) })], .reg [(2, { call := some (parrelref01_Has_v yL0_3, [], []), v := some (.bool false) })], .reg []])
          (a_ (r1_ (a_ (a_ tr (a_ (leB cL0_1) tr)) tr)) (a_ (r2_ (a_ (a_ (a_ (parrelref01_Has_tri set i yL0_3 eL0_2) tr) (a_ (leB cL0_4) tr)) tr)) (a_ (r1_ (r2_ tr)) tr))) (ih _ _ r h) (by kernel_rfl) ⟨rfl, trivial⟩
    · skip
      obtain rfl := Option.some.inj h
      exact run_ret mixed (L := []) (n := 19) (s := [.go, .reg [(1, { v := some (.bool false) })], .reg []])
        (a_ (a_ (r1_ (a_ (a_ tr (a_ (leB cL0_1) tr)) tr)) (a_ (r2_ tr) tr)) tr) (by kernel_rfl) rfl

theorem parrelref06_Of_ok (c : T_api_Config) (set : Int) (r : (Int)) (h : parrelref06_Of c set = some r) : ∀ σ, Inj 0 σ → FnTri Tryd.prog 17 (renL σ [v_T_api_Config c, .int .u64 set]) (preOf σ 0 []) ((parrelref06_Of_v r).ren σ) (upOf σ []) := by
  refine fn_of Tryd.func17 (by kernel_rfl) (by kernel_rfl) (by kernel_rfl) trivial (by kernel_rfl) trivial (by kernel_rfl) ?_
  intro w0 W μ0 hμ
  unfold parrelref06_Of at h
  exact run_to mixed hμ (L := [0]) (n := 21) (s := [.reg [], .reg [], .reg []])
    (a_ (r2_ tr) (a_ (r1_ tr) (a_ (r1_ tr) tr))) (parrelref06_Of_l0_ok hμ c set  big _ _ r h) (by kernel_rfl) ⟨rfl, trivial⟩

theorem parrelref06_Of_tri (c : T_api_Config) (set : Int) (r : (Int)) (h : parrelref06_Of c set = some r) : FnTri Tryd.prog 17 [v_T_api_Config c, .int .u64 set] [] (parrelref06_Of_v r) [] := FnTri.none (parrelref06_Of_ok c set r h) rfl rfl

/-- (*parrel/parrelref19.Gather).Enough -/

def parrelref19_Gather_Enough_v (r : (Bool)) : LV := .bool r

def parrelref19_Gather_Enough_up (g : T_parrelref19_Gather) (r : (Bool)) : Upd := [(0, some (.var (c_T_parrelref19_Gather g)))]

def parrelref19_Gather_Enough_objs (g : T_parrelref19_Gather) : List LO := [.var (c_T_parrelref19_Gather g)]

def parrelref19_Gather_Enough_T0 (g : T_parrelref19_Gather) (i : Int) : List LV := [.ptr 0 0 0, .any, .any, .any, .int .i64 i, .any, .any, .any, .any, .any, .any, .any, .any, .any, .any, .any, .any, .any, .any, .any, .any, .any, .any, .any, .any, .any, .any, .any, .any, .any, .any, .any, .any, .any, .any, .any, .any, .any, .any, .any, .any, .any, .any, .any, .any, .any, .any, .any, .any, .any, .any, .any, .any, .any, .any, .any, .any, .any, .any, .any]

def parrelref19_Gather_Enough_H0 (g : T_parrelref19_Gather) (i : Int) : Heap := [some (.var (c_T_parrelref19_Gather g))]

def parrelref19_Gather_Enough_l0 (g : T_parrelref19_Gather)  : Nat → (Int) → Option ((Bool))
  | 0, _ => none
  | fuel + 1, i =>
    if ((decide (i < ((g.f_More).length : Int))) : Bool) then
      if 0 ≤ i ∧ i < (((g.f_More).length : Nat) : Int) then
      (parrelref19_Gather_Nodes g).bind fun yL0_4 =>
      (parrelref06_Of (g.f_More.getD i.toNat default) yL0_4).bind fun yL0_6 =>
      if ((decide (yL0_6 < (IntKind.wrap .i64 (g.f_More.getD i.toNat default).f_W))) : Bool) then
        some false
      else
        parrelref19_Gather_Enough_l0 g  fuel (IntKind.wrap .i64 (i + 1))
      else none
    else
      some true

def parrelref19_Gather_Enough (g : T_parrelref19_Gather) : Option ((Bool)) :=
  if ((g.f_Mode == 2) : Bool) then
    (parrelref19_Gather_Nodes g).bind fun y3 =>
    (parrelref06_Of g.f_Conf y3).bind fun y5 =>
    if ((decide (y5 < (IntKind.wrap .i64 g.f_Conf.f_W))) : Bool) then
      some false
    else
      parrelref19_Gather_Enough_l0 g  big 0
  else
    (parrelref19_Gather_Nodes g).bind fun y3 =>
    (parrelref06_Of g.f_Conf y3).bind fun y5 =>
    if ((decide (y5 < (IntKind.wrap .i64 g.f_Conf.f_R))) : Bool) then
      some false
    else
      parrelref19_Gather_Enough_l0 g  big 0

theorem parrelref19_Gather_Enough_l0_ok {w0 : World} {W : Nat → Prop} {μ0 : Emb} (hμ : ∀ c p, μ0 c = some p → c < 1) (g : T_parrelref19_Gather)  : ∀ (fuel : Nat) (i : Int) (r : (Bool)), parrelref19_Gather_Enough_l0 g  fuel i = some r → kont Tryd.prog w0 W μ0 (FnPost Tryd.prog Tryd.f26 1 1 (parrelref19_Gather_Enough_v r) (parrelref19_Gather_Enough_up g r)) (kAt (bodyOf Tryd.f26) 0) none (parrelref19_Gather_Enough_T0 g i) (parrelref19_Gather_Enough_H0 g i) := by
  intro fuel
  induction fuel with
  | zero => intro i r h; rw [parrelref19_Gather_Enough_l0] at h; cases h
  | succ fuel ih =>
    intro i r h
    rw [parrelref19_Gather_Enough_l0] at h
    rcases itb_some h with ⟨cL0_1, h⟩ | ⟨cL0_1, h⟩
    · skip
      obtain ⟨gL0_2, h⟩ := guard_some h
      obtain ⟨yL0_4, eL0_3, h⟩ := bind_some h
      obtain ⟨yL0_6, eL0_5, h⟩ := bind_some h
      rcases itb_some h with ⟨cL0_7, h⟩ | ⟨cL0_7, h⟩
      · skip
        obtain rfl := Option.some.inj h
        exact run_ret mixed (L := []) (n := 25) (s := [.go, .reg [(6, { v := some (.bool true) })], .reg [(8, { call := some ((parrelref19_Gather_Nodes_v yL0_4).ren (sel [0]), preOf (sel [0]) 0 (parrelref19_Gather_Nodes_objs g), upOf (sel [0]) (parrelref19_Gather_Nodes_up g yL0_4)) }), (9, { call := some (parrelref06_Of_v yL0_6, [], []) }), (19, { v := some (.bool true) })], .reg []])
          (a_ (a_ (r4_ (a_ (a_ (a_ tr (lt_ 12 14 rfl)) tr) (r1_ (a_ (a_ tr (a_ (leB cL0_1) tr)) tr)))) (a_ (r1_ (r2_ (a_ (a_ (a_ tr (lt_ 12 14 rfl)) tr) (r1_ (a_ (a_ (a_ (Eq.refl 11) gL0_2) tr) (a_ (a_ (le_ 11 11 rfl) tr) (r1_ (a_ (a_ (a_ (parrelref19_Gather_Nodes_ok g yL0_4 eL0_3 (sel [0]) (sel_inj rfl rfl)) (a_ (LO.Le.ofVar (c_T_parrelref19_Gather g)) tr)) tr) (a_ (a_ (a_ (parrelref06_Of_tri (g.f_More.getD i.toNat default) yL0_4 yL0_6 eL0_5) tr) tr) (r1_ (r2_ (a_ (a_ (a_ tr (lt_ 12 14 rfl)) tr) (r1_ (a_ (a_ (a_ (Eq.refl 11) gL0_2) tr) (r1_ (a_ (a_ (lt_ 0 9 rfl) tr) (r1_ (a_ (a_ tr (a_ (leB cL0_7) tr)) tr)))))))))))))))))) (a_ (r1_ tr) tr))) tr) (by kernel_rfl) rfl
      · skip
        exact run_to mixed hμ (L := []) (n := 26) (s := [.go, .reg [(6, { v := some (.bool true) })], .reg [(8, { call := some ((parrelref19_Gather_Nodes_v yL0_4).ren (sel [0]), preOf (sel [0]) 0 (parrelref19_Gather_Nodes_objs g), upOf (sel [0]) (parrelref19_Gather_Nodes_up g yL0_4)) }), (9, { call := some (parrelref06_Of_v yL0_6, [], []) }), (19, { v := some (.bool false) })], .reg []])
          (a_ (r4_ (a_ (a_ (a_ tr (lt_ 12 14 rfl)) tr) (r1_ (a_ (a_ tr (a_ (leB cL0_1) tr)) tr)))) (a_ (r1_ (r2_ (a_ (a_ (a_ tr (lt_ 12 14 rfl)) tr) (r1_ (a_ (a_ (a_ (Eq.refl 11) gL0_2) tr) (a_ (a_ (le_ 11 11 rfl) tr) (r1_ (a_ (a_ (a_ (parrelref19_Gather_Nodes_ok g yL0_4 eL0_3 (sel [0]) (sel_inj rfl rfl)) (a_ (LO.Le.ofVar (c_T_parrelref19_Gather g)) tr)) tr) (a_ (a_ (a_ (parrelref06_Of_tri (g.f_More.getD i.toNat default) yL0_4 yL0_6 eL0_5) tr) tr) (r1_ (r2_ (a_ (a_ (a_ tr (lt_ 12 14 rfl)) tr) (r1_ (a_ (a_ (a_ (Eq.refl 11) gL0_2) tr) (r1_ (a_ (a_ (lt_ 0 9 rfl) tr) (r1_ (a_ (a_ tr (a_ (leB cL0_7) tr)) tr)))))))))))))))))) (a_ (r1_ (r2_ tr)) tr))) (ih _ r h) (by kernel_rfl) ⟨rfl, trivial⟩
    · skip
      obtain rfl := Option.some.inj h
      exact run_ret mixed (L := []) (n := 19) (s := [.go, .reg [(6, { v := some (.bool false) })], .reg []])
        (a_ (a_ (r4_ (a_ (a_ (a_ tr (lt_ 12 14 rfl)) tr) (r1_ (a_ (a_ tr (a_ (leB cL0_1) tr)) tr)))) (a_ (r1_ tr) tr)) tr) (by kernel_rfl) rfl

theorem parrelref19_Gather_Enough_ok (g : T_parrelref19_Gather) (r : (Bool)) (h : parrelref19_Gather_Enough g = some r) : ∀ σ, Inj 1 σ → FnTri Tryd.prog 26 (renL σ [.ptr 0 0 0]) (preOf σ 0 (parrelref19_Gather_Enough_objs g)) ((parrelref19_Gather_Enough_v r).ren σ) (upOf σ (parrelref19_Gather_Enough_up g r)) := by
  refine fn_of Tryd.func26 (by kernel_rfl) (by kernel_rfl) (by kernel_rfl) ⟨rfl, trivial⟩ (by kernel_rfl) ⟨rfl, trivial⟩ (by kernel_rfl) ?_
  intro w0 W μ0 hμ
  unfold parrelref19_Gather_Enough at h
  rcases itb_some h with ⟨c1, h⟩ | ⟨c1, h⟩
  · skip
    obtain ⟨y3, e2, h⟩ := bind_some h
    obtain ⟨y5, e4, h⟩ := bind_some h
    rcases itb_some h with ⟨c6, h⟩ | ⟨c6, h⟩
    · skip
      obtain rfl := Option.some.inj h
      exact run_ret mixed (L := []) (n := 30) (s := [.reg [], .reg [], .reg [(4, { v := some (.bool true) })], .reg [], .reg [(5, { call := some ((parrelref19_Gather_Nodes_v y3).ren (sel [0]), preOf (sel [0]) 0 (parrelref19_Gather_Nodes_objs g), upOf (sel [0]) (parrelref19_Gather_Nodes_up g y3)) }), (6, { call := some (parrelref06_Of_v y5, [], []) }), (8, { v := some (.bool true) })], .reg []])
        (a_ (a_ (r1_ tr) (a_ (r4_ (a_ (a_ (a_ tr (lt_ 2 14 rfl)) tr) (r2_ tr))) (a_ (r1_ (r2_ (a_ (a_ (a_ tr (lt_ 0 14 rfl)) tr) (a_ (a_ tr (a_ (leB c1) tr)) tr)))) (a_ (r4_ (a_ (a_ (a_ tr (lt_ 3 14 rfl)) tr) (r2_ tr))) (a_ (r1_ (r2_ (a_ (a_ (a_ tr (le_ 12 14 rfl)) tr) (r1_ (a_ (a_ (a_ (parrelref19_Gather_Nodes_ok g y3 e2 (sel [0]) (sel_inj rfl rfl)) (a_ (LO.Le.ofVar (c_T_parrelref19_Gather g)) tr)) tr) (a_ (a_ (a_ (parrelref06_Of_tri g.f_Conf y3 y5 e4) tr) tr) (r1_ (a_ (a_ tr (a_ (leB c6) tr)) tr)))))))) (a_ (r1_ tr) tr)))))) tr) (by kernel_rfl) rfl
    · skip
      exact run_to mixed hμ (L := []) (n := 34) (s := [.reg [], .reg [], .reg [(4, { v := some (.bool true) })], .reg [], .reg [(5, { call := some ((parrelref19_Gather_Nodes_v y3).ren (sel [0]), preOf (sel [0]) 0 (parrelref19_Gather_Nodes_objs g), upOf (sel [0]) (parrelref19_Gather_Nodes_up g y3)) }), (6, { call := some (parrelref06_Of_v y5, [], []) }), (8, { v := some (.bool false) })], .reg []])
        (a_ (r1_ tr) (a_ (r4_ (a_ (a_ (a_ tr (lt_ 2 14 rfl)) tr) (r2_ tr))) (a_ (r1_ (r2_ (a_ (a_ (a_ tr (lt_ 0 14 rfl)) tr) (a_ (a_ tr (a_ (leB c1) tr)) tr)))) (a_ (r4_ (a_ (a_ (a_ tr (lt_ 3 14 rfl)) tr) (r2_ tr))) (a_ (r1_ (r2_ (a_ (a_ (a_ tr (le_ 12 14 rfl)) tr) (r1_ (a_ (a_ (a_ (parrelref19_Gather_Nodes_ok g y3 e2 (sel [0]) (sel_inj rfl rfl)) (a_ (LO.Le.ofVar (c_T_parrelref19_Gather g)) tr)) tr) (a_ (a_ (a_ (parrelref06_Of_tri g.f_Conf y3 y5 e4) tr) tr) (r1_ (a_ (a_ tr (a_ (leB c6) tr)) tr)))))))) (a_ (r1_ tr) tr)))))) (parrelref19_Gather_Enough_l0_ok hμ g  big _ r h) (by kernel_rfl) ⟨rfl, trivial⟩
  · skip
    obtain ⟨y3, e2, h⟩ := bind_some h
    obtain ⟨y5, e4, h⟩ := bind_some h
    rcases itb_some h with ⟨c6, h⟩ | ⟨c6, h⟩
    · skip
      obtain rfl := Option.some.inj h
      exact run_ret mixed (L := []) (n := 29) (s := [.reg [], .reg [], .reg [(4, { v := some (.bool false) })], .reg [(5, { call := some ((parrelref19_Gather_Nodes_v y3).ren (sel [0]), preOf (sel [0]) 0 (parrelref19_Gather_Nodes_objs g), upOf (sel [0]) (parrelref19_Gather_Nodes_up g y3)) }), (6, { call := some (parrelref06_Of_v y5, [], []) }), (8, { v := some (.bool true) })], .reg []])
        (a_ (a_ (r1_ tr) (a_ (r4_ (a_ (a_ (a_ tr (lt_ 2 14 rfl)) tr) (r2_ tr))) (a_ (r1_ (r2_ (a_ (a_ (a_ tr (lt_ 0 14 rfl)) tr) (a_ (a_ tr (a_ (leB c1) tr)) tr)))) (a_ (r1_ (r2_ (a_ (a_ (a_ tr (le_ 12 14 rfl)) tr) (r1_ (a_ (a_ (a_ (parrelref19_Gather_Nodes_ok g y3 e2 (sel [0]) (sel_inj rfl rfl)) (a_ (LO.Le.ofVar (c_T_parrelref19_Gather g)) tr)) tr) (a_ (a_ (a_ (parrelref06_Of_tri g.f_Conf y3 y5 e4) tr) tr) (r1_ (a_ (a_ tr (a_ (leB c6) tr)) tr)))))))) (a_ (r1_ tr) tr))))) tr) (by kernel_rfl) rfl
    · skip
      exact run_to mixed hμ (L := []) (n := 33) (s := [.reg [], .reg [], .reg [(4, { v := some (.bool false) })], .reg [(5, { call := some ((parrelref19_Gather_Nodes_v y3).ren (sel [0]), preOf (sel [0]) 0 (parrelref19_Gather_Nodes_objs g), upOf (sel [0]) (parrelref19_Gather_Nodes_up g y3)) }), (6, { call := some (parrelref06_Of_v y5, [], []) }), (8, { v := some (.bool false) })], .reg []])
        (a_ (r1_ tr) (a_ (r4_ (a_ (a_ (a_ tr (lt_ 2 14 rfl)) tr) (r2_ tr))) (a_ (r1_ (r2_ (a_ (a_ (a_ tr (lt_ 0 14 rfl)) tr) (a_ (a_ tr (a_ (leB c1) tr)) tr)))) (a_ (r1_ (r2_ (a_ (a_ (a_ tr (le_ 12 14 rfl)) tr) (r1_ (a_ (a_ (a_ (parrelref19_Gather_Nodes_ok g y3 e2 (sel [0]) (sel_inj rfl rfl)) (a_ (LO.Le.ofVar (c_T_parrelref19_Gather g)) tr)) tr) (a_ (a_ (a_ (parrelref06_Of_tri g.f_Conf y3 y5 e4) tr) tr) (r1_ (a_ (a_ tr (a_ (leB c6) tr)) tr)))))))) (a_ (r1_ tr) tr))))) (parrelref19_Gather_Enough_l0_ok hμ g  big _ r h) (by kernel_rfl) ⟨rfl, trivial⟩

/-- (*parrel/parrelref19.Gather).Ask -/

def parrelref19_Gather_Ask_v (r : (List (Int))) : LV := .ds 1 (r).length (rowF (cInt .u8) default r)

def parrelref19_Gather_Ask_up (g : T_parrelref19_Gather) (r : (List (Int))) : Upd := [(0, some (.var (c_T_parrelref19_Gather g)))]

def parrelref19_Gather_Ask_objs (g : T_parrelref19_Gather) : List LO := [.var (c_T_parrelref19_Gather g)]

def parrelref19_Gather_Ask_T1 (g : T_parrelref19_Gather) (x_n : Int) (l : List (Int)) (voter : Bool) (i : Int) : List LV := [.ptr 0 0 0, .any, .any, .gs 1 (l).length, .int .i64 x_n, .bool voter, .int .i64 i, .any, .any, .any, .any, .any, .any, .any, .any, .any, .any, .any, .any, .any, .any, .any, .any, .any, .any, .any, .any, .any, .any, .any, .any, .any, .any, .any, .any, .any, .any, .any, .any, .any, .any, .any, .any, .any, .any, .any, .any, .any, .any, .any, .any, .any, .any, .any, .any, .any]

def parrelref19_Gather_Ask_H1 (g : T_parrelref19_Gather) (x_n : Int) (l : List (Int)) (voter : Bool) (i : Int) : Heap := [some (.var (c_T_parrelref19_Gather g)), some (.gr 1 (l).length (rowF (cInt .u8) default l))]

def parrelref19_Gather_Ask_T0 (g : T_parrelref19_Gather) (x_n : Int) (l : List (Int)) : List LV := [.ptr 0 0 0, .any, .any, .gs 1 (l).length, .int .i64 x_n, .any, .any, .any, .any, .any, .any, .any, .any, .any, .any, .any, .any, .any, .any, .any, .any, .any, .any, .any, .any, .any, .any, .any, .any, .any, .any, .any, .any, .any, .any, .any, .any, .any, .any, .any, .any, .any, .any, .any, .any, .any, .any, .any, .any, .any, .any, .any, .any, .any, .any, .any]

def parrelref19_Gather_Ask_H0 (g : T_parrelref19_Gather) (x_n : Int) (l : List (Int)) : Heap := [some (.var (c_T_parrelref19_Gather g)), some (.gr 1 (l).length (rowF (cInt .u8) default l))]

def parrelref19_Gather_Ask_l1 (g : T_parrelref19_Gather) (x_n : Int) (l : List (Int)) (k0 : (Int) → (List (Int)) → Option ((List (Int)))) : Nat → (Bool) → (Int) → Option ((List (Int)))
  | 0, _, _ => none
  | fuel + 1, voter, i =>
    if ((decide (i < ((g.f_More).length : Int))) : Bool) then
      if (voter : Bool) then
        parrelref19_Gather_Ask_l1 g x_n l k0 fuel true (IntKind.wrap .i64 (i + 1))
      else
        if 0 ≤ i ∧ i < (((g.f_More).length : Nat) : Int) then
        if 0 ≤ x_n ∧ x_n < 8 then
        parrelref19_Gather_Ask_l1 g x_n l k0 fuel (decide (0 < (A8.get (g.f_More.getD i.toNat default).f_Votes x_n.toNat))) (IntKind.wrap .i64 (i + 1))
        else none
        else none
    else
      if (voter : Bool) then
        (parrelref19_Gather_Nodes g).bind fun yL1_4 =>
        (parrelref01_Has yL1_4 x_n).bind fun yL1_6 =>
        if ((!yL1_6) : Bool) then
          if ((l).length + (([(IntKind.wrap .u8 x_n)] : List (Int))).length) * 1 ≤ 140737488351232 then
          k0 (IntKind.wrap .i64 (x_n + 1)) (l ++ ([(IntKind.wrap .u8 x_n)] : List (Int)))
          else none
        else
          k0 (IntKind.wrap .i64 (x_n + 1)) l
      else
        k0 (IntKind.wrap .i64 (x_n + 1)) l

def parrelref19_Gather_Ask_l0 (g : T_parrelref19_Gather)  : Nat → (Int) → (List (Int)) → Option ((List (Int)))
  | 0, _, _ => none
  | fuel + 1, x_n, l =>
    if ((decide (x_n < 8)) : Bool) then
      if 0 ≤ x_n ∧ x_n < 8 then
      parrelref19_Gather_Ask_l1 g x_n l (parrelref19_Gather_Ask_l0 g  fuel) big (decide (0 < (A8.get g.f_Conf.f_Votes x_n.toNat))) 0
      else none
    else
      some l

def parrelref19_Gather_Ask (g : T_parrelref19_Gather) : Option ((List (Int))) :=
  parrelref19_Gather_Ask_l0 g  big 0 ([] : List (Int))

theorem parrelref19_Gather_Ask_l1_ok {w0 : World} {W : Nat → Prop} {μ0 : Emb} (hμ : ∀ c p, μ0 c = some p → c < 1) (g : T_parrelref19_Gather) (x_n : Int) (l : List (Int)) (k0 : (Int) → (List (Int)) → Option ((List (Int)))) (hk0 : ∀ (x_n : Int) (l : List (Int)) (r : (List (Int))), k0 x_n l = some r → kont Tryd.prog w0 W μ0 (FnPost Tryd.prog Tryd.f29 1 1 (parrelref19_Gather_Ask_v r) (parrelref19_Gather_Ask_up g r)) (kAt (bodyOf Tryd.f29) 0) none (parrelref19_Gather_Ask_T0 g x_n l) (parrelref19_Gather_Ask_H0 g x_n l)) : ∀ (fuel : Nat) (voter : Bool) (i : Int) (r : (List (Int))), parrelref19_Gather_Ask_l1 g x_n l k0 fuel voter i = some r → kont Tryd.prog w0 W μ0 (FnPost Tryd.prog Tryd.f29 1 1 (parrelref19_Gather_Ask_v r) (parrelref19_Gather_Ask_up g r)) (kAt (bodyOf Tryd.f29) 1) none (parrelref19_Gather_Ask_T1 g x_n l voter i) (parrelref19_Gather_Ask_H1 g x_n l voter i) := by
  intro fuel
  induction fuel with
  | zero => intro voter i r h; rw [parrelref19_Gather_Ask_l1] at h; cases h
  | succ fuel ih =>
    intro voter i r h
    rw [parrelref19_Gather_Ask_l1] at h
    rcases itb_some h with ⟨cL1_1, h⟩ | ⟨cL1_1, h⟩
    · skip
      rcases itb_some h with ⟨cL1_2, h⟩ | ⟨cL1_2, h⟩
      · skip
        exact run_to mixed hμ (L := [1]) (n := 23) (s := [.go, .reg [(6, { v := some (.bool true) })], .reg [(1, { v := some (.bool true) })], .reg []])
          (a_ (r4_ (a_ (a_ (a_ tr (lt_ 12 14 rfl)) tr) (r1_ (a_ (a_ tr (a_ (leB cL1_1) tr)) tr)))) (a_ (r1_ (a_ (a_ tr (a_ (leB cL1_2) tr)) (a_ tr (t2_ (t8_ (r2_ tr)))))) (a_ (r1_ (r2_ tr)) tr))) (ih _ _ r h) (by kernel_rfl) ⟨rfl, fun _ _ => rfl, trivial⟩
      · skip
        obtain ⟨gL1_3, h⟩ := guard_some h
        obtain ⟨gL1_4, h⟩ := guard_some h
        exact run_to mixed hμ (L := [1]) (n := 23) (s := [.go, .reg [(6, { v := some (.bool true) })], .reg [(1, { v := some (.bool false) }), (10, { v := some (.dp [.int .u8 (A8.get (g.f_More.getD i.toNat default).f_Votes x_n.toNat)]) })], .reg []])
          (a_ (r4_ (a_ (a_ (a_ tr (lt_ 12 14 rfl)) tr) (r1_ (a_ (a_ tr (a_ (leB cL1_1) tr)) tr)))) (a_ (r1_ (a_ (a_ tr (a_ (leB cL1_2) tr)) (r1_ (r2_ (a_ (a_ (a_ tr (lt_ 12 14 rfl)) tr) (r2_ (a_ (a_ (a_ (Eq.refl 11) gL1_3) tr) (r1_ (a_ (a_ gL1_4 (a_ (dp8 (cInt .u8) 1 (fun _ => rfl) (g.f_More.getD i.toNat default).f_Votes [] x_n.toNat (lt8N gL1_4)) tr)) (a_ (a_ (lt_ 0 1 rfl) tr) (r1_ (r2_ tr)))))))))))) (a_ (r1_ (r2_ tr)) tr))) (ih _ _ r h) (by kernel_rfl) ⟨rfl, fun _ _ => rfl, trivial⟩
    · skip
      rcases itb_some h with ⟨cL1_2, h⟩ | ⟨cL1_2, h⟩
      · skip
        obtain ⟨yL1_4, eL1_3, h⟩ := bind_some h
        obtain ⟨yL1_6, eL1_5, h⟩ := bind_some h
        rcases itb_some h with ⟨cL1_7, h⟩ | ⟨cL1_7, h⟩
        · skip
          obtain ⟨gL1_8, h⟩ := guard_some h
          exact run_to mixed hμ (L := [3]) (n := 25) (s := [.go, .reg [(6, { v := some (.bool false) })], .reg [(1, { v := some (.bool true) }), (3, { call := some ((parrelref19_Gather_Nodes_v yL1_4).ren (sel [0]), preOf (sel [0]) 0 (parrelref19_Gather_Nodes_objs g), upOf (sel [0]) (parrelref19_Gather_Nodes_up g yL1_4)) }), (5, { call := some (parrelref01_Has_v yL1_6, [], []) }), (7, { v := some (.bool true) })], .reg [(3, { os := [(2, .gr 1 (([(IntKind.wrap .u8 x_n)] : List (Int))).length (rowF (cInt .u8) default ([(IntKind.wrap .u8 x_n)] : List (Int))))], v := some (.gs 2 (([(IntKind.wrap .u8 x_n)] : List (Int))).length) }), (4, { app := 3, os := [(3, .gr 1 ((l ++ ([(IntKind.wrap .u8 x_n)] : List (Int)))).length (rowF (cInt .u8) default (l ++ ([(IntKind.wrap .u8 x_n)] : List (Int)))))], v := some (.gs 3 ((l ++ ([(IntKind.wrap .u8 x_n)] : List (Int)))).length) })], .reg []])
            (a_ (r4_ (a_ (a_ (a_ tr (lt_ 12 14 rfl)) tr) (r1_ (a_ (a_ tr (a_ (leB cL1_1) tr)) tr)))) (a_ (r1_ (a_ (a_ tr (a_ (leB cL1_2) tr)) (r1_ (a_ (a_ (a_ (parrelref19_Gather_Nodes_ok g yL1_4 eL1_3 (sel [0]) (sel_inj rfl rfl)) (a_ (LO.Le.ofVar (c_T_parrelref19_Gather g)) tr)) tr) (r1_ (a_ (a_ (a_ (parrelref01_Has_tri yL1_4 x_n yL1_6 eL1_5) tr) tr) (r1_ (a_ (a_ tr (a_ (leB cL1_7) tr)) tr)))))))) (a_ (r1_ (r2_ (a_ (a_ (a_ (Eq.refl true) (a_ (Eq.refl 1) (a_ (lt_ 0 1 rfl) (le_ 1 16777216 rfl)))) (a_ (le_sl_gs 2 1 (some 1) rfl) (a_ (sub_lit (cInt .u8) default 1 (fun _ => rfl) ([(IntKind.wrap .u8 x_n)] : List (Int))) tr))) (a_ (a_ (a_ (a_ (Eq.refl 1) (Nat.le_refl (([(IntKind.wrap .u8 x_n)] : List (Int))).length)) (a_ (a_ (lt_ 0 1 rfl) (a_ (lt_ 0 1 rfl) (a_ gL1_8 (a_ (Eq.refl 1) (Eq.refl true))))) (a_ (Eq.refl 1) (Nat.le_refl (l).length)))) (a_ (le_gs_app 3 l ([(IntKind.wrap .u8 x_n)] : List (Int))) (a_ (sub_app (cInt .u8) default 1 l ([(IntKind.wrap .u8 x_n)] : List (Int))) tr))) (r1_ tr))))) (a_ (r1_ (r2_ tr)) tr)))) (hk0 _ _ r h) (by kernel_rfl) ⟨rfl, fun _ _ => rfl, trivial⟩
        · skip
          exact run_to mixed hμ (L := [1]) (n := 24) (s := [.go, .reg [(6, { v := some (.bool false) })], .reg [(1, { v := some (.bool true) }), (3, { call := some ((parrelref19_Gather_Nodes_v yL1_4).ren (sel [0]), preOf (sel [0]) 0 (parrelref19_Gather_Nodes_objs g), upOf (sel [0]) (parrelref19_Gather_Nodes_up g yL1_4)) }), (5, { call := some (parrelref01_Has_v yL1_6, [], []) }), (7, { v := some (.bool false) })], .reg []])
            (a_ (r4_ (a_ (a_ (a_ tr (lt_ 12 14 rfl)) tr) (r1_ (a_ (a_ tr (a_ (leB cL1_1) tr)) tr)))) (a_ (r1_ (a_ (a_ tr (a_ (leB cL1_2) tr)) (r1_ (a_ (a_ (a_ (parrelref19_Gather_Nodes_ok g yL1_4 eL1_3 (sel [0]) (sel_inj rfl rfl)) (a_ (LO.Le.ofVar (c_T_parrelref19_Gather g)) tr)) tr) (r1_ (a_ (a_ (a_ (parrelref01_Has_tri yL1_4 x_n yL1_6 eL1_5) tr) tr) (r1_ (a_ (a_ tr (a_ (leB cL1_7) tr)) tr)))))))) (a_ (r1_ (r2_ tr)) tr))) (hk0 _ _ r h) (by kernel_rfl) ⟨rfl, fun _ _ => rfl, trivial⟩
      · skip
        exact run_to mixed hμ (L := [1]) (n := 24) (s := [.go, .reg [(6, { v := some (.bool false) })], .reg [(1, { v := some (.bool false) })], .reg []])
          (a_ (r4_ (a_ (a_ (a_ tr (lt_ 12 14 rfl)) tr) (r1_ (a_ (a_ tr (a_ (leB cL1_1) tr)) tr)))) (a_ (r1_ (a_ (a_ tr (a_ (leB cL1_2) tr)) (a_ tr (t4_ (r1_ tr))))) (a_ (r1_ (r2_ tr)) tr))) (hk0 _ _ r h) (by kernel_rfl) ⟨rfl, fun _ _ => rfl, trivial⟩

theorem parrelref19_Gather_Ask_l0_ok {w0 : World} {W : Nat → Prop} {μ0 : Emb} (hμ : ∀ c p, μ0 c = some p → c < 1) (g : T_parrelref19_Gather)  : ∀ (fuel : Nat) (x_n : Int) (l : List (Int)) (r : (List (Int))), parrelref19_Gather_Ask_l0 g  fuel x_n l = some r → kont Tryd.prog w0 W μ0 (FnPost Tryd.prog Tryd.f29 1 1 (parrelref19_Gather_Ask_v r) (parrelref19_Gather_Ask_up g r)) (kAt (bodyOf Tryd.f29) 0) none (parrelref19_Gather_Ask_T0 g x_n l) (parrelref19_Gather_Ask_H0 g x_n l) := by
  intro fuel
  induction fuel with
  | zero => intro x_n l r h; rw [parrelref19_Gather_Ask_l0] at h; cases h
  | succ fuel ih =>
    intro x_n l r h
    rw [parrelref19_Gather_Ask_l0] at h
    rcases itb_some h with ⟨cL0_1, h⟩ | ⟨cL0_1, h⟩
    · skip
      obtain ⟨gL0_2, h⟩ := guard_some h
      exact run_to mixed hμ (L := [1]) (n := 27) (s := [.go, .reg [(1, { v := some (.bool true) })], .reg [(6, { v := some (.int .u8 (A8.get g.f_Conf.f_Votes x_n.toNat)) })], .reg []])
        (a_ (r1_ (a_ (a_ tr (a_ (leB cL0_1) tr)) tr)) (a_ (r1_ (r4_ (a_ (a_ gL0_2 tr) (a_ (a_ (a_ tr (arrLt (len := 8) gL0_2 4 1 14 rfl rfl)) (a_ (ld8s (cInt .u8) 1 (fun _ => rfl) g.f_Conf.f_Votes [.int .u8 g.f_Mode, .int .u32 g.f_Conf.f_Epoch, .int .u8 g.f_Conf.f_R, .int .u8 g.f_Conf.f_W] [.ds 11 (g.f_More).length (rowF c_T_api_Config default g.f_More), .ds 16 (g.f_L).length (rowF c_T_parrelref19_Got default g.f_L)] 4 rfl x_n.toNat (lt8N gL0_2) (le_ (0 + 1) 1 rfl)) tr)) (r2_ tr))))) (a_ (r1_ tr) tr))) (parrelref19_Gather_Ask_l1_ok hμ g x_n l (parrelref19_Gather_Ask_l0 g  fuel) (fun x_n l r h => ih x_n l r h) big _ _ r h) (by kernel_rfl) ⟨rfl, fun _ _ => rfl, trivial⟩
    · skip
      obtain rfl := Option.some.inj h
      exact run_ret mixed (L := []) (n := 20) (s := [.go, .reg [(1, { v := some (.bool false) })], .reg [], .frz 1])
        (a_ (a_ (r1_ (a_ (a_ tr (a_ (leB cL0_1) tr)) tr)) (a_ (r2_ tr) (a_ (a_ (fz_row (enc := (cInt .u8)) (d := default) (fun _ => rfl) l) (a_ (Nat.le_refl (l).length) (a_ (Nat.le_refl (l).length) (a_ (Nat.le_refl (l).length) tr)))) tr))) tr) (by kernel_rfl) rfl

theorem parrelref19_Gather_Ask_ok (g : T_parrelref19_Gather) (r : (List (Int))) (h : parrelref19_Gather_Ask g = some r) : ∀ σ, Inj 1 σ → FnTri Tryd.prog 29 (renL σ [.ptr 0 0 0]) (preOf σ 0 (parrelref19_Gather_Ask_objs g)) ((parrelref19_Gather_Ask_v r).ren σ) (upOf σ (parrelref19_Gather_Ask_up g r)) := by
  refine fn_of Tryd.func29 (by kernel_rfl) (by kernel_rfl) (by kernel_rfl) ⟨rfl, trivial⟩ (by kernel_rfl) ⟨rfl, trivial⟩ (by kernel_rfl) ?_
  intro w0 W μ0 hμ
  unfold parrelref19_Gather_Ask at h
  exact run_to mixed hμ (L := [1]) (n := 22) (s := [.reg [(0, { v := some (.ds 1 (([] : List (Int))).length (rowF (cInt .u8) default ([] : List (Int)))) })], .void (.gr 1 (([] : List (Int))).length (rowF (cInt .u8) default ([] : List (Int)))), .reg [(0, { v := some (.gs 1 (([] : List (Int))).length) })], .reg []])
    (a_ (a_ (a_ tr (a_ (le_nil_ds 1 (rowF (cInt .u8) default [])) tr)) tr) (a_ (Eq.refl 0) (a_ (a_ (a_ tr (a_ (le_nil_gs 1) tr)) tr) (a_ (r1_ tr) tr)))) (parrelref19_Gather_Ask_l0_ok hμ g  big _ _ r h) (by kernel_rfl) ⟨rfl, fun _ _ => rfl, trivial⟩

/-- parrel/parrellaw19.ours -/

def parrellaw19_ours_v (r : (List (T_parrelref19_Got))) : LV := .ds 16 (r).length (rowF c_T_parrelref19_Got default r)

def parrellaw19_ours_T0 (l : List (T_gather_Got)) (t8 : Int) (l2 : List (T_parrelref19_Got)) : List LV := [.any, .any, .any, .gs 0 (l2).length, .any, .any, .ds 16 (l).length (rowF c_T_gather_Got default l), .int .i64 ((l).length : Int), .int .i64 t8, .any, .any, .any, .any, .any, .any, .any, .any, .any, .any, .any, .any, .any, .any, .any]

def parrellaw19_ours_H0 (l : List (T_gather_Got)) (t8 : Int) (l2 : List (T_parrelref19_Got)) : Heap := [some (.gr 16 (l2).length (rowF c_T_parrelref19_Got default l2))]

def parrellaw19_ours_l0 (l : List (T_gather_Got))  : Nat → (Int) → (List (T_parrelref19_Got)) → Option ((List (T_parrelref19_Got)))
  | 0, _, _ => none
  | fuel + 1, t8, l2 =>
    if ((decide (t8 < ((l).length : Int))) : Bool) then
      if 0 ≤ t8 ∧ t8 < (((l).length : Nat) : Int) then
      if ((l2).length + (([(T_parrelref19_Got.mk (l.getD t8.toNat default).f_Node (l.getD t8.toNat default).f_Reg (l.getD t8.toNat default).f_Item)] : List (T_parrelref19_Got))).length) * 56 ≤ 140737488351232 then
      parrellaw19_ours_l0 l  fuel (IntKind.wrap .i64 (t8 + 1)) (l2 ++ ([(T_parrelref19_Got.mk (l.getD t8.toNat default).f_Node (l.getD t8.toNat default).f_Reg (l.getD t8.toNat default).f_Item)] : List (T_parrelref19_Got)))
      else none
      else none
    else
      some l2

def parrellaw19_ours (l : List (T_gather_Got)) : Option ((List (T_parrelref19_Got))) :=
  parrellaw19_ours_l0 l  big 0 ([] : List (T_parrelref19_Got))

theorem parrellaw19_ours_l0_ok {w0 : World} {W : Nat → Prop} {μ0 : Emb} (hμ : ∀ c p, μ0 c = some p → c < 0) (l : List (T_gather_Got))  : ∀ (fuel : Nat) (t8 : Int) (l2 : List (T_parrelref19_Got)) (r : (List (T_parrelref19_Got))), parrellaw19_ours_l0 l  fuel t8 l2 = some r → kont Tryd.prog w0 W μ0 (FnPost Tryd.prog Tryd.f31 0 0 (parrellaw19_ours_v r) []) (kAt (bodyOf Tryd.f31) 0) none (parrellaw19_ours_T0 l t8 l2) (parrellaw19_ours_H0 l t8 l2) := by
  intro fuel
  induction fuel with
  | zero => intro t8 l2 r h; rw [parrellaw19_ours_l0] at h; cases h
  | succ fuel ih =>
    intro t8 l2 r h
    rw [parrellaw19_ours_l0] at h
    rcases itb_some h with ⟨cL0_1, h⟩ | ⟨cL0_1, h⟩
    · skip
      obtain ⟨gL0_2, h⟩ := guard_some h
      obtain ⟨gL0_3, h⟩ := guard_some h
      exact run_to mixed hμ (L := [3]) (n := 26) (s := [.go, .reg [(0, { v := some (.bool true) })], .reg [], .reg [(8, { os := [(2, .gr 16 (([(T_parrelref19_Got.mk (l.getD t8.toNat default).f_Node (l.getD t8.toNat default).f_Reg (l.getD t8.toNat default).f_Item)] : List (T_parrelref19_Got))).length (rowF c_T_parrelref19_Got default ([(T_parrelref19_Got.mk (l.getD t8.toNat default).f_Node (l.getD t8.toNat default).f_Reg (l.getD t8.toNat default).f_Item)] : List (T_parrelref19_Got))))], v := some (.gs 2 (([(T_parrelref19_Got.mk (l.getD t8.toNat default).f_Node (l.getD t8.toNat default).f_Reg (l.getD t8.toNat default).f_Item)] : List (T_parrelref19_Got))).length) }), (9, { app := 3, os := [(3, .gr 16 ((l2 ++ ([(T_parrelref19_Got.mk (l.getD t8.toNat default).f_Node (l.getD t8.toNat default).f_Reg (l.getD t8.toNat default).f_Item)] : List (T_parrelref19_Got)))).length (rowF c_T_parrelref19_Got default (l2 ++ ([(T_parrelref19_Got.mk (l.getD t8.toNat default).f_Node (l.getD t8.toNat default).f_Reg (l.getD t8.toNat default).f_Item)] : List (T_parrelref19_Got)))))], v := some (.gs 3 ((l2 ++ ([(T_parrelref19_Got.mk (l.getD t8.toNat default).f_Node (l.getD t8.toNat default).f_Reg (l.getD t8.toNat default).f_Item)] : List (T_parrelref19_Got)))).length) })], .reg []])
        (a_ (a_ (a_ tr (a_ (leB cL0_1) tr)) tr) (a_ (a_ (a_ (a_ (Eq.refl 16) gL0_2) tr) (a_ (a_ (le_ 16 16 rfl) tr) (r1_ (a_ (a_ (a_ (Eq.refl 16) (a_ (le_ 16 16 rfl) (Eq.refl 0))) tr) tr)))) (a_ (r2_ (a_ (a_ (a_ tr (lt_ 0 16 rfl)) tr) (r1_ (a_ (a_ (a_ tr (le_ 3 16 rfl)) tr) (r1_ (a_ (a_ (a_ tr (le_ 16 16 rfl)) tr) (a_ (a_ (Eq.refl true) tr) (a_ (a_ (a_ (Eq.refl true) (a_ (Eq.refl 16) (a_ (lt_ 0 16 rfl) (le_ 16 16777216 rfl)))) (a_ (le_sl_gs 2 1 (some 1) rfl) (a_ (sub_lit c_T_parrelref19_Got default 16 (fun _ => rfl) ([(T_parrelref19_Got.mk (l.getD t8.toNat default).f_Node (l.getD t8.toNat default).f_Reg (l.getD t8.toNat default).f_Item)] : List (T_parrelref19_Got))) tr))) (a_ (a_ (a_ (a_ (Eq.refl 16) (Nat.le_refl (([(T_parrelref19_Got.mk (l.getD t8.toNat default).f_Node (l.getD t8.toNat default).f_Reg (l.getD t8.toNat default).f_Item)] : List (T_parrelref19_Got))).length)) (a_ (a_ (lt_ 0 16 rfl) (a_ (lt_ 0 56 rfl) (a_ gL0_3 (a_ (Eq.refl 16) (Eq.refl true))))) (a_ (Eq.refl 16) (Nat.le_refl (l2).length)))) (a_ (le_gs_app 3 l2 ([(T_parrelref19_Got.mk (l.getD t8.toNat default).f_Node (l.getD t8.toNat default).f_Reg (l.getD t8.toNat default).f_Item)] : List (T_parrelref19_Got))) (a_ (sub_app c_T_parrelref19_Got default 16 l2 ([(T_parrelref19_Got.mk (l.getD t8.toNat default).f_Node (l.getD t8.toNat default).f_Reg (l.getD t8.toNat default).f_Item)] : List (T_parrelref19_Got))) tr))) (r1_ tr)))))))))) (a_ (r2_ tr) tr)))) (ih _ _ r h) (by kernel_rfl) ⟨fun _ _ => rfl, trivial⟩
    · skip
      obtain rfl := Option.some.inj h
      exact run_ret mixed (L := []) (n := 20) (s := [.go, .reg [(0, { v := some (.bool false) })], .reg [], .frz 0])
        (a_ (a_ (a_ (a_ tr (a_ (leB cL0_1) tr)) tr) (a_ (r2_ tr) (a_ (a_ (fz_row (enc := c_T_parrelref19_Got) (d := default) (fun _ => rfl) l2) (a_ (Nat.le_refl (l2).length) (a_ (Nat.le_refl (l2).length) (a_ (Nat.le_refl (l2).length) tr)))) tr))) tr) (by kernel_rfl) rfl

theorem parrellaw19_ours_ok (l : List (T_gather_Got)) (r : (List (T_parrelref19_Got))) (h : parrellaw19_ours l = some r) : ∀ σ, Inj 0 σ → FnTri Tryd.prog 31 (renL σ [.ds 16 (l).length (rowF c_T_gather_Got default l)]) (preOf σ 0 []) ((parrellaw19_ours_v r).ren σ) (upOf σ []) := by
  refine fn_of Tryd.func31 (by kernel_rfl) (by kernel_rfl) (by kernel_rfl) trivial (by kernel_rfl) trivial (by kernel_rfl) ?_
  intro w0 W μ0 hμ
  unfold parrellaw19_ours at h
  exact run_to mixed hμ (L := [0]) (n := 22) (s := [.reg [(0, { v := some (.ds 16 (([] : List (T_parrelref19_Got))).length (rowF c_T_parrelref19_Got default ([] : List (T_parrelref19_Got)))) })], .void (.gr 16 (([] : List (T_parrelref19_Got))).length (rowF c_T_parrelref19_Got default ([] : List (T_parrelref19_Got)))), .reg [(0, { v := some (.gs 0 (([] : List (T_parrelref19_Got))).length) })], .reg []])
    (a_ (a_ (a_ tr (a_ (le_nil_ds 16 (rowF c_T_parrelref19_Got default [])) tr)) tr) (a_ (Eq.refl 0) (a_ (a_ (a_ tr (a_ (le_nil_gs 0) tr)) tr) (a_ (r1_ (r2_ tr)) tr)))) (parrellaw19_ours_l0_ok hμ l  big _ _ r h) (by kernel_rfl) ⟨fun _ _ => rfl, trivial⟩

theorem parrellaw19_ours_tri (l : List (T_gather_Got)) (r : (List (T_parrelref19_Got))) (h : parrellaw19_ours l = some r) : FnTri Tryd.prog 31 [.ds 16 (l).length (rowF c_T_gather_Got default l)] [] (parrellaw19_ours_v r) [] := FnTri.none (parrellaw19_ours_ok l r h) rfl rfl

/-- parrel/parrellaw19.same -/

def parrellaw19_same_v (r : (Bool)) : LV := .bool r

def parrellaw19_same_T0 (a : List (T_parrelref19_Got)) (b : List (T_parrelref19_Got)) (t13 : Int) : List LV := [.ds 16 (a).length (rowF c_T_parrelref19_Got default a), .ds 16 (b).length (rowF c_T_parrelref19_Got default b), .any, .any, .any, .any, .any, .any, .any, .any, .any, .any, .int .i64 ((a).length : Int), .int .i64 t13, .any, .any, .any, .any, .any, .any, .any, .any, .any, .any, .any, .any]

def parrellaw19_same_H0 (a : List (T_parrelref19_Got)) (b : List (T_parrelref19_Got)) (t13 : Int) : Heap := []

def parrellaw19_same_l0 (a : List (T_parrelref19_Got)) (b : List (T_parrelref19_Got))  : Nat → (Int) → Option ((Bool))
  | 0, _ => none
  | fuel + 1, t13 =>
    if ((decide (t13 < ((a).length : Int))) : Bool) then
      if 0 ≤ t13 ∧ t13 < (((a).length : Nat) : Int) then
      if 0 ≤ t13 ∧ t13 < (((b).length : Nat) : Int) then
      if ((!decide ((a.getD t13.toNat default) = (b.getD t13.toNat default))) : Bool) then
        some false
      else
        parrellaw19_same_l0 a b  fuel (IntKind.wrap .i64 (t13 + 1))
      else none
      else none
    else
      some true

def parrellaw19_same (a : List (T_parrelref19_Got)) (b : List (T_parrelref19_Got)) : Option ((Bool)) :=
  if ((((a).length : Int) != ((b).length : Int)) : Bool) then
    some false
  else
    parrellaw19_same_l0 a b  big 0

theorem parrellaw19_same_l0_ok {w0 : World} {W : Nat → Prop} {μ0 : Emb} (hμ : ∀ c p, μ0 c = some p → c < 0) (a : List (T_parrelref19_Got)) (b : List (T_parrelref19_Got))  : ∀ (fuel : Nat) (t13 : Int) (r : (Bool)), parrellaw19_same_l0 a b  fuel t13 = some r → kont Tryd.prog w0 W μ0 (FnPost Tryd.prog Tryd.f30 0 0 (parrellaw19_same_v r) []) (kAt (bodyOf Tryd.f30) 0) none (parrellaw19_same_T0 a b t13) (parrellaw19_same_H0 a b t13) := by
  intro fuel
  induction fuel with
  | zero => intro t13 r h; rw [parrellaw19_same_l0] at h; cases h
  | succ fuel ih =>
    intro t13 r h
    rw [parrellaw19_same_l0] at h
    rcases itb_some h with ⟨cL0_1, h⟩ | ⟨cL0_1, h⟩
    · skip
      obtain ⟨gL0_2, h⟩ := guard_some h
      obtain ⟨gL0_3, h⟩ := guard_some h
      rcases itb_some h with ⟨cL0_4, h⟩ | ⟨cL0_4, h⟩
      · skip
        obtain rfl := Option.some.inj h
        exact run_ret mixed (L := []) (n := 28) (s := [.go, .reg [(0, { v := some (.bool true) })], .reg [], .reg [(8, { v := some (.bool true) })], .reg []])
          (a_ (a_ (a_ (a_ tr (a_ (leB cL0_1) tr)) tr) (a_ (r2_ tr) (a_ (r2_ (a_ (a_ (a_ (Eq.refl 16) gL0_2) tr) (a_ (a_ (le_ 16 16 rfl) tr) (r2_ (a_ (a_ (a_ (Eq.refl 16) gL0_3) tr) (a_ (a_ (le_ 16 16 rfl) tr) (a_ (a_ tr (a_ (LV.Le.trans (leB (congrArg not (k_T_parrelref19_Got (a.getD t13.toNat default) (b.getD t13.toNat default)))) (leB cL0_4)) tr)) tr))))))) (a_ (r1_ tr) tr)))) tr) (by kernel_rfl) rfl
      · skip
        exact run_to mixed hμ (L := []) (n := 29) (s := [.go, .reg [(0, { v := some (.bool true) })], .reg [], .reg [(8, { v := some (.bool false) })], .reg []])
          (a_ (a_ (a_ tr (a_ (leB cL0_1) tr)) tr) (a_ (r2_ tr) (a_ (r2_ (a_ (a_ (a_ (Eq.refl 16) gL0_2) tr) (a_ (a_ (le_ 16 16 rfl) tr) (r2_ (a_ (a_ (a_ (Eq.refl 16) gL0_3) tr) (a_ (a_ (le_ 16 16 rfl) tr) (a_ (a_ tr (a_ (LV.Le.trans (leB (congrArg not (k_T_parrelref19_Got (a.getD t13.toNat default) (b.getD t13.toNat default)))) (leB cL0_4)) tr)) tr))))))) (a_ (r2_ tr) tr)))) (ih _ r h) (by kernel_rfl) trivial
    · skip
      obtain rfl := Option.some.inj h
      exact run_ret mixed (L := []) (n := 19) (s := [.go, .reg [(0, { v := some (.bool false) })], .reg []])
        (a_ (a_ (a_ (a_ tr (a_ (leB cL0_1) tr)) tr) (a_ (r1_ tr) tr)) tr) (by kernel_rfl) rfl

theorem parrellaw19_same_ok (a : List (T_parrelref19_Got)) (b : List (T_parrelref19_Got)) (r : (Bool)) (h : parrellaw19_same a b = some r) : ∀ σ, Inj 0 σ → FnTri Tryd.prog 30 (renL σ [.ds 16 (a).length (rowF c_T_parrelref19_Got default a), .ds 16 (b).length (rowF c_T_parrelref19_Got default b)]) (preOf σ 0 []) ((parrellaw19_same_v r).ren σ) (upOf σ []) := by
  refine fn_of Tryd.func30 (by kernel_rfl) (by kernel_rfl) (by kernel_rfl) trivial (by kernel_rfl) trivial (by kernel_rfl) ?_
  intro w0 W μ0 hμ
  unfold parrellaw19_same at h
  rcases itb_some h with ⟨c1, h⟩ | ⟨c1, h⟩
  · skip
    obtain rfl := Option.some.inj h
    exact run_ret mixed (L := []) (n := 20) (s := [.reg [], .reg [(4, { v := some (.bool true) })], .reg []])
      (a_ (a_ (r1_ tr) (a_ (r4_ (a_ (a_ tr (a_ (leB c1) tr)) tr)) (a_ (r1_ tr) tr))) tr) (by kernel_rfl) rfl
  · skip
    exact run_to mixed hμ (L := []) (n := 24) (s := [.reg [], .reg [(4, { v := some (.bool false) })], .reg []])
      (a_ (r1_ tr) (a_ (r4_ (a_ (a_ tr (a_ (leB c1) tr)) tr)) (a_ (r1_ (r2_ tr)) tr))) (parrellaw19_same_l0_ok hμ a b  big _ r h) (by kernel_rfl) trivial

theorem parrellaw19_same_tri (a : List (T_parrelref19_Got)) (b : List (T_parrelref19_Got)) (r : (Bool)) (h : parrellaw19_same a b = some r) : FnTri Tryd.prog 30 [.ds 16 (a).length (rowF c_T_parrelref19_Got default a), .ds 16 (b).length (rowF c_T_parrelref19_Got default b)] [] (parrellaw19_same_v r) [] := FnTri.none (parrellaw19_same_ok a b r h) rfl rfl

/-- parrel/parrelref13.Newest -/

def parrelref13_Newest_v (r : (T_api_Item) × (Bool)) : LV := .tup [v_T_api_Item r.1, .bool r.2]

def parrelref13_Newest_T0 (l : List (T_api_Item)) (i : Int) (Version : Int) (Value : List UInt8) (Epoch : T_api_Config) : List LV := [.ds 13 (l).length (rowF c_T_api_Item default l), .any, .ptr 0 0 0, .any, .ptr 1 0 0, .int .i64 i, .any, .any, .any, .any, .any, .any, .any, .any, .any, .any, .any, .any, .any, .any, .any, .any, .any, .any, .any, .any, .any, .any, .any, .any, .any, .any]

def parrelref13_Newest_H0 (l : List (T_api_Item)) (i : Int) (Version : Int) (Value : List UInt8) (Epoch : T_api_Config) : Heap := [some (.var (c_T_api_Item (T_api_Item.mk 0 [] (T_api_Config.mk 0 0 0 (A8.mk 0 0 0 0 0 0 0 0))))), some (.var (c_T_api_Item (T_api_Item.mk Version Value Epoch)))]

def parrelref13_Newest_l0 (l : List (T_api_Item))  : Nat → (Int) → (Int) → (List UInt8) → (T_api_Config) → Option ((T_api_Item) × (Bool))
  | 0, _, _, _, _ => none
  | fuel + 1, i, Version, Value, Epoch =>
    if ((decide (i < ((l).length : Int))) : Bool) then
      if 0 ≤ i ∧ i < (((l).length : Nat) : Int) then
      if ((decide (Version < (l.getD i.toNat default).f_Version)) : Bool) then
        parrelref13_Newest_l0 l  fuel (IntKind.wrap .i64 (i + 1)) (l.getD i.toNat default).f_Version (l.getD i.toNat default).f_Value (l.getD i.toNat default).f_Conf
      else
        parrelref13_Newest_l0 l  fuel (IntKind.wrap .i64 (i + 1)) Version Value Epoch
      else none
    else
      some ((T_api_Item.mk Version Value Epoch), true)

def parrelref13_Newest (l : List (T_api_Item)) : Option ((T_api_Item) × (Bool)) :=
  if ((((l).length : Int) == 0) : Bool) then
    some ((T_api_Item.mk 0 [] (T_api_Config.mk 0 0 0 (A8.mk 0 0 0 0 0 0 0 0))), false)
  else
    if 0 ≤ (0 : Int) ∧ (0 : Int) < (((l).length : Nat) : Int) then
    parrelref13_Newest_l0 l  big 1 (l.getD 0 default).f_Version (l.getD 0 default).f_Value (l.getD 0 default).f_Conf
    else none

theorem parrelref13_Newest_l0_ok {w0 : World} {W : Nat → Prop} {μ0 : Emb} (hμ : ∀ c p, μ0 c = some p → c < 0) (l : List (T_api_Item))  : ∀ (fuel : Nat) (i : Int) (Version : Int) (Value : List UInt8) (Epoch : T_api_Config) (r : (T_api_Item) × (Bool)), parrelref13_Newest_l0 l  fuel i Version Value Epoch = some r → kont Tryd.prog w0 W μ0 (FnPost Tryd.prog Tryd.f58 0 0 (parrelref13_Newest_v r) []) (kAt (bodyOf Tryd.f58) 0) none (parrelref13_Newest_T0 l i Version Value Epoch) (parrelref13_Newest_H0 l i Version Value Epoch) := by
  intro fuel
  induction fuel with
  | zero => intro i Version Value Epoch r h; rw [parrelref13_Newest_l0] at h; cases h
  | succ fuel ih =>
    intro i Version Value Epoch r h
    rw [parrelref13_Newest_l0] at h
    rcases itb_some h with ⟨cL0_1, h⟩ | ⟨cL0_1, h⟩
    · skip
      obtain ⟨gL0_2, h⟩ := guard_some h
      rcases itb_some h with ⟨cL0_3, h⟩ | ⟨cL0_3, h⟩
      · skip
        exact run_to mixed hμ (L := [0, 1]) (n := 27) (s := [.go, .reg [(3, { v := some (.bool true) })], .reg [(7, { v := some (.bool true) })], .reg [], .reg []])
          (a_ (r1_ (r2_ (a_ (a_ tr (a_ (leB cL0_1) tr)) tr))) (a_ (r2_ (a_ (a_ (a_ (Eq.refl 13) gL0_2) tr) (r1_ (a_ (a_ (lt_ 0 13 rfl) tr) (r1_ (a_ (a_ (a_ tr (lt_ 0 13 rfl)) tr) (a_ (a_ tr (a_ (leB cL0_3) tr)) tr))))))) (a_ (r2_ (a_ (a_ (a_ (Eq.refl 13) gL0_2) tr) (a_ (a_ (le_ 13 13 rfl) tr) (a_ (a_ (a_ (Eq.refl 13) (a_ (le_ 13 13 rfl) (Eq.refl 0))) tr) tr)))) (a_ (r1_ (r2_ tr)) tr)))) (ih _ _ _ _ r h) (by kernel_rfl) ⟨rfl, rfl, trivial⟩
      · skip
        exact run_to mixed hμ (L := [0, 1]) (n := 26) (s := [.go, .reg [(3, { v := some (.bool true) })], .reg [(7, { v := some (.bool false) })], .reg []])
          (a_ (r1_ (r2_ (a_ (a_ tr (a_ (leB cL0_1) tr)) tr))) (a_ (r2_ (a_ (a_ (a_ (Eq.refl 13) gL0_2) tr) (r1_ (a_ (a_ (lt_ 0 13 rfl) tr) (r1_ (a_ (a_ (a_ tr (lt_ 0 13 rfl)) tr) (a_ (a_ tr (a_ (leB cL0_3) tr)) tr))))))) (a_ (r1_ (r2_ tr)) tr))) (ih _ _ _ _ r h) (by kernel_rfl) ⟨rfl, rfl, trivial⟩
    · skip
      obtain rfl := Option.some.inj h
      exact run_ret mixed (L := []) (n := 19) (s := [.go, .reg [(3, { v := some (.bool false) })], .reg []])
        (a_ (a_ (r1_ (r2_ (a_ (a_ tr (a_ (leB cL0_1) tr)) tr))) (a_ (a_ (a_ (a_ tr (le_ 13 13 rfl)) tr) (a_ (a_ (a_ (Eq.refl 13) (a_ (le_ 13 13 rfl) (Eq.refl 0))) tr) (r1_ tr))) tr)) (a_ (a_ tr (le_ 13 13 rfl)) tr)) (by kernel_rfl) rfl

theorem parrelref13_Newest_ok (l : List (T_api_Item)) (r : (T_api_Item) × (Bool)) (h : parrelref13_Newest l = some r) : ∀ σ, Inj 0 σ → FnTri Tryd.prog 58 (renL σ [.ds 13 (l).length (rowF c_T_api_Item default l)]) (preOf σ 0 []) ((parrelref13_Newest_v r).ren σ) (upOf σ []) := by
  refine fn_of Tryd.func58 (by kernel_rfl) (by kernel_rfl) (by kernel_rfl) trivial (by kernel_rfl) trivial (by kernel_rfl) ?_
  intro w0 W μ0 hμ
  unfold parrelref13_Newest at h
  rcases itb_some h with ⟨c1, h⟩ | ⟨c1, h⟩
  · skip
    obtain rfl := Option.some.inj h
    exact run_ret mixed (L := []) (n := 20) (s := [.reg [], .reg [(2, { v := some (.bool true) })], .reg []])
      (a_ (a_ (r2_ tr) (a_ (r2_ (a_ (a_ tr (a_ (leB c1) tr)) tr)) (a_ (a_ (a_ (Eq.refl true) tr) (a_ (a_ (a_ (Eq.refl 13) (a_ (le_ 13 13 rfl) (Eq.refl 0))) tr) (r1_ tr))) tr))) (a_ (a_ tr (le_ 13 13 rfl)) tr)) (by kernel_rfl) rfl
  · skip
    obtain ⟨g2, h⟩ := guard_some h
    exact run_to mixed hμ (L := [0, 1]) (n := 27) (s := [.reg [], .reg [(2, { v := some (.bool false) })], .reg [], .reg []])
      (a_ (r2_ tr) (a_ (r2_ (a_ (a_ tr (a_ (leB c1) tr)) tr)) (a_ (r1_ (a_ (a_ (a_ (Eq.refl 13) g2) tr) (a_ (a_ (le_ 13 13 rfl) tr) (r1_ (a_ (a_ (a_ (Eq.refl 13) (a_ (le_ 13 13 rfl) (Eq.refl 0))) tr) tr))))) (a_ (r1_ tr) tr)))) (parrelref13_Newest_l0_ok hμ l  big _ _ _ _ r h) (by kernel_rfl) ⟨rfl, rfl, trivial⟩

theorem parrelref13_Newest_tri (l : List (T_api_Item)) (r : (T_api_Item) × (Bool)) (h : parrelref13_Newest l = some r) : FnTri Tryd.prog 58 [.ds 13 (l).length (rowF c_T_api_Item default l)] [] (parrelref13_Newest_v r) [] := FnTri.none (parrelref13_Newest_ok l r h) rfl rfl

/-- (*parrel/parrelref19.Gather).Newest -/

def parrelref19_Gather_Newest_v (r : (T_api_Item) × (Bool)) : LV := .tup [v_T_api_Item r.1, .bool r.2]

def parrelref19_Gather_Newest_up (g : T_parrelref19_Gather) (r : (T_api_Item) × (Bool)) : Upd := [(0, some (.var (c_T_parrelref19_Gather g)))]

def parrelref19_Gather_Newest_objs (g : T_parrelref19_Gather) : List LO := [.var (c_T_parrelref19_Gather g)]

def parrelref19_Gather_Newest_T0 (g : T_parrelref19_Gather) (i : Int) (l : List (T_api_Item)) : List LV := [.ptr 0 0 0, .any, .ptr 1 0 0, .any, .gs 2 (l).length, .int .i64 i, .any, .any, .any, .any, .any, .any, .any, .any, .any, .any, .any, .any, .any, .any, .any, .any, .any, .any, .any, .any, .any, .any, .any, .any]

def parrelref19_Gather_Newest_H0 (g : T_parrelref19_Gather) (i : Int) (l : List (T_api_Item)) : Heap := [some (.var (c_T_parrelref19_Gather g)), some (.var (c_T_api_Item (T_api_Item.mk 0 [] (T_api_Config.mk 0 0 0 (A8.mk 0 0 0 0 0 0 0 0))))), some (.gr 13 (l).length (rowF c_T_api_Item default l))]

def parrelref19_Gather_Newest_l0 (g : T_parrelref19_Gather)  : Nat → (Int) → (List (T_api_Item)) → Option ((T_api_Item) × (Bool))
  | 0, _, _ => none
  | fuel + 1, i, l =>
    if ((decide (i < ((g.f_L).length : Int))) : Bool) then
      if 0 ≤ i ∧ i < (((g.f_L).length : Nat) : Int) then
      if ((l).length + (([(g.f_L.getD i.toNat default).f_Item] : List (T_api_Item))).length) * 40 ≤ 140737488351232 then
      parrelref19_Gather_Newest_l0 g  fuel (IntKind.wrap .i64 (i + 1)) (l ++ ([(g.f_L.getD i.toNat default).f_Item] : List (T_api_Item)))
      else none
      else none
    else
      (parrelref13_Newest l).bind fun yL0_3 =>
      some (yL0_3.1, yL0_3.2)

def parrelref19_Gather_Newest (g : T_parrelref19_Gather) : Option ((T_api_Item) × (Bool)) :=
  parrelref19_Gather_Newest_l0 g  big 0 ([] : List (T_api_Item))

theorem parrelref19_Gather_Newest_l0_ok {w0 : World} {W : Nat → Prop} {μ0 : Emb} (hμ : ∀ c p, μ0 c = some p → c < 1) (g : T_parrelref19_Gather)  : ∀ (fuel : Nat) (i : Int) (l : List (T_api_Item)) (r : (T_api_Item) × (Bool)), parrelref19_Gather_Newest_l0 g  fuel i l = some r → kont Tryd.prog w0 W μ0 (FnPost Tryd.prog Tryd.f33 1 1 (parrelref19_Gather_Newest_v r) (parrelref19_Gather_Newest_up g r)) (kAt (bodyOf Tryd.f33) 0) none (parrelref19_Gather_Newest_T0 g i l) (parrelref19_Gather_Newest_H0 g i l) := by
  intro fuel
  induction fuel with
  | zero => intro i l r h; rw [parrelref19_Gather_Newest_l0] at h; cases h
  | succ fuel ih =>
    intro i l r h
    rw [parrelref19_Gather_Newest_l0] at h
    rcases itb_some h with ⟨cL0_1, h⟩ | ⟨cL0_1, h⟩
    · skip
      obtain ⟨gL0_2, h⟩ := guard_some h
      obtain ⟨gL0_3, h⟩ := guard_some h
      exact run_to mixed hμ (L := [1, 4]) (n := 23) (s := [.go, .reg [(6, { v := some (.bool true) })], .reg [(9, { os := [(3, .gr 13 (([(g.f_L.getD i.toNat default).f_Item] : List (T_api_Item))).length (rowF c_T_api_Item default ([(g.f_L.getD i.toNat default).f_Item] : List (T_api_Item))))], v := some (.gs 3 (([(g.f_L.getD i.toNat default).f_Item] : List (T_api_Item))).length) }), (10, { app := 3, os := [(4, .gr 13 ((l ++ ([(g.f_L.getD i.toNat default).f_Item] : List (T_api_Item)))).length (rowF c_T_api_Item default (l ++ ([(g.f_L.getD i.toNat default).f_Item] : List (T_api_Item)))))], v := some (.gs 4 ((l ++ ([(g.f_L.getD i.toNat default).f_Item] : List (T_api_Item)))).length) })], .reg []])
        (a_ (r4_ (a_ (a_ (a_ tr (lt_ 13 14 rfl)) tr) (r1_ (a_ (a_ tr (a_ (leB cL0_1) tr)) tr)))) (a_ (r4_ (a_ (a_ (a_ tr (lt_ 13 14 rfl)) tr) (r1_ (a_ (a_ (a_ (Eq.refl 16) gL0_2) tr) (r1_ (a_ (a_ (le_ 13 13 rfl) tr) (a_ (a_ (a_ (Eq.refl true) (a_ (Eq.refl 13) (a_ (lt_ 0 13 rfl) (le_ 13 16777216 rfl)))) (a_ (le_sl_gs 3 1 (some 1) rfl) (a_ (sub_lit c_T_api_Item default 13 (fun _ => rfl) ([(g.f_L.getD i.toNat default).f_Item] : List (T_api_Item))) tr))) (a_ (a_ (a_ (a_ (Eq.refl 13) (Nat.le_refl (([(g.f_L.getD i.toNat default).f_Item] : List (T_api_Item))).length)) (a_ (a_ (lt_ 0 13 rfl) (a_ (lt_ 0 40 rfl) (a_ gL0_3 (a_ (Eq.refl 13) (Eq.refl true))))) (a_ (Eq.refl 13) (Nat.le_refl (l).length)))) (a_ (le_gs_app 4 l ([(g.f_L.getD i.toNat default).f_Item] : List (T_api_Item))) (a_ (sub_app c_T_api_Item default 13 l ([(g.f_L.getD i.toNat default).f_Item] : List (T_api_Item))) tr))) (r1_ tr))))))))) (a_ (r1_ (r2_ tr)) tr))) (ih _ _ r h) (by kernel_rfl) ⟨rfl, rfl, fun _ _ => rfl, trivial⟩
    · skip
      obtain ⟨yL0_3, eL0_2, h⟩ := bind_some h
      obtain rfl := Option.some.inj h
      exact run_ret mixed (L := []) (n := 20) (s := [.go, .reg [(6, { v := some (.bool false) })], .frz 2, .reg [(1, { call := some (parrelref13_Newest_v yL0_3, [], []) })]])
        (a_ (a_ (r4_ (a_ (a_ (a_ tr (lt_ 13 14 rfl)) tr) (r1_ (a_ (a_ tr (a_ (leB cL0_1) tr)) tr)))) (a_ (a_ (fz_row (enc := c_T_api_Item) (d := default) (fun _ => rfl) l) (a_ (Nat.le_refl (l).length) tr)) (a_ (r1_ (a_ (a_ (a_ (parrelref13_Newest_tri l yL0_3 eL0_2) tr) tr) (r2_ (a_ (a_ (a_ (Eq.refl 13) (a_ (le_ 13 13 rfl) (Eq.refl 0))) tr) (r1_ tr))))) tr))) (a_ (a_ tr (le_ 13 13 rfl)) tr)) (by kernel_rfl) rfl

theorem parrelref19_Gather_Newest_ok (g : T_parrelref19_Gather) (r : (T_api_Item) × (Bool)) (h : parrelref19_Gather_Newest g = some r) : ∀ σ, Inj 1 σ → FnTri Tryd.prog 33 (renL σ [.ptr 0 0 0]) (preOf σ 0 (parrelref19_Gather_Newest_objs g)) ((parrelref19_Gather_Newest_v r).ren σ) (upOf σ (parrelref19_Gather_Newest_up g r)) := by
  refine fn_of Tryd.func33 (by kernel_rfl) (by kernel_rfl) (by kernel_rfl) ⟨rfl, trivial⟩ (by kernel_rfl) ⟨rfl, trivial⟩ (by kernel_rfl) ?_
  intro w0 W μ0 hμ
  unfold parrelref19_Gather_Newest at h
  exact run_to mixed hμ (L := [1, 2]) (n := 22) (s := [.reg [], .void (.gr 13 (([] : List (T_api_Item))).length (rowF c_T_api_Item default ([] : List (T_api_Item)))), .reg [(0, { v := some (.gs 2 (([] : List (T_api_Item))).length) })], .reg []])
    (a_ (r2_ tr) (a_ (Eq.refl 0) (a_ (a_ (a_ tr (a_ (le_nil_gs 2) tr)) tr) (a_ (r1_ tr) tr)))) (parrelref19_Gather_Newest_l0_ok hμ g  big _ _ r h) (by kernel_rfl) ⟨rfl, rfl, fun _ _ => rfl, trivial⟩

end
end Go.Proofs.YtffmmflapagkhaaDoor.Wk
