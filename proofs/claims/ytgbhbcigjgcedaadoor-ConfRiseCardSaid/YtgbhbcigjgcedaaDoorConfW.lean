/- Printed by tr.py: Go functions as Lean functions, with the proofs that they walk so. -/
import Derived.Test.YtgbhbcigjgcedaaDoorConfWa
namespace Go.Proofs.YtgbhbcigjgcedaaDoor.Wk
open Go Go.Cn Go.RowKit
set_option maxRecDepth 100000
set_option maxHeartbeats 4000000
set_option linter.unusedVariables false
set_option linter.unusedSimpArgs false
noncomputable section
/-- parrel/parrellaw21.ConfLast -/

def parrellaw21_ConfLast_v (r : (Bool)) : LV := .bool r

def parrellaw21_ConfLast_T0 (epochs : List (Int)) (top : Int) (t25 : Int) (m : List (A8 (Int) × T_api_Config)) : List LV := [.any, .any, .any, .ptr 0 0 0, .any, .int .u32 top, .any, .any, .any, .any, .any, .any, .any, .any, .any, .any, .any, .any, .any, .any, .any, .any, .any, .ds 1 (epochs).length (rowF (cInt .u8) default epochs), .int .i64 ((epochs).length : Int), .int .i64 t25, .any, .any, .any, .any, .any, .any, .any, .any, .any, .any, .any, .any, .any, .any, .any, .any, .any, .any, .any, .any, .any, .any, .any, .any, .any, .any, .any, .any, .any, .any, .any, .any, .any, .any, .any, .any, .any]

def parrellaw21_ConfLast_H0 (epochs : List (Int)) (top : Int) (t25 : Int) (m : List (A8 (Int) × T_api_Config)) : Heap := [some (.var [.map 1]), some (.map true [.int .u8, .int .u8, .int .u8, .int .u8, .int .u8, .int .u8, .int .u8, .int .u8] (encM (fun z_ : A8 (Int) => LV.agg [.int .u8 z_.a0, .int .u8 z_.a1, .int .u8 z_.a2, .int .u8 z_.a3, .int .u8 z_.a4, .int .u8 z_.a5, .int .u8 z_.a6, .int .u8 z_.a7]) v_T_api_Config m))]

def parrellaw21_ConfLast_l0 (epochs : List (Int))  : Nat → (Int) → (Int) → (List (A8 (Int) × T_api_Config)) → Option ((Bool))
  | 0, _, _, _ => none
  | fuel + 1, top, t25, m =>
    if ((decide (t25 < ((epochs).length : Int))) : Bool) then
      if 0 ≤ t25 ∧ t25 < (((epochs).length : Nat) : Int) then
      (parrellaw21_one (IntKind.wrap .u32 ((IntKind.wrap .u32 (epochs.getD t25.toNat default)) + 1))).bind fun yL0_4 =>
      (conf_Book_Learn m (A8.mk 97 0 0 0 0 0 0 0) yL0_4).bind fun yL0_6 =>
      if ((!((yL0_6.1 == 0) == (decide (top ≤ (IntKind.wrap .u32 ((IntKind.wrap .u32 (epochs.getD t25.toNat default)) + 1)))))) : Bool) then
        some false
      else
        parrellaw21_ConfLast_l0 epochs  fuel (if (IntKind.wrap .u32 ((IntKind.wrap .u32 (epochs.getD t25.toNat default)) + 1)) > top then (IntKind.wrap .u32 ((IntKind.wrap .u32 (epochs.getD t25.toNat default)) + 1)) else top) (IntKind.wrap .i64 (t25 + 1)) yL0_6.2
      else none
    else
      (conf_Book_Of m (A8.mk 97 0 0 0 0 0 0 0)).bind fun yL0_3 =>
      if (yL0_3.2 : Bool) then
        (parrellaw21_one top).bind fun yL0_6 =>
        if ((decide (yL0_3.1 = yL0_6)) : Bool) then
          (parrellaw21_alive).bind fun yL0_9 =>
          some yL0_9
        else
          some false
      else
        some false

def parrellaw21_ConfLast (epochs : List (Int)) : Option ((Bool)) :=
  (parrellaw21_first 1).bind fun y2 =>
  (conf_New y2).bind fun y4 =>
  if (y4.1 : Bool) then
    some false
  else
    parrellaw21_ConfLast_l0 epochs  big 1 0 y4.2.2

theorem parrellaw21_ConfLast_l0_ok {w0 : World} {W : Nat → Prop} {μ0 : Emb} (hμ : ∀ c p, μ0 c = some p → c < 0) (epochs : List (Int))  : ∀ (fuel : Nat) (top : Int) (t25 : Int) (m : List (A8 (Int) × T_api_Config)) (r : (Bool)), parrellaw21_ConfLast_l0 epochs  fuel top t25 m = some r → kont Tryd.prog w0 W μ0 (FnPost Tryd.prog Tryd.f4 0 0 (parrellaw21_ConfLast_v r) []) (kAt (bodyOf Tryd.f4) 0) none (parrellaw21_ConfLast_T0 epochs top t25 m) (parrellaw21_ConfLast_H0 epochs top t25 m) := by
  intro fuel
  induction fuel with
  | zero => intro top t25 m r h; rw [parrellaw21_ConfLast_l0] at h; cases h
  | succ fuel ih =>
    intro top t25 m r h
    rw [parrellaw21_ConfLast_l0] at h
    rcases itb_some h with ⟨cL0_1, h⟩ | ⟨cL0_1, h⟩
    · skip
      obtain ⟨gL0_2, h⟩ := guard_some h
      obtain ⟨yL0_4, eL0_3, h⟩ := bind_some h
      obtain ⟨yL0_6, eL0_5, h⟩ := bind_some h
      rcases itb_some h with ⟨cL0_7, h⟩ | ⟨cL0_7, h⟩
      · skip
        obtain rfl := Option.some.inj h
        exact run_ret mixed (L := []) (n := 35) (s := [.go, .reg [(0, { v := some (.bool true) })], .reg [], .reg [], .reg [(3, { call := some (parrellaw21_one_v yL0_4, [], []) }), (4, { call := some ((conf_Book_Learn_v yL0_6).ren (sel [0, 1]), preOf (sel [0, 1]) 0 (conf_Book_Learn_objs m (A8.mk 97 0 0 0 0 0 0 0) yL0_4), upOf (sel [0, 1]) (conf_Book_Learn_up m (A8.mk 97 0 0 0 0 0 0 0) yL0_4 yL0_6)) })], .reg [(5, { v := some (.bool true) })], .reg []])
          (a_ (a_ (a_ (a_ tr (a_ (leB cL0_1) tr)) tr) (a_ (a_ (a_ (a_ (Eq.refl 1) gL0_2) tr) (a_ (a_ (lt_ 0 1 rfl) tr) (a_ (a_ tr tr) tr))) (a_ (a_ (a_ tr tr) (a_ (a_ tr tr) (a_ (a_ tr tr) (a_ (a_ tr tr) tr)))) (a_ (a_ (a_ tr tr) (a_ (a_ (Eq.refl true) tr) (a_ (a_ tr tr) (a_ (a_ (a_ (parrellaw21_one_tri (IntKind.wrap .u32 ((IntKind.wrap .u32 (epochs.getD t25.toNat default)) + 1)) yL0_4 eL0_3) tr) tr) (a_ (a_ (a_ (conf_Book_Learn_ok m (A8.mk 97 0 0 0 0 0 0 0) yL0_4 yL0_6 eL0_5 (sel [0, 1]) (sel_inj rfl rfl)) (a_ (LO.Le.refl (.var [.map 1])) (a_ (LO.Le.refl (.map true [.int .u8, .int .u8, .int .u8, .int .u8, .int .u8, .int .u8, .int .u8, .int .u8] (encM (fun z_ : A8 (Int) => LV.agg [.int .u8 z_.a0, .int .u8 z_.a1, .int .u8 z_.a2, .int .u8 z_.a3, .int .u8 z_.a4, .int .u8 z_.a5, .int .u8 z_.a6, .int .u8 z_.a7]) v_T_api_Config m))) tr))) tr) (a_ (a_ tr tr) tr)))))) (a_ (a_ (a_ tr tr) (a_ (a_ tr tr) (a_ (a_ tr tr) (a_ (a_ tr tr) (a_ (a_ tr tr) (a_ (a_ tr (a_ (leB cL0_7) tr)) tr)))))) (a_ (a_ (a_ tr tr) tr) tr)))))) tr) (by kernel_rfl) rfl
      · skip
        exact run_to mixed hμ (L := [0, 1]) (n := 38) (s := [.go, .reg [(0, { v := some (.bool true) })], .reg [], .reg [], .reg [(3, { call := some (parrellaw21_one_v yL0_4, [], []) }), (4, { call := some ((conf_Book_Learn_v yL0_6).ren (sel [0, 1]), preOf (sel [0, 1]) 0 (conf_Book_Learn_objs m (A8.mk 97 0 0 0 0 0 0 0) yL0_4), upOf (sel [0, 1]) (conf_Book_Learn_up m (A8.mk 97 0 0 0 0 0 0 0) yL0_4 yL0_6)) })], .reg [(5, { v := some (.bool false) })], .reg [], .reg []])
          (a_ (a_ (a_ tr (a_ (leB cL0_1) tr)) tr) (a_ (a_ (a_ (a_ (Eq.refl 1) gL0_2) tr) (a_ (a_ (lt_ 0 1 rfl) tr) (a_ (a_ tr tr) tr))) (a_ (a_ (a_ tr tr) (a_ (a_ tr tr) (a_ (a_ tr tr) (a_ (a_ tr tr) tr)))) (a_ (a_ (a_ tr tr) (a_ (a_ (Eq.refl true) tr) (a_ (a_ tr tr) (a_ (a_ (a_ (parrellaw21_one_tri (IntKind.wrap .u32 ((IntKind.wrap .u32 (epochs.getD t25.toNat default)) + 1)) yL0_4 eL0_3) tr) tr) (a_ (a_ (a_ (conf_Book_Learn_ok m (A8.mk 97 0 0 0 0 0 0 0) yL0_4 yL0_6 eL0_5 (sel [0, 1]) (sel_inj rfl rfl)) (a_ (LO.Le.refl (.var [.map 1])) (a_ (LO.Le.refl (.map true [.int .u8, .int .u8, .int .u8, .int .u8, .int .u8, .int .u8, .int .u8, .int .u8] (encM (fun z_ : A8 (Int) => LV.agg [.int .u8 z_.a0, .int .u8 z_.a1, .int .u8 z_.a2, .int .u8 z_.a3, .int .u8 z_.a4, .int .u8 z_.a5, .int .u8 z_.a6, .int .u8 z_.a7]) v_T_api_Config m))) tr))) tr) (a_ (a_ tr tr) tr)))))) (a_ (a_ (a_ tr tr) (a_ (a_ tr tr) (a_ (a_ tr tr) (a_ (a_ tr tr) (a_ (a_ tr tr) (a_ (a_ tr (a_ (leB cL0_7) tr)) tr)))))) (a_ (a_ (a_ tr tr) (a_ (a_ tr tr) (a_ (a_ tr tr) (a_ (a_ tr tr) tr)))) (a_ (a_ (a_ tr tr) (a_ (a_ tr tr) tr)) tr))))))) (ih _ _ _ r h) (by kernel_rfl) ⟨rfl, trivial, trivial⟩
    · skip
      obtain ⟨yL0_3, eL0_2, h⟩ := bind_some h
      rcases itb_some h with ⟨cL0_4, h⟩ | ⟨cL0_4, h⟩
      · skip
        obtain ⟨yL0_6, eL0_5, h⟩ := bind_some h
        rcases itb_some h with ⟨cL0_7, h⟩ | ⟨cL0_7, h⟩
        · skip
          obtain ⟨yL0_9, eL0_8, h⟩ := bind_some h
          obtain rfl := Option.some.inj h
          exact run_ret mixed (L := []) (n := 22) (s := [.go, .reg [(0, { v := some (.bool false) })], .reg [(2, { call := some ((conf_Book_Of_v yL0_3).ren (sel [0, 1]), preOf (sel [0, 1]) 0 (conf_Book_Of_objs m (A8.mk 97 0 0 0 0 0 0 0)), upOf (sel [0, 1]) (conf_Book_Of_up m (A8.mk 97 0 0 0 0 0 0 0) yL0_3)) })], .reg [(1, { v := some (.bool true) }), (4, { call := some (parrellaw21_one_v yL0_6, [], []) }), (5, { v := some (.bool (decide (yL0_3.1 = yL0_6))) }), (7, { v := some (.bool true) }), (8, { call := some (parrellaw21_alive_v yL0_9, [], []) })]])
            (a_ (a_ (a_ (a_ tr (a_ (leB cL0_1) tr)) tr) (a_ (a_ (a_ tr tr) (a_ (a_ (Eq.refl true) tr) (a_ (a_ (a_ (conf_Book_Of_ok m (A8.mk 97 0 0 0 0 0 0 0) yL0_3 eL0_2 (sel [0, 1]) (sel_inj rfl rfl)) (a_ (LO.Le.refl (.var [.map 1])) (a_ (LO.Le.refl (.map true [.int .u8, .int .u8, .int .u8, .int .u8, .int .u8, .int .u8, .int .u8, .int .u8] (encM (fun z_ : A8 (Int) => LV.agg [.int .u8 z_.a0, .int .u8 z_.a1, .int .u8 z_.a2, .int .u8 z_.a3, .int .u8 z_.a4, .int .u8 z_.a5, .int .u8 z_.a6, .int .u8 z_.a7]) v_T_api_Config m))) tr))) tr) (a_ (a_ tr tr) (a_ (a_ tr tr) (a_ (a_ tr tr) (a_ (a_ tr tr) (a_ (a_ (a_ (Eq.refl 11) (a_ (le_ 11 11 rfl) (Eq.refl 0))) tr) (a_ (a_ tr tr) tr))))))))) (a_ (a_ (a_ tr tr) (a_ (a_ tr (a_ (leB cL0_4) tr)) (a_ (a_ (a_ tr (le_ 11 11 rfl)) tr) (a_ (a_ tr tr) (a_ (a_ (a_ (parrellaw21_one_tri top yL0_6 eL0_5) tr) tr) (a_ (a_ tr (a_ (leB (k_T_api_Config yL0_3.1 yL0_6)) tr)) (a_ (a_ tr tr) (a_ (a_ tr (a_ (leB cL0_7) tr)) (a_ (a_ (a_ (parrellaw21_alive_tri  yL0_9 eL0_8) tr) tr) (a_ (a_ tr tr) (a_ (a_ tr tr) tr))))))))))) tr))) tr) (by kernel_rfl) rfl
        · skip
          obtain rfl := Option.some.inj h
          exact run_ret mixed (L := []) (n := 22) (s := [.go, .reg [(0, { v := some (.bool false) })], .reg [(2, { call := some ((conf_Book_Of_v yL0_3).ren (sel [0, 1]), preOf (sel [0, 1]) 0 (conf_Book_Of_objs m (A8.mk 97 0 0 0 0 0 0 0)), upOf (sel [0, 1]) (conf_Book_Of_up m (A8.mk 97 0 0 0 0 0 0 0) yL0_3)) })], .reg [(1, { v := some (.bool true) }), (4, { call := some (parrellaw21_one_v yL0_6, [], []) }), (5, { v := some (.bool (decide (yL0_3.1 = yL0_6))) }), (7, { v := some (.bool false) })]])
            (a_ (a_ (a_ (a_ tr (a_ (leB cL0_1) tr)) tr) (a_ (a_ (a_ tr tr) (a_ (a_ (Eq.refl true) tr) (a_ (a_ (a_ (conf_Book_Of_ok m (A8.mk 97 0 0 0 0 0 0 0) yL0_3 eL0_2 (sel [0, 1]) (sel_inj rfl rfl)) (a_ (LO.Le.refl (.var [.map 1])) (a_ (LO.Le.refl (.map true [.int .u8, .int .u8, .int .u8, .int .u8, .int .u8, .int .u8, .int .u8, .int .u8] (encM (fun z_ : A8 (Int) => LV.agg [.int .u8 z_.a0, .int .u8 z_.a1, .int .u8 z_.a2, .int .u8 z_.a3, .int .u8 z_.a4, .int .u8 z_.a5, .int .u8 z_.a6, .int .u8 z_.a7]) v_T_api_Config m))) tr))) tr) (a_ (a_ tr tr) (a_ (a_ tr tr) (a_ (a_ tr tr) (a_ (a_ tr tr) (a_ (a_ (a_ (Eq.refl 11) (a_ (le_ 11 11 rfl) (Eq.refl 0))) tr) (a_ (a_ tr tr) tr))))))))) (a_ (a_ (a_ tr tr) (a_ (a_ tr (a_ (leB cL0_4) tr)) (a_ (a_ (a_ tr (le_ 11 11 rfl)) tr) (a_ (a_ tr tr) (a_ (a_ (a_ (parrellaw21_one_tri top yL0_6 eL0_5) tr) tr) (a_ (a_ tr (a_ (leB (k_T_api_Config yL0_3.1 yL0_6)) tr)) (a_ (a_ tr tr) (a_ (a_ tr (a_ (leB cL0_7) tr)) (a_ tr (a_ (a_ tr tr) (a_ (a_ tr tr) tr))))))))))) tr))) tr) (by kernel_rfl) rfl
      · skip
        obtain rfl := Option.some.inj h
        exact run_ret mixed (L := []) (n := 22) (s := [.go, .reg [(0, { v := some (.bool false) })], .reg [(2, { call := some ((conf_Book_Of_v yL0_3).ren (sel [0, 1]), preOf (sel [0, 1]) 0 (conf_Book_Of_objs m (A8.mk 97 0 0 0 0 0 0 0)), upOf (sel [0, 1]) (conf_Book_Of_up m (A8.mk 97 0 0 0 0 0 0 0) yL0_3)) })], .reg [(1, { v := some (.bool false) })]])
          (a_ (a_ (a_ (a_ tr (a_ (leB cL0_1) tr)) tr) (a_ (a_ (a_ tr tr) (a_ (a_ (Eq.refl true) tr) (a_ (a_ (a_ (conf_Book_Of_ok m (A8.mk 97 0 0 0 0 0 0 0) yL0_3 eL0_2 (sel [0, 1]) (sel_inj rfl rfl)) (a_ (LO.Le.refl (.var [.map 1])) (a_ (LO.Le.refl (.map true [.int .u8, .int .u8, .int .u8, .int .u8, .int .u8, .int .u8, .int .u8, .int .u8] (encM (fun z_ : A8 (Int) => LV.agg [.int .u8 z_.a0, .int .u8 z_.a1, .int .u8 z_.a2, .int .u8 z_.a3, .int .u8 z_.a4, .int .u8 z_.a5, .int .u8 z_.a6, .int .u8 z_.a7]) v_T_api_Config m))) tr))) tr) (a_ (a_ tr tr) (a_ (a_ tr tr) (a_ (a_ tr tr) (a_ (a_ tr tr) (a_ (a_ (a_ (Eq.refl 11) (a_ (le_ 11 11 rfl) (Eq.refl 0))) tr) (a_ (a_ tr tr) tr))))))))) (a_ (a_ (a_ tr tr) (a_ (a_ tr (a_ (leB cL0_4) tr)) (a_ tr (a_ tr (a_ tr (a_ tr (a_ (a_ tr tr) (a_ (a_ tr tr) (a_ tr (a_ (a_ tr tr) (a_ (a_ tr tr) tr))))))))))) tr))) tr) (by kernel_rfl) rfl

theorem parrellaw21_ConfLast_ok (epochs : List (Int)) (r : (Bool)) (h : parrellaw21_ConfLast epochs = some r) : ∀ σ, Inj 0 σ → FnTri Tryd.prog 4 (renL σ [.ds 1 (epochs).length (rowF (cInt .u8) default epochs)]) (preOf σ 0 []) ((parrellaw21_ConfLast_v r).ren σ) (upOf σ []) := by
  refine fn_of Tryd.func4 (by kernel_rfl) (by kernel_rfl) (by kernel_rfl) trivial (by kernel_rfl) trivial (by kernel_rfl) ?_
  intro w0 W μ0 hμ
  unfold parrellaw21_ConfLast at h
  obtain ⟨y2, e1, h⟩ := bind_some h
  obtain ⟨y4, e3, h⟩ := bind_some h
  rcases itb_some h with ⟨c5, h⟩ | ⟨c5, h⟩
  · skip
    obtain rfl := Option.some.inj h
    exact run_ret mixed (L := []) (n := 23) (s := [.reg [], .reg [(0, { call := some (parrellaw21_first_v y2, [], []) }), (1, { call := some (conf_New_vA y4.2.1, [], []) })], .reg [], .reg []])
      (a_ (a_ (a_ (a_ tr tr) tr) (a_ (a_ (a_ (a_ (parrellaw21_first_tri 1 y2 e1) tr) tr) (a_ (a_ (a_ (conf_New_triA y2 y4.2.1 y4.2.2 (altA e3 c5)) tr) tr) (a_ (a_ tr tr) (a_ (a_ tr tr) (a_ (a_ tr tr) (a_ (a_ tr tr) (a_ (a_ tr tr) tr))))))) (a_ (a_ (a_ tr tr) (a_ (a_ tr tr) (a_ (a_ tr tr) (a_ tr (a_ tr (a_ (a_ tr tr) tr)))))) (a_ (a_ (a_ tr tr) tr) tr)))) tr) (by kernel_rfl) rfl
  · skip
    exact run_to mixed hμ (L := [0, 1]) (n := 30) (s := [.reg [], .reg [(0, { call := some (parrellaw21_first_v y2, [], []) }), (1, { call := some ((conf_New_vB y4.2.2).ren (sel [0, 1]), preOf (sel [0, 1]) 0 [], upOf (sel [0, 1]) (conf_New_upB y2 y4.2.2)) })], .reg [], .reg [], .reg []])
      (a_ (a_ (a_ tr tr) tr) (a_ (a_ (a_ (a_ (parrellaw21_first_tri 1 y2 e1) tr) tr) (a_ (a_ (a_ (conf_New_okB y2 y4.2.2 y4.2.1 (altB e3 c5) (sel [0, 1]) (sel_inj rfl rfl)) tr) tr) (a_ (a_ tr tr) (a_ (a_ tr tr) (a_ (a_ tr tr) (a_ (a_ tr tr) (a_ (a_ tr tr) tr))))))) (a_ (a_ (a_ tr tr) (a_ (a_ tr tr) (a_ (a_ tr tr) (a_ (a_ tr tr) (a_ (a_ tr tr) (a_ (a_ tr tr) tr)))))) (a_ (a_ (a_ tr tr) tr) (a_ (a_ (a_ tr tr) (a_ (a_ tr tr) (a_ (a_ tr tr) tr))) tr))))) (parrellaw21_ConfLast_l0_ok hμ epochs  big _ _ _ r h) (by kernel_rfl) ⟨rfl, trivial, trivial⟩

theorem parrellaw21_ConfLast_tri (epochs : List (Int)) (r : (Bool)) (h : parrellaw21_ConfLast epochs = some r) : FnTri Tryd.prog 4 [.ds 1 (epochs).length (rowF (cInt .u8) default epochs)] [] (parrellaw21_ConfLast_v r) [] := FnTri.none (parrellaw21_ConfLast_ok epochs r h) rfl rfl

/-- (*parrel/conf.Book).find -/

def conf_Book_find_2_v (r : (T_api_Config)) : LV := .tup [v_T_api_Config r, .int .i64 2]

def conf_Book_find_2 (x_k : A8 (Int)) : Option ((T_api_Config)) :=
  some (T_api_Config.mk 0 0 0 (A8.mk 0 0 0 0 0 0 0 0))

theorem conf_Book_find_2_ok (x_k : A8 (Int)) (r : (T_api_Config)) (h : conf_Book_find_2 x_k = some r) : ∀ σ, Inj 0 σ → FnTri Tryd.prog 29 (renL σ [.nilptr, .agg [.int .u8 x_k.a0, .int .u8 x_k.a1, .int .u8 x_k.a2, .int .u8 x_k.a3, .int .u8 x_k.a4, .int .u8 x_k.a5, .int .u8 x_k.a6, .int .u8 x_k.a7]]) (preOf σ 0 []) ((conf_Book_find_2_v r).ren σ) (upOf σ []) := by
  refine fn_of Tryd.func29 (by kernel_rfl) (by kernel_rfl) (by kernel_rfl) trivial (by kernel_rfl) trivial (by kernel_rfl) ?_
  intro w0 W μ0 hμ
  unfold conf_Book_find_2 at h
  obtain rfl := Option.some.inj h
  exact run_ret mixed (L := []) (n := 20) (s := [.reg [], .reg [], .reg []])
    (a_ (a_ (a_ (a_ tr tr) (a_ (a_ tr tr) (a_ (a_ tr tr) tr))) (a_ (a_ (a_ tr tr) (a_ (a_ tr tr) (a_ (a_ tr tr) (a_ tr (a_ tr (a_ tr (a_ tr (a_ tr (a_ (a_ tr tr) tr))))))))) (a_ (a_ (a_ (Eq.refl true) tr) (a_ (a_ (a_ (Eq.refl 11) (a_ (le_ 11 11 rfl) (Eq.refl 0))) tr) (a_ (a_ tr tr) tr))) tr))) (a_ (a_ tr (le_ 11 11 rfl)) tr)) (by kernel_rfl) rfl

theorem conf_Book_find_2_tri (x_k : A8 (Int)) (r : (T_api_Config)) (h : conf_Book_find_2 x_k = some r) : FnTri Tryd.prog 29 [.nilptr, .agg [.int .u8 x_k.a0, .int .u8 x_k.a1, .int .u8 x_k.a2, .int .u8 x_k.a3, .int .u8 x_k.a4, .int .u8 x_k.a5, .int .u8 x_k.a6, .int .u8 x_k.a7]] [] (conf_Book_find_2_v r) [] := FnTri.none (conf_Book_find_2_ok x_k r h) rfl rfl

/-- (*parrel/conf.Book).Of -/

def conf_Book_Of_2_v (r : (T_api_Config)) : LV := .tup [v_T_api_Config r, .bool false]

def conf_Book_Of_2 (x_k : A8 (Int)) : Option ((T_api_Config)) :=
  (conf_Book_find_2 x_k).bind fun y2 =>
  some y2

theorem conf_Book_Of_2_ok (x_k : A8 (Int)) (r : (T_api_Config)) (h : conf_Book_Of_2 x_k = some r) : ∀ σ, Inj 0 σ → FnTri Tryd.prog 12 (renL σ [.nilptr, .agg [.int .u8 x_k.a0, .int .u8 x_k.a1, .int .u8 x_k.a2, .int .u8 x_k.a3, .int .u8 x_k.a4, .int .u8 x_k.a5, .int .u8 x_k.a6, .int .u8 x_k.a7]]) (preOf σ 0 []) ((conf_Book_Of_2_v r).ren σ) (upOf σ []) := by
  refine fn_of Tryd.func12 (by kernel_rfl) (by kernel_rfl) (by kernel_rfl) trivial (by kernel_rfl) trivial (by kernel_rfl) ?_
  intro w0 W μ0 hμ
  unfold conf_Book_Of_2 at h
  obtain ⟨y2, e1, h⟩ := bind_some h
  obtain rfl := Option.some.inj h
  exact run_ret mixed (L := []) (n := 18) (s := [.reg [], .reg [(2, { call := some (conf_Book_find_2_v y2, [], []) })], .reg []])
    (a_ (a_ (a_ (a_ tr tr) (a_ (a_ tr tr) (a_ (a_ tr tr) tr))) (a_ (a_ (a_ tr tr) (a_ (a_ (a_ tr (le_ 8 8 rfl)) tr) (a_ (a_ (a_ (conf_Book_find_2_tri x_k y2 e1) tr) tr) (a_ (a_ tr tr) (a_ (a_ tr tr) (a_ (a_ tr tr) (a_ (a_ tr tr) (a_ (a_ (a_ (Eq.refl 11) (a_ (le_ 11 11 rfl) (Eq.refl 0))) tr) (a_ (a_ tr tr) tr))))))))) (a_ (a_ (a_ (a_ tr (le_ 11 11 rfl)) tr) (a_ (a_ tr tr) (a_ (a_ tr tr) (a_ (a_ (a_ (Eq.refl 11) (a_ (le_ 11 11 rfl) (Eq.refl 0))) tr) (a_ (a_ tr tr) tr))))) tr))) (a_ (a_ tr (le_ 11 11 rfl)) tr)) (by kernel_rfl) rfl

theorem conf_Book_Of_2_tri (x_k : A8 (Int)) (r : (T_api_Config)) (h : conf_Book_Of_2 x_k = some r) : FnTri Tryd.prog 12 [.nilptr, .agg [.int .u8 x_k.a0, .int .u8 x_k.a1, .int .u8 x_k.a2, .int .u8 x_k.a3, .int .u8 x_k.a4, .int .u8 x_k.a5, .int .u8 x_k.a6, .int .u8 x_k.a7]] [] (conf_Book_Of_2_v r) [] := FnTri.none (conf_Book_Of_2_ok x_k r h) rfl rfl

/-- (*parrel/conf.Book).Next -/

def conf_Book_Next_v (r : (T_api_Config)) : LV := .tup [v_T_api_Config r, .int .i64 2]

def conf_Book_Next_up (x_k : A8 (Int)) (x_r : Int) (x_w : Int) (list : T_parrellaw21_Act) (r : (T_api_Config)) : Upd := [(0, some (.var (c_T_parrellaw21_Act list)))]

def conf_Book_Next_objs (x_k : A8 (Int)) (x_r : Int) (x_w : Int) (list : T_parrellaw21_Act) : List LO := [.var (c_T_parrellaw21_Act list)]

def conf_Book_Next (x_k : A8 (Int)) (x_r : Int) (x_w : Int) (list : T_parrellaw21_Act) : Option ((T_api_Config)) :=
  (conf_Book_find_2 x_k).bind fun y2 =>
  some (T_api_Config.mk 0 0 0 (A8.mk 0 0 0 0 0 0 0 0))

theorem conf_Book_Next_ok (x_k : A8 (Int)) (x_r : Int) (x_w : Int) (list : T_parrellaw21_Act) (r : (T_api_Config)) (h : conf_Book_Next x_k x_r x_w list = some r) : ∀ σ, Inj 1 σ → FnTri Tryd.prog 18 (renL σ [.nilptr, .agg [.int .u8 x_k.a0, .int .u8 x_k.a1, .int .u8 x_k.a2, .int .u8 x_k.a3, .int .u8 x_k.a4, .int .u8 x_k.a5, .int .u8 x_k.a6, .int .u8 x_k.a7], .int .u8 x_r, .int .u8 x_w, .sl 0 0 11 true 8 (some 8)]) (preOf σ 0 (conf_Book_Next_objs x_k x_r x_w list)) ((conf_Book_Next_v r).ren σ) (upOf σ (conf_Book_Next_up x_k x_r x_w list r)) := by
  refine fn_of Tryd.func18 (by kernel_rfl) (by kernel_rfl) (by kernel_rfl) ⟨rfl, trivial⟩ (by kernel_rfl) ⟨rfl, trivial⟩ (by kernel_rfl) ?_
  intro w0 W μ0 hμ
  unfold conf_Book_Next at h
  obtain ⟨y2, e1, h⟩ := bind_some h
  obtain rfl := Option.some.inj h
  exact run_ret mixed (L := []) (n := 23) (s := [.reg [], .reg [(2, { call := some (conf_Book_find_2_v y2, [], []) })], .reg [], .reg []])
    (a_ (a_ (a_ (a_ tr tr) (a_ (a_ tr tr) (a_ (a_ tr tr) tr))) (a_ (a_ (a_ tr tr) (a_ (a_ (a_ tr (le_ 8 8 rfl)) tr) (a_ (a_ (a_ (conf_Book_find_2_tri x_k y2 e1) tr) tr) (a_ (a_ tr tr) (a_ (a_ tr tr) (a_ (a_ tr tr) (a_ (a_ tr tr) (a_ (a_ (a_ (Eq.refl 11) (a_ (le_ 11 11 rfl) (Eq.refl 0))) tr) (a_ (a_ tr tr) tr))))))))) (a_ (a_ (a_ tr tr) (a_ (a_ tr tr) tr)) (a_ (a_ (a_ (Eq.refl true) tr) (a_ (a_ tr tr) (a_ (a_ (a_ (Eq.refl 11) (a_ (le_ 11 11 rfl) (Eq.refl 0))) tr) (a_ (a_ tr tr) tr)))) tr)))) (a_ (a_ tr (le_ 11 11 rfl)) tr)) (by kernel_rfl) rfl

/-- (*parrel/conf.Book).Learn -/

def conf_Book_Learn_2_v (r : Unit) : LV := .int .i64 2

def conf_Book_Learn_2 (x_k : A8 (Int)) (c : T_api_Config) : Option (Unit) :=
  (conf_Book_find_2 x_k).bind fun y2 =>
  some ()

theorem conf_Book_Learn_2_ok (x_k : A8 (Int)) (c : T_api_Config) (r : Unit) (h : conf_Book_Learn_2 x_k c = some r) : ∀ σ, Inj 0 σ → FnTri Tryd.prog 13 (renL σ [.nilptr, .agg [.int .u8 x_k.a0, .int .u8 x_k.a1, .int .u8 x_k.a2, .int .u8 x_k.a3, .int .u8 x_k.a4, .int .u8 x_k.a5, .int .u8 x_k.a6, .int .u8 x_k.a7], v_T_api_Config c]) (preOf σ 0 []) ((conf_Book_Learn_2_v r).ren σ) (upOf σ []) := by
  refine fn_of Tryd.func13 (by kernel_rfl) (by kernel_rfl) (by kernel_rfl) trivial (by kernel_rfl) trivial (by kernel_rfl) ?_
  intro w0 W μ0 hμ
  unfold conf_Book_Learn_2 at h
  obtain ⟨y2, e1, h⟩ := bind_some h
  obtain rfl := Option.some.inj h
  exact run_ret mixed (L := []) (n := 24) (s := [.reg [], .reg [(2, { call := some (conf_Book_find_2_v y2, [], []) })], .reg [], .reg []])
    (a_ (a_ (a_ (a_ tr tr) (a_ (a_ tr tr) (a_ (a_ tr tr) tr))) (a_ (a_ (a_ tr tr) (a_ (a_ (a_ tr (le_ 8 8 rfl)) tr) (a_ (a_ (a_ (conf_Book_find_2_tri x_k y2 e1) tr) tr) (a_ (a_ tr tr) (a_ (a_ tr tr) (a_ (a_ tr tr) (a_ (a_ tr tr) (a_ (a_ (a_ (Eq.refl 11) (a_ (le_ 11 11 rfl) (Eq.refl 0))) tr) (a_ (a_ tr tr) tr))))))))) (a_ (a_ (a_ tr tr) (a_ (a_ tr tr) (a_ (a_ tr tr) tr))) (a_ (a_ (a_ tr tr) (a_ (a_ tr tr) tr)) tr)))) tr) (by kernel_rfl) rfl

theorem conf_Book_Learn_2_tri (x_k : A8 (Int)) (c : T_api_Config) (r : Unit) (h : conf_Book_Learn_2 x_k c = some r) : FnTri Tryd.prog 13 [.nilptr, .agg [.int .u8 x_k.a0, .int .u8 x_k.a1, .int .u8 x_k.a2, .int .u8 x_k.a3, .int .u8 x_k.a4, .int .u8 x_k.a5, .int .u8 x_k.a6, .int .u8 x_k.a7], v_T_api_Config c] [] (conf_Book_Learn_2_v r) [] := FnTri.none (conf_Book_Learn_2_ok x_k c r h) rfl rfl

/-- (*parrel/conf.Book).Keys -/

def conf_Book_Keys_2_v (r : (List (A8 (Int)))) : LV := .ds 8 (r).length (rowF (fun z_ : A8 (Int) => [.int .u8 z_.a0, .int .u8 z_.a1, .int .u8 z_.a2, .int .u8 z_.a3, .int .u8 z_.a4, .int .u8 z_.a5, .int .u8 z_.a6, .int .u8 z_.a7]) default r)

def conf_Book_Keys_2  : Option ((List (A8 (Int)))) :=
  some ([] : List (A8 (Int)))

theorem conf_Book_Keys_2_ok  (r : (List (A8 (Int)))) (h : conf_Book_Keys_2  = some r) : ∀ σ, Inj 0 σ → FnTri Tryd.prog 23 (renL σ [.nilptr]) (preOf σ 0 []) ((conf_Book_Keys_2_v r).ren σ) (upOf σ []) := by
  refine fn_of Tryd.func23 (by kernel_rfl) (by kernel_rfl) (by kernel_rfl) trivial (by kernel_rfl) trivial (by kernel_rfl) ?_
  intro w0 W μ0 hμ
  unfold conf_Book_Keys_2 at h
  obtain rfl := Option.some.inj h
  exact run_ret mixed (L := []) (n := 20) (s := [.reg [(0, { v := some (.ds 8 (([] : List (A8 (Int)))).length (rowF (fun z_ : A8 (Int) => [.int .u8 z_.a0, .int .u8 z_.a1, .int .u8 z_.a2, .int .u8 z_.a3, .int .u8 z_.a4, .int .u8 z_.a5, .int .u8 z_.a6, .int .u8 z_.a7]) default ([] : List (A8 (Int))))) })], .reg [], .reg [(0, { v := some (.ds 8 (([] : List (A8 (Int)))).length (rowF (fun z_ : A8 (Int) => [.int .u8 z_.a0, .int .u8 z_.a1, .int .u8 z_.a2, .int .u8 z_.a3, .int .u8 z_.a4, .int .u8 z_.a5, .int .u8 z_.a6, .int .u8 z_.a7]) default ([] : List (A8 (Int))))) })]])
    (a_ (a_ (a_ (a_ tr (a_ (le_nil_ds 8 (rowF (fun z_ : A8 (Int) => [.int .u8 z_.a0, .int .u8 z_.a1, .int .u8 z_.a2, .int .u8 z_.a3, .int .u8 z_.a4, .int .u8 z_.a5, .int .u8 z_.a6, .int .u8 z_.a7]) default [])) tr)) tr) (a_ (a_ (a_ tr tr) (a_ (a_ tr tr) tr)) (a_ (a_ (a_ tr (a_ (le_nil_ds 8 (rowF (fun z_ : A8 (Int) => [.int .u8 z_.a0, .int .u8 z_.a1, .int .u8 z_.a2, .int .u8 z_.a3, .int .u8 z_.a4, .int .u8 z_.a5, .int .u8 z_.a6, .int .u8 z_.a7]) default [])) tr)) tr) tr))) tr) (by kernel_rfl) rfl

theorem conf_Book_Keys_2_tri  (r : (List (A8 (Int)))) (h : conf_Book_Keys_2  = some r) : FnTri Tryd.prog 23 [.nilptr] [] (conf_Book_Keys_2_v r) [] := FnTri.none (conf_Book_Keys_2_ok  r h) rfl rfl

/-- (*parrel/conf.Book).find -/

def conf_Book_find_3_v (r : (T_api_Config)) : LV := .tup [v_T_api_Config r, .int .i64 2]

def conf_Book_find_3_up (x_k : A8 (Int)) (r : (T_api_Config)) : Upd := [(0, some (.var [.nilmap]))]

def conf_Book_find_3_objs (x_k : A8 (Int)) : List LO := [.var [.nilmap]]

def conf_Book_find_3 (x_k : A8 (Int)) : Option ((T_api_Config)) :=
  some (T_api_Config.mk 0 0 0 (A8.mk 0 0 0 0 0 0 0 0))

theorem conf_Book_find_3_ok (x_k : A8 (Int)) (r : (T_api_Config)) (h : conf_Book_find_3 x_k = some r) : ∀ σ, Inj 1 σ → FnTri Tryd.prog 29 (renL σ [.ptr 0 0 0, .agg [.int .u8 x_k.a0, .int .u8 x_k.a1, .int .u8 x_k.a2, .int .u8 x_k.a3, .int .u8 x_k.a4, .int .u8 x_k.a5, .int .u8 x_k.a6, .int .u8 x_k.a7]]) (preOf σ 0 (conf_Book_find_3_objs x_k)) ((conf_Book_find_3_v r).ren σ) (upOf σ (conf_Book_find_3_up x_k r)) := by
  refine fn_of Tryd.func29 (by kernel_rfl) (by kernel_rfl) (by kernel_rfl) ⟨rfl, trivial⟩ (by kernel_rfl) ⟨rfl, trivial⟩ (by kernel_rfl) ?_
  intro w0 W μ0 hμ
  unfold conf_Book_find_3 at h
  obtain rfl := Option.some.inj h
  exact run_ret mixed (L := []) (n := 20) (s := [.reg [], .reg [], .reg []])
    (a_ (a_ (a_ (a_ tr tr) (a_ (a_ tr tr) (a_ (a_ tr tr) tr))) (a_ (a_ (a_ tr tr) (a_ (a_ tr tr) (a_ (a_ tr tr) (a_ (a_ tr tr) (a_ (a_ tr tr) (a_ (a_ tr tr) (a_ (a_ (a_ tr (lt_ 0 1 rfl)) tr) (a_ (a_ tr tr) (a_ (a_ tr tr) tr))))))))) (a_ (a_ (a_ (Eq.refl true) tr) (a_ (a_ (a_ (Eq.refl 11) (a_ (le_ 11 11 rfl) (Eq.refl 0))) tr) (a_ (a_ tr tr) tr))) tr))) (a_ (a_ tr (le_ 11 11 rfl)) tr)) (by kernel_rfl) rfl

/-- (*parrel/conf.Book).Of -/

def conf_Book_Of_3_v (r : (T_api_Config)) : LV := .tup [v_T_api_Config r, .bool false]

def conf_Book_Of_3_up (x_k : A8 (Int)) (r : (T_api_Config)) : Upd := [(0, some (.var [.nilmap]))]

def conf_Book_Of_3_objs (x_k : A8 (Int)) : List LO := [.var [.nilmap]]

def conf_Book_Of_3 (x_k : A8 (Int)) : Option ((T_api_Config)) :=
  (conf_Book_find_3 x_k).bind fun y2 =>
  some y2

theorem conf_Book_Of_3_ok (x_k : A8 (Int)) (r : (T_api_Config)) (h : conf_Book_Of_3 x_k = some r) : ∀ σ, Inj 1 σ → FnTri Tryd.prog 12 (renL σ [.ptr 0 0 0, .agg [.int .u8 x_k.a0, .int .u8 x_k.a1, .int .u8 x_k.a2, .int .u8 x_k.a3, .int .u8 x_k.a4, .int .u8 x_k.a5, .int .u8 x_k.a6, .int .u8 x_k.a7]]) (preOf σ 0 (conf_Book_Of_3_objs x_k)) ((conf_Book_Of_3_v r).ren σ) (upOf σ (conf_Book_Of_3_up x_k r)) := by
  refine fn_of Tryd.func12 (by kernel_rfl) (by kernel_rfl) (by kernel_rfl) ⟨rfl, trivial⟩ (by kernel_rfl) ⟨rfl, trivial⟩ (by kernel_rfl) ?_
  intro w0 W μ0 hμ
  unfold conf_Book_Of_3 at h
  obtain ⟨y2, e1, h⟩ := bind_some h
  obtain rfl := Option.some.inj h
  exact run_ret mixed (L := []) (n := 18) (s := [.reg [], .reg [(2, { call := some ((conf_Book_find_3_v y2).ren (sel [0]), preOf (sel [0]) 0 (conf_Book_find_3_objs x_k), upOf (sel [0]) (conf_Book_find_3_up x_k y2)) })], .reg []])
    (a_ (a_ (a_ (a_ tr tr) (a_ (a_ tr tr) (a_ (a_ tr tr) tr))) (a_ (a_ (a_ tr tr) (a_ (a_ (a_ tr (le_ 8 8 rfl)) tr) (a_ (a_ (a_ (conf_Book_find_3_ok x_k y2 e1 (sel [0]) (sel_inj rfl rfl)) (a_ (LO.Le.refl (.var [.nilmap])) tr)) tr) (a_ (a_ tr tr) (a_ (a_ tr tr) (a_ (a_ tr tr) (a_ (a_ tr tr) (a_ (a_ (a_ (Eq.refl 11) (a_ (le_ 11 11 rfl) (Eq.refl 0))) tr) (a_ (a_ tr tr) tr))))))))) (a_ (a_ (a_ (a_ tr (le_ 11 11 rfl)) tr) (a_ (a_ tr tr) (a_ (a_ tr tr) (a_ (a_ (a_ (Eq.refl 11) (a_ (le_ 11 11 rfl) (Eq.refl 0))) tr) (a_ (a_ tr tr) tr))))) tr))) (a_ (a_ tr (le_ 11 11 rfl)) tr)) (by kernel_rfl) rfl

/-- (*parrel/conf.Book).Next -/

def conf_Book_Next_2_v (r : (T_api_Config)) : LV := .tup [v_T_api_Config r, .int .i64 2]

def conf_Book_Next_2_up (x_k : A8 (Int)) (x_r : Int) (x_w : Int) (list : T_parrellaw21_Act) (r : (T_api_Config)) : Upd := [(0, some (.var [.nilmap])), (1, some (.var (c_T_parrellaw21_Act list)))]

def conf_Book_Next_2_objs (x_k : A8 (Int)) (x_r : Int) (x_w : Int) (list : T_parrellaw21_Act) : List LO := [.var [.nilmap], .var (c_T_parrellaw21_Act list)]

def conf_Book_Next_2 (x_k : A8 (Int)) (x_r : Int) (x_w : Int) (list : T_parrellaw21_Act) : Option ((T_api_Config)) :=
  (conf_Book_find_3 x_k).bind fun y2 =>
  some (T_api_Config.mk 0 0 0 (A8.mk 0 0 0 0 0 0 0 0))

theorem conf_Book_Next_2_ok (x_k : A8 (Int)) (x_r : Int) (x_w : Int) (list : T_parrellaw21_Act) (r : (T_api_Config)) (h : conf_Book_Next_2 x_k x_r x_w list = some r) : ∀ σ, Inj 2 σ → FnTri Tryd.prog 18 (renL σ [.ptr 0 0 0, .agg [.int .u8 x_k.a0, .int .u8 x_k.a1, .int .u8 x_k.a2, .int .u8 x_k.a3, .int .u8 x_k.a4, .int .u8 x_k.a5, .int .u8 x_k.a6, .int .u8 x_k.a7], .int .u8 x_r, .int .u8 x_w, .sl 1 0 11 true 8 (some 8)]) (preOf σ 0 (conf_Book_Next_2_objs x_k x_r x_w list)) ((conf_Book_Next_2_v r).ren σ) (upOf σ (conf_Book_Next_2_up x_k x_r x_w list r)) := by
  refine fn_of Tryd.func18 (by kernel_rfl) (by kernel_rfl) (by kernel_rfl) ⟨rfl, rfl, trivial⟩ (by kernel_rfl) ⟨rfl, rfl, trivial⟩ (by kernel_rfl) ?_
  intro w0 W μ0 hμ
  unfold conf_Book_Next_2 at h
  obtain ⟨y2, e1, h⟩ := bind_some h
  obtain rfl := Option.some.inj h
  exact run_ret mixed (L := []) (n := 23) (s := [.reg [], .reg [(2, { call := some ((conf_Book_find_3_v y2).ren (sel [0]), preOf (sel [0]) 0 (conf_Book_find_3_objs x_k), upOf (sel [0]) (conf_Book_find_3_up x_k y2)) })], .reg [], .reg []])
    (a_ (a_ (a_ (a_ tr tr) (a_ (a_ tr tr) (a_ (a_ tr tr) tr))) (a_ (a_ (a_ tr tr) (a_ (a_ (a_ tr (le_ 8 8 rfl)) tr) (a_ (a_ (a_ (conf_Book_find_3_ok x_k y2 e1 (sel [0]) (sel_inj rfl rfl)) (a_ (LO.Le.refl (.var [.nilmap])) tr)) tr) (a_ (a_ tr tr) (a_ (a_ tr tr) (a_ (a_ tr tr) (a_ (a_ tr tr) (a_ (a_ (a_ (Eq.refl 11) (a_ (le_ 11 11 rfl) (Eq.refl 0))) tr) (a_ (a_ tr tr) tr))))))))) (a_ (a_ (a_ tr tr) (a_ (a_ tr tr) tr)) (a_ (a_ (a_ (Eq.refl true) tr) (a_ (a_ tr tr) (a_ (a_ (a_ (Eq.refl 11) (a_ (le_ 11 11 rfl) (Eq.refl 0))) tr) (a_ (a_ tr tr) tr)))) tr)))) (a_ (a_ tr (le_ 11 11 rfl)) tr)) (by kernel_rfl) rfl

/-- (*parrel/conf.Book).Learn -/

def conf_Book_Learn_3_v (r : Unit) : LV := .int .i64 2

def conf_Book_Learn_3_up (x_k : A8 (Int)) (c : T_api_Config) (r : Unit) : Upd := [(0, some (.var [.nilmap]))]

def conf_Book_Learn_3_objs (x_k : A8 (Int)) (c : T_api_Config) : List LO := [.var [.nilmap]]

def conf_Book_Learn_3 (x_k : A8 (Int)) (c : T_api_Config) : Option (Unit) :=
  (conf_Book_find_3 x_k).bind fun y2 =>
  some ()

theorem conf_Book_Learn_3_ok (x_k : A8 (Int)) (c : T_api_Config) (r : Unit) (h : conf_Book_Learn_3 x_k c = some r) : ∀ σ, Inj 1 σ → FnTri Tryd.prog 13 (renL σ [.ptr 0 0 0, .agg [.int .u8 x_k.a0, .int .u8 x_k.a1, .int .u8 x_k.a2, .int .u8 x_k.a3, .int .u8 x_k.a4, .int .u8 x_k.a5, .int .u8 x_k.a6, .int .u8 x_k.a7], v_T_api_Config c]) (preOf σ 0 (conf_Book_Learn_3_objs x_k c)) ((conf_Book_Learn_3_v r).ren σ) (upOf σ (conf_Book_Learn_3_up x_k c r)) := by
  refine fn_of Tryd.func13 (by kernel_rfl) (by kernel_rfl) (by kernel_rfl) ⟨rfl, trivial⟩ (by kernel_rfl) ⟨rfl, trivial⟩ (by kernel_rfl) ?_
  intro w0 W μ0 hμ
  unfold conf_Book_Learn_3 at h
  obtain ⟨y2, e1, h⟩ := bind_some h
  obtain rfl := Option.some.inj h
  exact run_ret mixed (L := []) (n := 24) (s := [.reg [], .reg [(2, { call := some ((conf_Book_find_3_v y2).ren (sel [0]), preOf (sel [0]) 0 (conf_Book_find_3_objs x_k), upOf (sel [0]) (conf_Book_find_3_up x_k y2)) })], .reg [], .reg []])
    (a_ (a_ (a_ (a_ tr tr) (a_ (a_ tr tr) (a_ (a_ tr tr) tr))) (a_ (a_ (a_ tr tr) (a_ (a_ (a_ tr (le_ 8 8 rfl)) tr) (a_ (a_ (a_ (conf_Book_find_3_ok x_k y2 e1 (sel [0]) (sel_inj rfl rfl)) (a_ (LO.Le.refl (.var [.nilmap])) tr)) tr) (a_ (a_ tr tr) (a_ (a_ tr tr) (a_ (a_ tr tr) (a_ (a_ tr tr) (a_ (a_ (a_ (Eq.refl 11) (a_ (le_ 11 11 rfl) (Eq.refl 0))) tr) (a_ (a_ tr tr) tr))))))))) (a_ (a_ (a_ tr tr) (a_ (a_ tr tr) (a_ (a_ tr tr) tr))) (a_ (a_ (a_ tr tr) (a_ (a_ tr tr) tr)) tr)))) tr) (by kernel_rfl) rfl

/-- maps.Keys[map[parrel/api.Key]parrel/api.Config,parrel/api.Key,parrel/api.Config] -/

def maps_Keys_map_api_Key_api_Config_api_Key_api_Config_2_v (r : Unit) : LV := .fn 51 [] [.ptr 0 0 0]

def maps_Keys_map_api_Key_api_Config_api_Key_api_Config_2_up  (r : Unit) : Upd := [(0, some (.var [.nilmap]))]

def maps_Keys_map_api_Key_api_Config_api_Key_api_Config_2  : Option (Unit) :=
  some ()

theorem maps_Keys_map_api_Key_api_Config_api_Key_api_Config_2_ok  (r : Unit) (h : maps_Keys_map_api_Key_api_Config_api_Key_api_Config_2  = some r) : ∀ σ, Inj 1 σ → FnTri Tryd.prog 41 (renL σ [.nilmap]) (preOf σ 0 []) ((maps_Keys_map_api_Key_api_Config_api_Key_api_Config_2_v r).ren σ) (upOf σ (maps_Keys_map_api_Key_api_Config_api_Key_api_Config_2_up  r)) := by
  refine fn_of Tryd.func41 (by kernel_rfl) (by kernel_rfl) (by kernel_rfl) trivial (by kernel_rfl) ⟨rfl, trivial⟩ (by kernel_rfl) ?_
  intro w0 W μ0 hμ
  unfold maps_Keys_map_api_Key_api_Config_api_Key_api_Config_2 at h
  obtain rfl := Option.some.inj h
  exact run_ret mixed (L := [0]) (n := 15) (s := [.reg [], .reg []])
    (a_ (a_ (a_ (a_ tr tr) (a_ (a_ tr tr) tr)) (a_ (a_ (a_ tr tr) (a_ (a_ tr tr) tr)) tr)) tr) (by kernel_rfl) rfl

/-- (*parrel/conf.Book).Keys -/

def conf_Book_Keys_3_v (r : (List (A8 (Int)))) : LV := .ds 8 (r).length (rowF (fun z_ : A8 (Int) => [.int .u8 z_.a0, .int .u8 z_.a1, .int .u8 z_.a2, .int .u8 z_.a3, .int .u8 z_.a4, .int .u8 z_.a5, .int .u8 z_.a6, .int .u8 z_.a7]) default r)

def conf_Book_Keys_3_up  (r : (List (A8 (Int)))) : Upd := [(0, some (.var [.nilmap]))]

def conf_Book_Keys_3_objs  : List LO := [.var [.nilmap]]

def conf_Book_Keys_3  : Option ((List (A8 (Int)))) :=
  (maps_Keys_map_api_Key_api_Config_api_Key_api_Config_2).bind fun y2 =>
  (sortO ids_Keys 8 ([] : List (A8 (Int)))).bind fun y3 =>
  some y3

theorem conf_Book_Keys_3_ok  (r : (List (A8 (Int)))) (h : conf_Book_Keys_3  = some r) : ∀ σ, Inj 1 σ → FnTri Tryd.prog 23 (renL σ [.ptr 0 0 0]) (preOf σ 0 (conf_Book_Keys_3_objs )) ((conf_Book_Keys_3_v r).ren σ) (upOf σ (conf_Book_Keys_3_up  r)) := by
  refine fn_of Tryd.func23 (by kernel_rfl) (by kernel_rfl) (by kernel_rfl) ⟨rfl, trivial⟩ (by kernel_rfl) ⟨rfl, trivial⟩ (by kernel_rfl) ?_
  intro w0 W μ0 hμ
  unfold conf_Book_Keys_3 at h
  obtain ⟨y2, e1, h⟩ := bind_some h
  obtain ⟨y3, e4, h⟩ := bind_some h
  obtain rfl := Option.some.inj h
  exact run_ret mixed (L := []) (n := 21) (s := [.reg [(0, { v := some (.ds 8 (([] : List (A8 (Int)))).length (rowF (fun z_ : A8 (Int) => [.int .u8 z_.a0, .int .u8 z_.a1, .int .u8 z_.a2, .int .u8 z_.a3, .int .u8 z_.a4, .int .u8 z_.a5, .int .u8 z_.a6, .int .u8 z_.a7]) default ([] : List (A8 (Int))))) })], .reg [], .reg [(4, { call := some ((maps_Keys_map_api_Key_api_Config_api_Key_api_Config_2_v y2).ren (sel [1]), preOf (sel [1]) 0 [], upOf (sel [1]) (maps_Keys_map_api_Key_api_Config_api_Key_api_Config_2_up  y2)) }), (5, { call := some (.ds 8 (y3).length (rowF (fun z_ : A8 (Int) => [.int .u8 z_.a0, .int .u8 z_.a1, .int .u8 z_.a2, .int .u8 z_.a3, .int .u8 z_.a4, .int .u8 z_.a5, .int .u8 z_.a6, .int .u8 z_.a7]) default y3), [(1, .var [.nilmap])], []) })]])
    (a_ (a_ (a_ (a_ tr (a_ (le_nil_ds 8 (rowF (fun z_ : A8 (Int) => [.int .u8 z_.a0, .int .u8 z_.a1, .int .u8 z_.a2, .int .u8 z_.a3, .int .u8 z_.a4, .int .u8 z_.a5, .int .u8 z_.a6, .int .u8 z_.a7]) default [])) tr)) tr) (a_ (a_ (a_ tr tr) (a_ (a_ tr tr) tr)) (a_ (a_ (a_ tr tr) (a_ (a_ tr tr) (a_ (a_ tr tr) (a_ (a_ (a_ tr (lt_ 0 1 rfl)) tr) (a_ (a_ (a_ (maps_Keys_map_api_Key_api_Config_api_Key_api_Config_2_ok  y2 e1 (sel [1]) (sel_inj rfl rfl)) tr) tr) (a_ (a_ (a_ (so40k51_trin 42 ids_Keys y3 (fun x y r h => ids_Keys_tri x y r h) 1 e4) (a_ (LO.Le.refl (.var [.nilmap])) tr)) tr) (a_ (a_ tr tr) tr))))))) tr))) tr) (by kernel_rfl) rfl

/-- parrel/parrellaw21.ConfNobody -/

def parrellaw21_ConfNobody_v (r : (Bool)) : LV := .bool r

def parrellaw21_ConfNobody (a : T_parrellaw21_Act) : Option ((Bool)) :=
  (conf_Book_Of_2 a.f_Key).bind fun y2 =>
  (conf_Book_Next a.f_Key a.f_Conf.f_R a.f_Conf.f_W a).bind fun y4 =>
  (conf_Book_Learn_2 a.f_Key a.f_Conf).bind fun y6 =>
  if ((!decide (y4 = (T_api_Config.mk 0 0 0 (A8.mk 0 0 0 0 0 0 0 0)))) : Bool) then
    some false
  else
    (conf_Book_Keys_2).bind fun y9 =>
    if ((((y9).length : Int) != 0) : Bool) then
      some false
    else
      (conf_Book_Of_3 a.f_Key).bind fun y12 =>
      (conf_Book_Next_2 a.f_Key a.f_Conf.f_R a.f_Conf.f_W a).bind fun y14 =>
      (conf_Book_Learn_3 a.f_Key a.f_Conf).bind fun y16 =>
      if ((!decide (y14 = (T_api_Config.mk 0 0 0 (A8.mk 0 0 0 0 0 0 0 0)))) : Bool) then
        some false
      else
        (conf_Book_Keys_3).bind fun y19 =>
        if ((((y19).length : Int) != 0) : Bool) then
          some false
        else
          (parrellaw21_alive).bind fun y22 =>
          some y22

theorem parrellaw21_ConfNobody_ok (a : T_parrellaw21_Act) (r : (Bool)) (h : parrellaw21_ConfNobody a = some r) : ∀ σ, Inj 0 σ → FnTri Tryd.prog 6 (renL σ [v_T_parrellaw21_Act a]) (preOf σ 0 []) ((parrellaw21_ConfNobody_v r).ren σ) (upOf σ []) := by
  refine fn_of Tryd.func6 (by kernel_rfl) (by kernel_rfl) (by kernel_rfl) trivial (by kernel_rfl) trivial (by kernel_rfl) ?_
  intro w0 W μ0 hμ
  unfold parrellaw21_ConfNobody at h
  obtain ⟨y2, e1, h⟩ := bind_some h
  obtain ⟨y4, e3, h⟩ := bind_some h
  obtain ⟨y6, e5, h⟩ := bind_some h
  rcases itb_some h with ⟨c7, h⟩ | ⟨c7, h⟩
  · skip
    obtain rfl := Option.some.inj h
    exact run_ret mixed (L := []) (n := 44) (s := [.reg [], .reg [], .go, .reg [], .reg [], .reg [(3, { call := some (conf_Book_Of_2_v y2, [], []) })], .reg [(12, { call := some ((conf_Book_Next_v y4).ren (sel [0]), preOf (sel [0]) 0 (conf_Book_Next_objs a.f_Key a.f_Conf.f_R a.f_Conf.f_W a), upOf (sel [0]) (conf_Book_Next_up a.f_Key a.f_Conf.f_R a.f_Conf.f_W a y4)) })], .reg [(5, { call := some (conf_Book_Learn_2_v y6, [], []) }), (13, { v := some (.bool (!decide (y4 = (T_api_Config.mk 0 0 0 (A8.mk 0 0 0 0 0 0 0 0))))) }), (15, { v := some (.bool true) })], .reg []])
      (a_ (a_ (a_ (a_ tr tr) (a_ (a_ tr tr) tr)) (a_ (a_ (a_ (Eq.refl true) tr) (a_ (a_ tr tr) (a_ (a_ (a_ (Eq.refl true) (a_ (Eq.refl 1) (a_ (lt_ 0 1 rfl) (le_ 2 16777216 rfl)))) tr) (a_ (a_ tr tr) (a_ (a_ tr tr) tr))))) (a_ (a_ (a_ tr tr) tr) (a_ (a_ (a_ (a_ (Eq.refl 1) (a_ (lei_ 0 0 rfl) (lti_ 0 2 rfl))) tr) (a_ (a_ (a_ (lt_ 0 2 rfl) (lt_ 0 1 rfl)) tr) (a_ (a_ tr tr) tr))) (a_ (a_ (a_ tr tr) (a_ (a_ tr tr) (a_ (a_ (a_ tr (le_ 8 21 rfl)) tr) (a_ (a_ (a_ (conf_Book_Of_2_tri a.f_Key y2 e1) tr) tr) (a_ (a_ tr tr) (a_ (a_ tr tr) (a_ (a_ tr tr) (a_ (a_ tr tr) (a_ (a_ (a_ (Eq.refl 11) (a_ (le_ 11 11 rfl) (Eq.refl 0))) tr) (a_ (a_ tr tr) tr)))))))))) (a_ (a_ (a_ tr tr) (a_ (a_ tr tr) (a_ (a_ (a_ tr (le_ 8 21 rfl)) tr) (a_ (a_ tr tr) (a_ (a_ tr tr) (a_ (a_ (a_ tr (lt_ 9 21 rfl)) tr) (a_ (a_ tr tr) (a_ (a_ tr tr) (a_ (a_ (a_ tr (lt_ 10 21 rfl)) tr) (a_ (a_ tr tr) (a_ (a_ tr tr) (a_ (a_ (a_ (lei_ 0 0 rfl) (a_ (lei_ 0 8 rfl) (lei_ 8 8 rfl))) tr) (a_ (a_ (a_ (conf_Book_Next_ok a.f_Key a.f_Conf.f_R a.f_Conf.f_W a y4 e3 (sel [0]) (sel_inj rfl rfl)) (a_ (LO.Le.refl (.var (c_T_parrellaw21_Act a))) tr)) tr) (a_ (a_ tr tr) (a_ (a_ tr tr) (a_ (a_ tr tr) (a_ (a_ tr tr) (a_ (a_ (a_ (Eq.refl 11) (a_ (le_ 11 11 rfl) (Eq.refl 0))) tr) (a_ (a_ tr tr) tr))))))))))))))))))) (a_ (a_ (a_ tr tr) (a_ (a_ tr tr) (a_ (a_ (a_ tr (le_ 8 21 rfl)) tr) (a_ (a_ tr tr) (a_ (a_ (a_ tr (le_ 19 21 rfl)) tr) (a_ (a_ (a_ (conf_Book_Learn_2_tri a.f_Key a.f_Conf y6 e5) tr) tr) (a_ (a_ tr tr) (a_ (a_ tr tr) (a_ (a_ tr tr) (a_ (a_ tr tr) (a_ (a_ tr tr) (a_ (a_ (a_ tr (le_ 11 11 rfl)) tr) (a_ (a_ (Eq.refl true) tr) (a_ (a_ tr (a_ (leB (congrArg not (k_T_api_Config y4 (T_api_Config.mk 0 0 0 (A8.mk 0 0 0 0 0 0 0 0))))) tr)) (a_ (a_ tr tr) (a_ (a_ tr (a_ (leB c7) tr)) (a_ tr (a_ tr (a_ (a_ tr tr) (a_ (a_ tr tr) (a_ tr (a_ tr (a_ tr (a_ tr (a_ (a_ tr tr) tr))))))))))))))))))))))))) (a_ (a_ (a_ tr tr) tr) tr)))))))) tr) (by kernel_rfl) rfl
  · skip
    obtain ⟨y9, e8, h⟩ := bind_some h
    rcases itb_some h with ⟨c10, h⟩ | ⟨c10, h⟩
    · skip
      obtain rfl := Option.some.inj h
      exact run_ret mixed (L := []) (n := 44) (s := [.reg [], .reg [], .go, .reg [], .reg [], .reg [(3, { call := some (conf_Book_Of_2_v y2, [], []) })], .reg [(12, { call := some ((conf_Book_Next_v y4).ren (sel [0]), preOf (sel [0]) 0 (conf_Book_Next_objs a.f_Key a.f_Conf.f_R a.f_Conf.f_W a), upOf (sel [0]) (conf_Book_Next_up a.f_Key a.f_Conf.f_R a.f_Conf.f_W a y4)) })], .reg [(5, { call := some (conf_Book_Learn_2_v y6, [], []) }), (13, { v := some (.bool (!decide (y4 = (T_api_Config.mk 0 0 0 (A8.mk 0 0 0 0 0 0 0 0))))) }), (15, { v := some (.bool false) }), (21, { call := some (conf_Book_Keys_2_v y9, [], []) }), (24, { v := some (.bool true) })], .reg []])
        (a_ (a_ (a_ (a_ tr tr) (a_ (a_ tr tr) tr)) (a_ (a_ (a_ (Eq.refl true) tr) (a_ (a_ tr tr) (a_ (a_ (a_ (Eq.refl true) (a_ (Eq.refl 1) (a_ (lt_ 0 1 rfl) (le_ 2 16777216 rfl)))) tr) (a_ (a_ tr tr) (a_ (a_ tr tr) tr))))) (a_ (a_ (a_ tr tr) tr) (a_ (a_ (a_ (a_ (Eq.refl 1) (a_ (lei_ 0 0 rfl) (lti_ 0 2 rfl))) tr) (a_ (a_ (a_ (lt_ 0 2 rfl) (lt_ 0 1 rfl)) tr) (a_ (a_ tr tr) tr))) (a_ (a_ (a_ tr tr) (a_ (a_ tr tr) (a_ (a_ (a_ tr (le_ 8 21 rfl)) tr) (a_ (a_ (a_ (conf_Book_Of_2_tri a.f_Key y2 e1) tr) tr) (a_ (a_ tr tr) (a_ (a_ tr tr) (a_ (a_ tr tr) (a_ (a_ tr tr) (a_ (a_ (a_ (Eq.refl 11) (a_ (le_ 11 11 rfl) (Eq.refl 0))) tr) (a_ (a_ tr tr) tr)))))))))) (a_ (a_ (a_ tr tr) (a_ (a_ tr tr) (a_ (a_ (a_ tr (le_ 8 21 rfl)) tr) (a_ (a_ tr tr) (a_ (a_ tr tr) (a_ (a_ (a_ tr (lt_ 9 21 rfl)) tr) (a_ (a_ tr tr) (a_ (a_ tr tr) (a_ (a_ (a_ tr (lt_ 10 21 rfl)) tr) (a_ (a_ tr tr) (a_ (a_ tr tr) (a_ (a_ (a_ (lei_ 0 0 rfl) (a_ (lei_ 0 8 rfl) (lei_ 8 8 rfl))) tr) (a_ (a_ (a_ (conf_Book_Next_ok a.f_Key a.f_Conf.f_R a.f_Conf.f_W a y4 e3 (sel [0]) (sel_inj rfl rfl)) (a_ (LO.Le.refl (.var (c_T_parrellaw21_Act a))) tr)) tr) (a_ (a_ tr tr) (a_ (a_ tr tr) (a_ (a_ tr tr) (a_ (a_ tr tr) (a_ (a_ (a_ (Eq.refl 11) (a_ (le_ 11 11 rfl) (Eq.refl 0))) tr) (a_ (a_ tr tr) tr))))))))))))))))))) (a_ (a_ (a_ tr tr) (a_ (a_ tr tr) (a_ (a_ (a_ tr (le_ 8 21 rfl)) tr) (a_ (a_ tr tr) (a_ (a_ (a_ tr (le_ 19 21 rfl)) tr) (a_ (a_ (a_ (conf_Book_Learn_2_tri a.f_Key a.f_Conf y6 e5) tr) tr) (a_ (a_ tr tr) (a_ (a_ tr tr) (a_ (a_ tr tr) (a_ (a_ tr tr) (a_ (a_ tr tr) (a_ (a_ (a_ tr (le_ 11 11 rfl)) tr) (a_ (a_ (Eq.refl true) tr) (a_ (a_ tr (a_ (leB (congrArg not (k_T_api_Config y4 (T_api_Config.mk 0 0 0 (A8.mk 0 0 0 0 0 0 0 0))))) tr)) (a_ (a_ tr tr) (a_ (a_ tr (a_ (leB c7) tr)) (a_ (a_ tr tr) (a_ (a_ tr tr) (a_ (a_ tr tr) (a_ (a_ tr tr) (a_ (a_ tr tr) (a_ (a_ (a_ (conf_Book_Keys_2_tri  y9 e8) tr) tr) (a_ (a_ tr tr) (a_ (a_ tr tr) (a_ (a_ tr (a_ (leB c10) tr)) tr))))))))))))))))))))))))) (a_ (a_ (a_ tr tr) tr) tr)))))))) tr) (by kernel_rfl) rfl
    · skip
      obtain ⟨y12, e11, h⟩ := bind_some h
      obtain ⟨y14, e13, h⟩ := bind_some h
      obtain ⟨y16, e15, h⟩ := bind_some h
      rcases itb_some h with ⟨c17, h⟩ | ⟨c17, h⟩
      · skip
        obtain rfl := Option.some.inj h
        exact run_ret mixed (L := []) (n := 71) (s := [.reg [], .reg [], .go, .reg [], .reg [], .reg [(3, { call := some (conf_Book_Of_2_v y2, [], []) })], .reg [(12, { call := some ((conf_Book_Next_v y4).ren (sel [0]), preOf (sel [0]) 0 (conf_Book_Next_objs a.f_Key a.f_Conf.f_R a.f_Conf.f_W a), upOf (sel [0]) (conf_Book_Next_up a.f_Key a.f_Conf.f_R a.f_Conf.f_W a y4)) })], .reg [(5, { call := some (conf_Book_Learn_2_v y6, [], []) }), (13, { v := some (.bool (!decide (y4 = (T_api_Config.mk 0 0 0 (A8.mk 0 0 0 0 0 0 0 0))))) }), (15, { v := some (.bool false) }), (21, { call := some (conf_Book_Keys_2_v y9, [], []) }), (24, { v := some (.bool false) })], .reg [], .go, .reg [], .reg [], .reg [(3, { call := some ((conf_Book_Of_3_v y12).ren (sel [1]), preOf (sel [1]) 0 (conf_Book_Of_3_objs a.f_Key), upOf (sel [1]) (conf_Book_Of_3_up a.f_Key y12)) })], .reg [(12, { call := some ((conf_Book_Next_2_v y14).ren (sel [1, 0]), preOf (sel [1, 0]) 0 (conf_Book_Next_2_objs a.f_Key a.f_Conf.f_R a.f_Conf.f_W a), upOf (sel [1, 0]) (conf_Book_Next_2_up a.f_Key a.f_Conf.f_R a.f_Conf.f_W a y14)) })], .reg [(5, { call := some ((conf_Book_Learn_3_v y16).ren (sel [1]), preOf (sel [1]) 0 (conf_Book_Learn_3_objs a.f_Key a.f_Conf), upOf (sel [1]) (conf_Book_Learn_3_up a.f_Key a.f_Conf y16)) }), (13, { v := some (.bool (!decide (y14 = (T_api_Config.mk 0 0 0 (A8.mk 0 0 0 0 0 0 0 0))))) }), (15, { v := some (.bool true) })], .reg []])
          (a_ (a_ (a_ (a_ tr tr) (a_ (a_ tr tr) tr)) (a_ (a_ (a_ (Eq.refl true) tr) (a_ (a_ tr tr) (a_ (a_ (a_ (Eq.refl true) (a_ (Eq.refl 1) (a_ (lt_ 0 1 rfl) (le_ 2 16777216 rfl)))) tr) (a_ (a_ tr tr) (a_ (a_ tr tr) tr))))) (a_ (a_ (a_ tr tr) tr) (a_ (a_ (a_ (a_ (Eq.refl 1) (a_ (lei_ 0 0 rfl) (lti_ 0 2 rfl))) tr) (a_ (a_ (a_ (lt_ 0 2 rfl) (lt_ 0 1 rfl)) tr) (a_ (a_ tr tr) tr))) (a_ (a_ (a_ tr tr) (a_ (a_ tr tr) (a_ (a_ (a_ tr (le_ 8 21 rfl)) tr) (a_ (a_ (a_ (conf_Book_Of_2_tri a.f_Key y2 e1) tr) tr) (a_ (a_ tr tr) (a_ (a_ tr tr) (a_ (a_ tr tr) (a_ (a_ tr tr) (a_ (a_ (a_ (Eq.refl 11) (a_ (le_ 11 11 rfl) (Eq.refl 0))) tr) (a_ (a_ tr tr) tr)))))))))) (a_ (a_ (a_ tr tr) (a_ (a_ tr tr) (a_ (a_ (a_ tr (le_ 8 21 rfl)) tr) (a_ (a_ tr tr) (a_ (a_ tr tr) (a_ (a_ (a_ tr (lt_ 9 21 rfl)) tr) (a_ (a_ tr tr) (a_ (a_ tr tr) (a_ (a_ (a_ tr (lt_ 10 21 rfl)) tr) (a_ (a_ tr tr) (a_ (a_ tr tr) (a_ (a_ (a_ (lei_ 0 0 rfl) (a_ (lei_ 0 8 rfl) (lei_ 8 8 rfl))) tr) (a_ (a_ (a_ (conf_Book_Next_ok a.f_Key a.f_Conf.f_R a.f_Conf.f_W a y4 e3 (sel [0]) (sel_inj rfl rfl)) (a_ (LO.Le.refl (.var (c_T_parrellaw21_Act a))) tr)) tr) (a_ (a_ tr tr) (a_ (a_ tr tr) (a_ (a_ tr tr) (a_ (a_ tr tr) (a_ (a_ (a_ (Eq.refl 11) (a_ (le_ 11 11 rfl) (Eq.refl 0))) tr) (a_ (a_ tr tr) tr))))))))))))))))))) (a_ (a_ (a_ tr tr) (a_ (a_ tr tr) (a_ (a_ (a_ tr (le_ 8 21 rfl)) tr) (a_ (a_ tr tr) (a_ (a_ (a_ tr (le_ 19 21 rfl)) tr) (a_ (a_ (a_ (conf_Book_Learn_2_tri a.f_Key a.f_Conf y6 e5) tr) tr) (a_ (a_ tr tr) (a_ (a_ tr tr) (a_ (a_ tr tr) (a_ (a_ tr tr) (a_ (a_ tr tr) (a_ (a_ (a_ tr (le_ 11 11 rfl)) tr) (a_ (a_ (Eq.refl true) tr) (a_ (a_ tr (a_ (leB (congrArg not (k_T_api_Config y4 (T_api_Config.mk 0 0 0 (A8.mk 0 0 0 0 0 0 0 0))))) tr)) (a_ (a_ tr tr) (a_ (a_ tr (a_ (leB c7) tr)) (a_ (a_ tr tr) (a_ (a_ tr tr) (a_ (a_ tr tr) (a_ (a_ tr tr) (a_ (a_ tr tr) (a_ (a_ (a_ (conf_Book_Keys_2_tri  y9 e8) tr) tr) (a_ (a_ tr tr) (a_ (a_ tr tr) (a_ (a_ tr (a_ (leB c10) tr)) tr))))))))))))))))))))))))) (a_ (a_ (a_ tr tr) (a_ (a_ tr tr) tr)) (a_ (a_ (a_ tr tr) tr) (a_ (a_ (a_ (a_ (Eq.refl 1) (a_ (lei_ 0 1 rfl) (lti_ 1 2 rfl))) tr) (a_ (a_ (a_ (lt_ 1 2 rfl) (lt_ 0 1 rfl)) tr) (a_ (a_ tr tr) tr))) (a_ (a_ (a_ tr tr) (a_ (a_ tr tr) (a_ (a_ (a_ tr (le_ 8 21 rfl)) tr) (a_ (a_ (a_ (conf_Book_Of_3_ok a.f_Key y12 e11 (sel [1]) (sel_inj rfl rfl)) (a_ (LO.Le.refl (.var [.nilmap])) tr)) tr) (a_ (a_ tr tr) (a_ (a_ tr tr) (a_ (a_ tr tr) (a_ (a_ tr tr) (a_ (a_ (a_ (Eq.refl 11) (a_ (le_ 11 11 rfl) (Eq.refl 0))) tr) (a_ (a_ tr tr) tr)))))))))) (a_ (a_ (a_ tr tr) (a_ (a_ tr tr) (a_ (a_ (a_ tr (le_ 8 21 rfl)) tr) (a_ (a_ tr tr) (a_ (a_ tr tr) (a_ (a_ (a_ tr (lt_ 9 21 rfl)) tr) (a_ (a_ tr tr) (a_ (a_ tr tr) (a_ (a_ (a_ tr (lt_ 10 21 rfl)) tr) (a_ (a_ tr tr) (a_ (a_ tr tr) (a_ (a_ (a_ (lei_ 0 0 rfl) (a_ (lei_ 0 8 rfl) (lei_ 8 8 rfl))) tr) (a_ (a_ (a_ (conf_Book_Next_2_ok a.f_Key a.f_Conf.f_R a.f_Conf.f_W a y14 e13 (sel [1, 0]) (sel_inj rfl rfl)) (a_ (LO.Le.refl (.var [.nilmap])) (a_ (LO.Le.refl (.var (c_T_parrellaw21_Act a))) tr))) tr) (a_ (a_ tr tr) (a_ (a_ tr tr) (a_ (a_ tr tr) (a_ (a_ tr tr) (a_ (a_ (a_ (Eq.refl 11) (a_ (le_ 11 11 rfl) (Eq.refl 0))) tr) (a_ (a_ tr tr) tr))))))))))))))))))) (a_ (a_ (a_ tr tr) (a_ (a_ tr tr) (a_ (a_ (a_ tr (le_ 8 21 rfl)) tr) (a_ (a_ tr tr) (a_ (a_ (a_ tr (le_ 19 21 rfl)) tr) (a_ (a_ (a_ (conf_Book_Learn_3_ok a.f_Key a.f_Conf y16 e15 (sel [1]) (sel_inj rfl rfl)) (a_ (LO.Le.refl (.var [.nilmap])) tr)) tr) (a_ (a_ tr tr) (a_ (a_ tr tr) (a_ (a_ tr tr) (a_ (a_ tr tr) (a_ (a_ tr tr) (a_ (a_ (a_ tr (le_ 11 11 rfl)) tr) (a_ (a_ (Eq.refl true) tr) (a_ (a_ tr (a_ (leB (congrArg not (k_T_api_Config y14 (T_api_Config.mk 0 0 0 (A8.mk 0 0 0 0 0 0 0 0))))) tr)) (a_ (a_ tr tr) (a_ (a_ tr (a_ (leB c17) tr)) (a_ tr (a_ tr (a_ (a_ tr tr) (a_ (a_ tr tr) (a_ tr (a_ tr (a_ tr (a_ tr (a_ (a_ tr tr) tr))))))))))))))))))))))))) (a_ (a_ (a_ tr tr) tr) tr)))))))))))))) tr) (by kernel_rfl) rfl
      · skip
        obtain ⟨y19, e18, h⟩ := bind_some h
        rcases itb_some h with ⟨c20, h⟩ | ⟨c20, h⟩
        · skip
          obtain rfl := Option.some.inj h
          exact run_ret mixed (L := []) (n := 71) (s := [.reg [], .reg [], .go, .reg [], .reg [], .reg [(3, { call := some (conf_Book_Of_2_v y2, [], []) })], .reg [(12, { call := some ((conf_Book_Next_v y4).ren (sel [0]), preOf (sel [0]) 0 (conf_Book_Next_objs a.f_Key a.f_Conf.f_R a.f_Conf.f_W a), upOf (sel [0]) (conf_Book_Next_up a.f_Key a.f_Conf.f_R a.f_Conf.f_W a y4)) })], .reg [(5, { call := some (conf_Book_Learn_2_v y6, [], []) }), (13, { v := some (.bool (!decide (y4 = (T_api_Config.mk 0 0 0 (A8.mk 0 0 0 0 0 0 0 0))))) }), (15, { v := some (.bool false) }), (21, { call := some (conf_Book_Keys_2_v y9, [], []) }), (24, { v := some (.bool false) })], .reg [], .go, .reg [], .reg [], .reg [(3, { call := some ((conf_Book_Of_3_v y12).ren (sel [1]), preOf (sel [1]) 0 (conf_Book_Of_3_objs a.f_Key), upOf (sel [1]) (conf_Book_Of_3_up a.f_Key y12)) })], .reg [(12, { call := some ((conf_Book_Next_2_v y14).ren (sel [1, 0]), preOf (sel [1, 0]) 0 (conf_Book_Next_2_objs a.f_Key a.f_Conf.f_R a.f_Conf.f_W a), upOf (sel [1, 0]) (conf_Book_Next_2_up a.f_Key a.f_Conf.f_R a.f_Conf.f_W a y14)) })], .reg [(5, { call := some ((conf_Book_Learn_3_v y16).ren (sel [1]), preOf (sel [1]) 0 (conf_Book_Learn_3_objs a.f_Key a.f_Conf), upOf (sel [1]) (conf_Book_Learn_3_up a.f_Key a.f_Conf y16)) }), (13, { v := some (.bool (!decide (y14 = (T_api_Config.mk 0 0 0 (A8.mk 0 0 0 0 0 0 0 0))))) }), (15, { v := some (.bool false) }), (21, { call := some ((conf_Book_Keys_3_v y19).ren (sel [1]), preOf (sel [1]) 0 (conf_Book_Keys_3_objs ), upOf (sel [1]) (conf_Book_Keys_3_up  y19)) }), (24, { v := some (.bool true) })], .reg []])
            (a_ (a_ (a_ (a_ tr tr) (a_ (a_ tr tr) tr)) (a_ (a_ (a_ (Eq.refl true) tr) (a_ (a_ tr tr) (a_ (a_ (a_ (Eq.refl true) (a_ (Eq.refl 1) (a_ (lt_ 0 1 rfl) (le_ 2 16777216 rfl)))) tr) (a_ (a_ tr tr) (a_ (a_ tr tr) tr))))) (a_ (a_ (a_ tr tr) tr) (a_ (a_ (a_ (a_ (Eq.refl 1) (a_ (lei_ 0 0 rfl) (lti_ 0 2 rfl))) tr) (a_ (a_ (a_ (lt_ 0 2 rfl) (lt_ 0 1 rfl)) tr) (a_ (a_ tr tr) tr))) (a_ (a_ (a_ tr tr) (a_ (a_ tr tr) (a_ (a_ (a_ tr (le_ 8 21 rfl)) tr) (a_ (a_ (a_ (conf_Book_Of_2_tri a.f_Key y2 e1) tr) tr) (a_ (a_ tr tr) (a_ (a_ tr tr) (a_ (a_ tr tr) (a_ (a_ tr tr) (a_ (a_ (a_ (Eq.refl 11) (a_ (le_ 11 11 rfl) (Eq.refl 0))) tr) (a_ (a_ tr tr) tr)))))))))) (a_ (a_ (a_ tr tr) (a_ (a_ tr tr) (a_ (a_ (a_ tr (le_ 8 21 rfl)) tr) (a_ (a_ tr tr) (a_ (a_ tr tr) (a_ (a_ (a_ tr (lt_ 9 21 rfl)) tr) (a_ (a_ tr tr) (a_ (a_ tr tr) (a_ (a_ (a_ tr (lt_ 10 21 rfl)) tr) (a_ (a_ tr tr) (a_ (a_ tr tr) (a_ (a_ (a_ (lei_ 0 0 rfl) (a_ (lei_ 0 8 rfl) (lei_ 8 8 rfl))) tr) (a_ (a_ (a_ (conf_Book_Next_ok a.f_Key a.f_Conf.f_R a.f_Conf.f_W a y4 e3 (sel [0]) (sel_inj rfl rfl)) (a_ (LO.Le.refl (.var (c_T_parrellaw21_Act a))) tr)) tr) (a_ (a_ tr tr) (a_ (a_ tr tr) (a_ (a_ tr tr) (a_ (a_ tr tr) (a_ (a_ (a_ (Eq.refl 11) (a_ (le_ 11 11 rfl) (Eq.refl 0))) tr) (a_ (a_ tr tr) tr))))))))))))))))))) (a_ (a_ (a_ tr tr) (a_ (a_ tr tr) (a_ (a_ (a_ tr (le_ 8 21 rfl)) tr) (a_ (a_ tr tr) (a_ (a_ (a_ tr (le_ 19 21 rfl)) tr) (a_ (a_ (a_ (conf_Book_Learn_2_tri a.f_Key a.f_Conf y6 e5) tr) tr) (a_ (a_ tr tr) (a_ (a_ tr tr) (a_ (a_ tr tr) (a_ (a_ tr tr) (a_ (a_ tr tr) (a_ (a_ (a_ tr (le_ 11 11 rfl)) tr) (a_ (a_ (Eq.refl true) tr) (a_ (a_ tr (a_ (leB (congrArg not (k_T_api_Config y4 (T_api_Config.mk 0 0 0 (A8.mk 0 0 0 0 0 0 0 0))))) tr)) (a_ (a_ tr tr) (a_ (a_ tr (a_ (leB c7) tr)) (a_ (a_ tr tr) (a_ (a_ tr tr) (a_ (a_ tr tr) (a_ (a_ tr tr) (a_ (a_ tr tr) (a_ (a_ (a_ (conf_Book_Keys_2_tri  y9 e8) tr) tr) (a_ (a_ tr tr) (a_ (a_ tr tr) (a_ (a_ tr (a_ (leB c10) tr)) tr))))))))))))))))))))))))) (a_ (a_ (a_ tr tr) (a_ (a_ tr tr) tr)) (a_ (a_ (a_ tr tr) tr) (a_ (a_ (a_ (a_ (Eq.refl 1) (a_ (lei_ 0 1 rfl) (lti_ 1 2 rfl))) tr) (a_ (a_ (a_ (lt_ 1 2 rfl) (lt_ 0 1 rfl)) tr) (a_ (a_ tr tr) tr))) (a_ (a_ (a_ tr tr) (a_ (a_ tr tr) (a_ (a_ (a_ tr (le_ 8 21 rfl)) tr) (a_ (a_ (a_ (conf_Book_Of_3_ok a.f_Key y12 e11 (sel [1]) (sel_inj rfl rfl)) (a_ (LO.Le.refl (.var [.nilmap])) tr)) tr) (a_ (a_ tr tr) (a_ (a_ tr tr) (a_ (a_ tr tr) (a_ (a_ tr tr) (a_ (a_ (a_ (Eq.refl 11) (a_ (le_ 11 11 rfl) (Eq.refl 0))) tr) (a_ (a_ tr tr) tr)))))))))) (a_ (a_ (a_ tr tr) (a_ (a_ tr tr) (a_ (a_ (a_ tr (le_ 8 21 rfl)) tr) (a_ (a_ tr tr) (a_ (a_ tr tr) (a_ (a_ (a_ tr (lt_ 9 21 rfl)) tr) (a_ (a_ tr tr) (a_ (a_ tr tr) (a_ (a_ (a_ tr (lt_ 10 21 rfl)) tr) (a_ (a_ tr tr) (a_ (a_ tr tr) (a_ (a_ (a_ (lei_ 0 0 rfl) (a_ (lei_ 0 8 rfl) (lei_ 8 8 rfl))) tr) (a_ (a_ (a_ (conf_Book_Next_2_ok a.f_Key a.f_Conf.f_R a.f_Conf.f_W a y14 e13 (sel [1, 0]) (sel_inj rfl rfl)) (a_ (LO.Le.refl (.var [.nilmap])) (a_ (LO.Le.refl (.var (c_T_parrellaw21_Act a))) tr))) tr) (a_ (a_ tr tr) (a_ (a_ tr tr) (a_ (a_ tr tr) (a_ (a_ tr tr) (a_ (a_ (a_ (Eq.refl 11) (a_ (le_ 11 11 rfl) (Eq.refl 0))) tr) (a_ (a_ tr tr) tr))))))))))))))))))) (a_ (a_ (a_ tr tr) (a_ (a_ tr tr) (a_ (a_ (a_ tr (le_ 8 21 rfl)) tr) (a_ (a_ tr tr) (a_ (a_ (a_ tr (le_ 19 21 rfl)) tr) (a_ (a_ (a_ (conf_Book_Learn_3_ok a.f_Key a.f_Conf y16 e15 (sel [1]) (sel_inj rfl rfl)) (a_ (LO.Le.refl (.var [.nilmap])) tr)) tr) (a_ (a_ tr tr) (a_ (a_ tr tr) (a_ (a_ tr tr) (a_ (a_ tr tr) (a_ (a_ tr tr) (a_ (a_ (a_ tr (le_ 11 11 rfl)) tr) (a_ (a_ (Eq.refl true) tr) (a_ (a_ tr (a_ (leB (congrArg not (k_T_api_Config y14 (T_api_Config.mk 0 0 0 (A8.mk 0 0 0 0 0 0 0 0))))) tr)) (a_ (a_ tr tr) (a_ (a_ tr (a_ (leB c17) tr)) (a_ (a_ tr tr) (a_ (a_ tr tr) (a_ (a_ tr tr) (a_ (a_ tr tr) (a_ (a_ tr tr) (a_ (a_ (a_ (conf_Book_Keys_3_ok  y19 e18 (sel [1]) (sel_inj rfl rfl)) (a_ (LO.Le.refl (.var [.nilmap])) tr)) tr) (a_ (a_ tr tr) (a_ (a_ tr tr) (a_ (a_ tr (a_ (leB c20) tr)) tr))))))))))))))))))))))))) (a_ (a_ (a_ tr tr) tr) tr)))))))))))))) tr) (by kernel_rfl) rfl
        · skip
          obtain ⟨y22, e21, h⟩ := bind_some h
          obtain rfl := Option.some.inj h
          exact run_ret mixed (L := []) (n := 83) (s := [.reg [], .reg [], .go, .reg [], .reg [], .reg [(3, { call := some (conf_Book_Of_2_v y2, [], []) })], .reg [(12, { call := some ((conf_Book_Next_v y4).ren (sel [0]), preOf (sel [0]) 0 (conf_Book_Next_objs a.f_Key a.f_Conf.f_R a.f_Conf.f_W a), upOf (sel [0]) (conf_Book_Next_up a.f_Key a.f_Conf.f_R a.f_Conf.f_W a y4)) })], .reg [(5, { call := some (conf_Book_Learn_2_v y6, [], []) }), (13, { v := some (.bool (!decide (y4 = (T_api_Config.mk 0 0 0 (A8.mk 0 0 0 0 0 0 0 0))))) }), (15, { v := some (.bool false) }), (21, { call := some (conf_Book_Keys_2_v y9, [], []) }), (24, { v := some (.bool false) })], .reg [], .go, .reg [], .reg [], .reg [(3, { call := some ((conf_Book_Of_3_v y12).ren (sel [1]), preOf (sel [1]) 0 (conf_Book_Of_3_objs a.f_Key), upOf (sel [1]) (conf_Book_Of_3_up a.f_Key y12)) })], .reg [(12, { call := some ((conf_Book_Next_2_v y14).ren (sel [1, 0]), preOf (sel [1, 0]) 0 (conf_Book_Next_2_objs a.f_Key a.f_Conf.f_R a.f_Conf.f_W a), upOf (sel [1, 0]) (conf_Book_Next_2_up a.f_Key a.f_Conf.f_R a.f_Conf.f_W a y14)) })], .reg [(5, { call := some ((conf_Book_Learn_3_v y16).ren (sel [1]), preOf (sel [1]) 0 (conf_Book_Learn_3_objs a.f_Key a.f_Conf), upOf (sel [1]) (conf_Book_Learn_3_up a.f_Key a.f_Conf y16)) }), (13, { v := some (.bool (!decide (y14 = (T_api_Config.mk 0 0 0 (A8.mk 0 0 0 0 0 0 0 0))))) }), (15, { v := some (.bool false) }), (21, { call := some ((conf_Book_Keys_3_v y19).ren (sel [1]), preOf (sel [1]) 0 (conf_Book_Keys_3_objs ), upOf (sel [1]) (conf_Book_Keys_3_up  y19)) }), (24, { v := some (.bool false) })], .reg [], .go, .reg [], .reg [(0, { call := some (parrellaw21_alive_v y22, [], []) })]])
            (a_ (a_ (a_ (a_ tr tr) (a_ (a_ tr tr) tr)) (a_ (a_ (a_ (Eq.refl true) tr) (a_ (a_ tr tr) (a_ (a_ (a_ (Eq.refl true) (a_ (Eq.refl 1) (a_ (lt_ 0 1 rfl) (le_ 2 16777216 rfl)))) tr) (a_ (a_ tr tr) (a_ (a_ tr tr) tr))))) (a_ (a_ (a_ tr tr) tr) (a_ (a_ (a_ (a_ (Eq.refl 1) (a_ (lei_ 0 0 rfl) (lti_ 0 2 rfl))) tr) (a_ (a_ (a_ (lt_ 0 2 rfl) (lt_ 0 1 rfl)) tr) (a_ (a_ tr tr) tr))) (a_ (a_ (a_ tr tr) (a_ (a_ tr tr) (a_ (a_ (a_ tr (le_ 8 21 rfl)) tr) (a_ (a_ (a_ (conf_Book_Of_2_tri a.f_Key y2 e1) tr) tr) (a_ (a_ tr tr) (a_ (a_ tr tr) (a_ (a_ tr tr) (a_ (a_ tr tr) (a_ (a_ (a_ (Eq.refl 11) (a_ (le_ 11 11 rfl) (Eq.refl 0))) tr) (a_ (a_ tr tr) tr)))))))))) (a_ (a_ (a_ tr tr) (a_ (a_ tr tr) (a_ (a_ (a_ tr (le_ 8 21 rfl)) tr) (a_ (a_ tr tr) (a_ (a_ tr tr) (a_ (a_ (a_ tr (lt_ 9 21 rfl)) tr) (a_ (a_ tr tr) (a_ (a_ tr tr) (a_ (a_ (a_ tr (lt_ 10 21 rfl)) tr) (a_ (a_ tr tr) (a_ (a_ tr tr) (a_ (a_ (a_ (lei_ 0 0 rfl) (a_ (lei_ 0 8 rfl) (lei_ 8 8 rfl))) tr) (a_ (a_ (a_ (conf_Book_Next_ok a.f_Key a.f_Conf.f_R a.f_Conf.f_W a y4 e3 (sel [0]) (sel_inj rfl rfl)) (a_ (LO.Le.refl (.var (c_T_parrellaw21_Act a))) tr)) tr) (a_ (a_ tr tr) (a_ (a_ tr tr) (a_ (a_ tr tr) (a_ (a_ tr tr) (a_ (a_ (a_ (Eq.refl 11) (a_ (le_ 11 11 rfl) (Eq.refl 0))) tr) (a_ (a_ tr tr) tr))))))))))))))))))) (a_ (a_ (a_ tr tr) (a_ (a_ tr tr) (a_ (a_ (a_ tr (le_ 8 21 rfl)) tr) (a_ (a_ tr tr) (a_ (a_ (a_ tr (le_ 19 21 rfl)) tr) (a_ (a_ (a_ (conf_Book_Learn_2_tri a.f_Key a.f_Conf y6 e5) tr) tr) (a_ (a_ tr tr) (a_ (a_ tr tr) (a_ (a_ tr tr) (a_ (a_ tr tr) (a_ (a_ tr tr) (a_ (a_ (a_ tr (le_ 11 11 rfl)) tr) (a_ (a_ (Eq.refl true) tr) (a_ (a_ tr (a_ (leB (congrArg not (k_T_api_Config y4 (T_api_Config.mk 0 0 0 (A8.mk 0 0 0 0 0 0 0 0))))) tr)) (a_ (a_ tr tr) (a_ (a_ tr (a_ (leB c7) tr)) (a_ (a_ tr tr) (a_ (a_ tr tr) (a_ (a_ tr tr) (a_ (a_ tr tr) (a_ (a_ tr tr) (a_ (a_ (a_ (conf_Book_Keys_2_tri  y9 e8) tr) tr) (a_ (a_ tr tr) (a_ (a_ tr tr) (a_ (a_ tr (a_ (leB c10) tr)) tr))))))))))))))))))))))))) (a_ (a_ (a_ tr tr) (a_ (a_ tr tr) tr)) (a_ (a_ (a_ tr tr) tr) (a_ (a_ (a_ (a_ (Eq.refl 1) (a_ (lei_ 0 1 rfl) (lti_ 1 2 rfl))) tr) (a_ (a_ (a_ (lt_ 1 2 rfl) (lt_ 0 1 rfl)) tr) (a_ (a_ tr tr) tr))) (a_ (a_ (a_ tr tr) (a_ (a_ tr tr) (a_ (a_ (a_ tr (le_ 8 21 rfl)) tr) (a_ (a_ (a_ (conf_Book_Of_3_ok a.f_Key y12 e11 (sel [1]) (sel_inj rfl rfl)) (a_ (LO.Le.refl (.var [.nilmap])) tr)) tr) (a_ (a_ tr tr) (a_ (a_ tr tr) (a_ (a_ tr tr) (a_ (a_ tr tr) (a_ (a_ (a_ (Eq.refl 11) (a_ (le_ 11 11 rfl) (Eq.refl 0))) tr) (a_ (a_ tr tr) tr)))))))))) (a_ (a_ (a_ tr tr) (a_ (a_ tr tr) (a_ (a_ (a_ tr (le_ 8 21 rfl)) tr) (a_ (a_ tr tr) (a_ (a_ tr tr) (a_ (a_ (a_ tr (lt_ 9 21 rfl)) tr) (a_ (a_ tr tr) (a_ (a_ tr tr) (a_ (a_ (a_ tr (lt_ 10 21 rfl)) tr) (a_ (a_ tr tr) (a_ (a_ tr tr) (a_ (a_ (a_ (lei_ 0 0 rfl) (a_ (lei_ 0 8 rfl) (lei_ 8 8 rfl))) tr) (a_ (a_ (a_ (conf_Book_Next_2_ok a.f_Key a.f_Conf.f_R a.f_Conf.f_W a y14 e13 (sel [1, 0]) (sel_inj rfl rfl)) (a_ (LO.Le.refl (.var [.nilmap])) (a_ (LO.Le.refl (.var (c_T_parrellaw21_Act a))) tr))) tr) (a_ (a_ tr tr) (a_ (a_ tr tr) (a_ (a_ tr tr) (a_ (a_ tr tr) (a_ (a_ (a_ (Eq.refl 11) (a_ (le_ 11 11 rfl) (Eq.refl 0))) tr) (a_ (a_ tr tr) tr))))))))))))))))))) (a_ (a_ (a_ tr tr) (a_ (a_ tr tr) (a_ (a_ (a_ tr (le_ 8 21 rfl)) tr) (a_ (a_ tr tr) (a_ (a_ (a_ tr (le_ 19 21 rfl)) tr) (a_ (a_ (a_ (conf_Book_Learn_3_ok a.f_Key a.f_Conf y16 e15 (sel [1]) (sel_inj rfl rfl)) (a_ (LO.Le.refl (.var [.nilmap])) tr)) tr) (a_ (a_ tr tr) (a_ (a_ tr tr) (a_ (a_ tr tr) (a_ (a_ tr tr) (a_ (a_ tr tr) (a_ (a_ (a_ tr (le_ 11 11 rfl)) tr) (a_ (a_ (Eq.refl true) tr) (a_ (a_ tr (a_ (leB (congrArg not (k_T_api_Config y14 (T_api_Config.mk 0 0 0 (A8.mk 0 0 0 0 0 0 0 0))))) tr)) (a_ (a_ tr tr) (a_ (a_ tr (a_ (leB c17) tr)) (a_ (a_ tr tr) (a_ (a_ tr tr) (a_ (a_ tr tr) (a_ (a_ tr tr) (a_ (a_ tr tr) (a_ (a_ (a_ (conf_Book_Keys_3_ok  y19 e18 (sel [1]) (sel_inj rfl rfl)) (a_ (LO.Le.refl (.var [.nilmap])) tr)) tr) (a_ (a_ tr tr) (a_ (a_ tr tr) (a_ (a_ tr (a_ (leB c20) tr)) tr))))))))))))))))))))))))) (a_ (a_ (a_ tr tr) (a_ (a_ tr tr) tr)) (a_ (a_ (a_ tr tr) tr) (a_ (a_ (a_ (a_ (parrellaw21_alive_tri  y22 e21) tr) tr) (a_ (a_ tr tr) tr)) tr)))))))))))))))) tr) (by kernel_rfl) rfl

theorem parrellaw21_ConfNobody_tri (a : T_parrellaw21_Act) (r : (Bool)) (h : parrellaw21_ConfNobody a = some r) : FnTri Tryd.prog 6 [v_T_parrellaw21_Act a] [] (parrellaw21_ConfNobody_v r) [] := FnTri.none (parrellaw21_ConfNobody_ok a r h) rfl rfl

/-- parrel/parrelref06.Total -/

def parrelref06_Total_v (r : (Int)) : LV := .int .i64 r

def parrelref06_Total_T0 (c : T_api_Config) (x_n : Int) (i : Int) : List LV := [.any, .ptr 0 0 0, .any, .int .i64 x_n, .int .i64 i, .any, .any, .any, .any, .any, .any, .any, .any, .any, .any, .any, .any]

def parrelref06_Total_H0 (c : T_api_Config) (x_n : Int) (i : Int) : Heap := [some (.var (c_T_api_Config c))]

def parrelref06_Total_l0 (c : T_api_Config)  : Nat → (Int) → (Int) → Option ((Int))
  | 0, _, _ => none
  | fuel + 1, x_n, i =>
    if ((decide (i < 8)) : Bool) then
      if 0 ≤ i ∧ i < 8 then
      parrelref06_Total_l0 c  fuel (IntKind.wrap .i64 (x_n + (IntKind.wrap .i64 (A8.get c.f_Votes i.toNat)))) (IntKind.wrap .i64 (i + 1))
      else none
    else
      some x_n

def parrelref06_Total (c : T_api_Config) : Option ((Int)) :=
  parrelref06_Total_l0 c  big 0 0

theorem parrelref06_Total_l0_ok {w0 : World} {W : Nat → Prop} {μ0 : Emb} (hμ : ∀ c p, μ0 c = some p → c < 0) (c : T_api_Config)  : ∀ (fuel : Nat) (x_n : Int) (i : Int) (r : (Int)), parrelref06_Total_l0 c  fuel x_n i = some r → kont Tryd.prog w0 W μ0 (FnPost Tryd.prog Tryd.f43 0 0 (parrelref06_Total_v r) []) (kAt (bodyOf Tryd.f43) 0) none (parrelref06_Total_T0 c x_n i) (parrelref06_Total_H0 c x_n i) := by
  intro fuel
  induction fuel with
  | zero => intro x_n i r h; rw [parrelref06_Total_l0] at h; cases h
  | succ fuel ih =>
    intro x_n i r h
    rw [parrelref06_Total_l0] at h
    rcases itb_some h with ⟨cL0_1, h⟩ | ⟨cL0_1, h⟩
    · skip
      obtain ⟨gL0_2, h⟩ := guard_some h
      exact run_to mixed hμ (L := [0]) (n := 23) (s := [.go, .reg [(1, { v := some (.bool true) })], .reg [(4, { v := some (.int .u8 (A8.get c.f_Votes i.toNat)) })], .reg []])
        (a_ (a_ (a_ tr tr) (a_ (a_ tr (a_ (leB cL0_1) tr)) tr)) (a_ (a_ (a_ tr tr) (a_ (a_ tr tr) (a_ (a_ tr tr) (a_ (a_ gL0_2 tr) (a_ (a_ (a_ tr (arrLt (len := 8) gL0_2 3 1 11 rfl rfl)) (a_ (ld8s (cInt .u8) 1 (fun _ => rfl) c.f_Votes [.int .u32 c.f_Epoch, .int .u8 c.f_R, .int .u8 c.f_W] [] 3 rfl i.toNat (lt8N gL0_2) (le_ (0 + 1) 1 rfl)) tr)) (a_ (a_ tr tr) (a_ (a_ tr tr) (a_ (a_ tr tr) tr)))))))) (a_ (a_ (a_ tr tr) (a_ (a_ tr tr) (a_ (a_ tr tr) tr))) tr))) (ih _ _ r h) (by kernel_rfl) ⟨rfl, trivial⟩
    · skip
      obtain rfl := Option.some.inj h
      exact run_ret mixed (L := []) (n := 19) (s := [.go, .reg [(1, { v := some (.bool false) })], .reg []])
        (a_ (a_ (a_ (a_ tr tr) (a_ (a_ tr (a_ (leB cL0_1) tr)) tr)) (a_ (a_ (a_ tr tr) (a_ (a_ tr tr) tr)) tr)) tr) (by kernel_rfl) rfl

theorem parrelref06_Total_ok (c : T_api_Config) (r : (Int)) (h : parrelref06_Total c = some r) : ∀ σ, Inj 0 σ → FnTri Tryd.prog 43 (renL σ [v_T_api_Config c]) (preOf σ 0 []) ((parrelref06_Total_v r).ren σ) (upOf σ []) := by
  refine fn_of Tryd.func43 (by kernel_rfl) (by kernel_rfl) (by kernel_rfl) trivial (by kernel_rfl) trivial (by kernel_rfl) ?_
  intro w0 W μ0 hμ
  unfold parrelref06_Total at h
  exact run_to mixed hμ (L := [0]) (n := 21) (s := [.reg [], .reg [], .reg []])
    (a_ (a_ (a_ tr tr) (a_ (a_ tr tr) tr)) (a_ (a_ (a_ tr tr) tr) (a_ (a_ (a_ tr tr) tr) tr))) (parrelref06_Total_l0_ok hμ c  big _ _ r h) (by kernel_rfl) ⟨rfl, trivial⟩

theorem parrelref06_Total_tri (c : T_api_Config) (r : (Int)) (h : parrelref06_Total c = some r) : FnTri Tryd.prog 43 [v_T_api_Config c] [] (parrelref06_Total_v r) [] := FnTri.none (parrelref06_Total_ok c r h) rfl rfl

/-- parrel/parrelref06.May -/

def parrelref06_May_v (r : (Bool)) : LV := .bool r

def parrelref06_May_T0 (c : T_api_Config) (y2 : (Int)) (i : Int) : List LV := [.any, .ptr 0 0 0, .any, .int .i64 y2, .int .i64 (IntKind.wrap .i64 c.f_R), .int .i64 (IntKind.wrap .i64 c.f_W), .int .i64 i, .any, .any, .any, .any, .any, .any, .any, .any, .any, .any, .any, .any, .any, .any, .any, .any, .any, .any, .any, .any, .any, .any, .any, .any, .any, .any, .any, .any, .any, .any, .any, .any, .any, .any, .any, .any, .any, .any, .any, .any, .any, .any, .any, .any, .any, .any, .any, .any, .any, .any, .any, .any, .any, .any, .any, .any]

def parrelref06_May_H0 (c : T_api_Config) (y2 : (Int)) (i : Int) : Heap := [some (.var (c_T_api_Config c))]

def parrelref06_May_l0 (c : T_api_Config) (y2 : (Int))  : Nat → (Int) → Option ((Bool))
  | 0, _ => none
  | fuel + 1, i =>
    if ((decide (i < 8)) : Bool) then
      if 0 ≤ i ∧ i < 8 then
      if ((decide (15 < (A8.get c.f_Votes i.toNat))) : Bool) then
        some false
      else
        parrelref06_May_l0 c y2  fuel (IntKind.wrap .i64 (i + 1))
      else none
    else
      if ((decide (1 ≤ c.f_Epoch)) : Bool) then
        if ((decide (c.f_Epoch ≤ 2147483647)) : Bool) then
          if ((decide (1 ≤ (IntKind.wrap .i64 c.f_R))) : Bool) then
            if ((decide (1 ≤ (IntKind.wrap .i64 c.f_W))) : Bool) then
              if ((decide ((IntKind.wrap .i64 c.f_R) ≤ y2)) : Bool) then
                if ((decide ((IntKind.wrap .i64 c.f_W) ≤ y2)) : Bool) then
                  if ((decide (y2 < (IntKind.wrap .i64 ((IntKind.wrap .i64 c.f_R) + (IntKind.wrap .i64 c.f_W))))) : Bool) then
                    some (decide (y2 < (IntKind.wrap .i64 (2 * (IntKind.wrap .i64 c.f_W)))))
                  else
                    some false
                else
                  some false
              else
                some false
            else
              some false
          else
            some false
        else
          some false
      else
        some false

def parrelref06_May (c : T_api_Config) : Option ((Bool)) :=
  (parrelref06_Total c).bind fun y2 =>
  parrelref06_May_l0 c y2  big 0

theorem parrelref06_May_l0_ok {w0 : World} {W : Nat → Prop} {μ0 : Emb} (hμ : ∀ c p, μ0 c = some p → c < 0) (c : T_api_Config) (y2 : (Int))  : ∀ (fuel : Nat) (i : Int) (r : (Bool)), parrelref06_May_l0 c y2  fuel i = some r → kont Tryd.prog w0 W μ0 (FnPost Tryd.prog Tryd.f25 0 0 (parrelref06_May_v r) []) (kAt (bodyOf Tryd.f25) 0) none (parrelref06_May_T0 c y2 i) (parrelref06_May_H0 c y2 i) := by
  intro fuel
  induction fuel with
  | zero => intro i r h; rw [parrelref06_May_l0] at h; cases h
  | succ fuel ih =>
    intro i r h
    rw [parrelref06_May_l0] at h
    rcases itb_some h with ⟨cL0_1, h⟩ | ⟨cL0_1, h⟩
    · skip
      obtain ⟨gL0_2, h⟩ := guard_some h
      rcases itb_some h with ⟨cL0_3, h⟩ | ⟨cL0_3, h⟩
      · skip
        obtain rfl := Option.some.inj h
        exact run_ret mixed (L := []) (n := 25) (s := [.go, .reg [(1, { v := some (.bool true) })], .reg [(3, { v := some (.int .u8 (A8.get c.f_Votes i.toNat)) }), (4, { v := some (.bool true) })], .reg []])
          (a_ (a_ (a_ (a_ tr tr) (a_ (a_ tr (a_ (leB cL0_1) tr)) tr)) (a_ (a_ (a_ tr tr) (a_ (a_ tr tr) (a_ (a_ gL0_2 tr) (a_ (a_ (a_ tr (arrLt (len := 8) gL0_2 3 1 11 rfl rfl)) (a_ (ld8s (cInt .u8) 1 (fun _ => rfl) c.f_Votes [.int .u32 c.f_Epoch, .int .u8 c.f_R, .int .u8 c.f_W] [] 3 rfl i.toNat (lt8N gL0_2) (le_ (0 + 1) 1 rfl)) tr)) (a_ (a_ tr (a_ (leB cL0_3) tr)) tr))))) (a_ (a_ (a_ tr tr) tr) tr))) tr) (by kernel_rfl) rfl
      · skip
        exact run_to mixed hμ (L := [0]) (n := 26) (s := [.go, .reg [(1, { v := some (.bool true) })], .reg [(3, { v := some (.int .u8 (A8.get c.f_Votes i.toNat)) }), (4, { v := some (.bool false) })], .reg []])
          (a_ (a_ (a_ tr tr) (a_ (a_ tr (a_ (leB cL0_1) tr)) tr)) (a_ (a_ (a_ tr tr) (a_ (a_ tr tr) (a_ (a_ gL0_2 tr) (a_ (a_ (a_ tr (arrLt (len := 8) gL0_2 3 1 11 rfl rfl)) (a_ (ld8s (cInt .u8) 1 (fun _ => rfl) c.f_Votes [.int .u32 c.f_Epoch, .int .u8 c.f_R, .int .u8 c.f_W] [] 3 rfl i.toNat (lt8N gL0_2) (le_ (0 + 1) 1 rfl)) tr)) (a_ (a_ tr (a_ (leB cL0_3) tr)) tr))))) (a_ (a_ (a_ tr tr) (a_ (a_ tr tr) (a_ (a_ tr tr) tr))) tr))) (ih _ r h) (by kernel_rfl) ⟨rfl, trivial⟩
    · skip
      rcases itb_some h with ⟨cL0_2, h⟩ | ⟨cL0_2, h⟩
      · skip
        rcases itb_some h with ⟨cL0_3, h⟩ | ⟨cL0_3, h⟩
        · skip
          rcases itb_some h with ⟨cL0_4, h⟩ | ⟨cL0_4, h⟩
          · skip
            rcases itb_some h with ⟨cL0_5, h⟩ | ⟨cL0_5, h⟩
            · skip
              rcases itb_some h with ⟨cL0_6, h⟩ | ⟨cL0_6, h⟩
              · skip
                rcases itb_some h with ⟨cL0_7, h⟩ | ⟨cL0_7, h⟩
                · skip
                  rcases itb_some h with ⟨cL0_8, h⟩ | ⟨cL0_8, h⟩
                  · skip
                    obtain rfl := Option.some.inj h
                    exact run_ret mixed (L := []) (n := 19) (s := [.go, .reg [(1, { v := some (.bool false) })], .reg [(3, { v := some (.bool true) }), (8, { v := some (.bool true) }), (12, { v := some (.bool true) }), (16, { v := some (.bool true) }), (21, { v := some (.bool true) }), (26, { v := some (.bool true) }), (33, { v := some (.bool true) })]])
                      (a_ (a_ (a_ (a_ tr tr) (a_ (a_ tr (a_ (leB cL0_1) tr)) tr)) (a_ (a_ (a_ tr tr) (a_ (a_ (a_ tr (lt_ 0 11 rfl)) tr) (a_ (a_ tr tr) (a_ (a_ tr (a_ (leB cL0_2) tr)) (a_ (a_ tr tr) (a_ (a_ (a_ tr (lt_ 0 11 rfl)) tr) (a_ (a_ tr tr) (a_ (a_ tr tr) (a_ (a_ tr (a_ (leB cL0_3) tr)) (a_ (a_ tr tr) (a_ (a_ tr tr) (a_ (a_ tr tr) (a_ (a_ tr (a_ (leB cL0_4) tr)) (a_ (a_ tr tr) (a_ (a_ tr tr) (a_ (a_ tr tr) (a_ (a_ tr (a_ (leB cL0_5) tr)) (a_ (a_ tr tr) (a_ (a_ tr tr) (a_ (a_ tr tr) (a_ (a_ tr tr) (a_ (a_ tr (a_ (leB cL0_6) tr)) (a_ (a_ tr tr) (a_ (a_ tr tr) (a_ (a_ tr tr) (a_ (a_ tr tr) (a_ (a_ tr (a_ (leB cL0_7) tr)) (a_ (a_ tr tr) (a_ (a_ tr tr) (a_ (a_ tr tr) (a_ (a_ tr tr) (a_ (a_ tr tr) (a_ (a_ tr tr) (a_ (a_ tr (a_ (leB cL0_8) tr)) (a_ (a_ tr tr) (a_ (a_ tr tr) (a_ (a_ tr tr) (a_ (a_ tr tr) (a_ (a_ tr tr) (a_ (a_ tr tr) tr)))))))))))))))))))))))))))))))))))))))) tr)) tr) (by kernel_rfl) rfl
                  · skip
                    obtain rfl := Option.some.inj h
                    exact run_ret mixed (L := []) (n := 19) (s := [.go, .reg [(1, { v := some (.bool false) })], .reg [(3, { v := some (.bool true) }), (8, { v := some (.bool true) }), (12, { v := some (.bool true) }), (16, { v := some (.bool true) }), (21, { v := some (.bool true) }), (26, { v := some (.bool true) }), (33, { v := some (.bool false) })]])
                      (a_ (a_ (a_ (a_ tr tr) (a_ (a_ tr (a_ (leB cL0_1) tr)) tr)) (a_ (a_ (a_ tr tr) (a_ (a_ (a_ tr (lt_ 0 11 rfl)) tr) (a_ (a_ tr tr) (a_ (a_ tr (a_ (leB cL0_2) tr)) (a_ (a_ tr tr) (a_ (a_ (a_ tr (lt_ 0 11 rfl)) tr) (a_ (a_ tr tr) (a_ (a_ tr tr) (a_ (a_ tr (a_ (leB cL0_3) tr)) (a_ (a_ tr tr) (a_ (a_ tr tr) (a_ (a_ tr tr) (a_ (a_ tr (a_ (leB cL0_4) tr)) (a_ (a_ tr tr) (a_ (a_ tr tr) (a_ (a_ tr tr) (a_ (a_ tr (a_ (leB cL0_5) tr)) (a_ (a_ tr tr) (a_ (a_ tr tr) (a_ (a_ tr tr) (a_ (a_ tr tr) (a_ (a_ tr (a_ (leB cL0_6) tr)) (a_ (a_ tr tr) (a_ (a_ tr tr) (a_ (a_ tr tr) (a_ (a_ tr tr) (a_ (a_ tr (a_ (leB cL0_7) tr)) (a_ (a_ tr tr) (a_ (a_ tr tr) (a_ (a_ tr tr) (a_ (a_ tr tr) (a_ (a_ tr tr) (a_ (a_ tr tr) (a_ (a_ tr (a_ (leB cL0_8) tr)) (a_ tr (a_ tr (a_ tr (a_ tr (a_ (a_ tr tr) (a_ (a_ tr tr) tr)))))))))))))))))))))))))))))))))))))))) tr)) tr) (by kernel_rfl) rfl
                · skip
                  obtain rfl := Option.some.inj h
                  exact run_ret mixed (L := []) (n := 19) (s := [.go, .reg [(1, { v := some (.bool false) })], .reg [(3, { v := some (.bool true) }), (8, { v := some (.bool true) }), (12, { v := some (.bool true) }), (16, { v := some (.bool true) }), (21, { v := some (.bool true) }), (26, { v := some (.bool false) })]])
                    (a_ (a_ (a_ (a_ tr tr) (a_ (a_ tr (a_ (leB cL0_1) tr)) tr)) (a_ (a_ (a_ tr tr) (a_ (a_ (a_ tr (lt_ 0 11 rfl)) tr) (a_ (a_ tr tr) (a_ (a_ tr (a_ (leB cL0_2) tr)) (a_ (a_ tr tr) (a_ (a_ (a_ tr (lt_ 0 11 rfl)) tr) (a_ (a_ tr tr) (a_ (a_ tr tr) (a_ (a_ tr (a_ (leB cL0_3) tr)) (a_ (a_ tr tr) (a_ (a_ tr tr) (a_ (a_ tr tr) (a_ (a_ tr (a_ (leB cL0_4) tr)) (a_ (a_ tr tr) (a_ (a_ tr tr) (a_ (a_ tr tr) (a_ (a_ tr (a_ (leB cL0_5) tr)) (a_ (a_ tr tr) (a_ (a_ tr tr) (a_ (a_ tr tr) (a_ (a_ tr tr) (a_ (a_ tr (a_ (leB cL0_6) tr)) (a_ (a_ tr tr) (a_ (a_ tr tr) (a_ (a_ tr tr) (a_ (a_ tr tr) (a_ (a_ tr (a_ (leB cL0_7) tr)) (a_ tr (a_ tr (a_ tr (a_ tr (a_ tr (a_ (a_ tr tr) (a_ (a_ tr tr) (a_ tr (a_ tr (a_ tr (a_ tr (a_ (a_ tr tr) (a_ (a_ tr tr) tr)))))))))))))))))))))))))))))))))))))))) tr)) tr) (by kernel_rfl) rfl
              · skip
                obtain rfl := Option.some.inj h
                exact run_ret mixed (L := []) (n := 19) (s := [.go, .reg [(1, { v := some (.bool false) })], .reg [(3, { v := some (.bool true) }), (8, { v := some (.bool true) }), (12, { v := some (.bool true) }), (16, { v := some (.bool true) }), (21, { v := some (.bool false) })]])
                  (a_ (a_ (a_ (a_ tr tr) (a_ (a_ tr (a_ (leB cL0_1) tr)) tr)) (a_ (a_ (a_ tr tr) (a_ (a_ (a_ tr (lt_ 0 11 rfl)) tr) (a_ (a_ tr tr) (a_ (a_ tr (a_ (leB cL0_2) tr)) (a_ (a_ tr tr) (a_ (a_ (a_ tr (lt_ 0 11 rfl)) tr) (a_ (a_ tr tr) (a_ (a_ tr tr) (a_ (a_ tr (a_ (leB cL0_3) tr)) (a_ (a_ tr tr) (a_ (a_ tr tr) (a_ (a_ tr tr) (a_ (a_ tr (a_ (leB cL0_4) tr)) (a_ (a_ tr tr) (a_ (a_ tr tr) (a_ (a_ tr tr) (a_ (a_ tr (a_ (leB cL0_5) tr)) (a_ (a_ tr tr) (a_ (a_ tr tr) (a_ (a_ tr tr) (a_ (a_ tr tr) (a_ (a_ tr (a_ (leB cL0_6) tr)) (a_ tr (a_ tr (a_ tr (a_ (a_ tr tr) (a_ (a_ tr tr) (a_ tr (a_ tr (a_ tr (a_ tr (a_ tr (a_ (a_ tr tr) (a_ (a_ tr tr) (a_ tr (a_ tr (a_ tr (a_ tr (a_ (a_ tr tr) (a_ (a_ tr tr) tr)))))))))))))))))))))))))))))))))))))))) tr)) tr) (by kernel_rfl) rfl
            · skip
              obtain rfl := Option.some.inj h
              exact run_ret mixed (L := []) (n := 19) (s := [.go, .reg [(1, { v := some (.bool false) })], .reg [(3, { v := some (.bool true) }), (8, { v := some (.bool true) }), (12, { v := some (.bool true) }), (16, { v := some (.bool false) })]])
                (a_ (a_ (a_ (a_ tr tr) (a_ (a_ tr (a_ (leB cL0_1) tr)) tr)) (a_ (a_ (a_ tr tr) (a_ (a_ (a_ tr (lt_ 0 11 rfl)) tr) (a_ (a_ tr tr) (a_ (a_ tr (a_ (leB cL0_2) tr)) (a_ (a_ tr tr) (a_ (a_ (a_ tr (lt_ 0 11 rfl)) tr) (a_ (a_ tr tr) (a_ (a_ tr tr) (a_ (a_ tr (a_ (leB cL0_3) tr)) (a_ (a_ tr tr) (a_ (a_ tr tr) (a_ (a_ tr tr) (a_ (a_ tr (a_ (leB cL0_4) tr)) (a_ (a_ tr tr) (a_ (a_ tr tr) (a_ (a_ tr tr) (a_ (a_ tr (a_ (leB cL0_5) tr)) (a_ tr (a_ tr (a_ tr (a_ (a_ tr tr) (a_ (a_ tr tr) (a_ tr (a_ tr (a_ tr (a_ (a_ tr tr) (a_ (a_ tr tr) (a_ tr (a_ tr (a_ tr (a_ tr (a_ tr (a_ (a_ tr tr) (a_ (a_ tr tr) (a_ tr (a_ tr (a_ tr (a_ tr (a_ (a_ tr tr) (a_ (a_ tr tr) tr)))))))))))))))))))))))))))))))))))))))) tr)) tr) (by kernel_rfl) rfl
          · skip
            obtain rfl := Option.some.inj h
            exact run_ret mixed (L := []) (n := 19) (s := [.go, .reg [(1, { v := some (.bool false) })], .reg [(3, { v := some (.bool true) }), (8, { v := some (.bool true) }), (12, { v := some (.bool false) })]])
              (a_ (a_ (a_ (a_ tr tr) (a_ (a_ tr (a_ (leB cL0_1) tr)) tr)) (a_ (a_ (a_ tr tr) (a_ (a_ (a_ tr (lt_ 0 11 rfl)) tr) (a_ (a_ tr tr) (a_ (a_ tr (a_ (leB cL0_2) tr)) (a_ (a_ tr tr) (a_ (a_ (a_ tr (lt_ 0 11 rfl)) tr) (a_ (a_ tr tr) (a_ (a_ tr tr) (a_ (a_ tr (a_ (leB cL0_3) tr)) (a_ (a_ tr tr) (a_ (a_ tr tr) (a_ (a_ tr tr) (a_ (a_ tr (a_ (leB cL0_4) tr)) (a_ tr (a_ tr (a_ (a_ tr tr) (a_ (a_ tr tr) (a_ tr (a_ tr (a_ tr (a_ (a_ tr tr) (a_ (a_ tr tr) (a_ tr (a_ tr (a_ tr (a_ (a_ tr tr) (a_ (a_ tr tr) (a_ tr (a_ tr (a_ tr (a_ tr (a_ tr (a_ (a_ tr tr) (a_ (a_ tr tr) (a_ tr (a_ tr (a_ tr (a_ tr (a_ (a_ tr tr) (a_ (a_ tr tr) tr)))))))))))))))))))))))))))))))))))))))) tr)) tr) (by kernel_rfl) rfl
        · skip
          obtain rfl := Option.some.inj h
          exact run_ret mixed (L := []) (n := 19) (s := [.go, .reg [(1, { v := some (.bool false) })], .reg [(3, { v := some (.bool true) }), (8, { v := some (.bool false) })]])
            (a_ (a_ (a_ (a_ tr tr) (a_ (a_ tr (a_ (leB cL0_1) tr)) tr)) (a_ (a_ (a_ tr tr) (a_ (a_ (a_ tr (lt_ 0 11 rfl)) tr) (a_ (a_ tr tr) (a_ (a_ tr (a_ (leB cL0_2) tr)) (a_ (a_ tr tr) (a_ (a_ (a_ tr (lt_ 0 11 rfl)) tr) (a_ (a_ tr tr) (a_ (a_ tr tr) (a_ (a_ tr (a_ (leB cL0_3) tr)) (a_ tr (a_ tr (a_ (a_ tr tr) (a_ (a_ tr tr) (a_ tr (a_ tr (a_ (a_ tr tr) (a_ (a_ tr tr) (a_ tr (a_ tr (a_ tr (a_ (a_ tr tr) (a_ (a_ tr tr) (a_ tr (a_ tr (a_ tr (a_ (a_ tr tr) (a_ (a_ tr tr) (a_ tr (a_ tr (a_ tr (a_ tr (a_ tr (a_ (a_ tr tr) (a_ (a_ tr tr) (a_ tr (a_ tr (a_ tr (a_ tr (a_ (a_ tr tr) (a_ (a_ tr tr) tr)))))))))))))))))))))))))))))))))))))))) tr)) tr) (by kernel_rfl) rfl
      · skip
        obtain rfl := Option.some.inj h
        exact run_ret mixed (L := []) (n := 19) (s := [.go, .reg [(1, { v := some (.bool false) })], .reg [(3, { v := some (.bool false) })]])
          (a_ (a_ (a_ (a_ tr tr) (a_ (a_ tr (a_ (leB cL0_1) tr)) tr)) (a_ (a_ (a_ tr tr) (a_ (a_ (a_ tr (lt_ 0 11 rfl)) tr) (a_ (a_ tr tr) (a_ (a_ tr (a_ (leB cL0_2) tr)) (a_ tr (a_ tr (a_ tr (a_ (a_ tr tr) (a_ (a_ tr tr) (a_ tr (a_ tr (a_ (a_ tr tr) (a_ (a_ tr tr) (a_ tr (a_ tr (a_ (a_ tr tr) (a_ (a_ tr tr) (a_ tr (a_ tr (a_ tr (a_ (a_ tr tr) (a_ (a_ tr tr) (a_ tr (a_ tr (a_ tr (a_ (a_ tr tr) (a_ (a_ tr tr) (a_ tr (a_ tr (a_ tr (a_ tr (a_ tr (a_ (a_ tr tr) (a_ (a_ tr tr) (a_ tr (a_ tr (a_ tr (a_ tr (a_ (a_ tr tr) (a_ (a_ tr tr) tr)))))))))))))))))))))))))))))))))))))))) tr)) tr) (by kernel_rfl) rfl

theorem parrelref06_May_ok (c : T_api_Config) (r : (Bool)) (h : parrelref06_May c = some r) : ∀ σ, Inj 0 σ → FnTri Tryd.prog 25 (renL σ [v_T_api_Config c]) (preOf σ 0 []) ((parrelref06_May_v r).ren σ) (upOf σ []) := by
  refine fn_of Tryd.func25 (by kernel_rfl) (by kernel_rfl) (by kernel_rfl) trivial (by kernel_rfl) trivial (by kernel_rfl) ?_
  intro w0 W μ0 hμ
  unfold parrelref06_May at h
  obtain ⟨y2, e1, h⟩ := bind_some h
  exact run_to mixed hμ (L := [0]) (n := 21) (s := [.reg [], .reg [(1, { call := some (parrelref06_Total_v y2, [], []) })], .reg []])
    (a_ (a_ (a_ tr tr) (a_ (a_ tr tr) tr)) (a_ (a_ (a_ (a_ tr (le_ 11 11 rfl)) tr) (a_ (a_ (a_ (parrelref06_Total_tri c y2 e1) tr) tr) (a_ (a_ tr tr) (a_ (a_ (a_ tr (lt_ 1 11 rfl)) tr) (a_ (a_ tr tr) (a_ (a_ tr tr) (a_ (a_ (a_ tr (lt_ 2 11 rfl)) tr) (a_ (a_ tr tr) (a_ (a_ tr tr) (a_ (a_ tr tr) (a_ (a_ tr tr) tr))))))))))) (a_ (a_ (a_ tr tr) tr) tr))) (parrelref06_May_l0_ok hμ c y2  big _ r h) (by kernel_rfl) ⟨rfl, trivial⟩

theorem parrelref06_May_tri (c : T_api_Config) (r : (Bool)) (h : parrelref06_May c = some r) : FnTri Tryd.prog 25 [v_T_api_Config c] [] (parrelref06_May_v r) [] := FnTri.none (parrelref06_May_ok c r h) rfl rfl

/-- parrel/bits.Next -/

def bits_Next_v (r : (Int) × (Int)) : LV := .tup [.int .u32 r.1, .int .i64 r.2]

def bits_Next (x_n : Int) : Option ((Int) × (Int)) :=
  if ((decide (2147483647 ≤ x_n)) : Bool) then
    some (x_n, 17)
  else
    some ((IntKind.wrap .u32 (x_n + 1)), 0)

theorem bits_Next_ok (x_n : Int) (r : (Int) × (Int)) (h : bits_Next x_n = some r) : ∀ σ, Inj 0 σ → FnTri Tryd.prog 37 (renL σ [.int .u32 x_n]) (preOf σ 0 []) ((bits_Next_v r).ren σ) (upOf σ []) := by
  refine fn_of Tryd.func37 (by kernel_rfl) (by kernel_rfl) (by kernel_rfl) trivial (by kernel_rfl) trivial (by kernel_rfl) ?_
  intro w0 W μ0 hμ
  unfold bits_Next at h
  rcases itb_some h with ⟨c1, h⟩ | ⟨c1, h⟩
  · skip
    obtain rfl := Option.some.inj h
    exact run_ret mixed (L := []) (n := 20) (s := [.reg [], .reg [(1, { v := some (.bool true) })], .reg []])
      (a_ (a_ (a_ (a_ tr tr) (a_ (a_ tr tr) tr)) (a_ (a_ (a_ tr tr) (a_ (a_ tr (a_ (leB c1) tr)) tr)) (a_ (a_ (a_ tr tr) (a_ (a_ tr tr) (a_ (a_ tr tr) tr))) tr))) tr) (by kernel_rfl) rfl
  · skip
    obtain rfl := Option.some.inj h
    exact run_ret mixed (L := []) (n := 21) (s := [.reg [], .reg [(1, { v := some (.bool false) })], .reg []])
      (a_ (a_ (a_ (a_ tr tr) (a_ (a_ tr tr) tr)) (a_ (a_ (a_ tr tr) (a_ (a_ tr (a_ (leB c1) tr)) tr)) (a_ (a_ (a_ tr tr) (a_ (a_ tr tr) (a_ (a_ tr tr) (a_ (a_ tr tr) tr)))) tr))) tr) (by kernel_rfl) rfl

theorem bits_Next_tri (x_n : Int) (r : (Int) × (Int)) (h : bits_Next x_n = some r) : FnTri Tryd.prog 37 [.int .u32 x_n] [] (bits_Next_v r) [] := FnTri.none (bits_Next_ok x_n r h) rfl rfl

/-- parrel/votes.Make -/

def votes_Make_v (r : (T_api_Config) × (Int)) : LV := .tup [v_T_api_Config r.1, .int .i64 r.2]

def votes_Make_up (epoch : Int) (x_r : Int) (x_w : Int) (votes : T_api_Config) (r : (T_api_Config) × (Int)) : Upd := [(0, some (.var (c_T_api_Config votes)))]

def votes_Make_objs (epoch : Int) (x_r : Int) (x_w : Int) (votes : T_api_Config) : List LO := [.var (c_T_api_Config votes)]

def votes_Make (epoch : Int) (x_r : Int) (x_w : Int) (votes : T_api_Config) : Option ((T_api_Config) × (Int)) :=
  (votes_May (T_api_Config.mk epoch x_r x_w votes.f_Votes)).bind fun y2 =>
  if ((!y2) : Bool) then
    some ((T_api_Config.mk 0 0 0 (A8.mk 0 0 0 0 0 0 0 0)), 16)
  else
    some ((T_api_Config.mk epoch x_r x_w votes.f_Votes), 0)

theorem votes_Make_ok (epoch : Int) (x_r : Int) (x_w : Int) (votes : T_api_Config) (r : (T_api_Config) × (Int)) (h : votes_Make epoch x_r x_w votes = some r) : ∀ σ, Inj 1 σ → FnTri Tryd.prog 38 (renL σ [.int .u32 epoch, .int .u8 x_r, .int .u8 x_w, .sl 0 0 3 true 8 (some 8)]) (preOf σ 0 (votes_Make_objs epoch x_r x_w votes)) ((votes_Make_v r).ren σ) (upOf σ (votes_Make_up epoch x_r x_w votes r)) := by
  refine fn_of Tryd.func38 (by kernel_rfl) (by kernel_rfl) (by kernel_rfl) ⟨rfl, trivial⟩ (by kernel_rfl) ⟨rfl, trivial⟩ (by kernel_rfl) ?_
  intro w0 W μ0 hμ
  unfold votes_Make at h
  obtain ⟨y2, e1, h⟩ := bind_some h
  rcases itb_some h with ⟨c3, h⟩ | ⟨c3, h⟩
  · skip
    obtain rfl := Option.some.inj h
    exact run_ret mixed (L := []) (n := 23) (s := [.reg [], .reg [], .reg [(9, { call := some (votes_May_v y2, [], []) }), (11, { v := some (.bool true) })], .reg []])
      (a_ (a_ (a_ (a_ tr tr) (a_ (a_ tr tr) tr)) (a_ (a_ (a_ tr tr) (a_ (a_ tr tr) (a_ (a_ tr tr) (a_ (a_ (Eq.refl true) tr) (a_ (a_ tr tr) (a_ (a_ (a_ (Eq.refl 11) (a_ (le_ 11 11 rfl) (Eq.refl 0))) tr) tr)))))) (a_ (a_ (a_ tr tr) (a_ (a_ (a_ (lei_ 0 0 rfl) (a_ (lei_ 0 8 rfl) (lei_ 8 8 rfl))) tr) (a_ (a_ tr tr) (a_ (a_ (a_ (a_ (Eq.refl 0) (le_ 11 11 rfl)) (a_ (Eq.refl 0) (a_ (le_ 11 11 rfl) (Eq.refl true)))) tr) (a_ (a_ tr tr) (a_ (a_ tr tr) (a_ (a_ tr tr) (a_ (a_ tr tr) (a_ (a_ (a_ tr (le_ 11 11 rfl)) tr) (a_ (a_ (a_ (votes_May_tri (T_api_Config.mk epoch x_r x_w votes.f_Votes) y2 e1) tr) tr) (a_ (a_ tr tr) (a_ (a_ tr (a_ (leB c3) tr)) tr)))))))))))) (a_ (a_ (a_ (Eq.refl true) tr) (a_ (a_ (a_ (Eq.refl 11) (a_ (le_ 11 11 rfl) (Eq.refl 0))) tr) (a_ (a_ tr tr) tr))) tr)))) (a_ (a_ tr (le_ 11 11 rfl)) tr)) (by kernel_rfl) rfl
  · skip
    obtain rfl := Option.some.inj h
    exact run_ret mixed (L := []) (n := 24) (s := [.reg [], .reg [], .reg [(9, { call := some (votes_May_v y2, [], []) }), (11, { v := some (.bool false) })], .reg []])
      (a_ (a_ (a_ (a_ tr tr) (a_ (a_ tr tr) tr)) (a_ (a_ (a_ tr tr) (a_ (a_ tr tr) (a_ (a_ tr tr) (a_ (a_ (Eq.refl true) tr) (a_ (a_ tr tr) (a_ (a_ (a_ (Eq.refl 11) (a_ (le_ 11 11 rfl) (Eq.refl 0))) tr) tr)))))) (a_ (a_ (a_ tr tr) (a_ (a_ (a_ (lei_ 0 0 rfl) (a_ (lei_ 0 8 rfl) (lei_ 8 8 rfl))) tr) (a_ (a_ tr tr) (a_ (a_ (a_ (a_ (Eq.refl 0) (le_ 11 11 rfl)) (a_ (Eq.refl 0) (a_ (le_ 11 11 rfl) (Eq.refl true)))) tr) (a_ (a_ tr tr) (a_ (a_ tr tr) (a_ (a_ tr tr) (a_ (a_ tr tr) (a_ (a_ (a_ tr (le_ 11 11 rfl)) tr) (a_ (a_ (a_ (votes_May_tri (T_api_Config.mk epoch x_r x_w votes.f_Votes) y2 e1) tr) tr) (a_ (a_ tr tr) (a_ (a_ tr (a_ (leB c3) tr)) tr)))))))))))) (a_ (a_ (a_ (a_ tr (le_ 11 11 rfl)) tr) (a_ (a_ (a_ (Eq.refl 11) (a_ (le_ 11 11 rfl) (Eq.refl 0))) tr) (a_ (a_ tr tr) tr))) tr)))) (a_ (a_ tr (le_ 11 11 rfl)) tr)) (by kernel_rfl) rfl

/-- (*parrel/conf.Book).Next -/

def conf_Book_Next_3_v (r : (T_api_Config) × (Int)) : LV := .tup [v_T_api_Config r.1, .int .i64 r.2]

def conf_Book_Next_3_up (m : List (A8 (Int) × T_api_Config)) (x_k : A8 (Int)) (x_r : Int) (x_w : Int) (list : T_api_Config) (r : (T_api_Config) × (Int)) : Upd := [(0, some (.var [.map 1])), (1, some (.map true [.int .u8, .int .u8, .int .u8, .int .u8, .int .u8, .int .u8, .int .u8, .int .u8] (encM (fun z_ : A8 (Int) => LV.agg [.int .u8 z_.a0, .int .u8 z_.a1, .int .u8 z_.a2, .int .u8 z_.a3, .int .u8 z_.a4, .int .u8 z_.a5, .int .u8 z_.a6, .int .u8 z_.a7]) v_T_api_Config m))), (2, some (.var (c_T_api_Config list)))]

def conf_Book_Next_3_objs (m : List (A8 (Int) × T_api_Config)) (x_k : A8 (Int)) (x_r : Int) (x_w : Int) (list : T_api_Config) : List LO := [.var [.map 1], .map true [.int .u8, .int .u8, .int .u8, .int .u8, .int .u8, .int .u8, .int .u8, .int .u8] (encM (fun z_ : A8 (Int) => LV.agg [.int .u8 z_.a0, .int .u8 z_.a1, .int .u8 z_.a2, .int .u8 z_.a3, .int .u8 z_.a4, .int .u8 z_.a5, .int .u8 z_.a6, .int .u8 z_.a7]) v_T_api_Config m), .var (c_T_api_Config list)]

def conf_Book_Next_3 (m : List (A8 (Int) × T_api_Config)) (x_k : A8 (Int)) (x_r : Int) (x_w : Int) (list : T_api_Config) : Option ((T_api_Config) × (Int)) :=
  (conf_Book_find m x_k).bind fun y2 =>
  if ((y2.2 != 0) : Bool) then
    some ((T_api_Config.mk 0 0 0 (A8.mk 0 0 0 0 0 0 0 0)), y2.2)
  else
    (bits_Next y2.1.f_Epoch).bind fun y5 =>
    if ((y5.2 != 0) : Bool) then
      some ((T_api_Config.mk 0 0 0 (A8.mk 0 0 0 0 0 0 0 0)), y5.2)
    else
      (votes_Make y5.1 x_r x_w list).bind fun y8 =>
      some (y8.1, y8.2)

theorem conf_Book_Next_3_ok (m : List (A8 (Int) × T_api_Config)) (x_k : A8 (Int)) (x_r : Int) (x_w : Int) (list : T_api_Config) (r : (T_api_Config) × (Int)) (h : conf_Book_Next_3 m x_k x_r x_w list = some r) : ∀ σ, Inj 3 σ → FnTri Tryd.prog 18 (renL σ [.ptr 0 0 0, .agg [.int .u8 x_k.a0, .int .u8 x_k.a1, .int .u8 x_k.a2, .int .u8 x_k.a3, .int .u8 x_k.a4, .int .u8 x_k.a5, .int .u8 x_k.a6, .int .u8 x_k.a7], .int .u8 x_r, .int .u8 x_w, .sl 2 0 3 true 8 (some 8)]) (preOf σ 0 (conf_Book_Next_3_objs m x_k x_r x_w list)) ((conf_Book_Next_3_v r).ren σ) (upOf σ (conf_Book_Next_3_up m x_k x_r x_w list r)) := by
  refine fn_of Tryd.func18 (by kernel_rfl) (by kernel_rfl) (by kernel_rfl) ⟨rfl, trivial, rfl, trivial⟩ (by kernel_rfl) ⟨rfl, trivial, rfl, trivial⟩ (by kernel_rfl) ?_
  intro w0 W μ0 hμ
  unfold conf_Book_Next_3 at h
  obtain ⟨y2, e1, h⟩ := bind_some h
  rcases itb_some h with ⟨c3, h⟩ | ⟨c3, h⟩
  · skip
    obtain rfl := Option.some.inj h
    exact run_ret mixed (L := []) (n := 23) (s := [.reg [], .reg [(2, { call := some ((conf_Book_find_v y2).ren (sel [0, 1]), preOf (sel [0, 1]) 0 (conf_Book_find_objs m x_k), upOf (sel [0, 1]) (conf_Book_find_up m x_k y2)) })], .reg [(1, { v := some (.bool true) })], .reg []])
      (a_ (a_ (a_ (a_ tr tr) (a_ (a_ tr tr) (a_ (a_ tr tr) tr))) (a_ (a_ (a_ tr tr) (a_ (a_ (a_ tr (le_ 8 8 rfl)) tr) (a_ (a_ (a_ (conf_Book_find_ok m x_k y2 e1 (sel [0, 1]) (sel_inj rfl rfl)) (a_ (LO.Le.refl (.var [.map 1])) (a_ (LO.Le.refl (.map true [.int .u8, .int .u8, .int .u8, .int .u8, .int .u8, .int .u8, .int .u8, .int .u8] (encM (fun z_ : A8 (Int) => LV.agg [.int .u8 z_.a0, .int .u8 z_.a1, .int .u8 z_.a2, .int .u8 z_.a3, .int .u8 z_.a4, .int .u8 z_.a5, .int .u8 z_.a6, .int .u8 z_.a7]) v_T_api_Config m))) tr))) tr) (a_ (a_ tr tr) (a_ (a_ tr tr) (a_ (a_ tr tr) (a_ (a_ tr tr) (a_ (a_ (a_ (Eq.refl 11) (a_ (le_ 11 11 rfl) (Eq.refl 0))) tr) (a_ (a_ tr tr) tr))))))))) (a_ (a_ (a_ tr tr) (a_ (a_ tr (a_ (leB c3) tr)) tr)) (a_ (a_ (a_ (Eq.refl true) tr) (a_ (a_ tr tr) (a_ (a_ (a_ (Eq.refl 11) (a_ (le_ 11 11 rfl) (Eq.refl 0))) tr) (a_ (a_ tr tr) tr)))) tr)))) (a_ (a_ tr (le_ 11 11 rfl)) tr)) (by kernel_rfl) rfl
  · skip
    obtain ⟨y5, e4, h⟩ := bind_some h
    rcases itb_some h with ⟨c6, h⟩ | ⟨c6, h⟩
    · skip
      obtain rfl := Option.some.inj h
      exact run_ret mixed (L := []) (n := 32) (s := [.reg [], .reg [(2, { call := some ((conf_Book_find_v y2).ren (sel [0, 1]), preOf (sel [0, 1]) 0 (conf_Book_find_objs m x_k), upOf (sel [0, 1]) (conf_Book_find_up m x_k y2)) })], .reg [(1, { v := some (.bool false) })], .reg [(2, { call := some (bits_Next_v y5, [], []) })], .reg [(1, { v := some (.bool true) })], .reg []])
        (a_ (a_ (a_ (a_ tr tr) (a_ (a_ tr tr) (a_ (a_ tr tr) tr))) (a_ (a_ (a_ tr tr) (a_ (a_ (a_ tr (le_ 8 8 rfl)) tr) (a_ (a_ (a_ (conf_Book_find_ok m x_k y2 e1 (sel [0, 1]) (sel_inj rfl rfl)) (a_ (LO.Le.refl (.var [.map 1])) (a_ (LO.Le.refl (.map true [.int .u8, .int .u8, .int .u8, .int .u8, .int .u8, .int .u8, .int .u8, .int .u8] (encM (fun z_ : A8 (Int) => LV.agg [.int .u8 z_.a0, .int .u8 z_.a1, .int .u8 z_.a2, .int .u8 z_.a3, .int .u8 z_.a4, .int .u8 z_.a5, .int .u8 z_.a6, .int .u8 z_.a7]) v_T_api_Config m))) tr))) tr) (a_ (a_ tr tr) (a_ (a_ tr tr) (a_ (a_ tr tr) (a_ (a_ tr tr) (a_ (a_ (a_ (Eq.refl 11) (a_ (le_ 11 11 rfl) (Eq.refl 0))) tr) (a_ (a_ tr tr) tr))))))))) (a_ (a_ (a_ tr tr) (a_ (a_ tr (a_ (leB c3) tr)) tr)) (a_ (a_ (a_ tr tr) (a_ (a_ (a_ tr (lt_ 0 11 rfl)) tr) (a_ (a_ (a_ (bits_Next_tri y2.1.f_Epoch y5 e4) tr) tr) (a_ (a_ tr tr) (a_ (a_ tr tr) (a_ (a_ tr tr) (a_ (a_ tr tr) (a_ (a_ tr tr) tr)))))))) (a_ (a_ (a_ tr tr) (a_ (a_ tr (a_ (leB c6) tr)) tr)) (a_ (a_ (a_ (Eq.refl true) tr) (a_ (a_ tr tr) (a_ (a_ (a_ (Eq.refl 11) (a_ (le_ 11 11 rfl) (Eq.refl 0))) tr) (a_ (a_ tr tr) tr)))) tr)))))) (a_ (a_ tr (le_ 11 11 rfl)) tr)) (by kernel_rfl) rfl
    · skip
      obtain ⟨y8, e7, h⟩ := bind_some h
      obtain rfl := Option.some.inj h
      exact run_ret mixed (L := []) (n := 33) (s := [.reg [], .reg [(2, { call := some ((conf_Book_find_v y2).ren (sel [0, 1]), preOf (sel [0, 1]) 0 (conf_Book_find_objs m x_k), upOf (sel [0, 1]) (conf_Book_find_up m x_k y2)) })], .reg [(1, { v := some (.bool false) })], .reg [(2, { call := some (bits_Next_v y5, [], []) })], .reg [(1, { v := some (.bool false) })], .reg [(4, { call := some ((votes_Make_v y8).ren (sel [2]), preOf (sel [2]) 0 (votes_Make_objs y5.1 x_r x_w list), upOf (sel [2]) (votes_Make_up y5.1 x_r x_w list y8)) })]])
        (a_ (a_ (a_ (a_ tr tr) (a_ (a_ tr tr) (a_ (a_ tr tr) tr))) (a_ (a_ (a_ tr tr) (a_ (a_ (a_ tr (le_ 8 8 rfl)) tr) (a_ (a_ (a_ (conf_Book_find_ok m x_k y2 e1 (sel [0, 1]) (sel_inj rfl rfl)) (a_ (LO.Le.refl (.var [.map 1])) (a_ (LO.Le.refl (.map true [.int .u8, .int .u8, .int .u8, .int .u8, .int .u8, .int .u8, .int .u8, .int .u8] (encM (fun z_ : A8 (Int) => LV.agg [.int .u8 z_.a0, .int .u8 z_.a1, .int .u8 z_.a2, .int .u8 z_.a3, .int .u8 z_.a4, .int .u8 z_.a5, .int .u8 z_.a6, .int .u8 z_.a7]) v_T_api_Config m))) tr))) tr) (a_ (a_ tr tr) (a_ (a_ tr tr) (a_ (a_ tr tr) (a_ (a_ tr tr) (a_ (a_ (a_ (Eq.refl 11) (a_ (le_ 11 11 rfl) (Eq.refl 0))) tr) (a_ (a_ tr tr) tr))))))))) (a_ (a_ (a_ tr tr) (a_ (a_ tr (a_ (leB c3) tr)) tr)) (a_ (a_ (a_ tr tr) (a_ (a_ (a_ tr (lt_ 0 11 rfl)) tr) (a_ (a_ (a_ (bits_Next_tri y2.1.f_Epoch y5 e4) tr) tr) (a_ (a_ tr tr) (a_ (a_ tr tr) (a_ (a_ tr tr) (a_ (a_ tr tr) (a_ (a_ tr tr) tr)))))))) (a_ (a_ (a_ tr tr) (a_ (a_ tr (a_ (leB c6) tr)) tr)) (a_ (a_ (a_ tr tr) (a_ (a_ tr tr) (a_ (a_ tr tr) (a_ (a_ tr tr) (a_ (a_ (a_ (votes_Make_ok y5.1 x_r x_w list y8 e7 (sel [2]) (sel_inj rfl rfl)) (a_ (LO.Le.refl (.var (c_T_api_Config list))) tr)) tr) (a_ (a_ tr tr) (a_ (a_ tr tr) (a_ (a_ (a_ (Eq.refl 11) (a_ (le_ 11 11 rfl) (Eq.refl 0))) tr) (a_ (a_ tr tr) tr))))))))) tr)))))) (a_ (a_ tr (le_ 11 11 rfl)) tr)) (by kernel_rfl) rfl

/-- parrel/votes.After -/

def votes_After_v (r : (Int)) : LV := .int .i64 r

def votes_After (old : T_api_Config) (young : T_api_Config) : Option ((Int)) :=
  (bits_Next old.f_Epoch).bind fun y2 =>
  if ((y2.2 != 0) : Bool) then
    some y2.2
  else
    if ((young.f_Epoch != y2.1) : Bool) then
      some 13
    else
      (votes_May young).bind fun y6 =>
      if ((!y6) : Bool) then
        some 16
      else
        some 0

theorem votes_After_ok (old : T_api_Config) (young : T_api_Config) (r : (Int)) (h : votes_After old young = some r) : ∀ σ, Inj 0 σ → FnTri Tryd.prog 26 (renL σ [v_T_api_Config old, v_T_api_Config young]) (preOf σ 0 []) ((votes_After_v r).ren σ) (upOf σ []) := by
  refine fn_of Tryd.func26 (by kernel_rfl) (by kernel_rfl) (by kernel_rfl) trivial (by kernel_rfl) trivial (by kernel_rfl) ?_
  intro w0 W μ0 hμ
  unfold votes_After at h
  obtain ⟨y2, e1, h⟩ := bind_some h
  rcases itb_some h with ⟨c3, h⟩ | ⟨c3, h⟩
  · skip
    obtain rfl := Option.some.inj h
    exact run_ret mixed (L := []) (n := 24) (s := [.reg [], .reg [(2, { call := some (bits_Next_v y2, [], []) })], .reg [(2, { v := some (.bool true) })], .reg []])
      (a_ (a_ (a_ (a_ tr tr) (a_ (a_ tr tr) (a_ (a_ tr tr) tr))) (a_ (a_ (a_ tr tr) (a_ (a_ (a_ tr (lt_ 0 11 rfl)) tr) (a_ (a_ (a_ (bits_Next_tri old.f_Epoch y2 e1) tr) tr) (a_ (a_ tr tr) (a_ (a_ tr tr) (a_ (a_ tr tr) (a_ (a_ tr tr) (a_ (a_ tr tr) tr)))))))) (a_ (a_ (a_ tr tr) (a_ (a_ tr tr) (a_ (a_ tr (a_ (leB c3) tr)) tr))) (a_ (a_ (a_ tr tr) (a_ (a_ tr tr) tr)) tr)))) tr) (by kernel_rfl) rfl
  · skip
    rcases itb_some h with ⟨c4, h⟩ | ⟨c4, h⟩
    · skip
      obtain rfl := Option.some.inj h
      exact run_ret mixed (L := []) (n := 28) (s := [.reg [], .reg [(2, { call := some (bits_Next_v y2, [], []) })], .reg [(2, { v := some (.bool false) })], .reg [(4, { v := some (.bool true) })], .reg []])
        (a_ (a_ (a_ (a_ tr tr) (a_ (a_ tr tr) (a_ (a_ tr tr) tr))) (a_ (a_ (a_ tr tr) (a_ (a_ (a_ tr (lt_ 0 11 rfl)) tr) (a_ (a_ (a_ (bits_Next_tri old.f_Epoch y2 e1) tr) tr) (a_ (a_ tr tr) (a_ (a_ tr tr) (a_ (a_ tr tr) (a_ (a_ tr tr) (a_ (a_ tr tr) tr)))))))) (a_ (a_ (a_ tr tr) (a_ (a_ tr tr) (a_ (a_ tr (a_ (leB c3) tr)) tr))) (a_ (a_ (a_ tr tr) (a_ (a_ (a_ tr (lt_ 0 11 rfl)) tr) (a_ (a_ tr tr) (a_ (a_ tr tr) (a_ (a_ tr (a_ (leB c4) tr)) tr))))) (a_ (a_ (a_ tr tr) tr) tr))))) tr) (by kernel_rfl) rfl
    · skip
      obtain ⟨y6, e5, h⟩ := bind_some h
      rcases itb_some h with ⟨c7, h⟩ | ⟨c7, h⟩
      · skip
        obtain rfl := Option.some.inj h
        exact run_ret mixed (L := []) (n := 32) (s := [.reg [], .reg [(2, { call := some (bits_Next_v y2, [], []) })], .reg [(2, { v := some (.bool false) })], .reg [(4, { v := some (.bool false) })], .reg [(1, { call := some (votes_May_v y6, [], []) }), (3, { v := some (.bool true) })], .reg []])
          (a_ (a_ (a_ (a_ tr tr) (a_ (a_ tr tr) (a_ (a_ tr tr) tr))) (a_ (a_ (a_ tr tr) (a_ (a_ (a_ tr (lt_ 0 11 rfl)) tr) (a_ (a_ (a_ (bits_Next_tri old.f_Epoch y2 e1) tr) tr) (a_ (a_ tr tr) (a_ (a_ tr tr) (a_ (a_ tr tr) (a_ (a_ tr tr) (a_ (a_ tr tr) tr)))))))) (a_ (a_ (a_ tr tr) (a_ (a_ tr tr) (a_ (a_ tr (a_ (leB c3) tr)) tr))) (a_ (a_ (a_ tr tr) (a_ (a_ (a_ tr (lt_ 0 11 rfl)) tr) (a_ (a_ tr tr) (a_ (a_ tr tr) (a_ (a_ tr (a_ (leB c4) tr)) tr))))) (a_ (a_ (a_ (a_ tr (le_ 11 11 rfl)) tr) (a_ (a_ (a_ (votes_May_tri young y6 e5) tr) tr) (a_ (a_ tr tr) (a_ (a_ tr (a_ (leB c7) tr)) tr)))) (a_ (a_ (a_ tr tr) tr) tr)))))) tr) (by kernel_rfl) rfl
      · skip
        obtain rfl := Option.some.inj h
        exact run_ret mixed (L := []) (n := 34) (s := [.reg [], .reg [(2, { call := some (bits_Next_v y2, [], []) })], .reg [(2, { v := some (.bool false) })], .reg [(4, { v := some (.bool false) })], .reg [(1, { call := some (votes_May_v y6, [], []) }), (3, { v := some (.bool false) })], .reg []])
          (a_ (a_ (a_ (a_ tr tr) (a_ (a_ tr tr) (a_ (a_ tr tr) tr))) (a_ (a_ (a_ tr tr) (a_ (a_ (a_ tr (lt_ 0 11 rfl)) tr) (a_ (a_ (a_ (bits_Next_tri old.f_Epoch y2 e1) tr) tr) (a_ (a_ tr tr) (a_ (a_ tr tr) (a_ (a_ tr tr) (a_ (a_ tr tr) (a_ (a_ tr tr) tr)))))))) (a_ (a_ (a_ tr tr) (a_ (a_ tr tr) (a_ (a_ tr (a_ (leB c3) tr)) tr))) (a_ (a_ (a_ tr tr) (a_ (a_ (a_ tr (lt_ 0 11 rfl)) tr) (a_ (a_ tr tr) (a_ (a_ tr tr) (a_ (a_ tr (a_ (leB c4) tr)) tr))))) (a_ (a_ (a_ (a_ tr (le_ 11 11 rfl)) tr) (a_ (a_ (a_ (votes_May_tri young y6 e5) tr) tr) (a_ (a_ tr tr) (a_ (a_ tr (a_ (leB c7) tr)) tr)))) (a_ (a_ (a_ tr tr) tr) tr)))))) tr) (by kernel_rfl) rfl

theorem votes_After_tri (old : T_api_Config) (young : T_api_Config) (r : (Int)) (h : votes_After old young = some r) : FnTri Tryd.prog 26 [v_T_api_Config old, v_T_api_Config young] [] (votes_After_v r) [] := FnTri.none (votes_After_ok old young r h) rfl rfl

/-- parrel/parrellaw21.ConfNext -/

def parrellaw21_ConfNext_v (r : (Bool)) : LV := .bool r

def parrellaw21_ConfNext (epoch : Int) (c : T_api_Config) : Option ((Bool)) :=
  (parrellaw21_first epoch).bind fun y2 =>
  (conf_New y2).bind fun y4 =>
  if (y4.1 : Bool) then
    (parrellaw21_one epoch).bind fun y7 =>
    (parrelref06_May y7).bind fun y9 =>
    if ((!y9) : Bool) then
      (parrellaw21_alive).bind fun y12 =>
      some y12
    else
      some false
  else
    (conf_Book_Next_3 y4.2.2 (A8.mk 97 0 0 0 0 0 0 0) c.f_R c.f_W c).bind fun y7 =>
    (conf_Book_Of y4.2.2 (A8.mk 97 0 0 0 0 0 0 0)).bind fun y9 =>
    (parrellaw21_one epoch).bind fun y11 =>
    if ((!decide (y9.1 = y11)) : Bool) then
      some false
    else
      if ((y7.2 != 0) : Bool) then
        if ((decide (y7.1 = (T_api_Config.mk 0 0 0 (A8.mk 0 0 0 0 0 0 0 0)))) : Bool) then
          if ((decide (2147483647 ≤ epoch)) : Bool) then
            (parrellaw21_alive).bind fun y17 =>
            some y17
          else
            (parrelref06_May (T_api_Config.mk 1 c.f_R c.f_W c.f_Votes)).bind fun y17 =>
            if ((!y17) : Bool) then
              (parrellaw21_alive).bind fun y20 =>
              some y20
            else
              some false
        else
          some false
      else
        if ((y7.1.f_Epoch == (IntKind.wrap .u32 (epoch + 1))) : Bool) then
          if ((y7.1.f_R == c.f_R) : Bool) then
            if ((y7.1.f_W == c.f_W) : Bool) then
              if ((decide (y7.1.f_Votes = c.f_Votes)) : Bool) then
                (votes_After y9.1 y7.1).bind fun y19 =>
                if ((y19 == 0) : Bool) then
                  (conf_Book_Learn y4.2.2 (A8.mk 97 0 0 0 0 0 0 0) y7.1).bind fun y22 =>
                  if ((y22.1 == 0) : Bool) then
                    (parrellaw21_alive).bind fun y25 =>
                    some y25
                  else
                    some false
                else
                  some false
              else
                some false
            else
              some false
          else
            some false
        else
          some false

theorem parrellaw21_ConfNext_ok (epoch : Int) (c : T_api_Config) (r : (Bool)) (h : parrellaw21_ConfNext epoch c = some r) : ∀ σ, Inj 0 σ → FnTri Tryd.prog 7 (renL σ [.int .u32 epoch, v_T_api_Config c]) (preOf σ 0 []) ((parrellaw21_ConfNext_v r).ren σ) (upOf σ []) := by
  refine fn_of Tryd.func7 (by kernel_rfl) (by kernel_rfl) (by kernel_rfl) trivial (by kernel_rfl) trivial (by kernel_rfl) ?_
  intro w0 W μ0 hμ
  unfold parrellaw21_ConfNext at h
  obtain ⟨y2, e1, h⟩ := bind_some h
  obtain ⟨y4, e3, h⟩ := bind_some h
  rcases itb_some h with ⟨c5, h⟩ | ⟨c5, h⟩
  · skip
    obtain ⟨y7, e6, h⟩ := bind_some h
    obtain ⟨y9, e8, h⟩ := bind_some h
    rcases itb_some h with ⟨c10, h⟩ | ⟨c10, h⟩
    · skip
      obtain ⟨y12, e11, h⟩ := bind_some h
      obtain rfl := Option.some.inj h
      exact run_ret mixed (L := []) (n := 23) (s := [.reg [], .reg [(1, { call := some (parrellaw21_first_v y2, [], []) }), (2, { call := some (conf_New_vA y4.2.1, [], []) })], .reg [], .reg [(4, { call := some (parrellaw21_one_v y7, [], []) }), (5, { call := some (parrelref06_May_v y9, [], []) }), (8, { v := some (.bool true) }), (9, { call := some (parrellaw21_alive_v y12, [], []) })]])
        (a_ (a_ (a_ (a_ tr tr) (a_ (a_ tr tr) tr)) (a_ (a_ (a_ tr tr) (a_ (a_ (a_ (parrellaw21_first_tri epoch y2 e1) tr) tr) (a_ (a_ (a_ (conf_New_triA y2 y4.2.1 y4.2.2 (altA e3 c5)) tr) tr) (a_ (a_ tr tr) (a_ (a_ tr tr) (a_ (a_ tr tr) (a_ (a_ tr tr) (a_ (a_ tr tr) tr)))))))) (a_ (a_ (a_ tr tr) (a_ (a_ tr tr) tr)) (a_ (a_ (a_ tr tr) (a_ (a_ tr tr) (a_ (a_ tr tr) (a_ (a_ tr tr) (a_ (a_ (a_ (parrellaw21_one_tri epoch y7 e6) tr) tr) (a_ (a_ (a_ (parrelref06_May_tri y7 y9 e8) tr) tr) (a_ (a_ tr tr) (a_ (a_ tr tr) (a_ (a_ tr (a_ (leB c10) tr)) (a_ (a_ (a_ (parrellaw21_alive_tri  y12 e11) tr) tr) (a_ (a_ tr tr) (a_ (a_ tr tr) tr)))))))))))) tr)))) tr) (by kernel_rfl) rfl
    · skip
      obtain rfl := Option.some.inj h
      exact run_ret mixed (L := []) (n := 23) (s := [.reg [], .reg [(1, { call := some (parrellaw21_first_v y2, [], []) }), (2, { call := some (conf_New_vA y4.2.1, [], []) })], .reg [], .reg [(4, { call := some (parrellaw21_one_v y7, [], []) }), (5, { call := some (parrelref06_May_v y9, [], []) }), (8, { v := some (.bool false) })]])
        (a_ (a_ (a_ (a_ tr tr) (a_ (a_ tr tr) tr)) (a_ (a_ (a_ tr tr) (a_ (a_ (a_ (parrellaw21_first_tri epoch y2 e1) tr) tr) (a_ (a_ (a_ (conf_New_triA y2 y4.2.1 y4.2.2 (altA e3 c5)) tr) tr) (a_ (a_ tr tr) (a_ (a_ tr tr) (a_ (a_ tr tr) (a_ (a_ tr tr) (a_ (a_ tr tr) tr)))))))) (a_ (a_ (a_ tr tr) (a_ (a_ tr tr) tr)) (a_ (a_ (a_ tr tr) (a_ (a_ tr tr) (a_ (a_ tr tr) (a_ (a_ tr tr) (a_ (a_ (a_ (parrellaw21_one_tri epoch y7 e6) tr) tr) (a_ (a_ (a_ (parrelref06_May_tri y7 y9 e8) tr) tr) (a_ (a_ tr tr) (a_ (a_ tr tr) (a_ (a_ tr (a_ (leB c10) tr)) (a_ tr (a_ (a_ tr tr) (a_ (a_ tr tr) tr)))))))))))) tr)))) tr) (by kernel_rfl) rfl
  · skip
    obtain ⟨y7, e6, h⟩ := bind_some h
    obtain ⟨y9, e8, h⟩ := bind_some h
    obtain ⟨y11, e10, h⟩ := bind_some h
    rcases itb_some h with ⟨c12, h⟩ | ⟨c12, h⟩
    · skip
      obtain rfl := Option.some.inj h
      exact run_ret mixed (L := []) (n := 38) (s := [.reg [], .reg [(1, { call := some (parrellaw21_first_v y2, [], []) }), (2, { call := some ((conf_New_vB y4.2.2).ren (sel [1, 2]), preOf (sel [1, 2]) 0 [], upOf (sel [1, 2]) (conf_New_upB y2 y4.2.2)) })], .reg [], .reg [], .reg [(8, { call := some ((conf_Book_Next_3_v y7).ren (sel [1, 2, 0]), preOf (sel [1, 2, 0]) 0 (conf_Book_Next_3_objs y4.2.2 (A8.mk 97 0 0 0 0 0 0 0) c.f_R c.f_W c), upOf (sel [1, 2, 0]) (conf_Book_Next_3_up y4.2.2 (A8.mk 97 0 0 0 0 0 0 0) c.f_R c.f_W c y7)) })], .reg [(2, { call := some ((conf_Book_Of_v y9).ren (sel [1, 2]), preOf (sel [1, 2]) 0 (conf_Book_Of_objs y4.2.2 (A8.mk 97 0 0 0 0 0 0 0)), upOf (sel [1, 2]) (conf_Book_Of_up y4.2.2 (A8.mk 97 0 0 0 0 0 0 0) y9)) })], .reg [(2, { call := some (parrellaw21_one_v y11, [], []) }), (3, { v := some (.bool true) })], .reg []])
        (a_ (a_ (a_ (a_ tr tr) (a_ (a_ tr tr) tr)) (a_ (a_ (a_ tr tr) (a_ (a_ (a_ (parrellaw21_first_tri epoch y2 e1) tr) tr) (a_ (a_ (a_ (conf_New_okB y2 y4.2.2 y4.2.1 (altB e3 c5) (sel [1, 2]) (sel_inj rfl rfl)) tr) tr) (a_ (a_ tr tr) (a_ (a_ tr tr) (a_ (a_ tr tr) (a_ (a_ tr tr) (a_ (a_ tr tr) tr)))))))) (a_ (a_ (a_ tr tr) (a_ (a_ tr tr) tr)) (a_ (a_ (a_ (Eq.refl true) tr) (a_ (a_ tr tr) (a_ (a_ (a_ (Eq.refl 8) (a_ (le_ 8 8 rfl) (Eq.refl 0))) tr) tr))) (a_ (a_ (a_ tr tr) (a_ (a_ (a_ tr (le_ 8 8 rfl)) tr) (a_ (a_ tr tr) (a_ (a_ (a_ tr (lt_ 1 11 rfl)) tr) (a_ (a_ tr tr) (a_ (a_ (a_ tr (lt_ 2 11 rfl)) tr) (a_ (a_ tr tr) (a_ (a_ (a_ (lei_ 0 0 rfl) (a_ (lei_ 0 8 rfl) (lei_ 8 8 rfl))) tr) (a_ (a_ (a_ (conf_Book_Next_3_ok y4.2.2 (A8.mk 97 0 0 0 0 0 0 0) c.f_R c.f_W c y7 e6 (sel [1, 2, 0]) (sel_inj rfl rfl)) (a_ (LO.Le.refl (.var [.map 2])) (a_ (LO.Le.refl (.map true [.int .u8, .int .u8, .int .u8, .int .u8, .int .u8, .int .u8, .int .u8, .int .u8] (encM (fun z_ : A8 (Int) => LV.agg [.int .u8 z_.a0, .int .u8 z_.a1, .int .u8 z_.a2, .int .u8 z_.a3, .int .u8 z_.a4, .int .u8 z_.a5, .int .u8 z_.a6, .int .u8 z_.a7]) v_T_api_Config y4.2.2))) (a_ (LO.Le.refl (.var (c_T_api_Config c))) tr)))) tr) (a_ (a_ tr tr) (a_ (a_ tr tr) (a_ (a_ tr tr) (a_ (a_ tr tr) (a_ (a_ (a_ (Eq.refl 11) (a_ (le_ 11 11 rfl) (Eq.refl 0))) tr) (a_ (a_ tr tr) tr))))))))))))))) (a_ (a_ (a_ tr tr) (a_ (a_ (a_ tr (le_ 8 8 rfl)) tr) (a_ (a_ (a_ (conf_Book_Of_ok y4.2.2 (A8.mk 97 0 0 0 0 0 0 0) y9 e8 (sel [1, 2]) (sel_inj rfl rfl)) (a_ (LO.Le.refl (.var [.map 2])) (a_ (LO.Le.refl (.map true [.int .u8, .int .u8, .int .u8, .int .u8, .int .u8, .int .u8, .int .u8, .int .u8] (encM (fun z_ : A8 (Int) => LV.agg [.int .u8 z_.a0, .int .u8 z_.a1, .int .u8 z_.a2, .int .u8 z_.a3, .int .u8 z_.a4, .int .u8 z_.a5, .int .u8 z_.a6, .int .u8 z_.a7]) v_T_api_Config y4.2.2))) tr))) tr) (a_ (a_ tr tr) (a_ (a_ tr tr) (a_ (a_ tr tr) (a_ (a_ tr tr) (a_ (a_ (a_ (Eq.refl 11) (a_ (le_ 11 11 rfl) (Eq.refl 0))) tr) (a_ (a_ tr tr) tr))))))))) (a_ (a_ (a_ (a_ tr (le_ 11 11 rfl)) tr) (a_ (a_ tr tr) (a_ (a_ (a_ (parrellaw21_one_tri epoch y11 e10) tr) tr) (a_ (a_ tr (a_ (LV.Le.trans (leB (congrArg not (k_T_api_Config y9.1 y11))) (leB c12)) tr)) tr)))) (a_ (a_ (a_ tr tr) tr) tr)))))))) tr) (by kernel_rfl) rfl
    · skip
      rcases itb_some h with ⟨c13, h⟩ | ⟨c13, h⟩
      · skip
        rcases itb_some h with ⟨c14, h⟩ | ⟨c14, h⟩
        · skip
          rcases itb_some h with ⟨c15, h⟩ | ⟨c15, h⟩
          · skip
            obtain ⟨y17, e16, h⟩ := bind_some h
            obtain rfl := Option.some.inj h
            exact run_ret mixed (L := []) (n := 47) (s := [.reg [], .reg [(1, { call := some (parrellaw21_first_v y2, [], []) }), (2, { call := some ((conf_New_vB y4.2.2).ren (sel [1, 2]), preOf (sel [1, 2]) 0 [], upOf (sel [1, 2]) (conf_New_upB y2 y4.2.2)) })], .reg [], .reg [], .reg [(8, { call := some ((conf_Book_Next_3_v y7).ren (sel [1, 2, 0]), preOf (sel [1, 2, 0]) 0 (conf_Book_Next_3_objs y4.2.2 (A8.mk 97 0 0 0 0 0 0 0) c.f_R c.f_W c), upOf (sel [1, 2, 0]) (conf_Book_Next_3_up y4.2.2 (A8.mk 97 0 0 0 0 0 0 0) c.f_R c.f_W c y7)) })], .reg [(2, { call := some ((conf_Book_Of_v y9).ren (sel [1, 2]), preOf (sel [1, 2]) 0 (conf_Book_Of_objs y4.2.2 (A8.mk 97 0 0 0 0 0 0 0)), upOf (sel [1, 2]) (conf_Book_Of_up y4.2.2 (A8.mk 97 0 0 0 0 0 0 0) y9)) })], .reg [(2, { call := some (parrellaw21_one_v y11, [], []) }), (3, { v := some (.bool false) })], .reg [(1, { v := some (.bool true) })], .reg [], .reg [(2, { v := some (.bool (decide (y7.1 = (T_api_Config.mk 0 0 0 (A8.mk 0 0 0 0 0 0 0 0))))) }), (3, { v := some (.bool true) }), (6, { v := some (.bool true) }), (13, { call := some (parrellaw21_alive_v y17, [], []) })]])
              (a_ (a_ (a_ (a_ tr tr) (a_ (a_ tr tr) tr)) (a_ (a_ (a_ tr tr) (a_ (a_ (a_ (parrellaw21_first_tri epoch y2 e1) tr) tr) (a_ (a_ (a_ (conf_New_okB y2 y4.2.2 y4.2.1 (altB e3 c5) (sel [1, 2]) (sel_inj rfl rfl)) tr) tr) (a_ (a_ tr tr) (a_ (a_ tr tr) (a_ (a_ tr tr) (a_ (a_ tr tr) (a_ (a_ tr tr) tr)))))))) (a_ (a_ (a_ tr tr) (a_ (a_ tr tr) tr)) (a_ (a_ (a_ (Eq.refl true) tr) (a_ (a_ tr tr) (a_ (a_ (a_ (Eq.refl 8) (a_ (le_ 8 8 rfl) (Eq.refl 0))) tr) tr))) (a_ (a_ (a_ tr tr) (a_ (a_ (a_ tr (le_ 8 8 rfl)) tr) (a_ (a_ tr tr) (a_ (a_ (a_ tr (lt_ 1 11 rfl)) tr) (a_ (a_ tr tr) (a_ (a_ (a_ tr (lt_ 2 11 rfl)) tr) (a_ (a_ tr tr) (a_ (a_ (a_ (lei_ 0 0 rfl) (a_ (lei_ 0 8 rfl) (lei_ 8 8 rfl))) tr) (a_ (a_ (a_ (conf_Book_Next_3_ok y4.2.2 (A8.mk 97 0 0 0 0 0 0 0) c.f_R c.f_W c y7 e6 (sel [1, 2, 0]) (sel_inj rfl rfl)) (a_ (LO.Le.refl (.var [.map 2])) (a_ (LO.Le.refl (.map true [.int .u8, .int .u8, .int .u8, .int .u8, .int .u8, .int .u8, .int .u8, .int .u8] (encM (fun z_ : A8 (Int) => LV.agg [.int .u8 z_.a0, .int .u8 z_.a1, .int .u8 z_.a2, .int .u8 z_.a3, .int .u8 z_.a4, .int .u8 z_.a5, .int .u8 z_.a6, .int .u8 z_.a7]) v_T_api_Config y4.2.2))) (a_ (LO.Le.refl (.var (c_T_api_Config c))) tr)))) tr) (a_ (a_ tr tr) (a_ (a_ tr tr) (a_ (a_ tr tr) (a_ (a_ tr tr) (a_ (a_ (a_ (Eq.refl 11) (a_ (le_ 11 11 rfl) (Eq.refl 0))) tr) (a_ (a_ tr tr) tr))))))))))))))) (a_ (a_ (a_ tr tr) (a_ (a_ (a_ tr (le_ 8 8 rfl)) tr) (a_ (a_ (a_ (conf_Book_Of_ok y4.2.2 (A8.mk 97 0 0 0 0 0 0 0) y9 e8 (sel [1, 2]) (sel_inj rfl rfl)) (a_ (LO.Le.refl (.var [.map 2])) (a_ (LO.Le.refl (.map true [.int .u8, .int .u8, .int .u8, .int .u8, .int .u8, .int .u8, .int .u8, .int .u8] (encM (fun z_ : A8 (Int) => LV.agg [.int .u8 z_.a0, .int .u8 z_.a1, .int .u8 z_.a2, .int .u8 z_.a3, .int .u8 z_.a4, .int .u8 z_.a5, .int .u8 z_.a6, .int .u8 z_.a7]) v_T_api_Config y4.2.2))) tr))) tr) (a_ (a_ tr tr) (a_ (a_ tr tr) (a_ (a_ tr tr) (a_ (a_ tr tr) (a_ (a_ (a_ (Eq.refl 11) (a_ (le_ 11 11 rfl) (Eq.refl 0))) tr) (a_ (a_ tr tr) tr))))))))) (a_ (a_ (a_ (a_ tr (le_ 11 11 rfl)) tr) (a_ (a_ tr tr) (a_ (a_ (a_ (parrellaw21_one_tri epoch y11 e10) tr) tr) (a_ (a_ tr (a_ (LV.Le.trans (leB (congrArg not (k_T_api_Config y9.1 y11))) (leB c12)) tr)) tr)))) (a_ (a_ (a_ tr tr) (a_ (a_ tr (a_ (leB c13) tr)) tr)) (a_ (a_ (a_ tr tr) (a_ (a_ (a_ (Eq.refl 1) (a_ (le_ 1 11 rfl) (Eq.refl 0))) tr) tr)) (a_ (a_ (a_ (a_ tr (le_ 11 11 rfl)) tr) (a_ (a_ (Eq.refl true) tr) (a_ (a_ tr (a_ (leB (k_T_api_Config y7.1 (T_api_Config.mk 0 0 0 (A8.mk 0 0 0 0 0 0 0 0)))) tr)) (a_ (a_ tr (a_ (leB c14) tr)) (a_ (a_ tr tr) (a_ (a_ tr tr) (a_ (a_ tr (a_ (leB c15) tr)) (a_ tr (a_ tr (a_ tr (a_ (a_ tr tr) (a_ (a_ tr tr) (a_ (a_ tr tr) (a_ (a_ (a_ (parrellaw21_alive_tri  y17 e16) tr) tr) (a_ (a_ tr tr) (a_ (a_ tr tr) tr)))))))))))))))) tr)))))))))) tr) (by kernel_rfl) rfl
          · skip
            obtain ⟨y17, e16, h⟩ := bind_some h
            rcases itb_some h with ⟨c18, h⟩ | ⟨c18, h⟩
            · skip
              obtain ⟨y20, e19, h⟩ := bind_some h
              obtain rfl := Option.some.inj h
              exact run_ret mixed (L := []) (n := 47) (s := [.reg [], .reg [(1, { call := some (parrellaw21_first_v y2, [], []) }), (2, { call := some ((conf_New_vB y4.2.2).ren (sel [1, 2]), preOf (sel [1, 2]) 0 [], upOf (sel [1, 2]) (conf_New_upB y2 y4.2.2)) })], .reg [], .reg [], .reg [(8, { call := some ((conf_Book_Next_3_v y7).ren (sel [1, 2, 0]), preOf (sel [1, 2, 0]) 0 (conf_Book_Next_3_objs y4.2.2 (A8.mk 97 0 0 0 0 0 0 0) c.f_R c.f_W c), upOf (sel [1, 2, 0]) (conf_Book_Next_3_up y4.2.2 (A8.mk 97 0 0 0 0 0 0 0) c.f_R c.f_W c y7)) })], .reg [(2, { call := some ((conf_Book_Of_v y9).ren (sel [1, 2]), preOf (sel [1, 2]) 0 (conf_Book_Of_objs y4.2.2 (A8.mk 97 0 0 0 0 0 0 0)), upOf (sel [1, 2]) (conf_Book_Of_up y4.2.2 (A8.mk 97 0 0 0 0 0 0 0) y9)) })], .reg [(2, { call := some (parrellaw21_one_v y11, [], []) }), (3, { v := some (.bool false) })], .reg [(1, { v := some (.bool true) })], .reg [], .reg [(2, { v := some (.bool (decide (y7.1 = (T_api_Config.mk 0 0 0 (A8.mk 0 0 0 0 0 0 0 0))))) }), (3, { v := some (.bool true) }), (6, { v := some (.bool false) }), (8, { call := some (parrelref06_May_v y17, [], []) }), (12, { v := some (.bool true) }), (13, { call := some (parrellaw21_alive_v y20, [], []) })]])
                (a_ (a_ (a_ (a_ tr tr) (a_ (a_ tr tr) tr)) (a_ (a_ (a_ tr tr) (a_ (a_ (a_ (parrellaw21_first_tri epoch y2 e1) tr) tr) (a_ (a_ (a_ (conf_New_okB y2 y4.2.2 y4.2.1 (altB e3 c5) (sel [1, 2]) (sel_inj rfl rfl)) tr) tr) (a_ (a_ tr tr) (a_ (a_ tr tr) (a_ (a_ tr tr) (a_ (a_ tr tr) (a_ (a_ tr tr) tr)))))))) (a_ (a_ (a_ tr tr) (a_ (a_ tr tr) tr)) (a_ (a_ (a_ (Eq.refl true) tr) (a_ (a_ tr tr) (a_ (a_ (a_ (Eq.refl 8) (a_ (le_ 8 8 rfl) (Eq.refl 0))) tr) tr))) (a_ (a_ (a_ tr tr) (a_ (a_ (a_ tr (le_ 8 8 rfl)) tr) (a_ (a_ tr tr) (a_ (a_ (a_ tr (lt_ 1 11 rfl)) tr) (a_ (a_ tr tr) (a_ (a_ (a_ tr (lt_ 2 11 rfl)) tr) (a_ (a_ tr tr) (a_ (a_ (a_ (lei_ 0 0 rfl) (a_ (lei_ 0 8 rfl) (lei_ 8 8 rfl))) tr) (a_ (a_ (a_ (conf_Book_Next_3_ok y4.2.2 (A8.mk 97 0 0 0 0 0 0 0) c.f_R c.f_W c y7 e6 (sel [1, 2, 0]) (sel_inj rfl rfl)) (a_ (LO.Le.refl (.var [.map 2])) (a_ (LO.Le.refl (.map true [.int .u8, .int .u8, .int .u8, .int .u8, .int .u8, .int .u8, .int .u8, .int .u8] (encM (fun z_ : A8 (Int) => LV.agg [.int .u8 z_.a0, .int .u8 z_.a1, .int .u8 z_.a2, .int .u8 z_.a3, .int .u8 z_.a4, .int .u8 z_.a5, .int .u8 z_.a6, .int .u8 z_.a7]) v_T_api_Config y4.2.2))) (a_ (LO.Le.refl (.var (c_T_api_Config c))) tr)))) tr) (a_ (a_ tr tr) (a_ (a_ tr tr) (a_ (a_ tr tr) (a_ (a_ tr tr) (a_ (a_ (a_ (Eq.refl 11) (a_ (le_ 11 11 rfl) (Eq.refl 0))) tr) (a_ (a_ tr tr) tr))))))))))))))) (a_ (a_ (a_ tr tr) (a_ (a_ (a_ tr (le_ 8 8 rfl)) tr) (a_ (a_ (a_ (conf_Book_Of_ok y4.2.2 (A8.mk 97 0 0 0 0 0 0 0) y9 e8 (sel [1, 2]) (sel_inj rfl rfl)) (a_ (LO.Le.refl (.var [.map 2])) (a_ (LO.Le.refl (.map true [.int .u8, .int .u8, .int .u8, .int .u8, .int .u8, .int .u8, .int .u8, .int .u8] (encM (fun z_ : A8 (Int) => LV.agg [.int .u8 z_.a0, .int .u8 z_.a1, .int .u8 z_.a2, .int .u8 z_.a3, .int .u8 z_.a4, .int .u8 z_.a5, .int .u8 z_.a6, .int .u8 z_.a7]) v_T_api_Config y4.2.2))) tr))) tr) (a_ (a_ tr tr) (a_ (a_ tr tr) (a_ (a_ tr tr) (a_ (a_ tr tr) (a_ (a_ (a_ (Eq.refl 11) (a_ (le_ 11 11 rfl) (Eq.refl 0))) tr) (a_ (a_ tr tr) tr))))))))) (a_ (a_ (a_ (a_ tr (le_ 11 11 rfl)) tr) (a_ (a_ tr tr) (a_ (a_ (a_ (parrellaw21_one_tri epoch y11 e10) tr) tr) (a_ (a_ tr (a_ (LV.Le.trans (leB (congrArg not (k_T_api_Config y9.1 y11))) (leB c12)) tr)) tr)))) (a_ (a_ (a_ tr tr) (a_ (a_ tr (a_ (leB c13) tr)) tr)) (a_ (a_ (a_ tr tr) (a_ (a_ (a_ (Eq.refl 1) (a_ (le_ 1 11 rfl) (Eq.refl 0))) tr) tr)) (a_ (a_ (a_ (a_ tr (le_ 11 11 rfl)) tr) (a_ (a_ (Eq.refl true) tr) (a_ (a_ tr (a_ (leB (k_T_api_Config y7.1 (T_api_Config.mk 0 0 0 (A8.mk 0 0 0 0 0 0 0 0)))) tr)) (a_ (a_ tr (a_ (leB c14) tr)) (a_ (a_ tr tr) (a_ (a_ tr tr) (a_ (a_ tr (a_ (leB c15) tr)) (a_ (a_ (a_ tr (le_ 11 11 rfl)) tr) (a_ (a_ (a_ (parrelref06_May_tri (T_api_Config.mk 1 c.f_R c.f_W c.f_Votes) y17 e16) tr) tr) (a_ (a_ tr tr) (a_ (a_ tr tr) (a_ (a_ tr tr) (a_ (a_ tr (a_ (leB c18) tr)) (a_ (a_ (a_ (parrellaw21_alive_tri  y20 e19) tr) tr) (a_ (a_ tr tr) (a_ (a_ tr tr) tr)))))))))))))))) tr)))))))))) tr) (by kernel_rfl) rfl
            · skip
              obtain rfl := Option.some.inj h
              exact run_ret mixed (L := []) (n := 47) (s := [.reg [], .reg [(1, { call := some (parrellaw21_first_v y2, [], []) }), (2, { call := some ((conf_New_vB y4.2.2).ren (sel [1, 2]), preOf (sel [1, 2]) 0 [], upOf (sel [1, 2]) (conf_New_upB y2 y4.2.2)) })], .reg [], .reg [], .reg [(8, { call := some ((conf_Book_Next_3_v y7).ren (sel [1, 2, 0]), preOf (sel [1, 2, 0]) 0 (conf_Book_Next_3_objs y4.2.2 (A8.mk 97 0 0 0 0 0 0 0) c.f_R c.f_W c), upOf (sel [1, 2, 0]) (conf_Book_Next_3_up y4.2.2 (A8.mk 97 0 0 0 0 0 0 0) c.f_R c.f_W c y7)) })], .reg [(2, { call := some ((conf_Book_Of_v y9).ren (sel [1, 2]), preOf (sel [1, 2]) 0 (conf_Book_Of_objs y4.2.2 (A8.mk 97 0 0 0 0 0 0 0)), upOf (sel [1, 2]) (conf_Book_Of_up y4.2.2 (A8.mk 97 0 0 0 0 0 0 0) y9)) })], .reg [(2, { call := some (parrellaw21_one_v y11, [], []) }), (3, { v := some (.bool false) })], .reg [(1, { v := some (.bool true) })], .reg [], .reg [(2, { v := some (.bool (decide (y7.1 = (T_api_Config.mk 0 0 0 (A8.mk 0 0 0 0 0 0 0 0))))) }), (3, { v := some (.bool true) }), (6, { v := some (.bool false) }), (8, { call := some (parrelref06_May_v y17, [], []) }), (12, { v := some (.bool false) })]])
                (a_ (a_ (a_ (a_ tr tr) (a_ (a_ tr tr) tr)) (a_ (a_ (a_ tr tr) (a_ (a_ (a_ (parrellaw21_first_tri epoch y2 e1) tr) tr) (a_ (a_ (a_ (conf_New_okB y2 y4.2.2 y4.2.1 (altB e3 c5) (sel [1, 2]) (sel_inj rfl rfl)) tr) tr) (a_ (a_ tr tr) (a_ (a_ tr tr) (a_ (a_ tr tr) (a_ (a_ tr tr) (a_ (a_ tr tr) tr)))))))) (a_ (a_ (a_ tr tr) (a_ (a_ tr tr) tr)) (a_ (a_ (a_ (Eq.refl true) tr) (a_ (a_ tr tr) (a_ (a_ (a_ (Eq.refl 8) (a_ (le_ 8 8 rfl) (Eq.refl 0))) tr) tr))) (a_ (a_ (a_ tr tr) (a_ (a_ (a_ tr (le_ 8 8 rfl)) tr) (a_ (a_ tr tr) (a_ (a_ (a_ tr (lt_ 1 11 rfl)) tr) (a_ (a_ tr tr) (a_ (a_ (a_ tr (lt_ 2 11 rfl)) tr) (a_ (a_ tr tr) (a_ (a_ (a_ (lei_ 0 0 rfl) (a_ (lei_ 0 8 rfl) (lei_ 8 8 rfl))) tr) (a_ (a_ (a_ (conf_Book_Next_3_ok y4.2.2 (A8.mk 97 0 0 0 0 0 0 0) c.f_R c.f_W c y7 e6 (sel [1, 2, 0]) (sel_inj rfl rfl)) (a_ (LO.Le.refl (.var [.map 2])) (a_ (LO.Le.refl (.map true [.int .u8, .int .u8, .int .u8, .int .u8, .int .u8, .int .u8, .int .u8, .int .u8] (encM (fun z_ : A8 (Int) => LV.agg [.int .u8 z_.a0, .int .u8 z_.a1, .int .u8 z_.a2, .int .u8 z_.a3, .int .u8 z_.a4, .int .u8 z_.a5, .int .u8 z_.a6, .int .u8 z_.a7]) v_T_api_Config y4.2.2))) (a_ (LO.Le.refl (.var (c_T_api_Config c))) tr)))) tr) (a_ (a_ tr tr) (a_ (a_ tr tr) (a_ (a_ tr tr) (a_ (a_ tr tr) (a_ (a_ (a_ (Eq.refl 11) (a_ (le_ 11 11 rfl) (Eq.refl 0))) tr) (a_ (a_ tr tr) tr))))))))))))))) (a_ (a_ (a_ tr tr) (a_ (a_ (a_ tr (le_ 8 8 rfl)) tr) (a_ (a_ (a_ (conf_Book_Of_ok y4.2.2 (A8.mk 97 0 0 0 0 0 0 0) y9 e8 (sel [1, 2]) (sel_inj rfl rfl)) (a_ (LO.Le.refl (.var [.map 2])) (a_ (LO.Le.refl (.map true [.int .u8, .int .u8, .int .u8, .int .u8, .int .u8, .int .u8, .int .u8, .int .u8] (encM (fun z_ : A8 (Int) => LV.agg [.int .u8 z_.a0, .int .u8 z_.a1, .int .u8 z_.a2, .int .u8 z_.a3, .int .u8 z_.a4, .int .u8 z_.a5, .int .u8 z_.a6, .int .u8 z_.a7]) v_T_api_Config y4.2.2))) tr))) tr) (a_ (a_ tr tr) (a_ (a_ tr tr) (a_ (a_ tr tr) (a_ (a_ tr tr) (a_ (a_ (a_ (Eq.refl 11) (a_ (le_ 11 11 rfl) (Eq.refl 0))) tr) (a_ (a_ tr tr) tr))))))))) (a_ (a_ (a_ (a_ tr (le_ 11 11 rfl)) tr) (a_ (a_ tr tr) (a_ (a_ (a_ (parrellaw21_one_tri epoch y11 e10) tr) tr) (a_ (a_ tr (a_ (LV.Le.trans (leB (congrArg not (k_T_api_Config y9.1 y11))) (leB c12)) tr)) tr)))) (a_ (a_ (a_ tr tr) (a_ (a_ tr (a_ (leB c13) tr)) tr)) (a_ (a_ (a_ tr tr) (a_ (a_ (a_ (Eq.refl 1) (a_ (le_ 1 11 rfl) (Eq.refl 0))) tr) tr)) (a_ (a_ (a_ (a_ tr (le_ 11 11 rfl)) tr) (a_ (a_ (Eq.refl true) tr) (a_ (a_ tr (a_ (leB (k_T_api_Config y7.1 (T_api_Config.mk 0 0 0 (A8.mk 0 0 0 0 0 0 0 0)))) tr)) (a_ (a_ tr (a_ (leB c14) tr)) (a_ (a_ tr tr) (a_ (a_ tr tr) (a_ (a_ tr (a_ (leB c15) tr)) (a_ (a_ (a_ tr (le_ 11 11 rfl)) tr) (a_ (a_ (a_ (parrelref06_May_tri (T_api_Config.mk 1 c.f_R c.f_W c.f_Votes) y17 e16) tr) tr) (a_ (a_ tr tr) (a_ (a_ tr tr) (a_ (a_ tr tr) (a_ (a_ tr (a_ (leB c18) tr)) (a_ tr (a_ (a_ tr tr) (a_ (a_ tr tr) tr)))))))))))))))) tr)))))))))) tr) (by kernel_rfl) rfl
        · skip
          obtain rfl := Option.some.inj h
          exact run_ret mixed (L := []) (n := 47) (s := [.reg [], .reg [(1, { call := some (parrellaw21_first_v y2, [], []) }), (2, { call := some ((conf_New_vB y4.2.2).ren (sel [1, 2]), preOf (sel [1, 2]) 0 [], upOf (sel [1, 2]) (conf_New_upB y2 y4.2.2)) })], .reg [], .reg [], .reg [(8, { call := some ((conf_Book_Next_3_v y7).ren (sel [1, 2, 0]), preOf (sel [1, 2, 0]) 0 (conf_Book_Next_3_objs y4.2.2 (A8.mk 97 0 0 0 0 0 0 0) c.f_R c.f_W c), upOf (sel [1, 2, 0]) (conf_Book_Next_3_up y4.2.2 (A8.mk 97 0 0 0 0 0 0 0) c.f_R c.f_W c y7)) })], .reg [(2, { call := some ((conf_Book_Of_v y9).ren (sel [1, 2]), preOf (sel [1, 2]) 0 (conf_Book_Of_objs y4.2.2 (A8.mk 97 0 0 0 0 0 0 0)), upOf (sel [1, 2]) (conf_Book_Of_up y4.2.2 (A8.mk 97 0 0 0 0 0 0 0) y9)) })], .reg [(2, { call := some (parrellaw21_one_v y11, [], []) }), (3, { v := some (.bool false) })], .reg [(1, { v := some (.bool true) })], .reg [], .reg [(2, { v := some (.bool (decide (y7.1 = (T_api_Config.mk 0 0 0 (A8.mk 0 0 0 0 0 0 0 0))))) }), (3, { v := some (.bool false) })]])
            (a_ (a_ (a_ (a_ tr tr) (a_ (a_ tr tr) tr)) (a_ (a_ (a_ tr tr) (a_ (a_ (a_ (parrellaw21_first_tri epoch y2 e1) tr) tr) (a_ (a_ (a_ (conf_New_okB y2 y4.2.2 y4.2.1 (altB e3 c5) (sel [1, 2]) (sel_inj rfl rfl)) tr) tr) (a_ (a_ tr tr) (a_ (a_ tr tr) (a_ (a_ tr tr) (a_ (a_ tr tr) (a_ (a_ tr tr) tr)))))))) (a_ (a_ (a_ tr tr) (a_ (a_ tr tr) tr)) (a_ (a_ (a_ (Eq.refl true) tr) (a_ (a_ tr tr) (a_ (a_ (a_ (Eq.refl 8) (a_ (le_ 8 8 rfl) (Eq.refl 0))) tr) tr))) (a_ (a_ (a_ tr tr) (a_ (a_ (a_ tr (le_ 8 8 rfl)) tr) (a_ (a_ tr tr) (a_ (a_ (a_ tr (lt_ 1 11 rfl)) tr) (a_ (a_ tr tr) (a_ (a_ (a_ tr (lt_ 2 11 rfl)) tr) (a_ (a_ tr tr) (a_ (a_ (a_ (lei_ 0 0 rfl) (a_ (lei_ 0 8 rfl) (lei_ 8 8 rfl))) tr) (a_ (a_ (a_ (conf_Book_Next_3_ok y4.2.2 (A8.mk 97 0 0 0 0 0 0 0) c.f_R c.f_W c y7 e6 (sel [1, 2, 0]) (sel_inj rfl rfl)) (a_ (LO.Le.refl (.var [.map 2])) (a_ (LO.Le.refl (.map true [.int .u8, .int .u8, .int .u8, .int .u8, .int .u8, .int .u8, .int .u8, .int .u8] (encM (fun z_ : A8 (Int) => LV.agg [.int .u8 z_.a0, .int .u8 z_.a1, .int .u8 z_.a2, .int .u8 z_.a3, .int .u8 z_.a4, .int .u8 z_.a5, .int .u8 z_.a6, .int .u8 z_.a7]) v_T_api_Config y4.2.2))) (a_ (LO.Le.refl (.var (c_T_api_Config c))) tr)))) tr) (a_ (a_ tr tr) (a_ (a_ tr tr) (a_ (a_ tr tr) (a_ (a_ tr tr) (a_ (a_ (a_ (Eq.refl 11) (a_ (le_ 11 11 rfl) (Eq.refl 0))) tr) (a_ (a_ tr tr) tr))))))))))))))) (a_ (a_ (a_ tr tr) (a_ (a_ (a_ tr (le_ 8 8 rfl)) tr) (a_ (a_ (a_ (conf_Book_Of_ok y4.2.2 (A8.mk 97 0 0 0 0 0 0 0) y9 e8 (sel [1, 2]) (sel_inj rfl rfl)) (a_ (LO.Le.refl (.var [.map 2])) (a_ (LO.Le.refl (.map true [.int .u8, .int .u8, .int .u8, .int .u8, .int .u8, .int .u8, .int .u8, .int .u8] (encM (fun z_ : A8 (Int) => LV.agg [.int .u8 z_.a0, .int .u8 z_.a1, .int .u8 z_.a2, .int .u8 z_.a3, .int .u8 z_.a4, .int .u8 z_.a5, .int .u8 z_.a6, .int .u8 z_.a7]) v_T_api_Config y4.2.2))) tr))) tr) (a_ (a_ tr tr) (a_ (a_ tr tr) (a_ (a_ tr tr) (a_ (a_ tr tr) (a_ (a_ (a_ (Eq.refl 11) (a_ (le_ 11 11 rfl) (Eq.refl 0))) tr) (a_ (a_ tr tr) tr))))))))) (a_ (a_ (a_ (a_ tr (le_ 11 11 rfl)) tr) (a_ (a_ tr tr) (a_ (a_ (a_ (parrellaw21_one_tri epoch y11 e10) tr) tr) (a_ (a_ tr (a_ (LV.Le.trans (leB (congrArg not (k_T_api_Config y9.1 y11))) (leB c12)) tr)) tr)))) (a_ (a_ (a_ tr tr) (a_ (a_ tr (a_ (leB c13) tr)) tr)) (a_ (a_ (a_ tr tr) (a_ (a_ (a_ (Eq.refl 1) (a_ (le_ 1 11 rfl) (Eq.refl 0))) tr) tr)) (a_ (a_ (a_ (a_ tr (le_ 11 11 rfl)) tr) (a_ (a_ (Eq.refl true) tr) (a_ (a_ tr (a_ (leB (k_T_api_Config y7.1 (T_api_Config.mk 0 0 0 (A8.mk 0 0 0 0 0 0 0 0)))) tr)) (a_ (a_ tr (a_ (leB c14) tr)) (a_ tr (a_ tr (a_ tr (a_ tr (a_ tr (a_ tr (a_ tr (a_ (a_ tr tr) (a_ (a_ tr tr) (a_ tr (a_ (a_ tr tr) (a_ (a_ tr tr) tr)))))))))))))))) tr)))))))))) tr) (by kernel_rfl) rfl
      · skip
        rcases itb_some h with ⟨c14, h⟩ | ⟨c14, h⟩
        · skip
          rcases itb_some h with ⟨c15, h⟩ | ⟨c15, h⟩
          · skip
            rcases itb_some h with ⟨c16, h⟩ | ⟨c16, h⟩
            · skip
              rcases itb_some h with ⟨c17, h⟩ | ⟨c17, h⟩
              · skip
                obtain ⟨y19, e18, h⟩ := bind_some h
                rcases itb_some h with ⟨c20, h⟩ | ⟨c20, h⟩
                · skip
                  obtain ⟨y22, e21, h⟩ := bind_some h
                  rcases itb_some h with ⟨c23, h⟩ | ⟨c23, h⟩
                  · skip
                    obtain ⟨y25, e24, h⟩ := bind_some h
                    obtain rfl := Option.some.inj h
                    exact run_ret mixed (L := []) (n := 45) (s := [.reg [], .reg [(1, { call := some (parrellaw21_first_v y2, [], []) }), (2, { call := some ((conf_New_vB y4.2.2).ren (sel [1, 2]), preOf (sel [1, 2]) 0 [], upOf (sel [1, 2]) (conf_New_upB y2 y4.2.2)) })], .reg [], .reg [], .reg [(8, { call := some ((conf_Book_Next_3_v y7).ren (sel [1, 2, 0]), preOf (sel [1, 2, 0]) 0 (conf_Book_Next_3_objs y4.2.2 (A8.mk 97 0 0 0 0 0 0 0) c.f_R c.f_W c), upOf (sel [1, 2, 0]) (conf_Book_Next_3_up y4.2.2 (A8.mk 97 0 0 0 0 0 0 0) c.f_R c.f_W c y7)) })], .reg [(2, { call := some ((conf_Book_Of_v y9).ren (sel [1, 2]), preOf (sel [1, 2]) 0 (conf_Book_Of_objs y4.2.2 (A8.mk 97 0 0 0 0 0 0 0)), upOf (sel [1, 2]) (conf_Book_Of_up y4.2.2 (A8.mk 97 0 0 0 0 0 0 0) y9)) })], .reg [(2, { call := some (parrellaw21_one_v y11, [], []) }), (3, { v := some (.bool false) })], .reg [(1, { v := some (.bool false) })], .reg [(5, { v := some (.bool true) }), (12, { v := some (.bool true) }), (19, { v := some (.bool true) }), (24, { v := some (.bool (decide (y7.1.f_Votes = c.f_Votes))) }), (26, { v := some (.bool true) }), (29, { call := some (votes_After_v y19, [], []) }), (32, { v := some (.bool true) }), (36, { call := some ((conf_Book_Learn_v y22).ren (sel [1, 2]), preOf (sel [1, 2]) 0 (conf_Book_Learn_objs y4.2.2 (A8.mk 97 0 0 0 0 0 0 0) y7.1), upOf (sel [1, 2]) (conf_Book_Learn_up y4.2.2 (A8.mk 97 0 0 0 0 0 0 0) y7.1 y22)) }), (39, { v := some (.bool true) }), (40, { call := some (parrellaw21_alive_v y25, [], []) })]])
                      (a_ (a_ (a_ (a_ tr tr) (a_ (a_ tr tr) tr)) (a_ (a_ (a_ tr tr) (a_ (a_ (a_ (parrellaw21_first_tri epoch y2 e1) tr) tr) (a_ (a_ (a_ (conf_New_okB y2 y4.2.2 y4.2.1 (altB e3 c5) (sel [1, 2]) (sel_inj rfl rfl)) tr) tr) (a_ (a_ tr tr) (a_ (a_ tr tr) (a_ (a_ tr tr) (a_ (a_ tr tr) (a_ (a_ tr tr) tr)))))))) (a_ (a_ (a_ tr tr) (a_ (a_ tr tr) tr)) (a_ (a_ (a_ (Eq.refl true) tr) (a_ (a_ tr tr) (a_ (a_ (a_ (Eq.refl 8) (a_ (le_ 8 8 rfl) (Eq.refl 0))) tr) tr))) (a_ (a_ (a_ tr tr) (a_ (a_ (a_ tr (le_ 8 8 rfl)) tr) (a_ (a_ tr tr) (a_ (a_ (a_ tr (lt_ 1 11 rfl)) tr) (a_ (a_ tr tr) (a_ (a_ (a_ tr (lt_ 2 11 rfl)) tr) (a_ (a_ tr tr) (a_ (a_ (a_ (lei_ 0 0 rfl) (a_ (lei_ 0 8 rfl) (lei_ 8 8 rfl))) tr) (a_ (a_ (a_ (conf_Book_Next_3_ok y4.2.2 (A8.mk 97 0 0 0 0 0 0 0) c.f_R c.f_W c y7 e6 (sel [1, 2, 0]) (sel_inj rfl rfl)) (a_ (LO.Le.refl (.var [.map 2])) (a_ (LO.Le.refl (.map true [.int .u8, .int .u8, .int .u8, .int .u8, .int .u8, .int .u8, .int .u8, .int .u8] (encM (fun z_ : A8 (Int) => LV.agg [.int .u8 z_.a0, .int .u8 z_.a1, .int .u8 z_.a2, .int .u8 z_.a3, .int .u8 z_.a4, .int .u8 z_.a5, .int .u8 z_.a6, .int .u8 z_.a7]) v_T_api_Config y4.2.2))) (a_ (LO.Le.refl (.var (c_T_api_Config c))) tr)))) tr) (a_ (a_ tr tr) (a_ (a_ tr tr) (a_ (a_ tr tr) (a_ (a_ tr tr) (a_ (a_ (a_ (Eq.refl 11) (a_ (le_ 11 11 rfl) (Eq.refl 0))) tr) (a_ (a_ tr tr) tr))))))))))))))) (a_ (a_ (a_ tr tr) (a_ (a_ (a_ tr (le_ 8 8 rfl)) tr) (a_ (a_ (a_ (conf_Book_Of_ok y4.2.2 (A8.mk 97 0 0 0 0 0 0 0) y9 e8 (sel [1, 2]) (sel_inj rfl rfl)) (a_ (LO.Le.refl (.var [.map 2])) (a_ (LO.Le.refl (.map true [.int .u8, .int .u8, .int .u8, .int .u8, .int .u8, .int .u8, .int .u8, .int .u8] (encM (fun z_ : A8 (Int) => LV.agg [.int .u8 z_.a0, .int .u8 z_.a1, .int .u8 z_.a2, .int .u8 z_.a3, .int .u8 z_.a4, .int .u8 z_.a5, .int .u8 z_.a6, .int .u8 z_.a7]) v_T_api_Config y4.2.2))) tr))) tr) (a_ (a_ tr tr) (a_ (a_ tr tr) (a_ (a_ tr tr) (a_ (a_ tr tr) (a_ (a_ (a_ (Eq.refl 11) (a_ (le_ 11 11 rfl) (Eq.refl 0))) tr) (a_ (a_ tr tr) tr))))))))) (a_ (a_ (a_ (a_ tr (le_ 11 11 rfl)) tr) (a_ (a_ tr tr) (a_ (a_ (a_ (parrellaw21_one_tri epoch y11 e10) tr) tr) (a_ (a_ tr (a_ (LV.Le.trans (leB (congrArg not (k_T_api_Config y9.1 y11))) (leB c12)) tr)) tr)))) (a_ (a_ (a_ tr tr) (a_ (a_ tr (a_ (leB c13) tr)) tr)) (a_ (a_ (a_ tr tr) (a_ (a_ (a_ tr (lt_ 0 11 rfl)) tr) (a_ (a_ tr tr) (a_ (a_ tr tr) (a_ (a_ tr tr) (a_ (a_ tr (a_ (leB c14) tr)) (a_ (a_ tr tr) (a_ (a_ (a_ tr (lt_ 1 11 rfl)) tr) (a_ (a_ tr tr) (a_ (a_ (a_ tr (lt_ 1 11 rfl)) tr) (a_ (a_ tr tr) (a_ (a_ tr tr) (a_ (a_ tr (a_ (leB c15) tr)) (a_ (a_ tr tr) (a_ (a_ (a_ tr (lt_ 2 11 rfl)) tr) (a_ (a_ tr tr) (a_ (a_ (a_ tr (lt_ 2 11 rfl)) tr) (a_ (a_ tr tr) (a_ (a_ tr tr) (a_ (a_ tr (a_ (leB c16) tr)) (a_ (a_ tr tr) (a_ (a_ (a_ tr (le_ 11 11 rfl)) tr) (a_ (a_ tr tr) (a_ (a_ (a_ tr (le_ 11 11 rfl)) tr) (a_ (a_ tr (a_ (leB ((k_arr8 .u8) y7.1.f_Votes c.f_Votes)) tr)) (a_ (a_ tr tr) (a_ (a_ tr (a_ (leB c17) tr)) (a_ (a_ (a_ tr (le_ 11 11 rfl)) tr) (a_ (a_ (a_ tr (le_ 11 11 rfl)) tr) (a_ (a_ (a_ (votes_After_tri y9.1 y7.1 y19 e18) tr) tr) (a_ (a_ tr tr) (a_ (a_ tr tr) (a_ (a_ tr (a_ (leB c20) tr)) (a_ (a_ tr tr) (a_ (a_ (a_ tr (le_ 8 8 rfl)) tr) (a_ (a_ (a_ tr (le_ 11 11 rfl)) tr) (a_ (a_ (a_ (conf_Book_Learn_ok y4.2.2 (A8.mk 97 0 0 0 0 0 0 0) y7.1 y22 e21 (sel [1, 2]) (sel_inj rfl rfl)) (a_ (LO.Le.refl (.var [.map 2])) (a_ (LO.Le.refl (.map true [.int .u8, .int .u8, .int .u8, .int .u8, .int .u8, .int .u8, .int .u8, .int .u8] (encM (fun z_ : A8 (Int) => LV.agg [.int .u8 z_.a0, .int .u8 z_.a1, .int .u8 z_.a2, .int .u8 z_.a3, .int .u8 z_.a4, .int .u8 z_.a5, .int .u8 z_.a6, .int .u8 z_.a7]) v_T_api_Config y4.2.2))) tr))) tr) (a_ (a_ tr tr) (a_ (a_ tr tr) (a_ (a_ tr (a_ (leB c23) tr)) (a_ (a_ (a_ (parrellaw21_alive_tri  y25 e24) tr) tr) (a_ (a_ tr tr) (a_ (a_ tr tr) tr))))))))))))))))))))))))))))))))))))))))))) tr))))))))) tr) (by kernel_rfl) rfl
                  · skip
                    obtain rfl := Option.some.inj h
                    exact run_ret mixed (L := []) (n := 45) (s := [.reg [], .reg [(1, { call := some (parrellaw21_first_v y2, [], []) }), (2, { call := some ((conf_New_vB y4.2.2).ren (sel [1, 2]), preOf (sel [1, 2]) 0 [], upOf (sel [1, 2]) (conf_New_upB y2 y4.2.2)) })], .reg [], .reg [], .reg [(8, { call := some ((conf_Book_Next_3_v y7).ren (sel [1, 2, 0]), preOf (sel [1, 2, 0]) 0 (conf_Book_Next_3_objs y4.2.2 (A8.mk 97 0 0 0 0 0 0 0) c.f_R c.f_W c), upOf (sel [1, 2, 0]) (conf_Book_Next_3_up y4.2.2 (A8.mk 97 0 0 0 0 0 0 0) c.f_R c.f_W c y7)) })], .reg [(2, { call := some ((conf_Book_Of_v y9).ren (sel [1, 2]), preOf (sel [1, 2]) 0 (conf_Book_Of_objs y4.2.2 (A8.mk 97 0 0 0 0 0 0 0)), upOf (sel [1, 2]) (conf_Book_Of_up y4.2.2 (A8.mk 97 0 0 0 0 0 0 0) y9)) })], .reg [(2, { call := some (parrellaw21_one_v y11, [], []) }), (3, { v := some (.bool false) })], .reg [(1, { v := some (.bool false) })], .reg [(5, { v := some (.bool true) }), (12, { v := some (.bool true) }), (19, { v := some (.bool true) }), (24, { v := some (.bool (decide (y7.1.f_Votes = c.f_Votes))) }), (26, { v := some (.bool true) }), (29, { call := some (votes_After_v y19, [], []) }), (32, { v := some (.bool true) }), (36, { call := some ((conf_Book_Learn_v y22).ren (sel [1, 2]), preOf (sel [1, 2]) 0 (conf_Book_Learn_objs y4.2.2 (A8.mk 97 0 0 0 0 0 0 0) y7.1), upOf (sel [1, 2]) (conf_Book_Learn_up y4.2.2 (A8.mk 97 0 0 0 0 0 0 0) y7.1 y22)) }), (39, { v := some (.bool false) })]])
                      (a_ (a_ (a_ (a_ tr tr) (a_ (a_ tr tr) tr)) (a_ (a_ (a_ tr tr) (a_ (a_ (a_ (parrellaw21_first_tri epoch y2 e1) tr) tr) (a_ (a_ (a_ (conf_New_okB y2 y4.2.2 y4.2.1 (altB e3 c5) (sel [1, 2]) (sel_inj rfl rfl)) tr) tr) (a_ (a_ tr tr) (a_ (a_ tr tr) (a_ (a_ tr tr) (a_ (a_ tr tr) (a_ (a_ tr tr) tr)))))))) (a_ (a_ (a_ tr tr) (a_ (a_ tr tr) tr)) (a_ (a_ (a_ (Eq.refl true) tr) (a_ (a_ tr tr) (a_ (a_ (a_ (Eq.refl 8) (a_ (le_ 8 8 rfl) (Eq.refl 0))) tr) tr))) (a_ (a_ (a_ tr tr) (a_ (a_ (a_ tr (le_ 8 8 rfl)) tr) (a_ (a_ tr tr) (a_ (a_ (a_ tr (lt_ 1 11 rfl)) tr) (a_ (a_ tr tr) (a_ (a_ (a_ tr (lt_ 2 11 rfl)) tr) (a_ (a_ tr tr) (a_ (a_ (a_ (lei_ 0 0 rfl) (a_ (lei_ 0 8 rfl) (lei_ 8 8 rfl))) tr) (a_ (a_ (a_ (conf_Book_Next_3_ok y4.2.2 (A8.mk 97 0 0 0 0 0 0 0) c.f_R c.f_W c y7 e6 (sel [1, 2, 0]) (sel_inj rfl rfl)) (a_ (LO.Le.refl (.var [.map 2])) (a_ (LO.Le.refl (.map true [.int .u8, .int .u8, .int .u8, .int .u8, .int .u8, .int .u8, .int .u8, .int .u8] (encM (fun z_ : A8 (Int) => LV.agg [.int .u8 z_.a0, .int .u8 z_.a1, .int .u8 z_.a2, .int .u8 z_.a3, .int .u8 z_.a4, .int .u8 z_.a5, .int .u8 z_.a6, .int .u8 z_.a7]) v_T_api_Config y4.2.2))) (a_ (LO.Le.refl (.var (c_T_api_Config c))) tr)))) tr) (a_ (a_ tr tr) (a_ (a_ tr tr) (a_ (a_ tr tr) (a_ (a_ tr tr) (a_ (a_ (a_ (Eq.refl 11) (a_ (le_ 11 11 rfl) (Eq.refl 0))) tr) (a_ (a_ tr tr) tr))))))))))))))) (a_ (a_ (a_ tr tr) (a_ (a_ (a_ tr (le_ 8 8 rfl)) tr) (a_ (a_ (a_ (conf_Book_Of_ok y4.2.2 (A8.mk 97 0 0 0 0 0 0 0) y9 e8 (sel [1, 2]) (sel_inj rfl rfl)) (a_ (LO.Le.refl (.var [.map 2])) (a_ (LO.Le.refl (.map true [.int .u8, .int .u8, .int .u8, .int .u8, .int .u8, .int .u8, .int .u8, .int .u8] (encM (fun z_ : A8 (Int) => LV.agg [.int .u8 z_.a0, .int .u8 z_.a1, .int .u8 z_.a2, .int .u8 z_.a3, .int .u8 z_.a4, .int .u8 z_.a5, .int .u8 z_.a6, .int .u8 z_.a7]) v_T_api_Config y4.2.2))) tr))) tr) (a_ (a_ tr tr) (a_ (a_ tr tr) (a_ (a_ tr tr) (a_ (a_ tr tr) (a_ (a_ (a_ (Eq.refl 11) (a_ (le_ 11 11 rfl) (Eq.refl 0))) tr) (a_ (a_ tr tr) tr))))))))) (a_ (a_ (a_ (a_ tr (le_ 11 11 rfl)) tr) (a_ (a_ tr tr) (a_ (a_ (a_ (parrellaw21_one_tri epoch y11 e10) tr) tr) (a_ (a_ tr (a_ (LV.Le.trans (leB (congrArg not (k_T_api_Config y9.1 y11))) (leB c12)) tr)) tr)))) (a_ (a_ (a_ tr tr) (a_ (a_ tr (a_ (leB c13) tr)) tr)) (a_ (a_ (a_ tr tr) (a_ (a_ (a_ tr (lt_ 0 11 rfl)) tr) (a_ (a_ tr tr) (a_ (a_ tr tr) (a_ (a_ tr tr) (a_ (a_ tr (a_ (leB c14) tr)) (a_ (a_ tr tr) (a_ (a_ (a_ tr (lt_ 1 11 rfl)) tr) (a_ (a_ tr tr) (a_ (a_ (a_ tr (lt_ 1 11 rfl)) tr) (a_ (a_ tr tr) (a_ (a_ tr tr) (a_ (a_ tr (a_ (leB c15) tr)) (a_ (a_ tr tr) (a_ (a_ (a_ tr (lt_ 2 11 rfl)) tr) (a_ (a_ tr tr) (a_ (a_ (a_ tr (lt_ 2 11 rfl)) tr) (a_ (a_ tr tr) (a_ (a_ tr tr) (a_ (a_ tr (a_ (leB c16) tr)) (a_ (a_ tr tr) (a_ (a_ (a_ tr (le_ 11 11 rfl)) tr) (a_ (a_ tr tr) (a_ (a_ (a_ tr (le_ 11 11 rfl)) tr) (a_ (a_ tr (a_ (leB ((k_arr8 .u8) y7.1.f_Votes c.f_Votes)) tr)) (a_ (a_ tr tr) (a_ (a_ tr (a_ (leB c17) tr)) (a_ (a_ (a_ tr (le_ 11 11 rfl)) tr) (a_ (a_ (a_ tr (le_ 11 11 rfl)) tr) (a_ (a_ (a_ (votes_After_tri y9.1 y7.1 y19 e18) tr) tr) (a_ (a_ tr tr) (a_ (a_ tr tr) (a_ (a_ tr (a_ (leB c20) tr)) (a_ (a_ tr tr) (a_ (a_ (a_ tr (le_ 8 8 rfl)) tr) (a_ (a_ (a_ tr (le_ 11 11 rfl)) tr) (a_ (a_ (a_ (conf_Book_Learn_ok y4.2.2 (A8.mk 97 0 0 0 0 0 0 0) y7.1 y22 e21 (sel [1, 2]) (sel_inj rfl rfl)) (a_ (LO.Le.refl (.var [.map 2])) (a_ (LO.Le.refl (.map true [.int .u8, .int .u8, .int .u8, .int .u8, .int .u8, .int .u8, .int .u8, .int .u8] (encM (fun z_ : A8 (Int) => LV.agg [.int .u8 z_.a0, .int .u8 z_.a1, .int .u8 z_.a2, .int .u8 z_.a3, .int .u8 z_.a4, .int .u8 z_.a5, .int .u8 z_.a6, .int .u8 z_.a7]) v_T_api_Config y4.2.2))) tr))) tr) (a_ (a_ tr tr) (a_ (a_ tr tr) (a_ (a_ tr (a_ (leB c23) tr)) (a_ tr (a_ (a_ tr tr) (a_ (a_ tr tr) tr))))))))))))))))))))))))))))))))))))))))))) tr))))))))) tr) (by kernel_rfl) rfl
                · skip
                  obtain rfl := Option.some.inj h
                  exact run_ret mixed (L := []) (n := 45) (s := [.reg [], .reg [(1, { call := some (parrellaw21_first_v y2, [], []) }), (2, { call := some ((conf_New_vB y4.2.2).ren (sel [1, 2]), preOf (sel [1, 2]) 0 [], upOf (sel [1, 2]) (conf_New_upB y2 y4.2.2)) })], .reg [], .reg [], .reg [(8, { call := some ((conf_Book_Next_3_v y7).ren (sel [1, 2, 0]), preOf (sel [1, 2, 0]) 0 (conf_Book_Next_3_objs y4.2.2 (A8.mk 97 0 0 0 0 0 0 0) c.f_R c.f_W c), upOf (sel [1, 2, 0]) (conf_Book_Next_3_up y4.2.2 (A8.mk 97 0 0 0 0 0 0 0) c.f_R c.f_W c y7)) })], .reg [(2, { call := some ((conf_Book_Of_v y9).ren (sel [1, 2]), preOf (sel [1, 2]) 0 (conf_Book_Of_objs y4.2.2 (A8.mk 97 0 0 0 0 0 0 0)), upOf (sel [1, 2]) (conf_Book_Of_up y4.2.2 (A8.mk 97 0 0 0 0 0 0 0) y9)) })], .reg [(2, { call := some (parrellaw21_one_v y11, [], []) }), (3, { v := some (.bool false) })], .reg [(1, { v := some (.bool false) })], .reg [(5, { v := some (.bool true) }), (12, { v := some (.bool true) }), (19, { v := some (.bool true) }), (24, { v := some (.bool (decide (y7.1.f_Votes = c.f_Votes))) }), (26, { v := some (.bool true) }), (29, { call := some (votes_After_v y19, [], []) }), (32, { v := some (.bool false) })]])
                    (a_ (a_ (a_ (a_ tr tr) (a_ (a_ tr tr) tr)) (a_ (a_ (a_ tr tr) (a_ (a_ (a_ (parrellaw21_first_tri epoch y2 e1) tr) tr) (a_ (a_ (a_ (conf_New_okB y2 y4.2.2 y4.2.1 (altB e3 c5) (sel [1, 2]) (sel_inj rfl rfl)) tr) tr) (a_ (a_ tr tr) (a_ (a_ tr tr) (a_ (a_ tr tr) (a_ (a_ tr tr) (a_ (a_ tr tr) tr)))))))) (a_ (a_ (a_ tr tr) (a_ (a_ tr tr) tr)) (a_ (a_ (a_ (Eq.refl true) tr) (a_ (a_ tr tr) (a_ (a_ (a_ (Eq.refl 8) (a_ (le_ 8 8 rfl) (Eq.refl 0))) tr) tr))) (a_ (a_ (a_ tr tr) (a_ (a_ (a_ tr (le_ 8 8 rfl)) tr) (a_ (a_ tr tr) (a_ (a_ (a_ tr (lt_ 1 11 rfl)) tr) (a_ (a_ tr tr) (a_ (a_ (a_ tr (lt_ 2 11 rfl)) tr) (a_ (a_ tr tr) (a_ (a_ (a_ (lei_ 0 0 rfl) (a_ (lei_ 0 8 rfl) (lei_ 8 8 rfl))) tr) (a_ (a_ (a_ (conf_Book_Next_3_ok y4.2.2 (A8.mk 97 0 0 0 0 0 0 0) c.f_R c.f_W c y7 e6 (sel [1, 2, 0]) (sel_inj rfl rfl)) (a_ (LO.Le.refl (.var [.map 2])) (a_ (LO.Le.refl (.map true [.int .u8, .int .u8, .int .u8, .int .u8, .int .u8, .int .u8, .int .u8, .int .u8] (encM (fun z_ : A8 (Int) => LV.agg [.int .u8 z_.a0, .int .u8 z_.a1, .int .u8 z_.a2, .int .u8 z_.a3, .int .u8 z_.a4, .int .u8 z_.a5, .int .u8 z_.a6, .int .u8 z_.a7]) v_T_api_Config y4.2.2))) (a_ (LO.Le.refl (.var (c_T_api_Config c))) tr)))) tr) (a_ (a_ tr tr) (a_ (a_ tr tr) (a_ (a_ tr tr) (a_ (a_ tr tr) (a_ (a_ (a_ (Eq.refl 11) (a_ (le_ 11 11 rfl) (Eq.refl 0))) tr) (a_ (a_ tr tr) tr))))))))))))))) (a_ (a_ (a_ tr tr) (a_ (a_ (a_ tr (le_ 8 8 rfl)) tr) (a_ (a_ (a_ (conf_Book_Of_ok y4.2.2 (A8.mk 97 0 0 0 0 0 0 0) y9 e8 (sel [1, 2]) (sel_inj rfl rfl)) (a_ (LO.Le.refl (.var [.map 2])) (a_ (LO.Le.refl (.map true [.int .u8, .int .u8, .int .u8, .int .u8, .int .u8, .int .u8, .int .u8, .int .u8] (encM (fun z_ : A8 (Int) => LV.agg [.int .u8 z_.a0, .int .u8 z_.a1, .int .u8 z_.a2, .int .u8 z_.a3, .int .u8 z_.a4, .int .u8 z_.a5, .int .u8 z_.a6, .int .u8 z_.a7]) v_T_api_Config y4.2.2))) tr))) tr) (a_ (a_ tr tr) (a_ (a_ tr tr) (a_ (a_ tr tr) (a_ (a_ tr tr) (a_ (a_ (a_ (Eq.refl 11) (a_ (le_ 11 11 rfl) (Eq.refl 0))) tr) (a_ (a_ tr tr) tr))))))))) (a_ (a_ (a_ (a_ tr (le_ 11 11 rfl)) tr) (a_ (a_ tr tr) (a_ (a_ (a_ (parrellaw21_one_tri epoch y11 e10) tr) tr) (a_ (a_ tr (a_ (LV.Le.trans (leB (congrArg not (k_T_api_Config y9.1 y11))) (leB c12)) tr)) tr)))) (a_ (a_ (a_ tr tr) (a_ (a_ tr (a_ (leB c13) tr)) tr)) (a_ (a_ (a_ tr tr) (a_ (a_ (a_ tr (lt_ 0 11 rfl)) tr) (a_ (a_ tr tr) (a_ (a_ tr tr) (a_ (a_ tr tr) (a_ (a_ tr (a_ (leB c14) tr)) (a_ (a_ tr tr) (a_ (a_ (a_ tr (lt_ 1 11 rfl)) tr) (a_ (a_ tr tr) (a_ (a_ (a_ tr (lt_ 1 11 rfl)) tr) (a_ (a_ tr tr) (a_ (a_ tr tr) (a_ (a_ tr (a_ (leB c15) tr)) (a_ (a_ tr tr) (a_ (a_ (a_ tr (lt_ 2 11 rfl)) tr) (a_ (a_ tr tr) (a_ (a_ (a_ tr (lt_ 2 11 rfl)) tr) (a_ (a_ tr tr) (a_ (a_ tr tr) (a_ (a_ tr (a_ (leB c16) tr)) (a_ (a_ tr tr) (a_ (a_ (a_ tr (le_ 11 11 rfl)) tr) (a_ (a_ tr tr) (a_ (a_ (a_ tr (le_ 11 11 rfl)) tr) (a_ (a_ tr (a_ (leB ((k_arr8 .u8) y7.1.f_Votes c.f_Votes)) tr)) (a_ (a_ tr tr) (a_ (a_ tr (a_ (leB c17) tr)) (a_ (a_ (a_ tr (le_ 11 11 rfl)) tr) (a_ (a_ (a_ tr (le_ 11 11 rfl)) tr) (a_ (a_ (a_ (votes_After_tri y9.1 y7.1 y19 e18) tr) tr) (a_ (a_ tr tr) (a_ (a_ tr tr) (a_ (a_ tr (a_ (leB c20) tr)) (a_ tr (a_ tr (a_ tr (a_ tr (a_ tr (a_ (a_ tr tr) (a_ (a_ tr tr) (a_ tr (a_ (a_ tr tr) (a_ (a_ tr tr) tr))))))))))))))))))))))))))))))))))))))))))) tr))))))))) tr) (by kernel_rfl) rfl
              · skip
                obtain rfl := Option.some.inj h
                exact run_ret mixed (L := []) (n := 45) (s := [.reg [], .reg [(1, { call := some (parrellaw21_first_v y2, [], []) }), (2, { call := some ((conf_New_vB y4.2.2).ren (sel [1, 2]), preOf (sel [1, 2]) 0 [], upOf (sel [1, 2]) (conf_New_upB y2 y4.2.2)) })], .reg [], .reg [], .reg [(8, { call := some ((conf_Book_Next_3_v y7).ren (sel [1, 2, 0]), preOf (sel [1, 2, 0]) 0 (conf_Book_Next_3_objs y4.2.2 (A8.mk 97 0 0 0 0 0 0 0) c.f_R c.f_W c), upOf (sel [1, 2, 0]) (conf_Book_Next_3_up y4.2.2 (A8.mk 97 0 0 0 0 0 0 0) c.f_R c.f_W c y7)) })], .reg [(2, { call := some ((conf_Book_Of_v y9).ren (sel [1, 2]), preOf (sel [1, 2]) 0 (conf_Book_Of_objs y4.2.2 (A8.mk 97 0 0 0 0 0 0 0)), upOf (sel [1, 2]) (conf_Book_Of_up y4.2.2 (A8.mk 97 0 0 0 0 0 0 0) y9)) })], .reg [(2, { call := some (parrellaw21_one_v y11, [], []) }), (3, { v := some (.bool false) })], .reg [(1, { v := some (.bool false) })], .reg [(5, { v := some (.bool true) }), (12, { v := some (.bool true) }), (19, { v := some (.bool true) }), (24, { v := some (.bool (decide (y7.1.f_Votes = c.f_Votes))) }), (26, { v := some (.bool false) })]])
                  (a_ (a_ (a_ (a_ tr tr) (a_ (a_ tr tr) tr)) (a_ (a_ (a_ tr tr) (a_ (a_ (a_ (parrellaw21_first_tri epoch y2 e1) tr) tr) (a_ (a_ (a_ (conf_New_okB y2 y4.2.2 y4.2.1 (altB e3 c5) (sel [1, 2]) (sel_inj rfl rfl)) tr) tr) (a_ (a_ tr tr) (a_ (a_ tr tr) (a_ (a_ tr tr) (a_ (a_ tr tr) (a_ (a_ tr tr) tr)))))))) (a_ (a_ (a_ tr tr) (a_ (a_ tr tr) tr)) (a_ (a_ (a_ (Eq.refl true) tr) (a_ (a_ tr tr) (a_ (a_ (a_ (Eq.refl 8) (a_ (le_ 8 8 rfl) (Eq.refl 0))) tr) tr))) (a_ (a_ (a_ tr tr) (a_ (a_ (a_ tr (le_ 8 8 rfl)) tr) (a_ (a_ tr tr) (a_ (a_ (a_ tr (lt_ 1 11 rfl)) tr) (a_ (a_ tr tr) (a_ (a_ (a_ tr (lt_ 2 11 rfl)) tr) (a_ (a_ tr tr) (a_ (a_ (a_ (lei_ 0 0 rfl) (a_ (lei_ 0 8 rfl) (lei_ 8 8 rfl))) tr) (a_ (a_ (a_ (conf_Book_Next_3_ok y4.2.2 (A8.mk 97 0 0 0 0 0 0 0) c.f_R c.f_W c y7 e6 (sel [1, 2, 0]) (sel_inj rfl rfl)) (a_ (LO.Le.refl (.var [.map 2])) (a_ (LO.Le.refl (.map true [.int .u8, .int .u8, .int .u8, .int .u8, .int .u8, .int .u8, .int .u8, .int .u8] (encM (fun z_ : A8 (Int) => LV.agg [.int .u8 z_.a0, .int .u8 z_.a1, .int .u8 z_.a2, .int .u8 z_.a3, .int .u8 z_.a4, .int .u8 z_.a5, .int .u8 z_.a6, .int .u8 z_.a7]) v_T_api_Config y4.2.2))) (a_ (LO.Le.refl (.var (c_T_api_Config c))) tr)))) tr) (a_ (a_ tr tr) (a_ (a_ tr tr) (a_ (a_ tr tr) (a_ (a_ tr tr) (a_ (a_ (a_ (Eq.refl 11) (a_ (le_ 11 11 rfl) (Eq.refl 0))) tr) (a_ (a_ tr tr) tr))))))))))))))) (a_ (a_ (a_ tr tr) (a_ (a_ (a_ tr (le_ 8 8 rfl)) tr) (a_ (a_ (a_ (conf_Book_Of_ok y4.2.2 (A8.mk 97 0 0 0 0 0 0 0) y9 e8 (sel [1, 2]) (sel_inj rfl rfl)) (a_ (LO.Le.refl (.var [.map 2])) (a_ (LO.Le.refl (.map true [.int .u8, .int .u8, .int .u8, .int .u8, .int .u8, .int .u8, .int .u8, .int .u8] (encM (fun z_ : A8 (Int) => LV.agg [.int .u8 z_.a0, .int .u8 z_.a1, .int .u8 z_.a2, .int .u8 z_.a3, .int .u8 z_.a4, .int .u8 z_.a5, .int .u8 z_.a6, .int .u8 z_.a7]) v_T_api_Config y4.2.2))) tr))) tr) (a_ (a_ tr tr) (a_ (a_ tr tr) (a_ (a_ tr tr) (a_ (a_ tr tr) (a_ (a_ (a_ (Eq.refl 11) (a_ (le_ 11 11 rfl) (Eq.refl 0))) tr) (a_ (a_ tr tr) tr))))))))) (a_ (a_ (a_ (a_ tr (le_ 11 11 rfl)) tr) (a_ (a_ tr tr) (a_ (a_ (a_ (parrellaw21_one_tri epoch y11 e10) tr) tr) (a_ (a_ tr (a_ (LV.Le.trans (leB (congrArg not (k_T_api_Config y9.1 y11))) (leB c12)) tr)) tr)))) (a_ (a_ (a_ tr tr) (a_ (a_ tr (a_ (leB c13) tr)) tr)) (a_ (a_ (a_ tr tr) (a_ (a_ (a_ tr (lt_ 0 11 rfl)) tr) (a_ (a_ tr tr) (a_ (a_ tr tr) (a_ (a_ tr tr) (a_ (a_ tr (a_ (leB c14) tr)) (a_ (a_ tr tr) (a_ (a_ (a_ tr (lt_ 1 11 rfl)) tr) (a_ (a_ tr tr) (a_ (a_ (a_ tr (lt_ 1 11 rfl)) tr) (a_ (a_ tr tr) (a_ (a_ tr tr) (a_ (a_ tr (a_ (leB c15) tr)) (a_ (a_ tr tr) (a_ (a_ (a_ tr (lt_ 2 11 rfl)) tr) (a_ (a_ tr tr) (a_ (a_ (a_ tr (lt_ 2 11 rfl)) tr) (a_ (a_ tr tr) (a_ (a_ tr tr) (a_ (a_ tr (a_ (leB c16) tr)) (a_ (a_ tr tr) (a_ (a_ (a_ tr (le_ 11 11 rfl)) tr) (a_ (a_ tr tr) (a_ (a_ (a_ tr (le_ 11 11 rfl)) tr) (a_ (a_ tr (a_ (leB ((k_arr8 .u8) y7.1.f_Votes c.f_Votes)) tr)) (a_ (a_ tr tr) (a_ (a_ tr (a_ (leB c17) tr)) (a_ tr (a_ tr (a_ tr (a_ tr (a_ (a_ tr tr) (a_ (a_ tr tr) (a_ tr (a_ tr (a_ tr (a_ tr (a_ tr (a_ (a_ tr tr) (a_ (a_ tr tr) (a_ tr (a_ (a_ tr tr) (a_ (a_ tr tr) tr))))))))))))))))))))))))))))))))))))))))))) tr))))))))) tr) (by kernel_rfl) rfl
            · skip
              obtain rfl := Option.some.inj h
              exact run_ret mixed (L := []) (n := 45) (s := [.reg [], .reg [(1, { call := some (parrellaw21_first_v y2, [], []) }), (2, { call := some ((conf_New_vB y4.2.2).ren (sel [1, 2]), preOf (sel [1, 2]) 0 [], upOf (sel [1, 2]) (conf_New_upB y2 y4.2.2)) })], .reg [], .reg [], .reg [(8, { call := some ((conf_Book_Next_3_v y7).ren (sel [1, 2, 0]), preOf (sel [1, 2, 0]) 0 (conf_Book_Next_3_objs y4.2.2 (A8.mk 97 0 0 0 0 0 0 0) c.f_R c.f_W c), upOf (sel [1, 2, 0]) (conf_Book_Next_3_up y4.2.2 (A8.mk 97 0 0 0 0 0 0 0) c.f_R c.f_W c y7)) })], .reg [(2, { call := some ((conf_Book_Of_v y9).ren (sel [1, 2]), preOf (sel [1, 2]) 0 (conf_Book_Of_objs y4.2.2 (A8.mk 97 0 0 0 0 0 0 0)), upOf (sel [1, 2]) (conf_Book_Of_up y4.2.2 (A8.mk 97 0 0 0 0 0 0 0) y9)) })], .reg [(2, { call := some (parrellaw21_one_v y11, [], []) }), (3, { v := some (.bool false) })], .reg [(1, { v := some (.bool false) })], .reg [(5, { v := some (.bool true) }), (12, { v := some (.bool true) }), (19, { v := some (.bool false) })]])
                (a_ (a_ (a_ (a_ tr tr) (a_ (a_ tr tr) tr)) (a_ (a_ (a_ tr tr) (a_ (a_ (a_ (parrellaw21_first_tri epoch y2 e1) tr) tr) (a_ (a_ (a_ (conf_New_okB y2 y4.2.2 y4.2.1 (altB e3 c5) (sel [1, 2]) (sel_inj rfl rfl)) tr) tr) (a_ (a_ tr tr) (a_ (a_ tr tr) (a_ (a_ tr tr) (a_ (a_ tr tr) (a_ (a_ tr tr) tr)))))))) (a_ (a_ (a_ tr tr) (a_ (a_ tr tr) tr)) (a_ (a_ (a_ (Eq.refl true) tr) (a_ (a_ tr tr) (a_ (a_ (a_ (Eq.refl 8) (a_ (le_ 8 8 rfl) (Eq.refl 0))) tr) tr))) (a_ (a_ (a_ tr tr) (a_ (a_ (a_ tr (le_ 8 8 rfl)) tr) (a_ (a_ tr tr) (a_ (a_ (a_ tr (lt_ 1 11 rfl)) tr) (a_ (a_ tr tr) (a_ (a_ (a_ tr (lt_ 2 11 rfl)) tr) (a_ (a_ tr tr) (a_ (a_ (a_ (lei_ 0 0 rfl) (a_ (lei_ 0 8 rfl) (lei_ 8 8 rfl))) tr) (a_ (a_ (a_ (conf_Book_Next_3_ok y4.2.2 (A8.mk 97 0 0 0 0 0 0 0) c.f_R c.f_W c y7 e6 (sel [1, 2, 0]) (sel_inj rfl rfl)) (a_ (LO.Le.refl (.var [.map 2])) (a_ (LO.Le.refl (.map true [.int .u8, .int .u8, .int .u8, .int .u8, .int .u8, .int .u8, .int .u8, .int .u8] (encM (fun z_ : A8 (Int) => LV.agg [.int .u8 z_.a0, .int .u8 z_.a1, .int .u8 z_.a2, .int .u8 z_.a3, .int .u8 z_.a4, .int .u8 z_.a5, .int .u8 z_.a6, .int .u8 z_.a7]) v_T_api_Config y4.2.2))) (a_ (LO.Le.refl (.var (c_T_api_Config c))) tr)))) tr) (a_ (a_ tr tr) (a_ (a_ tr tr) (a_ (a_ tr tr) (a_ (a_ tr tr) (a_ (a_ (a_ (Eq.refl 11) (a_ (le_ 11 11 rfl) (Eq.refl 0))) tr) (a_ (a_ tr tr) tr))))))))))))))) (a_ (a_ (a_ tr tr) (a_ (a_ (a_ tr (le_ 8 8 rfl)) tr) (a_ (a_ (a_ (conf_Book_Of_ok y4.2.2 (A8.mk 97 0 0 0 0 0 0 0) y9 e8 (sel [1, 2]) (sel_inj rfl rfl)) (a_ (LO.Le.refl (.var [.map 2])) (a_ (LO.Le.refl (.map true [.int .u8, .int .u8, .int .u8, .int .u8, .int .u8, .int .u8, .int .u8, .int .u8] (encM (fun z_ : A8 (Int) => LV.agg [.int .u8 z_.a0, .int .u8 z_.a1, .int .u8 z_.a2, .int .u8 z_.a3, .int .u8 z_.a4, .int .u8 z_.a5, .int .u8 z_.a6, .int .u8 z_.a7]) v_T_api_Config y4.2.2))) tr))) tr) (a_ (a_ tr tr) (a_ (a_ tr tr) (a_ (a_ tr tr) (a_ (a_ tr tr) (a_ (a_ (a_ (Eq.refl 11) (a_ (le_ 11 11 rfl) (Eq.refl 0))) tr) (a_ (a_ tr tr) tr))))))))) (a_ (a_ (a_ (a_ tr (le_ 11 11 rfl)) tr) (a_ (a_ tr tr) (a_ (a_ (a_ (parrellaw21_one_tri epoch y11 e10) tr) tr) (a_ (a_ tr (a_ (LV.Le.trans (leB (congrArg not (k_T_api_Config y9.1 y11))) (leB c12)) tr)) tr)))) (a_ (a_ (a_ tr tr) (a_ (a_ tr (a_ (leB c13) tr)) tr)) (a_ (a_ (a_ tr tr) (a_ (a_ (a_ tr (lt_ 0 11 rfl)) tr) (a_ (a_ tr tr) (a_ (a_ tr tr) (a_ (a_ tr tr) (a_ (a_ tr (a_ (leB c14) tr)) (a_ (a_ tr tr) (a_ (a_ (a_ tr (lt_ 1 11 rfl)) tr) (a_ (a_ tr tr) (a_ (a_ (a_ tr (lt_ 1 11 rfl)) tr) (a_ (a_ tr tr) (a_ (a_ tr tr) (a_ (a_ tr (a_ (leB c15) tr)) (a_ (a_ tr tr) (a_ (a_ (a_ tr (lt_ 2 11 rfl)) tr) (a_ (a_ tr tr) (a_ (a_ (a_ tr (lt_ 2 11 rfl)) tr) (a_ (a_ tr tr) (a_ (a_ tr tr) (a_ (a_ tr (a_ (leB c16) tr)) (a_ tr (a_ tr (a_ tr (a_ tr (a_ tr (a_ (a_ tr tr) (a_ (a_ tr tr) (a_ tr (a_ tr (a_ tr (a_ tr (a_ (a_ tr tr) (a_ (a_ tr tr) (a_ tr (a_ tr (a_ tr (a_ tr (a_ tr (a_ (a_ tr tr) (a_ (a_ tr tr) (a_ tr (a_ (a_ tr tr) (a_ (a_ tr tr) tr))))))))))))))))))))))))))))))))))))))))))) tr))))))))) tr) (by kernel_rfl) rfl
          · skip
            obtain rfl := Option.some.inj h
            exact run_ret mixed (L := []) (n := 45) (s := [.reg [], .reg [(1, { call := some (parrellaw21_first_v y2, [], []) }), (2, { call := some ((conf_New_vB y4.2.2).ren (sel [1, 2]), preOf (sel [1, 2]) 0 [], upOf (sel [1, 2]) (conf_New_upB y2 y4.2.2)) })], .reg [], .reg [], .reg [(8, { call := some ((conf_Book_Next_3_v y7).ren (sel [1, 2, 0]), preOf (sel [1, 2, 0]) 0 (conf_Book_Next_3_objs y4.2.2 (A8.mk 97 0 0 0 0 0 0 0) c.f_R c.f_W c), upOf (sel [1, 2, 0]) (conf_Book_Next_3_up y4.2.2 (A8.mk 97 0 0 0 0 0 0 0) c.f_R c.f_W c y7)) })], .reg [(2, { call := some ((conf_Book_Of_v y9).ren (sel [1, 2]), preOf (sel [1, 2]) 0 (conf_Book_Of_objs y4.2.2 (A8.mk 97 0 0 0 0 0 0 0)), upOf (sel [1, 2]) (conf_Book_Of_up y4.2.2 (A8.mk 97 0 0 0 0 0 0 0) y9)) })], .reg [(2, { call := some (parrellaw21_one_v y11, [], []) }), (3, { v := some (.bool false) })], .reg [(1, { v := some (.bool false) })], .reg [(5, { v := some (.bool true) }), (12, { v := some (.bool false) })]])
              (a_ (a_ (a_ (a_ tr tr) (a_ (a_ tr tr) tr)) (a_ (a_ (a_ tr tr) (a_ (a_ (a_ (parrellaw21_first_tri epoch y2 e1) tr) tr) (a_ (a_ (a_ (conf_New_okB y2 y4.2.2 y4.2.1 (altB e3 c5) (sel [1, 2]) (sel_inj rfl rfl)) tr) tr) (a_ (a_ tr tr) (a_ (a_ tr tr) (a_ (a_ tr tr) (a_ (a_ tr tr) (a_ (a_ tr tr) tr)))))))) (a_ (a_ (a_ tr tr) (a_ (a_ tr tr) tr)) (a_ (a_ (a_ (Eq.refl true) tr) (a_ (a_ tr tr) (a_ (a_ (a_ (Eq.refl 8) (a_ (le_ 8 8 rfl) (Eq.refl 0))) tr) tr))) (a_ (a_ (a_ tr tr) (a_ (a_ (a_ tr (le_ 8 8 rfl)) tr) (a_ (a_ tr tr) (a_ (a_ (a_ tr (lt_ 1 11 rfl)) tr) (a_ (a_ tr tr) (a_ (a_ (a_ tr (lt_ 2 11 rfl)) tr) (a_ (a_ tr tr) (a_ (a_ (a_ (lei_ 0 0 rfl) (a_ (lei_ 0 8 rfl) (lei_ 8 8 rfl))) tr) (a_ (a_ (a_ (conf_Book_Next_3_ok y4.2.2 (A8.mk 97 0 0 0 0 0 0 0) c.f_R c.f_W c y7 e6 (sel [1, 2, 0]) (sel_inj rfl rfl)) (a_ (LO.Le.refl (.var [.map 2])) (a_ (LO.Le.refl (.map true [.int .u8, .int .u8, .int .u8, .int .u8, .int .u8, .int .u8, .int .u8, .int .u8] (encM (fun z_ : A8 (Int) => LV.agg [.int .u8 z_.a0, .int .u8 z_.a1, .int .u8 z_.a2, .int .u8 z_.a3, .int .u8 z_.a4, .int .u8 z_.a5, .int .u8 z_.a6, .int .u8 z_.a7]) v_T_api_Config y4.2.2))) (a_ (LO.Le.refl (.var (c_T_api_Config c))) tr)))) tr) (a_ (a_ tr tr) (a_ (a_ tr tr) (a_ (a_ tr tr) (a_ (a_ tr tr) (a_ (a_ (a_ (Eq.refl 11) (a_ (le_ 11 11 rfl) (Eq.refl 0))) tr) (a_ (a_ tr tr) tr))))))))))))))) (a_ (a_ (a_ tr tr) (a_ (a_ (a_ tr (le_ 8 8 rfl)) tr) (a_ (a_ (a_ (conf_Book_Of_ok y4.2.2 (A8.mk 97 0 0 0 0 0 0 0) y9 e8 (sel [1, 2]) (sel_inj rfl rfl)) (a_ (LO.Le.refl (.var [.map 2])) (a_ (LO.Le.refl (.map true [.int .u8, .int .u8, .int .u8, .int .u8, .int .u8, .int .u8, .int .u8, .int .u8] (encM (fun z_ : A8 (Int) => LV.agg [.int .u8 z_.a0, .int .u8 z_.a1, .int .u8 z_.a2, .int .u8 z_.a3, .int .u8 z_.a4, .int .u8 z_.a5, .int .u8 z_.a6, .int .u8 z_.a7]) v_T_api_Config y4.2.2))) tr))) tr) (a_ (a_ tr tr) (a_ (a_ tr tr) (a_ (a_ tr tr) (a_ (a_ tr tr) (a_ (a_ (a_ (Eq.refl 11) (a_ (le_ 11 11 rfl) (Eq.refl 0))) tr) (a_ (a_ tr tr) tr))))))))) (a_ (a_ (a_ (a_ tr (le_ 11 11 rfl)) tr) (a_ (a_ tr tr) (a_ (a_ (a_ (parrellaw21_one_tri epoch y11 e10) tr) tr) (a_ (a_ tr (a_ (LV.Le.trans (leB (congrArg not (k_T_api_Config y9.1 y11))) (leB c12)) tr)) tr)))) (a_ (a_ (a_ tr tr) (a_ (a_ tr (a_ (leB c13) tr)) tr)) (a_ (a_ (a_ tr tr) (a_ (a_ (a_ tr (lt_ 0 11 rfl)) tr) (a_ (a_ tr tr) (a_ (a_ tr tr) (a_ (a_ tr tr) (a_ (a_ tr (a_ (leB c14) tr)) (a_ (a_ tr tr) (a_ (a_ (a_ tr (lt_ 1 11 rfl)) tr) (a_ (a_ tr tr) (a_ (a_ (a_ tr (lt_ 1 11 rfl)) tr) (a_ (a_ tr tr) (a_ (a_ tr tr) (a_ (a_ tr (a_ (leB c15) tr)) (a_ tr (a_ tr (a_ tr (a_ tr (a_ tr (a_ (a_ tr tr) (a_ (a_ tr tr) (a_ tr (a_ tr (a_ tr (a_ tr (a_ tr (a_ (a_ tr tr) (a_ (a_ tr tr) (a_ tr (a_ tr (a_ tr (a_ tr (a_ (a_ tr tr) (a_ (a_ tr tr) (a_ tr (a_ tr (a_ tr (a_ tr (a_ tr (a_ (a_ tr tr) (a_ (a_ tr tr) (a_ tr (a_ (a_ tr tr) (a_ (a_ tr tr) tr))))))))))))))))))))))))))))))))))))))))))) tr))))))))) tr) (by kernel_rfl) rfl
        · skip
          obtain rfl := Option.some.inj h
          exact run_ret mixed (L := []) (n := 45) (s := [.reg [], .reg [(1, { call := some (parrellaw21_first_v y2, [], []) }), (2, { call := some ((conf_New_vB y4.2.2).ren (sel [1, 2]), preOf (sel [1, 2]) 0 [], upOf (sel [1, 2]) (conf_New_upB y2 y4.2.2)) })], .reg [], .reg [], .reg [(8, { call := some ((conf_Book_Next_3_v y7).ren (sel [1, 2, 0]), preOf (sel [1, 2, 0]) 0 (conf_Book_Next_3_objs y4.2.2 (A8.mk 97 0 0 0 0 0 0 0) c.f_R c.f_W c), upOf (sel [1, 2, 0]) (conf_Book_Next_3_up y4.2.2 (A8.mk 97 0 0 0 0 0 0 0) c.f_R c.f_W c y7)) })], .reg [(2, { call := some ((conf_Book_Of_v y9).ren (sel [1, 2]), preOf (sel [1, 2]) 0 (conf_Book_Of_objs y4.2.2 (A8.mk 97 0 0 0 0 0 0 0)), upOf (sel [1, 2]) (conf_Book_Of_up y4.2.2 (A8.mk 97 0 0 0 0 0 0 0) y9)) })], .reg [(2, { call := some (parrellaw21_one_v y11, [], []) }), (3, { v := some (.bool false) })], .reg [(1, { v := some (.bool false) })], .reg [(5, { v := some (.bool false) })]])
            (a_ (a_ (a_ (a_ tr tr) (a_ (a_ tr tr) tr)) (a_ (a_ (a_ tr tr) (a_ (a_ (a_ (parrellaw21_first_tri epoch y2 e1) tr) tr) (a_ (a_ (a_ (conf_New_okB y2 y4.2.2 y4.2.1 (altB e3 c5) (sel [1, 2]) (sel_inj rfl rfl)) tr) tr) (a_ (a_ tr tr) (a_ (a_ tr tr) (a_ (a_ tr tr) (a_ (a_ tr tr) (a_ (a_ tr tr) tr)))))))) (a_ (a_ (a_ tr tr) (a_ (a_ tr tr) tr)) (a_ (a_ (a_ (Eq.refl true) tr) (a_ (a_ tr tr) (a_ (a_ (a_ (Eq.refl 8) (a_ (le_ 8 8 rfl) (Eq.refl 0))) tr) tr))) (a_ (a_ (a_ tr tr) (a_ (a_ (a_ tr (le_ 8 8 rfl)) tr) (a_ (a_ tr tr) (a_ (a_ (a_ tr (lt_ 1 11 rfl)) tr) (a_ (a_ tr tr) (a_ (a_ (a_ tr (lt_ 2 11 rfl)) tr) (a_ (a_ tr tr) (a_ (a_ (a_ (lei_ 0 0 rfl) (a_ (lei_ 0 8 rfl) (lei_ 8 8 rfl))) tr) (a_ (a_ (a_ (conf_Book_Next_3_ok y4.2.2 (A8.mk 97 0 0 0 0 0 0 0) c.f_R c.f_W c y7 e6 (sel [1, 2, 0]) (sel_inj rfl rfl)) (a_ (LO.Le.refl (.var [.map 2])) (a_ (LO.Le.refl (.map true [.int .u8, .int .u8, .int .u8, .int .u8, .int .u8, .int .u8, .int .u8, .int .u8] (encM (fun z_ : A8 (Int) => LV.agg [.int .u8 z_.a0, .int .u8 z_.a1, .int .u8 z_.a2, .int .u8 z_.a3, .int .u8 z_.a4, .int .u8 z_.a5, .int .u8 z_.a6, .int .u8 z_.a7]) v_T_api_Config y4.2.2))) (a_ (LO.Le.refl (.var (c_T_api_Config c))) tr)))) tr) (a_ (a_ tr tr) (a_ (a_ tr tr) (a_ (a_ tr tr) (a_ (a_ tr tr) (a_ (a_ (a_ (Eq.refl 11) (a_ (le_ 11 11 rfl) (Eq.refl 0))) tr) (a_ (a_ tr tr) tr))))))))))))))) (a_ (a_ (a_ tr tr) (a_ (a_ (a_ tr (le_ 8 8 rfl)) tr) (a_ (a_ (a_ (conf_Book_Of_ok y4.2.2 (A8.mk 97 0 0 0 0 0 0 0) y9 e8 (sel [1, 2]) (sel_inj rfl rfl)) (a_ (LO.Le.refl (.var [.map 2])) (a_ (LO.Le.refl (.map true [.int .u8, .int .u8, .int .u8, .int .u8, .int .u8, .int .u8, .int .u8, .int .u8] (encM (fun z_ : A8 (Int) => LV.agg [.int .u8 z_.a0, .int .u8 z_.a1, .int .u8 z_.a2, .int .u8 z_.a3, .int .u8 z_.a4, .int .u8 z_.a5, .int .u8 z_.a6, .int .u8 z_.a7]) v_T_api_Config y4.2.2))) tr))) tr) (a_ (a_ tr tr) (a_ (a_ tr tr) (a_ (a_ tr tr) (a_ (a_ tr tr) (a_ (a_ (a_ (Eq.refl 11) (a_ (le_ 11 11 rfl) (Eq.refl 0))) tr) (a_ (a_ tr tr) tr))))))))) (a_ (a_ (a_ (a_ tr (le_ 11 11 rfl)) tr) (a_ (a_ tr tr) (a_ (a_ (a_ (parrellaw21_one_tri epoch y11 e10) tr) tr) (a_ (a_ tr (a_ (LV.Le.trans (leB (congrArg not (k_T_api_Config y9.1 y11))) (leB c12)) tr)) tr)))) (a_ (a_ (a_ tr tr) (a_ (a_ tr (a_ (leB c13) tr)) tr)) (a_ (a_ (a_ tr tr) (a_ (a_ (a_ tr (lt_ 0 11 rfl)) tr) (a_ (a_ tr tr) (a_ (a_ tr tr) (a_ (a_ tr tr) (a_ (a_ tr (a_ (leB c14) tr)) (a_ tr (a_ tr (a_ tr (a_ tr (a_ tr (a_ (a_ tr tr) (a_ (a_ tr tr) (a_ tr (a_ tr (a_ tr (a_ tr (a_ tr (a_ (a_ tr tr) (a_ (a_ tr tr) (a_ tr (a_ tr (a_ tr (a_ tr (a_ tr (a_ (a_ tr tr) (a_ (a_ tr tr) (a_ tr (a_ tr (a_ tr (a_ tr (a_ (a_ tr tr) (a_ (a_ tr tr) (a_ tr (a_ tr (a_ tr (a_ tr (a_ tr (a_ (a_ tr tr) (a_ (a_ tr tr) (a_ tr (a_ (a_ tr tr) (a_ (a_ tr tr) tr))))))))))))))))))))))))))))))))))))))))))) tr))))))))) tr) (by kernel_rfl) rfl

theorem parrellaw21_ConfNext_tri (epoch : Int) (c : T_api_Config) (r : (Bool)) (h : parrellaw21_ConfNext epoch c = some r) : FnTri Tryd.prog 7 [.int .u32 epoch, v_T_api_Config c] [] (parrellaw21_ConfNext_v r) [] := FnTri.none (parrellaw21_ConfNext_ok epoch c r h) rfl rfl

end
end Go.Proofs.YtgbhbcigjgcedaaDoor.Wk
