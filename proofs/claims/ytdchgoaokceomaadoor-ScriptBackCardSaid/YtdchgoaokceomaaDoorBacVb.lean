/- Printed by tr.py: Go functions as Lean functions, with the proofs that they walk so. -/
import Derived.Test.YtdchgoaokceomaaDoorBacVa
namespace Go.Proofs.YtdchgoaokceomaaDoor.Wk
open Go Go.Cn Go.RowKit
set_option maxRecDepth 100000
set_option maxHeartbeats 4000000
set_option linter.unusedVariables false
set_option linter.unusedSimpArgs false
noncomputable section
/-- parrel/script.sameCall -/

def script_sameCall_v (r : (Bool)) : LV := .bool r

def script_sameCall (a : T_node_Call) (b : T_node_Call) : Option ((Bool)) :=
  if ((decide (a.f_Call = b.f_Call)) : Bool) then
    if ((a.f_Kind == b.f_Kind) : Bool) then
      if ((decide (a.f_Tx = b.f_Tx)) : Bool) then
        if ((decide (a.f_Key = b.f_Key)) : Bool) then
          if ((a.f_Value == b.f_Value) : Bool) then
            if ((a.f_R == b.f_R) : Bool) then
              if ((a.f_W == b.f_W) : Bool) then
                (slices_Equal_uint8_uint8 a.f_Votes b.f_Votes).bind fun y9 =>
                some y9
              else
                some false
            else
              some false
          else
            some false
        else
          some false
      else
        some false
    else
      some false
  else
    some false

theorem script_sameCall_ok (a : T_node_Call) (b : T_node_Call) (r : (Bool)) (h : script_sameCall a b = some r) : ∀ σ, Inj 0 σ → FnTri Tryd.prog 34 (renL σ [v_T_node_Call a, v_T_node_Call b]) (preOf σ 0 []) ((script_sameCall_v r).ren σ) (upOf σ []) := by
  refine fn_of Tryd.func34 (by kernel_rfl) (by kernel_rfl) (by kernel_rfl) trivial (by kernel_rfl) trivial (by kernel_rfl) ?_
  intro w0 W μ0 hμ
  unfold script_sameCall at h
  rcases itb_some h with ⟨c1, h⟩ | ⟨c1, h⟩
  · skip
    rcases itb_some h with ⟨c2, h⟩ | ⟨c2, h⟩
    · skip
      rcases itb_some h with ⟨c3, h⟩ | ⟨c3, h⟩
      · skip
        rcases itb_some h with ⟨c4, h⟩ | ⟨c4, h⟩
        · skip
          rcases itb_some h with ⟨c5, h⟩ | ⟨c5, h⟩
          · skip
            rcases itb_some h with ⟨c6, h⟩ | ⟨c6, h⟩
            · skip
              rcases itb_some h with ⟨c7, h⟩ | ⟨c7, h⟩
              · skip
                obtain ⟨y9, e8, h⟩ := bind_some h
                obtain rfl := Option.some.inj h
                exact run_ret mixed (L := []) (n := 15) (s := [.reg [], .reg [(4, { v := some (.bool (decide (a.f_Call = b.f_Call))) }), (5, hT), (12, hT), (17, { v := some (.bool (decide (a.f_Tx = b.f_Tx))) }), (19, hT), (24, { v := some (.bool (decide (a.f_Key = b.f_Key))) }), (26, hT), (33, hT), (40, hT), (47, hT), (52, hC (slices_Equal_uint8_uint8_v y9))]])
                  (a_ (a_ (r1_ (r2_ tr)) (a_ (r1_ (m_ 2 18 rfl (r1_ (m_ 2 18 rfl (a_ (a_ tr (a_ (leB (k_T_sess_Call a.f_Call b.f_Call)) tr)) (f_ c1 (r1_ (l_ 2 18 rfl (r1_ (l_ 2 18 rfl (r2_ (f_ c2 (r1_ (m_ 6 18 rfl (r1_ (m_ 6 18 rfl (a_ (a_ tr (a_ (leB (k_T_api_Tx a.f_Tx b.f_Tx)) tr)) (r1_ (f_ c3 (r1_ (m_ 14 18 rfl (r1_ (m_ 14 18 rfl (a_ (a_ tr (a_ (leB ((k_arr8 .u8) a.f_Key b.f_Key)) tr)) (r1_ (f_ c4 (r1_ (l_ 14 18 rfl (r1_ (l_ 14 18 rfl (r2_ (f_ c5 (r1_ (l_ 15 18 rfl (r1_ (l_ 15 18 rfl (r2_ (f_ c6 (r1_ (l_ 16 18 rfl (r1_ (l_ 16 18 rfl (r2_ (f_ c7 (r1_ (l_ 17 18 rfl (r1_ (l_ 17 18 rfl (c_ (slices_Equal_uint8_uint8_tri a.f_Votes b.f_Votes y9 e8) (r2_ tr)))))))))))))))))))))))))))))))))))))))))))))))))) tr)) tr) (by kernel_rfl) rfl
              · skip
                obtain rfl := Option.some.inj h
                exact run_ret mixed (L := []) (n := 15) (s := [.reg [], .reg [(4, { v := some (.bool (decide (a.f_Call = b.f_Call))) }), (5, hT), (12, hT), (17, { v := some (.bool (decide (a.f_Tx = b.f_Tx))) }), (19, hT), (24, { v := some (.bool (decide (a.f_Key = b.f_Key))) }), (26, hT), (33, hT), (40, hT), (47, hF)]])
                  (a_ (a_ (r1_ (r2_ tr)) (a_ (r1_ (m_ 2 18 rfl (r1_ (m_ 2 18 rfl (a_ (a_ tr (a_ (leB (k_T_sess_Call a.f_Call b.f_Call)) tr)) (f_ c1 (r1_ (l_ 2 18 rfl (r1_ (l_ 2 18 rfl (r2_ (f_ c2 (r1_ (m_ 6 18 rfl (r1_ (m_ 6 18 rfl (a_ (a_ tr (a_ (leB (k_T_api_Tx a.f_Tx b.f_Tx)) tr)) (r1_ (f_ c3 (r1_ (m_ 14 18 rfl (r1_ (m_ 14 18 rfl (a_ (a_ tr (a_ (leB ((k_arr8 .u8) a.f_Key b.f_Key)) tr)) (r1_ (f_ c4 (r1_ (l_ 14 18 rfl (r1_ (l_ 14 18 rfl (r2_ (f_ c5 (r1_ (l_ 15 18 rfl (r1_ (l_ 15 18 rfl (r2_ (f_ c6 (r1_ (l_ 16 18 rfl (r1_ (l_ 16 18 rfl (r2_ (f_ c7 (a_ tr (t4_ (r2_ tr))))))))))))))))))))))))))))))))))))))))))))))) tr)) tr) (by kernel_rfl) rfl
            · skip
              obtain rfl := Option.some.inj h
              exact run_ret mixed (L := []) (n := 15) (s := [.reg [], .reg [(4, { v := some (.bool (decide (a.f_Call = b.f_Call))) }), (5, hT), (12, hT), (17, { v := some (.bool (decide (a.f_Tx = b.f_Tx))) }), (19, hT), (24, { v := some (.bool (decide (a.f_Key = b.f_Key))) }), (26, hT), (33, hT), (40, hF)]])
                (a_ (a_ (r1_ (r2_ tr)) (a_ (r1_ (m_ 2 18 rfl (r1_ (m_ 2 18 rfl (a_ (a_ tr (a_ (leB (k_T_sess_Call a.f_Call b.f_Call)) tr)) (f_ c1 (r1_ (l_ 2 18 rfl (r1_ (l_ 2 18 rfl (r2_ (f_ c2 (r1_ (m_ 6 18 rfl (r1_ (m_ 6 18 rfl (a_ (a_ tr (a_ (leB (k_T_api_Tx a.f_Tx b.f_Tx)) tr)) (r1_ (f_ c3 (r1_ (m_ 14 18 rfl (r1_ (m_ 14 18 rfl (a_ (a_ tr (a_ (leB ((k_arr8 .u8) a.f_Key b.f_Key)) tr)) (r1_ (f_ c4 (r1_ (l_ 14 18 rfl (r1_ (l_ 14 18 rfl (r2_ (f_ c5 (r1_ (l_ 15 18 rfl (r1_ (l_ 15 18 rfl (r2_ (f_ c6 (a_ tr (t4_ (r2_ (a_ tr (t4_ (r2_ tr)))))))))))))))))))))))))))))))))))))))))))) tr)) tr) (by kernel_rfl) rfl
          · skip
            obtain rfl := Option.some.inj h
            exact run_ret mixed (L := []) (n := 15) (s := [.reg [], .reg [(4, { v := some (.bool (decide (a.f_Call = b.f_Call))) }), (5, hT), (12, hT), (17, { v := some (.bool (decide (a.f_Tx = b.f_Tx))) }), (19, hT), (24, { v := some (.bool (decide (a.f_Key = b.f_Key))) }), (26, hT), (33, hF)]])
              (a_ (a_ (r1_ (r2_ tr)) (a_ (r1_ (m_ 2 18 rfl (r1_ (m_ 2 18 rfl (a_ (a_ tr (a_ (leB (k_T_sess_Call a.f_Call b.f_Call)) tr)) (f_ c1 (r1_ (l_ 2 18 rfl (r1_ (l_ 2 18 rfl (r2_ (f_ c2 (r1_ (m_ 6 18 rfl (r1_ (m_ 6 18 rfl (a_ (a_ tr (a_ (leB (k_T_api_Tx a.f_Tx b.f_Tx)) tr)) (r1_ (f_ c3 (r1_ (m_ 14 18 rfl (r1_ (m_ 14 18 rfl (a_ (a_ tr (a_ (leB ((k_arr8 .u8) a.f_Key b.f_Key)) tr)) (r1_ (f_ c4 (r1_ (l_ 14 18 rfl (r1_ (l_ 14 18 rfl (r2_ (f_ c5 (a_ tr (t4_ (r2_ (a_ tr (t4_ (r2_ (a_ tr (t4_ (r2_ tr))))))))))))))))))))))))))))))))))))))))) tr)) tr) (by kernel_rfl) rfl
        · skip
          obtain rfl := Option.some.inj h
          exact run_ret mixed (L := []) (n := 15) (s := [.reg [], .reg [(4, { v := some (.bool (decide (a.f_Call = b.f_Call))) }), (5, hT), (12, hT), (17, { v := some (.bool (decide (a.f_Tx = b.f_Tx))) }), (19, hT), (24, { v := some (.bool (decide (a.f_Key = b.f_Key))) }), (26, hF)]])
            (a_ (a_ (r1_ (r2_ tr)) (a_ (r1_ (m_ 2 18 rfl (r1_ (m_ 2 18 rfl (a_ (a_ tr (a_ (leB (k_T_sess_Call a.f_Call b.f_Call)) tr)) (f_ c1 (r1_ (l_ 2 18 rfl (r1_ (l_ 2 18 rfl (r2_ (f_ c2 (r1_ (m_ 6 18 rfl (r1_ (m_ 6 18 rfl (a_ (a_ tr (a_ (leB (k_T_api_Tx a.f_Tx b.f_Tx)) tr)) (r1_ (f_ c3 (r1_ (m_ 14 18 rfl (r1_ (m_ 14 18 rfl (a_ (a_ tr (a_ (leB ((k_arr8 .u8) a.f_Key b.f_Key)) tr)) (r1_ (f_ c4 (a_ tr (t4_ (r2_ (a_ tr (t4_ (r2_ (a_ tr (t4_ (r2_ (a_ tr (t4_ (r2_ tr)))))))))))))))))))))))))))))))))))))) tr)) tr) (by kernel_rfl) rfl
      · skip
        obtain rfl := Option.some.inj h
        exact run_ret mixed (L := []) (n := 15) (s := [.reg [], .reg [(4, { v := some (.bool (decide (a.f_Call = b.f_Call))) }), (5, hT), (12, hT), (17, { v := some (.bool (decide (a.f_Tx = b.f_Tx))) }), (19, hF)]])
          (a_ (a_ (r1_ (r2_ tr)) (a_ (r1_ (m_ 2 18 rfl (r1_ (m_ 2 18 rfl (a_ (a_ tr (a_ (leB (k_T_sess_Call a.f_Call b.f_Call)) tr)) (f_ c1 (r1_ (l_ 2 18 rfl (r1_ (l_ 2 18 rfl (r2_ (f_ c2 (r1_ (m_ 6 18 rfl (r1_ (m_ 6 18 rfl (a_ (a_ tr (a_ (leB (k_T_api_Tx a.f_Tx b.f_Tx)) tr)) (r1_ (f_ c3 (a_ tr (t4_ (r2_ (a_ tr (t4_ (r2_ (a_ tr (t4_ (r2_ (a_ tr (t4_ (r2_ (a_ tr (t4_ (r2_ tr)))))))))))))))))))))))))))))))))) tr)) tr) (by kernel_rfl) rfl
    · skip
      obtain rfl := Option.some.inj h
      exact run_ret mixed (L := []) (n := 15) (s := [.reg [], .reg [(4, { v := some (.bool (decide (a.f_Call = b.f_Call))) }), (5, hT), (12, hF)]])
        (a_ (a_ (r1_ (r2_ tr)) (a_ (r1_ (m_ 2 18 rfl (r1_ (m_ 2 18 rfl (a_ (a_ tr (a_ (leB (k_T_sess_Call a.f_Call b.f_Call)) tr)) (f_ c1 (r1_ (l_ 2 18 rfl (r1_ (l_ 2 18 rfl (r2_ (f_ c2 (a_ tr (t4_ (r2_ (a_ tr (t4_ (r2_ (a_ tr (t4_ (r2_ (a_ tr (t4_ (r2_ (a_ tr (t4_ (r2_ (a_ tr (t4_ (r2_ tr)))))))))))))))))))))))))))))) tr)) tr) (by kernel_rfl) rfl
  · skip
    obtain rfl := Option.some.inj h
    exact run_ret mixed (L := []) (n := 15) (s := [.reg [], .reg [(4, { v := some (.bool (decide (a.f_Call = b.f_Call))) }), (5, hF)]])
      (a_ (a_ (r1_ (r2_ tr)) (a_ (r1_ (m_ 2 18 rfl (r1_ (m_ 2 18 rfl (a_ (a_ tr (a_ (leB (k_T_sess_Call a.f_Call b.f_Call)) tr)) (f_ c1 (a_ tr (t4_ (r2_ (a_ tr (t4_ (r2_ (a_ tr (t4_ (r2_ (a_ tr (t4_ (r2_ (a_ tr (t4_ (r2_ (a_ tr (t4_ (r2_ (a_ tr (t4_ (r2_ tr))))))))))))))))))))))))))) tr)) tr) (by kernel_rfl) rfl

theorem script_sameCall_tri (a : T_node_Call) (b : T_node_Call) (r : (Bool)) (h : script_sameCall a b = some r) : FnTri Tryd.prog 34 [v_T_node_Call a, v_T_node_Call b] [] (script_sameCall_v r) [] := FnTri.none (script_sameCall_ok a b r h) rfl rfl

/-- bytes.Equal -/

def bytes_Equal_v (r : (Bool)) : LV := .bool r

def bytes_Equal (a : List (Int)) (b : List (Int)) : Option ((Bool)) :=
  some ((strI a) == (strI b))

theorem bytes_Equal_ok (a : List (Int)) (b : List (Int)) (r : (Bool)) (h : bytes_Equal a b = some r) : ∀ σ, Inj 0 σ → FnTri Tryd.prog 35 (renL σ [.ds 1 (a).length (rowF (cInt .u8) default a), .ds 1 (b).length (rowF (cInt .u8) default b)]) (preOf σ 0 []) ((bytes_Equal_v r).ren σ) (upOf σ []) := by
  refine fn_of Tryd.func35 (by kernel_rfl) (by kernel_rfl) (by kernel_rfl) trivial (by kernel_rfl) trivial (by kernel_rfl) ?_
  intro w0 W μ0 hμ
  unfold bytes_Equal at h
  obtain rfl := Option.some.inj h
  exact run_ret mixed (L := []) (n := 15) (s := [.reg [], .reg [(1, { v := some (.str (strI a)) }), (3, { v := some (.str (strI b)) })]])
    (a_ (a_ (r1_ tr) (a_ (r1_ (a_ (a_ (a_ (Eq.refl 1) (str_ob a)) (a_ (le_str a) tr)) (r1_ (a_ (a_ (a_ (Eq.refl 1) (str_ob b)) (a_ (le_str b) tr)) (r2_ tr))))) tr)) tr) (by kernel_rfl) rfl

theorem bytes_Equal_tri (a : List (Int)) (b : List (Int)) (r : (Bool)) (h : bytes_Equal a b = some r) : FnTri Tryd.prog 35 [.ds 1 (a).length (rowF (cInt .u8) default a), .ds 1 (b).length (rowF (cInt .u8) default b)] [] (bytes_Equal_v r) [] := FnTri.none (bytes_Equal_ok a b r h) rfl rfl

/-- parrel/script.Same -/

def script_Same_v (r : (Bool)) : LV := .bool r

def script_Same (a : T_script_Step) (b : T_script_Step) : Option ((Bool)) :=
  if ((a.f_Kind == b.f_Kind) : Bool) then
    if ((a.f_Node == b.f_Node) : Bool) then
      if ((a.f_Wire == b.f_Wire) : Bool) then
        if ((a.f_N == b.f_N) : Bool) then
          if ((a.f_Cut == b.f_Cut) : Bool) then
            if ((a.f_To == b.f_To) : Bool) then
              (script_sameCall a.f_Call b.f_Call).bind fun y8 =>
              if (y8 : Bool) then
                (bytes_Equal a.f_Bytes b.f_Bytes).bind fun y11 =>
                some y11
              else
                some false
            else
              some false
          else
            some false
        else
          some false
      else
        some false
    else
      some false
  else
    some false

theorem script_Same_ok (a : T_script_Step) (b : T_script_Step) (r : (Bool)) (h : script_Same a b = some r) : ∀ σ, Inj 0 σ → FnTri Tryd.prog 14 (renL σ [v_T_script_Step a, v_T_script_Step b]) (preOf σ 0 []) ((script_Same_v r).ren σ) (upOf σ []) := by
  refine fn_of Tryd.func14 (by kernel_rfl) (by kernel_rfl) (by kernel_rfl) trivial (by kernel_rfl) trivial (by kernel_rfl) ?_
  intro w0 W μ0 hμ
  unfold script_Same at h
  rcases itb_some h with ⟨c1, h⟩ | ⟨c1, h⟩
  · skip
    rcases itb_some h with ⟨c2, h⟩ | ⟨c2, h⟩
    · skip
      rcases itb_some h with ⟨c3, h⟩ | ⟨c3, h⟩
      · skip
        rcases itb_some h with ⟨c4, h⟩ | ⟨c4, h⟩
        · skip
          rcases itb_some h with ⟨c5, h⟩ | ⟨c5, h⟩
          · skip
            rcases itb_some h with ⟨c6, h⟩ | ⟨c6, h⟩
            · skip
              obtain ⟨y8, e7, h⟩ := bind_some h
              rcases itb_some h with ⟨c9, h⟩ | ⟨c9, h⟩
              · skip
                obtain ⟨y11, e10, h⟩ := bind_some h
                obtain rfl := Option.some.inj h
                exact run_ret mixed (L := []) (n := 15) (s := [.reg [], .reg [(5, hT), (12, hT), (19, hT), (26, hT), (33, hT), (40, hT), (45, hC (script_sameCall_v y8)), (47, hT), (52, hC (bytes_Equal_v y11))]])
                  (a_ (a_ (r1_ (r2_ tr)) (a_ (r1_ (l_ 0 25 rfl (r1_ (l_ 0 25 rfl (r1_ (f_ c1 (r1_ (l_ 1 25 rfl (r1_ (l_ 1 25 rfl (r2_ (f_ c2 (r1_ (l_ 2 25 rfl (r1_ (l_ 2 25 rfl (r2_ (f_ c3 (r1_ (l_ 3 25 rfl (r1_ (l_ 3 25 rfl (r2_ (f_ c4 (r1_ (l_ 4 25 rfl (r1_ (l_ 4 25 rfl (r2_ (f_ c5 (r1_ (l_ 23 25 rfl (r1_ (l_ 23 25 rfl (r2_ (f_ c6 (r1_ (m_ 23 25 rfl (r1_ (m_ 23 25 rfl (c_ (script_sameCall_tri a.f_Call b.f_Call y8 e7) (r1_ (f_ c9 (r1_ (l_ 24 25 rfl (r1_ (l_ 24 25 rfl (c_ (bytes_Equal_tri a.f_Bytes b.f_Bytes y11 e10) (r2_ tr))))))))))))))))))))))))))))))))))))))))))))))))) tr)) tr) (by kernel_rfl) rfl
              · skip
                obtain rfl := Option.some.inj h
                exact run_ret mixed (L := []) (n := 15) (s := [.reg [], .reg [(5, hT), (12, hT), (19, hT), (26, hT), (33, hT), (40, hT), (45, hC (script_sameCall_v y8)), (47, hF)]])
                  (a_ (a_ (r1_ (r2_ tr)) (a_ (r1_ (l_ 0 25 rfl (r1_ (l_ 0 25 rfl (r1_ (f_ c1 (r1_ (l_ 1 25 rfl (r1_ (l_ 1 25 rfl (r2_ (f_ c2 (r1_ (l_ 2 25 rfl (r1_ (l_ 2 25 rfl (r2_ (f_ c3 (r1_ (l_ 3 25 rfl (r1_ (l_ 3 25 rfl (r2_ (f_ c4 (r1_ (l_ 4 25 rfl (r1_ (l_ 4 25 rfl (r2_ (f_ c5 (r1_ (l_ 23 25 rfl (r1_ (l_ 23 25 rfl (r2_ (f_ c6 (r1_ (m_ 23 25 rfl (r1_ (m_ 23 25 rfl (c_ (script_sameCall_tri a.f_Call b.f_Call y8 e7) (r1_ (f_ c9 (a_ tr (t4_ (r2_ tr)))))))))))))))))))))))))))))))))))))))))))))) tr)) tr) (by kernel_rfl) rfl
            · skip
              obtain rfl := Option.some.inj h
              exact run_ret mixed (L := []) (n := 15) (s := [.reg [], .reg [(5, hT), (12, hT), (19, hT), (26, hT), (33, hT), (40, hF)]])
                (a_ (a_ (r1_ (r2_ tr)) (a_ (r1_ (l_ 0 25 rfl (r1_ (l_ 0 25 rfl (r1_ (f_ c1 (r1_ (l_ 1 25 rfl (r1_ (l_ 1 25 rfl (r2_ (f_ c2 (r1_ (l_ 2 25 rfl (r1_ (l_ 2 25 rfl (r2_ (f_ c3 (r1_ (l_ 3 25 rfl (r1_ (l_ 3 25 rfl (r2_ (f_ c4 (r1_ (l_ 4 25 rfl (r1_ (l_ 4 25 rfl (r2_ (f_ c5 (r1_ (l_ 23 25 rfl (r1_ (l_ 23 25 rfl (r2_ (f_ c6 (a_ tr (t4_ (r2_ (a_ tr (t4_ (r2_ tr)))))))))))))))))))))))))))))))))))))))))) tr)) tr) (by kernel_rfl) rfl
          · skip
            obtain rfl := Option.some.inj h
            exact run_ret mixed (L := []) (n := 15) (s := [.reg [], .reg [(5, hT), (12, hT), (19, hT), (26, hT), (33, hF)]])
              (a_ (a_ (r1_ (r2_ tr)) (a_ (r1_ (l_ 0 25 rfl (r1_ (l_ 0 25 rfl (r1_ (f_ c1 (r1_ (l_ 1 25 rfl (r1_ (l_ 1 25 rfl (r2_ (f_ c2 (r1_ (l_ 2 25 rfl (r1_ (l_ 2 25 rfl (r2_ (f_ c3 (r1_ (l_ 3 25 rfl (r1_ (l_ 3 25 rfl (r2_ (f_ c4 (r1_ (l_ 4 25 rfl (r1_ (l_ 4 25 rfl (r2_ (f_ c5 (a_ tr (t4_ (r2_ (a_ tr (t4_ (r2_ (a_ tr (t4_ (r2_ tr))))))))))))))))))))))))))))))))))))))) tr)) tr) (by kernel_rfl) rfl
        · skip
          obtain rfl := Option.some.inj h
          exact run_ret mixed (L := []) (n := 15) (s := [.reg [], .reg [(5, hT), (12, hT), (19, hT), (26, hF)]])
            (a_ (a_ (r1_ (r2_ tr)) (a_ (r1_ (l_ 0 25 rfl (r1_ (l_ 0 25 rfl (r1_ (f_ c1 (r1_ (l_ 1 25 rfl (r1_ (l_ 1 25 rfl (r2_ (f_ c2 (r1_ (l_ 2 25 rfl (r1_ (l_ 2 25 rfl (r2_ (f_ c3 (r1_ (l_ 3 25 rfl (r1_ (l_ 3 25 rfl (r2_ (f_ c4 (a_ tr (t4_ (r2_ (a_ tr (t4_ (r2_ (a_ tr (t4_ (r2_ (a_ tr (t4_ (r2_ tr)))))))))))))))))))))))))))))))))))) tr)) tr) (by kernel_rfl) rfl
      · skip
        obtain rfl := Option.some.inj h
        exact run_ret mixed (L := []) (n := 15) (s := [.reg [], .reg [(5, hT), (12, hT), (19, hF)]])
          (a_ (a_ (r1_ (r2_ tr)) (a_ (r1_ (l_ 0 25 rfl (r1_ (l_ 0 25 rfl (r1_ (f_ c1 (r1_ (l_ 1 25 rfl (r1_ (l_ 1 25 rfl (r2_ (f_ c2 (r1_ (l_ 2 25 rfl (r1_ (l_ 2 25 rfl (r2_ (f_ c3 (a_ tr (t4_ (r2_ (a_ tr (t4_ (r2_ (a_ tr (t4_ (r2_ (a_ tr (t4_ (r2_ (a_ tr (t4_ (r2_ tr))))))))))))))))))))))))))))))))) tr)) tr) (by kernel_rfl) rfl
    · skip
      obtain rfl := Option.some.inj h
      exact run_ret mixed (L := []) (n := 15) (s := [.reg [], .reg [(5, hT), (12, hF)]])
        (a_ (a_ (r1_ (r2_ tr)) (a_ (r1_ (l_ 0 25 rfl (r1_ (l_ 0 25 rfl (r1_ (f_ c1 (r1_ (l_ 1 25 rfl (r1_ (l_ 1 25 rfl (r2_ (f_ c2 (a_ tr (t4_ (r2_ (a_ tr (t4_ (r2_ (a_ tr (t4_ (r2_ (a_ tr (t4_ (r2_ (a_ tr (t4_ (r2_ (a_ tr (t4_ (r2_ tr)))))))))))))))))))))))))))))) tr)) tr) (by kernel_rfl) rfl
  · skip
    obtain rfl := Option.some.inj h
    exact run_ret mixed (L := []) (n := 15) (s := [.reg [], .reg [(5, hF)]])
      (a_ (a_ (r1_ (r2_ tr)) (a_ (r1_ (l_ 0 25 rfl (r1_ (l_ 0 25 rfl (r1_ (f_ c1 (a_ tr (t4_ (r2_ (a_ tr (t4_ (r2_ (a_ tr (t4_ (r2_ (a_ tr (t4_ (r2_ (a_ tr (t4_ (r2_ (a_ tr (t4_ (r2_ (a_ tr (t4_ (r2_ tr))))))))))))))))))))))))))) tr)) tr) (by kernel_rfl) rfl

theorem script_Same_tri (a : T_script_Step) (b : T_script_Step) (r : (Bool)) (h : script_Same a b = some r) : FnTri Tryd.prog 14 [v_T_script_Step a, v_T_script_Step b] [] (script_Same_v r) [] := FnTri.none (script_Same_ok a b r h) rfl rfl

/-- strings.trimRightByte -/

def strings_trimRightByte_v (r : (List UInt8)) : LV := .str r

def strings_trimRightByte_T0 (c : Int) (s2 : List UInt8) : List LV := [.str s2, .int .u8 c, .any, .any, .any, .any, .any, .any, .any, .any, .any, .any, .any, .any, .any, .any, .any, .any, .any, .any, .any, .any, .any]

def strings_trimRightByte_H0 (c : Int) (s2 : List UInt8) : Heap := []

def strings_trimRightByte_l0 (c : Int)  : Nat → (List UInt8) → Option ((List UInt8))
  | 0, _ => none
  | fuel + 1, s2 =>
    if ((decide (0 < ((s2).length : Int))) : Bool) then
      if 0 ≤ (IntKind.wrap .i64 (((s2).length : Int) - 1)) ∧ (IntKind.wrap .i64 (((s2).length : Int) - 1)) < (((s2).length : Nat) : Int) then
      if ((((s2.getD ((IntKind.wrap .i64 (((s2).length : Int) - 1))).toNat 0).toNat : Int) == c) : Bool) then
        if 0 ≤ (0 : Int) ∧ (0 : Int) ≤ (IntKind.wrap .i64 (((s2).length : Int) - 1)) ∧ (IntKind.wrap .i64 (((s2).length : Int) - 1)) ≤ (((s2).length : Nat) : Int) then
        strings_trimRightByte_l0 c  fuel ((s2.drop 0).take (((IntKind.wrap .i64 (((s2).length : Int) - 1))).toNat - 0))
        else none
      else
        some s2
      else none
    else
      some s2

def strings_trimRightByte (s : List UInt8) (c : Int) : Option ((List UInt8)) :=
  strings_trimRightByte_l0 c  big s

theorem strings_trimRightByte_l0_ok {w0 : World} {W : Nat → Prop} {μ0 : Emb} (hμ : ∀ c p, μ0 c = some p → c < 0) (c : Int)  : ∀ (fuel : Nat) (s2 : List UInt8) (r : (List UInt8)), strings_trimRightByte_l0 c  fuel s2 = some r → kont Tryd.prog w0 W μ0 (FnPost Tryd.prog Tryd.f79 0 0 (strings_trimRightByte_v r) []) (kAt (bodyOf Tryd.f79) 0) none (strings_trimRightByte_T0 c s2) (strings_trimRightByte_H0 c s2) := by
  intro fuel
  induction fuel with
  | zero => intro s2 r h; rw [strings_trimRightByte_l0] at h; cases h
  | succ fuel ih =>
    intro s2 r h
    rw [strings_trimRightByte_l0] at h
    rcases itb_some h with ⟨cL0_1, h⟩ | ⟨cL0_1, h⟩
    · skip
      obtain ⟨gL0_2, h⟩ := guard_some h
      rcases itb_some h with ⟨cL0_3, h⟩ | ⟨cL0_3, h⟩
      · skip
        obtain ⟨gL0_4, h⟩ := guard_some h
        exact run_to mixed hμ (L := []) (n := 20) (s := [.go, .reg [(3, hT), (11, hT)], .reg []])
          (a_ (r1_ (r2_ (f_ cL0_1 (r4_ (a_ (a_ gL0_2 tr) (r2_ (f_ cL0_3 tr))))))) (a_ (r4_ (a_ (a_ gL0_4 tr) (r1_ tr))) tr)) (ih _ r h) (by kernel_rfl) trivial
      · skip
        obtain rfl := Option.some.inj h
        exact run_ret mixed (L := []) (n := 19) (s := [.go, .reg [(3, hT), (11, hF)], .reg []])
          (a_ (a_ (r1_ (r2_ (f_ cL0_1 (r4_ (a_ (a_ gL0_2 tr) (r2_ (f_ cL0_3 tr))))))) (a_ (r2_ tr) tr)) tr) (by kernel_rfl) rfl
    · skip
      obtain rfl := Option.some.inj h
      exact run_ret mixed (L := []) (n := 19) (s := [.go, .reg [(3, hF)], .reg []])
        (a_ (a_ (r1_ (r2_ (f_ cL0_1 (a_ tr (t2_ (t4_ (r1_ tr))))))) (a_ (r2_ tr) tr)) tr) (by kernel_rfl) rfl

theorem strings_trimRightByte_ok (s : List UInt8) (c : Int) (r : (List UInt8)) (h : strings_trimRightByte s c = some r) : ∀ σ, Inj 0 σ → FnTri Tryd.prog 79 (renL σ [.str s, .int .u8 c]) (preOf σ 0 []) ((strings_trimRightByte_v r).ren σ) (upOf σ []) := by
  refine fn_of Tryd.func79 (by kernel_rfl) (by kernel_rfl) (by kernel_rfl) trivial (by kernel_rfl) trivial (by kernel_rfl) ?_
  intro w0 W μ0 hμ
  unfold strings_trimRightByte at h
  exact run_to mixed hμ (L := []) (n := 15) (s := [.reg []])
    (a_ (r1_ tr) tr) (strings_trimRightByte_l0_ok hμ c  big _ r h) (by kernel_rfl) trivial

theorem strings_trimRightByte_tri (s : List UInt8) (c : Int) (r : (List UInt8)) (h : strings_trimRightByte s c = some r) : FnTri Tryd.prog 79 [.str s, .int .u8 c] [] (strings_trimRightByte_v r) [] := FnTri.none (strings_trimRightByte_ok s c r h) rfl rfl

/-- strings.TrimRight -/

def strings_TrimRight_v (r : (List UInt8)) : LV := .str r

def strings_TrimRight (s : List UInt8) : Option ((List UInt8)) :=
  if ((s == []) : Bool) then
    some s
  else
    (strings_trimRightByte s 0).bind fun y3 =>
    some y3

theorem strings_TrimRight_ok (s : List UInt8) (r : (List UInt8)) (h : strings_TrimRight s = some r) : ∀ σ, Inj 0 σ → FnTri Tryd.prog 64 (renL σ [.str s, .str ([0] : List UInt8)]) (preOf σ 0 []) ((strings_TrimRight_v r).ren σ) (upOf σ []) := by
  refine fn_of Tryd.func64 (by kernel_rfl) (by kernel_rfl) (by kernel_rfl) trivial (by kernel_rfl) trivial (by kernel_rfl) ?_
  intro w0 W μ0 hμ
  unfold strings_TrimRight at h
  rcases itb_some h with ⟨c1, h⟩ | ⟨c1, h⟩
  · skip
    obtain rfl := Option.some.inj h
    exact run_ret mixed (L := []) (n := 20) (s := [.reg [], .reg [(2, hT)], .reg []])
      (a_ (a_ (r1_ tr) (a_ (r2_ (f_ c1 (t2_ (r1_ tr)))) (a_ (r2_ tr) tr))) tr) (by kernel_rfl) rfl
  · skip
    obtain ⟨y3, e2, h⟩ := bind_some h
    obtain rfl := Option.some.inj h
    exact run_ret mixed (L := []) (n := 26) (s := [.reg [], .reg [(2, hF)], .reg [], .reg [(3, hC (strings_trimRightByte_v y3))]])
      (a_ (a_ (r1_ tr) (a_ (r2_ (f_ c1 (r1_ (r2_ tr)))) (a_ (r1_ (r4_ (a_ (a_ (a_ (lei_ 0 0 rfl) (lti_ 0 1 rfl)) tr) (r2_ tr)))) (a_ (r2_ (a_ (a_ (a_ (lei_ 0 0 rfl) (lti_ 0 1 rfl)) tr) (c_ (strings_trimRightByte_tri s 0 y3 e2) (r1_ tr)))) tr)))) tr) (by kernel_rfl) rfl

theorem strings_TrimRight_tri (s : List UInt8) (r : (List UInt8)) (h : strings_TrimRight s = some r) : FnTri Tryd.prog 64 [.str s, .str ([0] : List UInt8)] [] (strings_TrimRight_v r) [] := FnTri.none (strings_TrimRight_ok s r h) rfl rfl

/-- parrel/ids.Name -/

def ids_Name_v (r : (List UInt8) × (Bool)) : LV := .tup [.str r.1, .bool r.2]

def ids_Name_T1000004   : List LV := [.any, .any, .any, .any, .any, .any, .any, .any, .any, .any, .any, .any, .any, .any, .any, .any, .any, .any, .any, .any, .any, .any, .any]

def ids_Name_H1000004   : Heap := []

def ids_Name_T1000005 (y2 : (List UInt8))  : List LV := [.any, .any, .any, .any, .str y2, .any, .any, .any, .any, .any, .any, .any, .any, .any, .any, .any, .any, .any, .any, .any, .any, .any, .any]

def ids_Name_H1000005 (y2 : (List UInt8))  : Heap := []

def ids_Name_c4    : Option ((List UInt8) × (Bool)) :=
  some ([], false)

def ids_Name_c5 (y2 : (List UInt8))   : Option ((List UInt8) × (Bool)) :=
  some (y2, true)

def ids_Name (x_k : A8 (Int)) : Option ((List UInt8) × (Bool)) :=
  (strings_TrimRight (strI (([x_k.a0, x_k.a1, x_k.a2, x_k.a3, x_k.a4, x_k.a5, x_k.a6, x_k.a7] : List Int).take 8))).bind fun y2 =>
  (ids_KeyOf y2).bind fun y4 =>
  if ((y4.2 != 0) : Bool) then
    some ([], false)
  else
    if ((!decide (y4.1 = x_k)) : Bool) then
      ids_Name_c4   
    else
      ids_Name_c5 y2  

theorem ids_Name_c4_ok {w0 : World} {W : Nat → Prop} {μ0 : Emb} (hμ : ∀ c p, μ0 c = some p → c < 0)    (r : (List UInt8) × (Bool)) (h : ids_Name_c4    = some r) : kont Tryd.prog w0 W μ0 (FnPost Tryd.prog Tryd.f47 0 0 (ids_Name_v r) []) (kAtR (bodyOf Tryd.f47) 4) none (ids_Name_T1000004  ) (ids_Name_H1000004  ) := by
  unfold ids_Name_c4 at h
  obtain rfl := Option.some.inj h
  exact run_ret mixed (L := []) (n := 11) (s := [.reg []])
    (a_ (a_ (r2_ tr) tr) tr) (by kernel_rfl) rfl

theorem ids_Name_c5_ok {w0 : World} {W : Nat → Prop} {μ0 : Emb} (hμ : ∀ c p, μ0 c = some p → c < 0) (y2 : (List UInt8))   (r : (List UInt8) × (Bool)) (h : ids_Name_c5 y2   = some r) : kont Tryd.prog w0 W μ0 (FnPost Tryd.prog Tryd.f47 0 0 (ids_Name_v r) []) (kAtR (bodyOf Tryd.f47) 5) none (ids_Name_T1000005 y2 ) (ids_Name_H1000005 y2 ) := by
  unfold ids_Name_c5 at h
  obtain rfl := Option.some.inj h
  exact run_ret mixed (L := []) (n := 11) (s := [.reg []])
    (a_ (a_ (r1_ (r2_ tr)) tr) tr) (by kernel_rfl) rfl

theorem ids_Name_ok (x_k : A8 (Int)) (r : (List UInt8) × (Bool)) (h : ids_Name x_k = some r) : ∀ σ, Inj 0 σ → FnTri Tryd.prog 47 (renL σ [.agg [.int .u8 x_k.a0, .int .u8 x_k.a1, .int .u8 x_k.a2, .int .u8 x_k.a3, .int .u8 x_k.a4, .int .u8 x_k.a5, .int .u8 x_k.a6, .int .u8 x_k.a7]]) (preOf σ 0 []) ((ids_Name_v r).ren σ) (upOf σ []) := by
  refine fn_of Tryd.func47 (by kernel_rfl) (by kernel_rfl) (by kernel_rfl) trivial (by kernel_rfl) trivial (by kernel_rfl) ?_
  intro w0 W μ0 hμ
  unfold ids_Name at h
  obtain ⟨y2, e1, h⟩ := bind_some h
  obtain ⟨y4, e3, h⟩ := bind_some h
  rcases itb_some h with ⟨c5, h⟩ | ⟨c5, h⟩
  · skip
    obtain rfl := Option.some.inj h
    exact run_ret mixed (L := []) (n := 26) (s := [.reg [], .reg [(1, { v := some (.str (strI (([x_k.a0, x_k.a1, x_k.a2, x_k.a3, x_k.a4, x_k.a5, x_k.a6, x_k.a7] : List Int).take 8))) }), (2, hC (strings_TrimRight_v y2))], .reg [(1, hC (ids_KeyOf_v y4))], .reg [(2, hT)], .reg []])
      (a_ (a_ (r1_ (r2_ tr)) (a_ (a_ (a_ (a_ (lei_ 0 0 rfl) (a_ (lei_ 0 8 rfl) (lei_ 8 8 rfl))) tr) (a_ (a_ (arr_ob [x_k.a0, x_k.a1, x_k.a2, x_k.a3, x_k.a4, x_k.a5, x_k.a6, x_k.a7] 8 8 (le_ 8 8 rfl) rfl) (a_ (le_arr [x_k.a0, x_k.a1, x_k.a2, x_k.a3, x_k.a4, x_k.a5, x_k.a6, x_k.a7] 8 8 (le_ 8 8 rfl) rfl) tr)) (a_ (a_ (a_ (strings_TrimRight_tri (strI (([x_k.a0, x_k.a1, x_k.a2, x_k.a3, x_k.a4, x_k.a5, x_k.a6, x_k.a7] : List Int).take 8)) y2 e1) tr) tr) (r1_ tr)))) (a_ (r1_ (c_ (ids_KeyOf_tri y2 y4 e3) (r4_ (a_ (a_ (a_ (Eq.refl 8) (a_ (le_ 8 8 rfl) (Eq.refl 0))) tr) (r1_ tr))))) (a_ (r2_ (f_ c5 (a_ tr (t2_ (r1_ tr))))) (a_ (r2_ tr) tr))))) tr) (by kernel_rfl) rfl
  · skip
    rcases itb_some h with ⟨c6, h⟩ | ⟨c6, h⟩
    · skip
      exact run_to mixed hμ (L := []) (n := 24) (s := [.reg [], .reg [(1, { v := some (.str (strI (([x_k.a0, x_k.a1, x_k.a2, x_k.a3, x_k.a4, x_k.a5, x_k.a6, x_k.a7] : List Int).take 8))) }), (2, hC (strings_TrimRight_v y2))], .reg [(1, hC (ids_KeyOf_v y4))], .reg [(2, hF), (5, { v := some (.bool (!decide (y4.1 = x_k))) }), (6, hT)]])
        (a_ (r1_ (r2_ tr)) (a_ (a_ (a_ (a_ (lei_ 0 0 rfl) (a_ (lei_ 0 8 rfl) (lei_ 8 8 rfl))) tr) (a_ (a_ (arr_ob [x_k.a0, x_k.a1, x_k.a2, x_k.a3, x_k.a4, x_k.a5, x_k.a6, x_k.a7] 8 8 (le_ 8 8 rfl) rfl) (a_ (le_arr [x_k.a0, x_k.a1, x_k.a2, x_k.a3, x_k.a4, x_k.a5, x_k.a6, x_k.a7] 8 8 (le_ 8 8 rfl) rfl) tr)) (a_ (a_ (a_ (strings_TrimRight_tri (strI (([x_k.a0, x_k.a1, x_k.a2, x_k.a3, x_k.a4, x_k.a5, x_k.a6, x_k.a7] : List Int).take 8)) y2 e1) tr) tr) (r1_ tr)))) (a_ (r1_ (c_ (ids_KeyOf_tri y2 y4 e3) (r4_ (a_ (a_ (a_ (Eq.refl 8) (a_ (le_ 8 8 rfl) (Eq.refl 0))) tr) (r1_ tr))))) (a_ (r2_ (f_ c5 (m_ 8 8 rfl (m_ 8 8 rfl (a_ (a_ tr (a_ (leB (congrArg not ((k_arr8 .u8) y4.1 x_k))) tr)) (f_ c6 tr)))))) tr)))) (ids_Name_c4_ok hμ    r h) (by kernel_rfl) trivial
    · skip
      exact run_to mixed hμ (L := []) (n := 25) (s := [.reg [], .reg [(1, { v := some (.str (strI (([x_k.a0, x_k.a1, x_k.a2, x_k.a3, x_k.a4, x_k.a5, x_k.a6, x_k.a7] : List Int).take 8))) }), (2, hC (strings_TrimRight_v y2))], .reg [(1, hC (ids_KeyOf_v y4))], .reg [(2, hF), (5, { v := some (.bool (!decide (y4.1 = x_k))) }), (6, hF)]])
        (a_ (r1_ (r2_ tr)) (a_ (a_ (a_ (a_ (lei_ 0 0 rfl) (a_ (lei_ 0 8 rfl) (lei_ 8 8 rfl))) tr) (a_ (a_ (arr_ob [x_k.a0, x_k.a1, x_k.a2, x_k.a3, x_k.a4, x_k.a5, x_k.a6, x_k.a7] 8 8 (le_ 8 8 rfl) rfl) (a_ (le_arr [x_k.a0, x_k.a1, x_k.a2, x_k.a3, x_k.a4, x_k.a5, x_k.a6, x_k.a7] 8 8 (le_ 8 8 rfl) rfl) tr)) (a_ (a_ (a_ (strings_TrimRight_tri (strI (([x_k.a0, x_k.a1, x_k.a2, x_k.a3, x_k.a4, x_k.a5, x_k.a6, x_k.a7] : List Int).take 8)) y2 e1) tr) tr) (r1_ tr)))) (a_ (r1_ (c_ (ids_KeyOf_tri y2 y4 e3) (r4_ (a_ (a_ (a_ (Eq.refl 8) (a_ (le_ 8 8 rfl) (Eq.refl 0))) tr) (r1_ tr))))) (a_ (r2_ (f_ c5 (m_ 8 8 rfl (m_ 8 8 rfl (a_ (a_ tr (a_ (leB (congrArg not ((k_arr8 .u8) y4.1 x_k))) tr)) (f_ c6 tr)))))) tr)))) (ids_Name_c5_ok hμ y2   r h) (by kernel_rfl) trivial

theorem ids_Name_tri (x_k : A8 (Int)) (r : (List UInt8) × (Bool)) (h : ids_Name x_k = some r) : FnTri Tryd.prog 47 [.agg [.int .u8 x_k.a0, .int .u8 x_k.a1, .int .u8 x_k.a2, .int .u8 x_k.a3, .int .u8 x_k.a4, .int .u8 x_k.a5, .int .u8 x_k.a6, .int .u8 x_k.a7]] [] (ids_Name_v r) [] := FnTri.none (ids_Name_ok x_k r h) rfl rfl

/-- parrel/script.callMay -/

def script_callMay_v (r : (Bool)) : LV := .bool r

def script_callMay (c : T_node_Call) : Option ((Bool)) :=
  (script_hasKey c.f_Kind).bind fun y2 =>
  if (y2 : Bool) then
    (ids_Name c.f_Key).bind fun y5 =>
    if ((!y5.2) : Bool) then
      some false
    else
      if ((decide (1 ≤ c.f_Kind)) : Bool) then
        if ((decide (c.f_Kind ≤ 6)) : Bool) then
          if ((decide ((if c.f_Tx.f_Num > (if c.f_Tx.f_Boot > c.f_Call.f_Seq then c.f_Tx.f_Boot else c.f_Call.f_Seq) then c.f_Tx.f_Num else (if c.f_Tx.f_Boot > c.f_Call.f_Seq then c.f_Tx.f_Boot else c.f_Call.f_Seq)) ≤ 2147483647)) : Bool) then
            if ((decide (((c.f_Votes).length : Int) ≤ 8)) : Bool) then
              some (decide (((c.f_Value).length : Int) ≤ 64))
            else
              some false
          else
            some false
        else
          some false
      else
        some false
  else
    if ((decide (1 ≤ c.f_Kind)) : Bool) then
      if ((decide (c.f_Kind ≤ 6)) : Bool) then
        if ((decide ((if c.f_Tx.f_Num > (if c.f_Tx.f_Boot > c.f_Call.f_Seq then c.f_Tx.f_Boot else c.f_Call.f_Seq) then c.f_Tx.f_Num else (if c.f_Tx.f_Boot > c.f_Call.f_Seq then c.f_Tx.f_Boot else c.f_Call.f_Seq)) ≤ 2147483647)) : Bool) then
          if ((decide (((c.f_Votes).length : Int) ≤ 8)) : Bool) then
            some (decide (((c.f_Value).length : Int) ≤ 64))
          else
            some false
        else
          some false
      else
        some false
    else
      some false

theorem script_callMay_ok (c : T_node_Call) (r : (Bool)) (h : script_callMay c = some r) : ∀ σ, Inj 0 σ → FnTri Tryd.prog 29 (renL σ [v_T_node_Call c]) (preOf σ 0 []) ((script_callMay_v r).ren σ) (upOf σ []) := by
  refine fn_of Tryd.func29 (by kernel_rfl) (by kernel_rfl) (by kernel_rfl) trivial (by kernel_rfl) trivial (by kernel_rfl) ?_
  intro w0 W μ0 hμ
  unfold script_callMay at h
  obtain ⟨y2, e1, h⟩ := bind_some h
  rcases itb_some h with ⟨c3, h⟩ | ⟨c3, h⟩
  · skip
    obtain ⟨y5, e4, h⟩ := bind_some h
    rcases itb_some h with ⟨c6, h⟩ | ⟨c6, h⟩
    · skip
      obtain rfl := Option.some.inj h
      exact run_ret mixed (L := []) (n := 27) (s := [.reg [], .reg [(2, { call := some (script_hasKey_v y2, [], []), v := some (.bool true) })], .reg [(2, hC (ids_Name_v y5))], .reg [(1, hT)], .reg []])
        (a_ (a_ (r2_ tr) (a_ (r1_ (l_ 2 18 rfl (a_ (a_ (a_ (script_hasKey_tri c.f_Kind y2 e1) tr) (a_ (leB c3) tr)) tr))) (a_ (r1_ (m_ 14 18 rfl (c_ (ids_Name_tri c.f_Key y5 e4) (r1_ (r4_ tr))))) (a_ (r1_ (f_ c6 tr)) (a_ (r1_ tr) tr))))) tr) (by kernel_rfl) rfl
    · skip
      rcases itb_some h with ⟨c7, h⟩ | ⟨c7, h⟩
      · skip
        rcases itb_some h with ⟨c8, h⟩ | ⟨c8, h⟩
        · skip
          rcases itb_some h with ⟨c9, h⟩ | ⟨c9, h⟩
          · skip
            rcases itb_some h with ⟨c10, h⟩ | ⟨c10, h⟩
            · skip
              obtain rfl := Option.some.inj h
              exact run_ret mixed (L := []) (n := 28) (s := [.reg [], .reg [(2, { call := some (script_hasKey_v y2, [], []), v := some (.bool true) })], .reg [(2, hC (ids_Name_v y5))], .reg [(1, hF)], .reg [(3, hT), (8, hT), (21, hT), (27, hT)]])
                (a_ (a_ (r2_ tr) (a_ (r1_ (l_ 2 18 rfl (a_ (a_ (a_ (script_hasKey_tri c.f_Kind y2 e1) tr) (a_ (leB c3) tr)) tr))) (a_ (r1_ (m_ 14 18 rfl (c_ (ids_Name_tri c.f_Key y5 e4) (r1_ (r4_ tr))))) (a_ (r1_ (f_ c6 tr)) (a_ (r1_ (l_ 2 18 rfl (r1_ (f_ c7 (r1_ (l_ 2 18 rfl (r2_ (f_ c8 (r2_ (l_ 1 18 rfl (r2_ (l_ 4 18 rfl (r2_ (l_ 5 18 rfl (r1_ (r2_ (f_ c9 (r1_ (l_ 17 18 rfl (r1_ (r2_ (f_ c10 (r1_ (l_ 14 18 rfl (r4_ tr))))))))))))))))))))))))) tr))))) tr) (by kernel_rfl) rfl
            · skip
              obtain rfl := Option.some.inj h
              exact run_ret mixed (L := []) (n := 28) (s := [.reg [], .reg [(2, { call := some (script_hasKey_v y2, [], []), v := some (.bool true) })], .reg [(2, hC (ids_Name_v y5))], .reg [(1, hF)], .reg [(3, hT), (8, hT), (21, hT), (27, hF)]])
                (a_ (a_ (r2_ tr) (a_ (r1_ (l_ 2 18 rfl (a_ (a_ (a_ (script_hasKey_tri c.f_Kind y2 e1) tr) (a_ (leB c3) tr)) tr))) (a_ (r1_ (m_ 14 18 rfl (c_ (ids_Name_tri c.f_Key y5 e4) (r1_ (r4_ tr))))) (a_ (r1_ (f_ c6 tr)) (a_ (r1_ (l_ 2 18 rfl (r1_ (f_ c7 (r1_ (l_ 2 18 rfl (r2_ (f_ c8 (r2_ (l_ 1 18 rfl (r2_ (l_ 4 18 rfl (r2_ (l_ 5 18 rfl (r1_ (r2_ (f_ c9 (r1_ (l_ 17 18 rfl (r1_ (r2_ (f_ c10 (t4_ (r2_ tr)))))))))))))))))))))))) tr))))) tr) (by kernel_rfl) rfl
          · skip
            obtain rfl := Option.some.inj h
            exact run_ret mixed (L := []) (n := 28) (s := [.reg [], .reg [(2, { call := some (script_hasKey_v y2, [], []), v := some (.bool true) })], .reg [(2, hC (ids_Name_v y5))], .reg [(1, hF)], .reg [(3, hT), (8, hT), (21, hF)]])
              (a_ (a_ (r2_ tr) (a_ (r1_ (l_ 2 18 rfl (a_ (a_ (a_ (script_hasKey_tri c.f_Kind y2 e1) tr) (a_ (leB c3) tr)) tr))) (a_ (r1_ (m_ 14 18 rfl (c_ (ids_Name_tri c.f_Key y5 e4) (r1_ (r4_ tr))))) (a_ (r1_ (f_ c6 tr)) (a_ (r1_ (l_ 2 18 rfl (r1_ (f_ c7 (r1_ (l_ 2 18 rfl (r2_ (f_ c8 (r2_ (l_ 1 18 rfl (r2_ (l_ 4 18 rfl (r2_ (l_ 5 18 rfl (r1_ (r2_ (f_ c9 (t4_ (r2_ (t4_ (r2_ tr))))))))))))))))))))) tr))))) tr) (by kernel_rfl) rfl
        · skip
          obtain rfl := Option.some.inj h
          exact run_ret mixed (L := []) (n := 28) (s := [.reg [], .reg [(2, { call := some (script_hasKey_v y2, [], []), v := some (.bool true) })], .reg [(2, hC (ids_Name_v y5))], .reg [(1, hF)], .reg [(3, hT), (8, hF)]])
            (a_ (a_ (r2_ tr) (a_ (r1_ (l_ 2 18 rfl (a_ (a_ (a_ (script_hasKey_tri c.f_Kind y2 e1) tr) (a_ (leB c3) tr)) tr))) (a_ (r1_ (m_ 14 18 rfl (c_ (ids_Name_tri c.f_Key y5 e4) (r1_ (r4_ tr))))) (a_ (r1_ (f_ c6 tr)) (a_ (r1_ (l_ 2 18 rfl (r1_ (f_ c7 (r1_ (l_ 2 18 rfl (r2_ (f_ c8 (a_ tr (t2_ (t8_ (r2_ (t4_ (r2_ (t4_ (r2_ tr)))))))))))))))) tr))))) tr) (by kernel_rfl) rfl
      · skip
        obtain rfl := Option.some.inj h
        exact run_ret mixed (L := []) (n := 28) (s := [.reg [], .reg [(2, { call := some (script_hasKey_v y2, [], []), v := some (.bool true) })], .reg [(2, hC (ids_Name_v y5))], .reg [(1, hF)], .reg [(3, hF)]])
          (a_ (a_ (r2_ tr) (a_ (r1_ (l_ 2 18 rfl (a_ (a_ (a_ (script_hasKey_tri c.f_Kind y2 e1) tr) (a_ (leB c3) tr)) tr))) (a_ (r1_ (m_ 14 18 rfl (c_ (ids_Name_tri c.f_Key y5 e4) (r1_ (r4_ tr))))) (a_ (r1_ (f_ c6 tr)) (a_ (r1_ (l_ 2 18 rfl (r1_ (f_ c7 (a_ tr (t2_ (r2_ (a_ tr (t2_ (t8_ (r2_ (t4_ (r2_ (t4_ (r2_ tr))))))))))))))) tr))))) tr) (by kernel_rfl) rfl
  · skip
    rcases itb_some h with ⟨c4, h⟩ | ⟨c4, h⟩
    · skip
      rcases itb_some h with ⟨c5, h⟩ | ⟨c5, h⟩
      · skip
        rcases itb_some h with ⟨c6, h⟩ | ⟨c6, h⟩
        · skip
          rcases itb_some h with ⟨c7, h⟩ | ⟨c7, h⟩
          · skip
            obtain rfl := Option.some.inj h
            exact run_ret mixed (L := []) (n := 21) (s := [.reg [], .reg [(2, { call := some (script_hasKey_v y2, [], []), v := some (.bool false) })], .reg [(3, hT), (8, hT), (21, hT), (27, hT)]])
              (a_ (a_ (r2_ tr) (a_ (r1_ (l_ 2 18 rfl (a_ (a_ (a_ (script_hasKey_tri c.f_Kind y2 e1) tr) (a_ (leB c3) tr)) tr))) (a_ (r1_ (l_ 2 18 rfl (r1_ (f_ c4 (r1_ (l_ 2 18 rfl (r2_ (f_ c5 (r2_ (l_ 1 18 rfl (r2_ (l_ 4 18 rfl (r2_ (l_ 5 18 rfl (r1_ (r2_ (f_ c6 (r1_ (l_ 17 18 rfl (r1_ (r2_ (f_ c7 (r1_ (l_ 14 18 rfl (r4_ tr))))))))))))))))))))))))) tr))) tr) (by kernel_rfl) rfl
          · skip
            obtain rfl := Option.some.inj h
            exact run_ret mixed (L := []) (n := 21) (s := [.reg [], .reg [(2, { call := some (script_hasKey_v y2, [], []), v := some (.bool false) })], .reg [(3, hT), (8, hT), (21, hT), (27, hF)]])
              (a_ (a_ (r2_ tr) (a_ (r1_ (l_ 2 18 rfl (a_ (a_ (a_ (script_hasKey_tri c.f_Kind y2 e1) tr) (a_ (leB c3) tr)) tr))) (a_ (r1_ (l_ 2 18 rfl (r1_ (f_ c4 (r1_ (l_ 2 18 rfl (r2_ (f_ c5 (r2_ (l_ 1 18 rfl (r2_ (l_ 4 18 rfl (r2_ (l_ 5 18 rfl (r1_ (r2_ (f_ c6 (r1_ (l_ 17 18 rfl (r1_ (r2_ (f_ c7 (t4_ (r2_ tr)))))))))))))))))))))))) tr))) tr) (by kernel_rfl) rfl
        · skip
          obtain rfl := Option.some.inj h
          exact run_ret mixed (L := []) (n := 21) (s := [.reg [], .reg [(2, { call := some (script_hasKey_v y2, [], []), v := some (.bool false) })], .reg [(3, hT), (8, hT), (21, hF)]])
            (a_ (a_ (r2_ tr) (a_ (r1_ (l_ 2 18 rfl (a_ (a_ (a_ (script_hasKey_tri c.f_Kind y2 e1) tr) (a_ (leB c3) tr)) tr))) (a_ (r1_ (l_ 2 18 rfl (r1_ (f_ c4 (r1_ (l_ 2 18 rfl (r2_ (f_ c5 (r2_ (l_ 1 18 rfl (r2_ (l_ 4 18 rfl (r2_ (l_ 5 18 rfl (r1_ (r2_ (f_ c6 (t4_ (r2_ (t4_ (r2_ tr))))))))))))))))))))) tr))) tr) (by kernel_rfl) rfl
      · skip
        obtain rfl := Option.some.inj h
        exact run_ret mixed (L := []) (n := 21) (s := [.reg [], .reg [(2, { call := some (script_hasKey_v y2, [], []), v := some (.bool false) })], .reg [(3, hT), (8, hF)]])
          (a_ (a_ (r2_ tr) (a_ (r1_ (l_ 2 18 rfl (a_ (a_ (a_ (script_hasKey_tri c.f_Kind y2 e1) tr) (a_ (leB c3) tr)) tr))) (a_ (r1_ (l_ 2 18 rfl (r1_ (f_ c4 (r1_ (l_ 2 18 rfl (r2_ (f_ c5 (a_ tr (t2_ (t8_ (r2_ (t4_ (r2_ (t4_ (r2_ tr)))))))))))))))) tr))) tr) (by kernel_rfl) rfl
    · skip
      obtain rfl := Option.some.inj h
      exact run_ret mixed (L := []) (n := 21) (s := [.reg [], .reg [(2, { call := some (script_hasKey_v y2, [], []), v := some (.bool false) })], .reg [(3, hF)]])
        (a_ (a_ (r2_ tr) (a_ (r1_ (l_ 2 18 rfl (a_ (a_ (a_ (script_hasKey_tri c.f_Kind y2 e1) tr) (a_ (leB c3) tr)) tr))) (a_ (r1_ (l_ 2 18 rfl (r1_ (f_ c4 (a_ tr (t2_ (r2_ (a_ tr (t2_ (t8_ (r2_ (t4_ (r2_ (t4_ (r2_ tr))))))))))))))) tr))) tr) (by kernel_rfl) rfl

theorem script_callMay_tri (c : T_node_Call) (r : (Bool)) (h : script_callMay c = some r) : FnTri Tryd.prog 29 [v_T_node_Call c] [] (script_callMay_v r) [] := FnTri.none (script_callMay_ok c r h) rfl rfl

/-- parrel/script.isNumber -/

def script_isNumber_v (r : (Bool)) : LV := .bool r

def script_isNumber (x_n : Int) : Option ((Bool)) :=
  if ((decide (0 ≤ x_n)) : Bool) then
    some (decide (x_n ≤ 2147483647))
  else
    some false

theorem script_isNumber_ok (x_n : Int) (r : (Bool)) (h : script_isNumber x_n = some r) : ∀ σ, Inj 0 σ → FnTri Tryd.prog 30 (renL σ [.int .i64 x_n]) (preOf σ 0 []) ((script_isNumber_v r).ren σ) (upOf σ []) := by
  refine fn_of Tryd.func30 (by kernel_rfl) (by kernel_rfl) (by kernel_rfl) trivial (by kernel_rfl) trivial (by kernel_rfl) ?_
  intro w0 W μ0 hμ
  unfold script_isNumber at h
  rcases itb_some h with ⟨c1, h⟩ | ⟨c1, h⟩
  · skip
    obtain rfl := Option.some.inj h
    exact run_ret mixed (L := []) (n := 15) (s := [.reg [], .reg [(2, hT)]])
      (a_ (a_ (r1_ tr) (a_ (r2_ (f_ c1 (r4_ tr))) tr)) tr) (by kernel_rfl) rfl
  · skip
    obtain rfl := Option.some.inj h
    exact run_ret mixed (L := []) (n := 15) (s := [.reg [], .reg [(2, hF)]])
      (a_ (a_ (r1_ tr) (a_ (r2_ (f_ c1 (t2_ (r2_ tr)))) tr)) tr) (by kernel_rfl) rfl

theorem script_isNumber_tri (x_n : Int) (r : (Bool)) (h : script_isNumber x_n = some r) : FnTri Tryd.prog 30 [.int .i64 x_n] [] (script_isNumber_v r) [] := FnTri.none (script_isNumber_ok x_n r h) rfl rfl

/-- parrel/script.May -/

def script_May_v (r : (Bool)) : LV := .bool r

def script_May_T1000002   : List LV := [.any, .any, .any, .any, .any, .any, .any, .any, .any, .any, .any, .any, .any, .any, .any, .any, .any, .any, .any, .any, .any, .any, .any, .any, .any, .any, .any, .any, .any, .any, .any, .any, .any, .any, .any, .any, .any, .any, .any, .any, .any, .any, .any, .any, .any, .any, .any, .any, .any, .any, .any, .any, .any, .any, .any, .any, .any, .any]

def script_May_H1000002   : Heap := []

def script_May_T1000003 (s : T_script_Step)  : List LV := [.any, .ptr 0 0 0, .any, .any, .any, .any, .any, .any, .any, .any, .any, .any, .any, .any, .any, .any, .any, .any, .any, .any, .any, .any, .any, .any, .any, .any, .any, .any, .any, .any, .any, .any, .any, .any, .any, .any, .any, .any, .any, .any, .any, .any, .any, .any, .any, .any, .any, .any, .any, .any, .any, .any, .any, .any, .any, .any, .any, .any]

def script_May_H1000003 (s : T_script_Step)  : Heap := [some (.var (c_T_script_Step s))]

def script_May_c2    : Option ((Bool)) :=
  some false

def script_May_c3 (s : T_script_Step)   : Option ((Bool)) :=
  (script_isNumber s.f_Node).bind fun yC3_2 =>
  if (yC3_2 : Bool) then
    (script_isNumber s.f_Wire).bind fun yC3_5 =>
    if (yC3_5 : Bool) then
      (script_isNumber s.f_To).bind fun yC3_8 =>
      if (yC3_8 : Bool) then
        (script_isNumber s.f_N).bind fun yC3_11 =>
        if (yC3_11 : Bool) then
          some (decide (((s.f_Bytes).length : Int) ≤ 4096))
        else
          if ((s.f_N == (-1)) : Bool) then
            some (decide (((s.f_Bytes).length : Int) ≤ 4096))
          else
            some false
      else
        some false
    else
      some false
  else
    some false

def script_May (s : T_script_Step) : Option ((Bool)) :=
  if ((decide (s.f_Kind < 1)) : Bool) then
    some false
  else
    if ((decide (10 < s.f_Kind)) : Bool) then
      some false
    else
      (script_clean s).bind fun y4 =>
      (script_Same y4 s).bind fun y6 =>
      if ((!y6) : Bool) then
        some false
      else
        if ((s.f_Kind == 1) : Bool) then
          (script_callMay s.f_Call).bind fun y10 =>
          if ((!y10) : Bool) then
            script_May_c2   
          else
            script_May_c3 s  
        else
          (script_isNumber s.f_Node).bind fun y10 =>
          if (y10 : Bool) then
            (script_isNumber s.f_Wire).bind fun y13 =>
            if (y13 : Bool) then
              (script_isNumber s.f_To).bind fun y16 =>
              if (y16 : Bool) then
                (script_isNumber s.f_N).bind fun y19 =>
                if (y19 : Bool) then
                  some (decide (((s.f_Bytes).length : Int) ≤ 4096))
                else
                  if ((s.f_N == (-1)) : Bool) then
                    some (decide (((s.f_Bytes).length : Int) ≤ 4096))
                  else
                    some false
              else
                some false
            else
              some false
          else
            some false

theorem script_May_c2_ok {w0 : World} {W : Nat → Prop} {μ0 : Emb} (hμ : ∀ c p, μ0 c = some p → c < 0)    (r : (Bool)) (h : script_May_c2    = some r) : kont Tryd.prog w0 W μ0 (FnPost Tryd.prog Tryd.f12 0 0 (script_May_v r) []) (kAtR (bodyOf Tryd.f12) 2) none (script_May_T1000002  ) (script_May_H1000002  ) := by
  unfold script_May_c2 at h
  obtain rfl := Option.some.inj h
  exact run_ret mixed (L := []) (n := 11) (s := [.reg []])
    (a_ (a_ (r1_ tr) tr) tr) (by kernel_rfl) rfl

theorem script_May_c3_ok {w0 : World} {W : Nat → Prop} {μ0 : Emb} (hμ : ∀ c p, μ0 c = some p → c < 0) (s : T_script_Step)   (r : (Bool)) (h : script_May_c3 s   = some r) : kont Tryd.prog w0 W μ0 (FnPost Tryd.prog Tryd.f12 0 0 (script_May_v r) []) (kAtR (bodyOf Tryd.f12) 3) none (script_May_T1000003 s ) (script_May_H1000003 s ) := by
  unfold script_May_c3 at h
  obtain ⟨yC3_2, eC3_1, h⟩ := bind_some h
  rcases itb_some h with ⟨cC3_3, h⟩ | ⟨cC3_3, h⟩
  · skip
    obtain ⟨yC3_5, eC3_4, h⟩ := bind_some h
    rcases itb_some h with ⟨cC3_6, h⟩ | ⟨cC3_6, h⟩
    · skip
      obtain ⟨yC3_8, eC3_7, h⟩ := bind_some h
      rcases itb_some h with ⟨cC3_9, h⟩ | ⟨cC3_9, h⟩
      · skip
        obtain ⟨yC3_11, eC3_10, h⟩ := bind_some h
        rcases itb_some h with ⟨cC3_12, h⟩ | ⟨cC3_12, h⟩
        · skip
          obtain rfl := Option.some.inj h
          exact run_ret mixed (L := []) (n := 11) (s := [.reg [(2, hC (script_isNumber_v yC3_2)), (3, hT), (6, hC (script_isNumber_v yC3_5)), (8, hT), (11, hC (script_isNumber_v yC3_8)), (13, hT), (16, hC (script_isNumber_v yC3_11)), (17, hT)]])
            (a_ (a_ (r1_ (l_ 1 25 rfl (c_ (script_isNumber_tri s.f_Node yC3_2 eC3_1) (f_ cC3_3 (r1_ (l_ 2 25 rfl (c_ (script_isNumber_tri s.f_Wire yC3_5 eC3_4) (r1_ (f_ cC3_6 (r1_ (l_ 23 25 rfl (c_ (script_isNumber_tri s.f_To yC3_8 eC3_7) (r1_ (f_ cC3_9 (r1_ (l_ 3 25 rfl (c_ (script_isNumber_tri s.f_N yC3_11 eC3_10) (f_ cC3_12 (a_ tr (t2_ (r4_ (l_ 24 25 rfl (r4_ tr))))))))))))))))))))))) tr) tr) (by kernel_rfl) rfl
        · skip
          rcases itb_some h with ⟨cC3_13, h⟩ | ⟨cC3_13, h⟩
          · skip
            obtain rfl := Option.some.inj h
            exact run_ret mixed (L := []) (n := 11) (s := [.reg [(2, hC (script_isNumber_v yC3_2)), (3, hT), (6, hC (script_isNumber_v yC3_5)), (8, hT), (11, hC (script_isNumber_v yC3_8)), (13, hT), (16, hC (script_isNumber_v yC3_11)), (17, hF), (23, hT)]])
              (a_ (a_ (r1_ (l_ 1 25 rfl (c_ (script_isNumber_tri s.f_Node yC3_2 eC3_1) (f_ cC3_3 (r1_ (l_ 2 25 rfl (c_ (script_isNumber_tri s.f_Wire yC3_5 eC3_4) (r1_ (f_ cC3_6 (r1_ (l_ 23 25 rfl (c_ (script_isNumber_tri s.f_To yC3_8 eC3_7) (r1_ (f_ cC3_9 (r1_ (l_ 3 25 rfl (c_ (script_isNumber_tri s.f_N yC3_11 eC3_10) (f_ cC3_12 (r1_ (l_ 3 25 rfl (r1_ (r2_ (f_ cC3_13 (r1_ (l_ 24 25 rfl (r4_ tr)))))))))))))))))))))))))) tr) tr) (by kernel_rfl) rfl
          · skip
            obtain rfl := Option.some.inj h
            exact run_ret mixed (L := []) (n := 11) (s := [.reg [(2, hC (script_isNumber_v yC3_2)), (3, hT), (6, hC (script_isNumber_v yC3_5)), (8, hT), (11, hC (script_isNumber_v yC3_8)), (13, hT), (16, hC (script_isNumber_v yC3_11)), (17, hF), (23, hF)]])
              (a_ (a_ (r1_ (l_ 1 25 rfl (c_ (script_isNumber_tri s.f_Node yC3_2 eC3_1) (f_ cC3_3 (r1_ (l_ 2 25 rfl (c_ (script_isNumber_tri s.f_Wire yC3_5 eC3_4) (r1_ (f_ cC3_6 (r1_ (l_ 23 25 rfl (c_ (script_isNumber_tri s.f_To yC3_8 eC3_7) (r1_ (f_ cC3_9 (r1_ (l_ 3 25 rfl (c_ (script_isNumber_tri s.f_N yC3_11 eC3_10) (f_ cC3_12 (r1_ (l_ 3 25 rfl (r1_ (r2_ (f_ cC3_13 (t4_ (r2_ tr))))))))))))))))))))))))) tr) tr) (by kernel_rfl) rfl
      · skip
        obtain rfl := Option.some.inj h
        exact run_ret mixed (L := []) (n := 11) (s := [.reg [(2, hC (script_isNumber_v yC3_2)), (3, hT), (6, hC (script_isNumber_v yC3_5)), (8, hT), (11, hC (script_isNumber_v yC3_8)), (13, hF)]])
          (a_ (a_ (r1_ (l_ 1 25 rfl (c_ (script_isNumber_tri s.f_Node yC3_2 eC3_1) (f_ cC3_3 (r1_ (l_ 2 25 rfl (c_ (script_isNumber_tri s.f_Wire yC3_5 eC3_4) (r1_ (f_ cC3_6 (r1_ (l_ 23 25 rfl (c_ (script_isNumber_tri s.f_To yC3_8 eC3_7) (r1_ (f_ cC3_9 (t8_ (r2_ (t4_ (r2_ tr)))))))))))))))))) tr) tr) (by kernel_rfl) rfl
    · skip
      obtain rfl := Option.some.inj h
      exact run_ret mixed (L := []) (n := 11) (s := [.reg [(2, hC (script_isNumber_v yC3_2)), (3, hT), (6, hC (script_isNumber_v yC3_5)), (8, hF)]])
        (a_ (a_ (r1_ (l_ 1 25 rfl (c_ (script_isNumber_tri s.f_Node yC3_2 eC3_1) (f_ cC3_3 (r1_ (l_ 2 25 rfl (c_ (script_isNumber_tri s.f_Wire yC3_5 eC3_4) (r1_ (f_ cC3_6 (a_ tr (t2_ (r2_ (t8_ (r2_ (t4_ (r2_ tr)))))))))))))))) tr) tr) (by kernel_rfl) rfl
  · skip
    obtain rfl := Option.some.inj h
    exact run_ret mixed (L := []) (n := 11) (s := [.reg [(2, hC (script_isNumber_v yC3_2)), (3, hF)]])
      (a_ (a_ (r1_ (l_ 1 25 rfl (c_ (script_isNumber_tri s.f_Node yC3_2 eC3_1) (f_ cC3_3 (a_ tr (t2_ (r2_ (a_ tr (t2_ (r2_ (t8_ (r2_ (t4_ (r2_ tr)))))))))))))) tr) tr) (by kernel_rfl) rfl

theorem script_May_ok (s : T_script_Step) (r : (Bool)) (h : script_May s = some r) : ∀ σ, Inj 0 σ → FnTri Tryd.prog 12 (renL σ [v_T_script_Step s]) (preOf σ 0 []) ((script_May_v r).ren σ) (upOf σ []) := by
  refine fn_of Tryd.func12 (by kernel_rfl) (by kernel_rfl) (by kernel_rfl) trivial (by kernel_rfl) trivial (by kernel_rfl) ?_
  intro w0 W μ0 hμ
  unfold script_May at h
  rcases itb_some h with ⟨c1, h⟩ | ⟨c1, h⟩
  · skip
    obtain rfl := Option.some.inj h
    exact run_ret mixed (L := []) (n := 20) (s := [.reg [], .reg [(3, hT)], .reg []])
      (a_ (a_ (r2_ tr) (a_ (r1_ (l_ 0 25 rfl (r1_ (f_ c1 (a_ tr (t2_ (r2_ (a_ tr (t4_ (r2_ (a_ tr (t8_ (r1_ tr))))))))))))) (a_ (r1_ tr) tr))) tr) (by kernel_rfl) rfl
  · skip
    rcases itb_some h with ⟨c2, h⟩ | ⟨c2, h⟩
    · skip
      obtain rfl := Option.some.inj h
      exact run_ret mixed (L := []) (n := 20) (s := [.reg [], .reg [(3, hF), (8, hT)], .reg []])
        (a_ (a_ (r2_ tr) (a_ (r1_ (l_ 0 25 rfl (r1_ (f_ c1 (r1_ (l_ 0 25 rfl (r2_ (f_ c2 (a_ tr (t4_ (r2_ (a_ tr (t8_ (r1_ tr)))))))))))))) (a_ (r1_ tr) tr))) tr) (by kernel_rfl) rfl
    · skip
      obtain ⟨y4, e3, h⟩ := bind_some h
      obtain ⟨y6, e5, h⟩ := bind_some h
      rcases itb_some h with ⟨c7, h⟩ | ⟨c7, h⟩
      · skip
        obtain rfl := Option.some.inj h
        exact run_ret mixed (L := []) (n := 20) (s := [.reg [], .reg [(3, hF), (8, hF), (10, hC (script_clean_v y4)), (12, hC (script_Same_v y6)), (15, hT)], .reg []])
          (a_ (a_ (r2_ tr) (a_ (r1_ (l_ 0 25 rfl (r1_ (f_ c1 (r1_ (l_ 0 25 rfl (r2_ (f_ c2 (m_ 25 25 rfl (c_ (script_clean_tri s y4 e3) (m_ 25 25 rfl (c_ (script_Same_tri y4 s y6 e5) (r2_ (f_ c7 (a_ tr (t8_ (r1_ tr))))))))))))))))) (a_ (r1_ tr) tr))) tr) (by kernel_rfl) rfl
      · skip
        rcases itb_some h with ⟨c8, h⟩ | ⟨c8, h⟩
        · skip
          obtain ⟨y10, e9, h⟩ := bind_some h
          rcases itb_some h with ⟨c11, h⟩ | ⟨c11, h⟩
          · skip
            exact run_to mixed hμ (L := []) (n := 18) (s := [.reg [], .reg [(3, hF), (8, hF), (10, hC (script_clean_v y4)), (12, hC (script_Same_v y6)), (15, hF), (19, hT), (22, hC (script_callMay_v y10)), (25, hT)]])
              (a_ (r2_ tr) (a_ (r1_ (l_ 0 25 rfl (r1_ (f_ c1 (r1_ (l_ 0 25 rfl (r2_ (f_ c2 (m_ 25 25 rfl (c_ (script_clean_tri s y4 e3) (m_ 25 25 rfl (c_ (script_Same_tri y4 s y6 e5) (r2_ (f_ c7 (r1_ (l_ 0 25 rfl (r1_ (f_ c8 (r1_ (m_ 23 25 rfl (c_ (script_callMay_tri s.f_Call y10 e9) (r2_ (f_ c11 tr))))))))))))))))))))))) tr)) (script_May_c2_ok hμ    r h) (by kernel_rfl) trivial
          · skip
            exact run_to mixed hμ (L := [0]) (n := 19) (s := [.reg [], .reg [(3, hF), (8, hF), (10, hC (script_clean_v y4)), (12, hC (script_Same_v y6)), (15, hF), (19, hT), (22, hC (script_callMay_v y10)), (25, hF)]])
              (a_ (r2_ tr) (a_ (r1_ (l_ 0 25 rfl (r1_ (f_ c1 (r1_ (l_ 0 25 rfl (r2_ (f_ c2 (m_ 25 25 rfl (c_ (script_clean_tri s y4 e3) (m_ 25 25 rfl (c_ (script_Same_tri y4 s y6 e5) (r2_ (f_ c7 (r1_ (l_ 0 25 rfl (r1_ (f_ c8 (r1_ (m_ 23 25 rfl (c_ (script_callMay_tri s.f_Call y10 e9) (r2_ (f_ c11 tr))))))))))))))))))))))) tr)) (script_May_c3_ok hμ s   r h) (by kernel_rfl) ⟨rfl, trivial⟩
        · skip
          obtain ⟨y10, e9, h⟩ := bind_some h
          rcases itb_some h with ⟨c11, h⟩ | ⟨c11, h⟩
          · skip
            obtain ⟨y13, e12, h⟩ := bind_some h
            rcases itb_some h with ⟨c14, h⟩ | ⟨c14, h⟩
            · skip
              obtain ⟨y16, e15, h⟩ := bind_some h
              rcases itb_some h with ⟨c17, h⟩ | ⟨c17, h⟩
              · skip
                obtain ⟨y19, e18, h⟩ := bind_some h
                rcases itb_some h with ⟨c20, h⟩ | ⟨c20, h⟩
                · skip
                  obtain rfl := Option.some.inj h
                  exact run_ret mixed (L := []) (n := 21) (s := [.reg [], .reg [(3, hF), (8, hF), (10, hC (script_clean_v y4)), (12, hC (script_Same_v y6)), (15, hF), (19, hF)], .reg [(2, hC (script_isNumber_v y10)), (3, hT), (6, hC (script_isNumber_v y13)), (8, hT), (11, hC (script_isNumber_v y16)), (13, hT), (16, hC (script_isNumber_v y19)), (17, hT)]])
                    (a_ (a_ (r2_ tr) (a_ (r1_ (l_ 0 25 rfl (r1_ (f_ c1 (r1_ (l_ 0 25 rfl (r2_ (f_ c2 (m_ 25 25 rfl (c_ (script_clean_tri s y4 e3) (m_ 25 25 rfl (c_ (script_Same_tri y4 s y6 e5) (r2_ (f_ c7 (r1_ (l_ 0 25 rfl (r1_ (f_ c8 (t4_ (r2_ tr)))))))))))))))))))) (a_ (r1_ (l_ 1 25 rfl (c_ (script_isNumber_tri s.f_Node y10 e9) (f_ c11 (r1_ (l_ 2 25 rfl (c_ (script_isNumber_tri s.f_Wire y13 e12) (r1_ (f_ c14 (r1_ (l_ 23 25 rfl (c_ (script_isNumber_tri s.f_To y16 e15) (r1_ (f_ c17 (r1_ (l_ 3 25 rfl (c_ (script_isNumber_tri s.f_N y19 e18) (f_ c20 (a_ tr (t2_ (r4_ (l_ 24 25 rfl (r4_ tr))))))))))))))))))))))) tr))) tr) (by kernel_rfl) rfl
                · skip
                  rcases itb_some h with ⟨c21, h⟩ | ⟨c21, h⟩
                  · skip
                    obtain rfl := Option.some.inj h
                    exact run_ret mixed (L := []) (n := 21) (s := [.reg [], .reg [(3, hF), (8, hF), (10, hC (script_clean_v y4)), (12, hC (script_Same_v y6)), (15, hF), (19, hF)], .reg [(2, hC (script_isNumber_v y10)), (3, hT), (6, hC (script_isNumber_v y13)), (8, hT), (11, hC (script_isNumber_v y16)), (13, hT), (16, hC (script_isNumber_v y19)), (17, hF), (23, hT)]])
                      (a_ (a_ (r2_ tr) (a_ (r1_ (l_ 0 25 rfl (r1_ (f_ c1 (r1_ (l_ 0 25 rfl (r2_ (f_ c2 (m_ 25 25 rfl (c_ (script_clean_tri s y4 e3) (m_ 25 25 rfl (c_ (script_Same_tri y4 s y6 e5) (r2_ (f_ c7 (r1_ (l_ 0 25 rfl (r1_ (f_ c8 (t4_ (r2_ tr)))))))))))))))))))) (a_ (r1_ (l_ 1 25 rfl (c_ (script_isNumber_tri s.f_Node y10 e9) (f_ c11 (r1_ (l_ 2 25 rfl (c_ (script_isNumber_tri s.f_Wire y13 e12) (r1_ (f_ c14 (r1_ (l_ 23 25 rfl (c_ (script_isNumber_tri s.f_To y16 e15) (r1_ (f_ c17 (r1_ (l_ 3 25 rfl (c_ (script_isNumber_tri s.f_N y19 e18) (f_ c20 (r1_ (l_ 3 25 rfl (r1_ (r2_ (f_ c21 (r1_ (l_ 24 25 rfl (r4_ tr)))))))))))))))))))))))))) tr))) tr) (by kernel_rfl) rfl
                  · skip
                    obtain rfl := Option.some.inj h
                    exact run_ret mixed (L := []) (n := 21) (s := [.reg [], .reg [(3, hF), (8, hF), (10, hC (script_clean_v y4)), (12, hC (script_Same_v y6)), (15, hF), (19, hF)], .reg [(2, hC (script_isNumber_v y10)), (3, hT), (6, hC (script_isNumber_v y13)), (8, hT), (11, hC (script_isNumber_v y16)), (13, hT), (16, hC (script_isNumber_v y19)), (17, hF), (23, hF)]])
                      (a_ (a_ (r2_ tr) (a_ (r1_ (l_ 0 25 rfl (r1_ (f_ c1 (r1_ (l_ 0 25 rfl (r2_ (f_ c2 (m_ 25 25 rfl (c_ (script_clean_tri s y4 e3) (m_ 25 25 rfl (c_ (script_Same_tri y4 s y6 e5) (r2_ (f_ c7 (r1_ (l_ 0 25 rfl (r1_ (f_ c8 (t4_ (r2_ tr)))))))))))))))))))) (a_ (r1_ (l_ 1 25 rfl (c_ (script_isNumber_tri s.f_Node y10 e9) (f_ c11 (r1_ (l_ 2 25 rfl (c_ (script_isNumber_tri s.f_Wire y13 e12) (r1_ (f_ c14 (r1_ (l_ 23 25 rfl (c_ (script_isNumber_tri s.f_To y16 e15) (r1_ (f_ c17 (r1_ (l_ 3 25 rfl (c_ (script_isNumber_tri s.f_N y19 e18) (f_ c20 (r1_ (l_ 3 25 rfl (r1_ (r2_ (f_ c21 (t4_ (r2_ tr))))))))))))))))))))))))) tr))) tr) (by kernel_rfl) rfl
              · skip
                obtain rfl := Option.some.inj h
                exact run_ret mixed (L := []) (n := 21) (s := [.reg [], .reg [(3, hF), (8, hF), (10, hC (script_clean_v y4)), (12, hC (script_Same_v y6)), (15, hF), (19, hF)], .reg [(2, hC (script_isNumber_v y10)), (3, hT), (6, hC (script_isNumber_v y13)), (8, hT), (11, hC (script_isNumber_v y16)), (13, hF)]])
                  (a_ (a_ (r2_ tr) (a_ (r1_ (l_ 0 25 rfl (r1_ (f_ c1 (r1_ (l_ 0 25 rfl (r2_ (f_ c2 (m_ 25 25 rfl (c_ (script_clean_tri s y4 e3) (m_ 25 25 rfl (c_ (script_Same_tri y4 s y6 e5) (r2_ (f_ c7 (r1_ (l_ 0 25 rfl (r1_ (f_ c8 (t4_ (r2_ tr)))))))))))))))))))) (a_ (r1_ (l_ 1 25 rfl (c_ (script_isNumber_tri s.f_Node y10 e9) (f_ c11 (r1_ (l_ 2 25 rfl (c_ (script_isNumber_tri s.f_Wire y13 e12) (r1_ (f_ c14 (r1_ (l_ 23 25 rfl (c_ (script_isNumber_tri s.f_To y16 e15) (r1_ (f_ c17 (t8_ (r2_ (t4_ (r2_ tr)))))))))))))))))) tr))) tr) (by kernel_rfl) rfl
            · skip
              obtain rfl := Option.some.inj h
              exact run_ret mixed (L := []) (n := 21) (s := [.reg [], .reg [(3, hF), (8, hF), (10, hC (script_clean_v y4)), (12, hC (script_Same_v y6)), (15, hF), (19, hF)], .reg [(2, hC (script_isNumber_v y10)), (3, hT), (6, hC (script_isNumber_v y13)), (8, hF)]])
                (a_ (a_ (r2_ tr) (a_ (r1_ (l_ 0 25 rfl (r1_ (f_ c1 (r1_ (l_ 0 25 rfl (r2_ (f_ c2 (m_ 25 25 rfl (c_ (script_clean_tri s y4 e3) (m_ 25 25 rfl (c_ (script_Same_tri y4 s y6 e5) (r2_ (f_ c7 (r1_ (l_ 0 25 rfl (r1_ (f_ c8 (t4_ (r2_ tr)))))))))))))))))))) (a_ (r1_ (l_ 1 25 rfl (c_ (script_isNumber_tri s.f_Node y10 e9) (f_ c11 (r1_ (l_ 2 25 rfl (c_ (script_isNumber_tri s.f_Wire y13 e12) (r1_ (f_ c14 (a_ tr (t2_ (r2_ (t8_ (r2_ (t4_ (r2_ tr)))))))))))))))) tr))) tr) (by kernel_rfl) rfl
          · skip
            obtain rfl := Option.some.inj h
            exact run_ret mixed (L := []) (n := 21) (s := [.reg [], .reg [(3, hF), (8, hF), (10, hC (script_clean_v y4)), (12, hC (script_Same_v y6)), (15, hF), (19, hF)], .reg [(2, hC (script_isNumber_v y10)), (3, hF)]])
              (a_ (a_ (r2_ tr) (a_ (r1_ (l_ 0 25 rfl (r1_ (f_ c1 (r1_ (l_ 0 25 rfl (r2_ (f_ c2 (m_ 25 25 rfl (c_ (script_clean_tri s y4 e3) (m_ 25 25 rfl (c_ (script_Same_tri y4 s y6 e5) (r2_ (f_ c7 (r1_ (l_ 0 25 rfl (r1_ (f_ c8 (t4_ (r2_ tr)))))))))))))))))))) (a_ (r1_ (l_ 1 25 rfl (c_ (script_isNumber_tri s.f_Node y10 e9) (f_ c11 (a_ tr (t2_ (r2_ (a_ tr (t2_ (r2_ (t8_ (r2_ (t4_ (r2_ tr)))))))))))))) tr))) tr) (by kernel_rfl) rfl

theorem script_May_tri (s : T_script_Step) (r : (Bool)) (h : script_May s = some r) : FnTri Tryd.prog 12 [v_T_script_Step s] [] (script_May_v r) [] := FnTri.none (script_May_ok s r h) rfl rfl

/-- parrel/script.Parse -/

def script_Parse_v (r : (T_script_Step) × (Int)) : LV := .tup [v_T_script_Step r.1, .int .i64 r.2]

def script_Parse_T1000006   : List LV := [.any, .any, .ptr 0 0 0, .any, .any, .any, .any, .any, .any, .any, .any, .any, .any, .any, .any, .any, .any, .any, .any, .any, .any, .any, .any, .any, .any, .any, .any, .any, .any, .any, .any, .any, .any, .any, .any]

def script_Parse_H1000006   : Heap := [some (.var [.int .u8 0, .int .i64 0, .int .i64 0, .int .i64 0, .bool false, .int .u8 0, .int .u32 0, .int .u8 0, .int .u8 0, .int .u32 0, .int .u32 0, .int .u8 0, .int .u8 0, .int .u8 0, .int .u8 0, .int .u8 0, .int .u8 0, .int .u8 0, .int .u8 0, .str [], .int .u8 0, .int .u8 0, .nilsl, .int .i64 0, .nilsl])]

def script_Parse_T1000007 (y5 : (T_script_Step) × (List (List UInt8)) × (Bool))  : List LV := [.any, .any, .ptr 0 0 0, .any, .any, .ptr 1 0 0, .any, .any, .any, .any, .any, .any, .any, .any, .any, .any, .any, .any, .any, .any, .any, .any, .any, .any, .any, .any, .any, .any, .any, .any, .any, .any, .any, .any, .any]

def script_Parse_H1000007 (y5 : (T_script_Step) × (List (List UInt8)) × (Bool))  : Heap := [some (.var [.int .u8 0, .int .i64 0, .int .i64 0, .int .i64 0, .bool false, .int .u8 0, .int .u32 0, .int .u8 0, .int .u8 0, .int .u32 0, .int .u32 0, .int .u8 0, .int .u8 0, .int .u8 0, .int .u8 0, .int .u8 0, .int .u8 0, .int .u8 0, .int .u8 0, .str [], .int .u8 0, .int .u8 0, .nilsl, .int .i64 0, .nilsl]), some (.var (c_T_script_Step y5.1))]

def script_Parse_c6    : Option ((T_script_Step) × (Int)) :=
  some ((T_script_Step.mk 0 0 0 0 false (T_node_Call.mk (T_sess_Call.mk 0 0) 0 (T_api_Tx.mk 0 0 0) (A8.mk 0 0 0 0 0 0 0 0) [] 0 0 ([] : List (Int))) 0 ([] : List (Int))), 3)

def script_Parse_c7 (y5 : (T_script_Step) × (List (List UInt8)) × (Bool))   : Option ((T_script_Step) × (Int)) :=
  some (y5.1, 0)

def script_Parse (line : List UInt8) : Option ((T_script_Step) × (Int)) :=
  if ((decide (16384 < ((line).length : Int))) : Bool) then
    some ((T_script_Step.mk 0 0 0 0 false (T_node_Call.mk (T_sess_Call.mk 0 0) 0 (T_api_Tx.mk 0 0 0) (A8.mk 0 0 0 0 0 0 0 0) [] 0 0 ([] : List (Int))) 0 ([] : List (Int))), 5)
  else
    (strings_Split line).bind fun y3 =>
    (script_reader_step (T_script_reader.mk y3 false)).bind fun y5 =>
    if (y5.2.2 : Bool) then
      script_Parse_c6   
    else
      if ((decide (0 < ((y5.2.1).length : Int))) : Bool) then
        script_Parse_c6   
      else
        (script_May y5.1).bind fun y9 =>
        if ((!y9) : Bool) then
          script_Parse_c6   
        else
          script_Parse_c7 y5  

theorem script_Parse_c6_ok {w0 : World} {W : Nat → Prop} {μ0 : Emb} (hμ : ∀ c p, μ0 c = some p → c < 0)    (r : (T_script_Step) × (Int)) (h : script_Parse_c6    = some r) : kont Tryd.prog w0 W μ0 (FnPost Tryd.prog Tryd.f17 0 0 (script_Parse_v r) []) (kAtR (bodyOf Tryd.f17) 6) none (script_Parse_T1000006  ) (script_Parse_H1000006  ) := by
  unfold script_Parse_c6 at h
  obtain rfl := Option.some.inj h
  exact run_ret mixed (L := []) (n := 13) (s := [.reg [], .wk [] [(0, .var [.int .u8 0, .int .i64 0, .int .i64 0, .int .i64 0, .bool false, .int .u8 0, .int .u32 0, .int .u8 0, .int .u8 0, .int .u32 0, .int .u32 0, .int .u8 0, .int .u8 0, .int .u8 0, .int .u8 0, .int .u8 0, .int .u8 0, .int .u8 0, .int .u8 0, .str [], .int .u8 0, .int .u8 0, .ds 1 (([] : List (Int))).length (rowF (cInt .u8) default ([] : List (Int))), .int .i64 0, .nilsl])], .wk [] [(0, .var (c_T_script_Step (T_script_Step.mk 0 0 0 0 false (T_node_Call.mk (T_sess_Call.mk 0 0) 0 (T_api_Tx.mk 0 0 0) (A8.mk 0 0 0 0 0 0 0 0) [] 0 0 ([] : List (Int))) 0 ([] : List (Int)))))]])
    (a_ (a_ (a_ (a_ (Eq.refl true) tr) (a_ (a_ (a_ (Eq.refl 25) (a_ (le_ 25 25 rfl) (Eq.refl 0))) tr) (r1_ tr))) (a_ (a_ tr (a_ (LO.Sub.var (lel_set [.int .u8 0, .int .i64 0, .int .i64 0, .int .i64 0, .bool false, .int .u8 0, .int .u32 0, .int .u8 0, .int .u8 0, .int .u32 0, .int .u32 0, .int .u8 0, .int .u8 0, .int .u8 0, .int .u8 0, .int .u8 0, .int .u8 0, .int .u8 0, .int .u8 0, .str [], .int .u8 0, .int .u8 0, .nilsl, .int .i64 0, .nilsl] 22 .nilsl (.ds 1 (([] : List (Int))).length (rowF (cInt .u8) default ([] : List (Int)))) rfl (le_nil_ds 1 (rowF (cInt .u8) default [])))) tr)) (a_ (a_ tr (a_ (LO.Sub.var (lel_set [.int .u8 0, .int .i64 0, .int .i64 0, .int .i64 0, .bool false, .int .u8 0, .int .u32 0, .int .u8 0, .int .u8 0, .int .u32 0, .int .u32 0, .int .u8 0, .int .u8 0, .int .u8 0, .int .u8 0, .int .u8 0, .int .u8 0, .int .u8 0, .int .u8 0, .str [], .int .u8 0, .int .u8 0, .ds 1 (([] : List (Int))).length (rowF (cInt .u8) default ([] : List (Int))), .int .i64 0, .nilsl] 24 .nilsl (.ds 1 (([] : List (Int))).length (rowF (cInt .u8) default ([] : List (Int)))) rfl (le_nil_ds 1 (rowF (cInt .u8) default [])))) tr)) tr))) (a_ (a_ tr (le_ 25 25 rfl)) tr)) (by kernel_rfl) rfl

theorem script_Parse_c7_ok {w0 : World} {W : Nat → Prop} {μ0 : Emb} (hμ : ∀ c p, μ0 c = some p → c < 0) (y5 : (T_script_Step) × (List (List UInt8)) × (Bool))   (r : (T_script_Step) × (Int)) (h : script_Parse_c7 y5   = some r) : kont Tryd.prog w0 W μ0 (FnPost Tryd.prog Tryd.f17 0 0 (script_Parse_v r) []) (kAtR (bodyOf Tryd.f17) 7) none (script_Parse_T1000007 y5 ) (script_Parse_H1000007 y5 ) := by
  unfold script_Parse_c7 at h
  obtain rfl := Option.some.inj h
  exact run_ret mixed (L := []) (n := 11) (s := [.reg []])
    (a_ (a_ (m_ 25 25 rfl (a_ (a_ (a_ (Eq.refl 25) (a_ (le_ 25 25 rfl) (Eq.refl 0))) tr) (r1_ tr))) tr) (a_ (a_ tr (le_ 25 25 rfl)) tr)) (by kernel_rfl) rfl

theorem script_Parse_ok (line : List UInt8) (r : (T_script_Step) × (Int)) (h : script_Parse line = some r) : ∀ σ, Inj 0 σ → FnTri Tryd.prog 17 (renL σ [.str line]) (preOf σ 0 []) ((script_Parse_v r).ren σ) (upOf σ []) := by
  refine fn_of Tryd.func17 (by kernel_rfl) (by kernel_rfl) (by kernel_rfl) trivial (by kernel_rfl) trivial (by kernel_rfl) ?_
  intro w0 W μ0 hμ
  unfold script_Parse at h
  rcases itb_some h with ⟨c1, h⟩ | ⟨c1, h⟩
  · skip
    obtain rfl := Option.some.inj h
    exact run_ret mixed (L := []) (n := 22) (s := [.reg [], .reg [(2, hT)], .reg [], .wk [] [(0, .var [.int .u8 0, .int .i64 0, .int .i64 0, .int .i64 0, .bool false, .int .u8 0, .int .u32 0, .int .u8 0, .int .u8 0, .int .u32 0, .int .u32 0, .int .u8 0, .int .u8 0, .int .u8 0, .int .u8 0, .int .u8 0, .int .u8 0, .int .u8 0, .int .u8 0, .str [], .int .u8 0, .int .u8 0, .ds 1 (([] : List (Int))).length (rowF (cInt .u8) default ([] : List (Int))), .int .i64 0, .nilsl])], .wk [] [(0, .var (c_T_script_Step (T_script_Step.mk 0 0 0 0 false (T_node_Call.mk (T_sess_Call.mk 0 0) 0 (T_api_Tx.mk 0 0 0) (A8.mk 0 0 0 0 0 0 0 0) [] 0 0 ([] : List (Int))) 0 ([] : List (Int)))))]])
      (a_ (a_ (r2_ tr) (a_ (r2_ (f_ c1 tr)) (a_ (a_ (a_ (Eq.refl true) tr) (a_ (a_ (a_ (Eq.refl 25) (a_ (le_ 25 25 rfl) (Eq.refl 0))) tr) (r1_ tr))) (a_ (a_ tr (a_ (LO.Sub.var (lel_set [.int .u8 0, .int .i64 0, .int .i64 0, .int .i64 0, .bool false, .int .u8 0, .int .u32 0, .int .u8 0, .int .u8 0, .int .u32 0, .int .u32 0, .int .u8 0, .int .u8 0, .int .u8 0, .int .u8 0, .int .u8 0, .int .u8 0, .int .u8 0, .int .u8 0, .str [], .int .u8 0, .int .u8 0, .nilsl, .int .i64 0, .nilsl] 22 .nilsl (.ds 1 (([] : List (Int))).length (rowF (cInt .u8) default ([] : List (Int)))) rfl (le_nil_ds 1 (rowF (cInt .u8) default [])))) tr)) (a_ (a_ tr (a_ (LO.Sub.var (lel_set [.int .u8 0, .int .i64 0, .int .i64 0, .int .i64 0, .bool false, .int .u8 0, .int .u32 0, .int .u8 0, .int .u8 0, .int .u32 0, .int .u32 0, .int .u8 0, .int .u8 0, .int .u8 0, .int .u8 0, .int .u8 0, .int .u8 0, .int .u8 0, .int .u8 0, .str [], .int .u8 0, .int .u8 0, .ds 1 (([] : List (Int))).length (rowF (cInt .u8) default ([] : List (Int))), .int .i64 0, .nilsl] 24 .nilsl (.ds 1 (([] : List (Int))).length (rowF (cInt .u8) default ([] : List (Int)))) rfl (le_nil_ds 1 (rowF (cInt .u8) default [])))) tr)) tr))))) (a_ (a_ tr (le_ 25 25 rfl)) tr)) (by kernel_rfl) rfl
  · skip
    obtain ⟨y3, e2, h⟩ := bind_some h
    obtain ⟨y5, e4, h⟩ := bind_some h
    rcases itb_some h with ⟨c6, h⟩ | ⟨c6, h⟩
    · skip
      exact run_to mixed hμ (L := [0]) (n := 30) (s := [.reg [], .reg [(2, hF)], .reg [(1, hC (strings_Split_v y3))], .reg [(1, { call := some ((script_reader_step_v y5).ren (sel [1]), preOf (sel [1]) 0 (script_reader_step_objs (T_script_reader.mk y3 false)), upOf (sel [1]) (script_reader_step_up (T_script_reader.mk y3 false) y5)) })], .reg [(4, hT)]])
        (a_ (r2_ tr) (a_ (r2_ (f_ c1 tr)) (a_ (r1_ (c_ (strings_Split_tri line y3 e2) (a_ (a_ (Eq.refl true) tr) (r2_ tr)))) (a_ (r1_ (a_ (a_ (a_ (script_reader_step_ok (T_script_reader.mk y3 false) y5 e4 (sel [1]) (sel_inj rfl rfl)) (a_ (LO.Le.refl (.var (c_T_script_reader (T_script_reader.mk y3 false)))) tr)) tr) (r1_ (a_ (a_ (a_ (Eq.refl 25) (a_ (le_ 25 25 rfl) (Eq.refl 0))) tr) tr)))) (a_ (r1_ (r2_ (l_ 1 2 rfl (f_ c6 (t2_ (t4_ (r2_ (a_ tr (t2_ (r1_ tr)))))))))) tr))))) (script_Parse_c6_ok hμ    r h) (by kernel_rfl) ⟨rfl, trivial⟩
    · skip
      rcases itb_some h with ⟨c7, h⟩ | ⟨c7, h⟩
      · skip
        exact run_to mixed hμ (L := [0]) (n := 30) (s := [.reg [], .reg [(2, hF)], .reg [(1, hC (strings_Split_v y3))], .reg [(1, { call := some ((script_reader_step_v y5).ren (sel [1]), preOf (sel [1]) 0 (script_reader_step_objs (T_script_reader.mk y3 false)), upOf (sel [1]) (script_reader_step_up (T_script_reader.mk y3 false) y5)) })], .reg [(4, hF), (12, hT)]])
          (a_ (r2_ tr) (a_ (r2_ (f_ c1 tr)) (a_ (r1_ (c_ (strings_Split_tri line y3 e2) (a_ (a_ (Eq.refl true) tr) (r2_ tr)))) (a_ (r1_ (a_ (a_ (a_ (script_reader_step_ok (T_script_reader.mk y3 false) y5 e4 (sel [1]) (sel_inj rfl rfl)) (a_ (LO.Le.refl (.var (c_T_script_reader (T_script_reader.mk y3 false)))) tr)) tr) (r1_ (a_ (a_ (a_ (Eq.refl 25) (a_ (le_ 25 25 rfl) (Eq.refl 0))) tr) tr)))) (a_ (r1_ (r2_ (l_ 1 2 rfl (f_ c6 (r1_ (r2_ (l_ 0 2 rfl (r1_ (r2_ (f_ c7 (a_ tr (t2_ (r1_ tr))))))))))))) tr))))) (script_Parse_c6_ok hμ    r h) (by kernel_rfl) ⟨rfl, trivial⟩
      · skip
        obtain ⟨y9, e8, h⟩ := bind_some h
        rcases itb_some h with ⟨c10, h⟩ | ⟨c10, h⟩
        · skip
          exact run_to mixed hμ (L := [0]) (n := 30) (s := [.reg [], .reg [(2, hF)], .reg [(1, hC (strings_Split_v y3))], .reg [(1, { call := some ((script_reader_step_v y5).ren (sel [1]), preOf (sel [1]) 0 (script_reader_step_objs (T_script_reader.mk y3 false)), upOf (sel [1]) (script_reader_step_up (T_script_reader.mk y3 false) y5)) })], .reg [(4, hF), (12, hF), (14, hC (script_May_v y9)), (16, hT)]])
            (a_ (r2_ tr) (a_ (r2_ (f_ c1 tr)) (a_ (r1_ (c_ (strings_Split_tri line y3 e2) (a_ (a_ (Eq.refl true) tr) (r2_ tr)))) (a_ (r1_ (a_ (a_ (a_ (script_reader_step_ok (T_script_reader.mk y3 false) y5 e4 (sel [1]) (sel_inj rfl rfl)) (a_ (LO.Le.refl (.var (c_T_script_reader (T_script_reader.mk y3 false)))) tr)) tr) (r1_ (a_ (a_ (a_ (Eq.refl 25) (a_ (le_ 25 25 rfl) (Eq.refl 0))) tr) tr)))) (a_ (r1_ (r2_ (l_ 1 2 rfl (f_ c6 (r1_ (r2_ (l_ 0 2 rfl (r1_ (r2_ (f_ c7 (m_ 25 25 rfl (c_ (script_May_tri y5.1 y9 e8) (r1_ (f_ c10 tr)))))))))))))) tr))))) (script_Parse_c6_ok hμ    r h) (by kernel_rfl) ⟨rfl, trivial⟩
        · skip
          exact run_to mixed hμ (L := [0, 2]) (n := 31) (s := [.reg [], .reg [(2, hF)], .reg [(1, hC (strings_Split_v y3))], .reg [(1, { call := some ((script_reader_step_v y5).ren (sel [1]), preOf (sel [1]) 0 (script_reader_step_objs (T_script_reader.mk y3 false)), upOf (sel [1]) (script_reader_step_up (T_script_reader.mk y3 false) y5)) })], .reg [(4, hF), (12, hF), (14, hC (script_May_v y9)), (16, hF)]])
            (a_ (r2_ tr) (a_ (r2_ (f_ c1 tr)) (a_ (r1_ (c_ (strings_Split_tri line y3 e2) (a_ (a_ (Eq.refl true) tr) (r2_ tr)))) (a_ (r1_ (a_ (a_ (a_ (script_reader_step_ok (T_script_reader.mk y3 false) y5 e4 (sel [1]) (sel_inj rfl rfl)) (a_ (LO.Le.refl (.var (c_T_script_reader (T_script_reader.mk y3 false)))) tr)) tr) (r1_ (a_ (a_ (a_ (Eq.refl 25) (a_ (le_ 25 25 rfl) (Eq.refl 0))) tr) tr)))) (a_ (r1_ (r2_ (l_ 1 2 rfl (f_ c6 (r1_ (r2_ (l_ 0 2 rfl (r1_ (r2_ (f_ c7 (m_ 25 25 rfl (c_ (script_May_tri y5.1 y9 e8) (r1_ (f_ c10 tr)))))))))))))) tr))))) (script_Parse_c7_ok hμ y5   r h) (by kernel_rfl) ⟨rfl, rfl, trivial⟩

theorem script_Parse_tri (line : List UInt8) (r : (T_script_Step) × (Int)) (h : script_Parse line = some r) : FnTri Tryd.prog 17 [.str line] [] (script_Parse_v r) [] := FnTri.none (script_Parse_ok line r h) rfl rfl

/-- slices.Reverse[[]byte,byte] -/

def slices_Reverse_byte_byte_v (r : (List (Int))) : LV := .tup []

def slices_Reverse_byte_byte_up (s : List (Int)) (r : (List (Int))) : Upd := [(0, some (.gr 1 (r).length (rowF (cInt .u8) default r)))]

def slices_Reverse_byte_byte_objs (s : List (Int)) : List LO := [.gr 1 (s).length (rowF (cInt .u8) default s)]

def slices_Reverse_byte_byte_T0  (i : Int) (j : Int) (l : List (Int)) : List LV := [.gs 0 (l).length, .any, .int .i64 i, .int .i64 j, .any, .any, .any, .any, .any, .any, .any, .any, .any, .any, .any, .any, .any, .any, .any, .any, .any, .any, .any, .any, .any, .any, .any, .any]

def slices_Reverse_byte_byte_H0  (i : Int) (j : Int) (l : List (Int)) : Heap := [some (.gr 1 (l).length (rowF (cInt .u8) default l))]

def slices_Reverse_byte_byte_l0 (s : List (Int))  : Nat → (Int) → (Int) → (List (Int)) → Option ((List (Int)))
  | 0, _, _, _ => none
  | fuel + 1, i, j, l =>
    if ((decide (i < j)) : Bool) then
      if 0 ≤ j ∧ j < (((l).length : Nat) : Int) then
      if 0 ≤ i ∧ i < (((l).length : Nat) : Int) then
      if j.toNat < ((l.set i.toNat (l.getD j.toNat default))).length then
      slices_Reverse_byte_byte_l0 s  fuel (IntKind.wrap .i64 (i + 1)) (IntKind.wrap .i64 (j - 1)) ((l.set i.toNat (l.getD j.toNat default)).set j.toNat (l.getD i.toNat default))
      else none
      else none
      else none
    else
      some l

def slices_Reverse_byte_byte (s : List (Int)) : Option ((List (Int))) :=
  slices_Reverse_byte_byte_l0 s  big 0 (IntKind.wrap .i64 (((s).length : Int) - 1)) s

theorem slices_Reverse_byte_byte_l0_ok {w0 : World} {W : Nat → Prop} {μ0 : Emb} (hμ : ∀ c p, μ0 c = some p → c < 1) (s : List (Int))  : ∀ (fuel : Nat) (i : Int) (j : Int) (l : List (Int)) (r : (List (Int))), slices_Reverse_byte_byte_l0 s  fuel i j l = some r → kont Tryd.prog w0 W μ0 (FnPost Tryd.prog Tryd.f43 1 1 (slices_Reverse_byte_byte_v r) (slices_Reverse_byte_byte_up s r)) (kAt (bodyOf Tryd.f43) 0) none (slices_Reverse_byte_byte_T0  i j l) (slices_Reverse_byte_byte_H0  i j l) := by
  intro fuel
  induction fuel with
  | zero => intro i j l r h; rw [slices_Reverse_byte_byte_l0] at h; cases h
  | succ fuel ih =>
    intro i j l r h
    rw [slices_Reverse_byte_byte_l0] at h
    rcases itb_some h with ⟨cL0_1, h⟩ | ⟨cL0_1, h⟩
    · skip
      obtain ⟨gL0_2, h⟩ := guard_some h
      obtain ⟨gL0_3, h⟩ := guard_some h
      obtain ⟨gL0_4, h⟩ := guard_some h
      exact run_to mixed hμ (L := []) (n := 24) (s := [.go, .reg [(2, hT)], .reg [(13, { os := [(0, .gr 1 ((l.set i.toNat (l.getD j.toNat default))).length (rowF (cInt .u8) default (l.set i.toNat (l.getD j.toNat default))))] }), (15, { os := [(0, .gr 1 (((l.set i.toNat (l.getD j.toNat default)).set j.toNat (l.getD i.toNat default))).length (rowF (cInt .u8) default ((l.set i.toNat (l.getD j.toNat default)).set j.toNat (l.getD i.toNat default))))] })], .reg [], .wk [(0, .gs 0 (((l.set i.toNat (l.getD j.toNat default)).set j.toNat (l.getD i.toNat default))).length)] []])
        (a_ (r2_ (f_ cL0_1 tr)) (a_ (r2_ (r4_ (a_ (a_ (a_ (Eq.refl 1) gL0_2) tr) (a_ (a_ (a_ (ltN gL0_2) (lt_ 0 1 rfl)) tr) (r2_ (a_ (a_ (a_ (Eq.refl 1) gL0_3) tr) (a_ (a_ (a_ (ltN gL0_3) (lt_ 0 1 rfl)) tr) (a_ (a_ (a_ (Eq.refl 1) gL0_3) tr) (a_ (a_ (a_ (Eq.refl 1) (a_ (le_ 1 1 rfl) (ltN gL0_3))) (a_ (sub_set_gr (cInt .u8) default 1 l i.toNat (l.getD j.toNat default) (ltN gL0_3) (splL (rowF (cInt .u8) default l i.toNat) 0 [.int .u8 (l.getD j.toNat default)]) (by kernel_rfl)) tr)) (a_ (a_ (a_ (Eq.refl 1) gL0_2) tr) (a_ (a_ (a_ (Eq.refl 1) (a_ (le_ 1 1 rfl) gL0_4)) (a_ (sub_set_gr (cInt .u8) default 1 (l.set i.toNat (l.getD j.toNat default)) j.toNat (l.getD i.toNat default) gL0_4 (splL (rowF (cInt .u8) default (l.set i.toNat (l.getD j.toNat default)) j.toNat) 0 [.int .u8 (l.getD i.toNat default)]) (by kernel_rfl)) tr)) tr))))))))))) (a_ (r2_ (r4_ tr)) (a_ (a_ (a_ (le_gs 0 (show (l).length = (((l.set i.toNat (l.getD j.toNat default)).set j.toNat (l.getD i.toNat default))).length from by simp)) tr) tr) tr)))) (ih _ _ _ r h) (by kernel_rfl) ⟨fun _ _ => rfl, trivial⟩
    · skip
      obtain rfl := Option.some.inj h
      exact run_ret mixed (L := []) (n := 16) (s := [.go, .reg [(2, hF)]])
        (a_ (a_ (r2_ (f_ cL0_1 tr)) tr) tr) (by kernel_rfl) rfl

theorem slices_Reverse_byte_byte_ok (s : List (Int)) (r : (List (Int))) (h : slices_Reverse_byte_byte s = some r) : ∀ σ, Inj 1 σ → FnTri Tryd.prog 43 (renL σ [.gs 0 (s).length]) (preOf σ 0 (slices_Reverse_byte_byte_objs s)) ((slices_Reverse_byte_byte_v r).ren σ) (upOf σ (slices_Reverse_byte_byte_up s r)) := by
  refine fn_of Tryd.func43 (by kernel_rfl) (by kernel_rfl) (by kernel_rfl) ⟨fun _ _ => rfl, trivial⟩ (by kernel_rfl) ⟨fun _ _ => rfl, trivial⟩ (by kernel_rfl) ?_
  intro w0 W μ0 hμ
  unfold slices_Reverse_byte_byte at h
  exact run_to mixed hμ (L := []) (n := 14) (s := [.reg []])
    (a_ (r1_ (r4_ tr)) tr) (slices_Reverse_byte_byte_l0_ok hμ s  big _ _ _ r h) (by kernel_rfl) ⟨fun _ _ => rfl, trivial⟩

/-- parrel/script.digits -/

def script_digits_r_v (r : (List UInt8)) : LV := .str r

def script_digits_r_T0  (x_n2 : Int) (l : List (Int)) : List LV := [.int .i64 x_n2, .any, .any, .gs 0 (l).length, .any, .any, .any, .any, .any, .any, .any, .any, .any, .any, .any, .any, .any, .any, .any, .any, .any, .any, .any, .any, .any, .any, .any, .any, .any]

def script_digits_r_H0  (x_n2 : Int) (l : List (Int)) : Heap := [some (.gr 1 (l).length (rowF (cInt .u8) default l))]

def script_digits_r_l0   : Nat → (Int) → (List (Int)) → Option ((List UInt8))
  | 0, _, _ => none
  | fuel + 1, x_n2, l =>
    if ((decide (9 < x_n2)) : Bool) then
      if 0 ≤ (Int.tmod x_n2 10) ∧ (Int.tmod x_n2 10) < (((([48, 49, 50, 51, 52, 53, 54, 55, 56, 57, 97, 98, 99, 100, 101, 102] : List UInt8)).length : Nat) : Int) then
      if ((l).length + (([((([48, 49, 50, 51, 52, 53, 54, 55, 56, 57, 97, 98, 99, 100, 101, 102] : List UInt8).getD ((Int.tmod x_n2 10)).toNat 0).toNat : Int)] : List (Int))).length) * 1 ≤ 140737488351232 then
      script_digits_r_l0   fuel (IntKind.wrap .i64 (Int.tdiv x_n2 10)) (l ++ ([((([48, 49, 50, 51, 52, 53, 54, 55, 56, 57, 97, 98, 99, 100, 101, 102] : List UInt8).getD ((Int.tmod x_n2 10)).toNat 0).toNat : Int)] : List (Int)))
      else none
      else none
    else
      if 0 ≤ x_n2 ∧ x_n2 < (((([48, 49, 50, 51, 52, 53, 54, 55, 56, 57, 97, 98, 99, 100, 101, 102] : List UInt8)).length : Nat) : Int) then
      if ((l).length + (([((([48, 49, 50, 51, 52, 53, 54, 55, 56, 57, 97, 98, 99, 100, 101, 102] : List UInt8).getD x_n2.toNat 0).toNat : Int)] : List (Int))).length) * 1 ≤ 140737488351232 then
      (slices_Reverse_byte_byte (l ++ ([((([48, 49, 50, 51, 52, 53, 54, 55, 56, 57, 97, 98, 99, 100, 101, 102] : List UInt8).getD x_n2.toNat 0).toNat : Int)] : List (Int)))).bind fun yL0_5 =>
      if ((l ++ ([((([48, 49, 50, 51, 52, 53, 54, 55, 56, 57, 97, 98, 99, 100, 101, 102] : List UInt8).getD x_n2.toNat 0).toNat : Int)] : List (Int)))).length = (yL0_5).length then
      some (strI yL0_5)
      else none
      else none
      else none

def script_digits_r (x_n : Int) : Option ((List UInt8)) :=
  if ((decide (x_n < 0)) : Bool) then
    none
  else
    script_digits_r_l0   big x_n ([] : List (Int))

theorem script_digits_r_l0_ok {w0 : World} {W : Nat → Prop} {μ0 : Emb} (hμ : ∀ c p, μ0 c = some p → c < 0)   : ∀ (fuel : Nat) (x_n2 : Int) (l : List (Int)) (r : (List UInt8)), script_digits_r_l0   fuel x_n2 l = some r → kont Tryd.prog w0 W μ0 (FnPost Tryd.prog Tryd.f20 0 0 (script_digits_r_v r) []) (kAt (bodyOf Tryd.f20) 0) none (script_digits_r_T0  x_n2 l) (script_digits_r_H0  x_n2 l) := by
  intro fuel
  induction fuel with
  | zero => intro x_n2 l r h; rw [script_digits_r_l0] at h; cases h
  | succ fuel ih =>
    intro x_n2 l r h
    rw [script_digits_r_l0] at h
    rcases itb_some h with ⟨cL0_1, h⟩ | ⟨cL0_1, h⟩
    · skip
      obtain ⟨gL0_2, h⟩ := guard_some h
      obtain ⟨gL0_3, h⟩ := guard_some h
      exact run_to mixed hμ (L := [2]) (n := 23) (s := [.go, .reg [(1, hT)], .reg [(4, { os := [(1, .gr 1 (([((([48, 49, 50, 51, 52, 53, 54, 55, 56, 57, 97, 98, 99, 100, 101, 102] : List UInt8).getD ((Int.tmod x_n2 10)).toNat 0).toNat : Int)] : List (Int))).length (rowF (cInt .u8) default ([((([48, 49, 50, 51, 52, 53, 54, 55, 56, 57, 97, 98, 99, 100, 101, 102] : List UInt8).getD ((Int.tmod x_n2 10)).toNat 0).toNat : Int)] : List (Int))))], v := some (.gs 1 (([((([48, 49, 50, 51, 52, 53, 54, 55, 56, 57, 97, 98, 99, 100, 101, 102] : List UInt8).getD ((Int.tmod x_n2 10)).toNat 0).toNat : Int)] : List (Int))).length) }), (5, { app := 3, os := [(2, .gr 1 ((l ++ ([((([48, 49, 50, 51, 52, 53, 54, 55, 56, 57, 97, 98, 99, 100, 101, 102] : List UInt8).getD ((Int.tmod x_n2 10)).toNat 0).toNat : Int)] : List (Int)))).length (rowF (cInt .u8) default (l ++ ([((([48, 49, 50, 51, 52, 53, 54, 55, 56, 57, 97, 98, 99, 100, 101, 102] : List UInt8).getD ((Int.tmod x_n2 10)).toNat 0).toNat : Int)] : List (Int)))))], v := some (.gs 2 ((l ++ ([((([48, 49, 50, 51, 52, 53, 54, 55, 56, 57, 97, 98, 99, 100, 101, 102] : List UInt8).getD ((Int.tmod x_n2 10)).toNat 0).toNat : Int)] : List (Int)))).length) })], .reg []])
        (a_ (r1_ (f_ cL0_1 tr)) (a_ (r2_ (a_ (a_ (ne0 10 rfl) tr) (a_ (a_ gL0_2 tr) (a_ (a_ (a_ (Eq.refl true) (a_ (Eq.refl 1) (a_ (lt_ 0 1 rfl) (le_ 1 16777216 rfl)))) (a_ (le_sl_gs 1 1 (some 1) rfl) (a_ (sub_lit (cInt .u8) default 1 (fun _ => rfl) ([((([48, 49, 50, 51, 52, 53, 54, 55, 56, 57, 97, 98, 99, 100, 101, 102] : List UInt8).getD ((Int.tmod x_n2 10)).toNat 0).toNat : Int)] : List (Int))) tr))) (a_ (a_ (a_ (a_ (Eq.refl 1) (Nat.le_refl (([((([48, 49, 50, 51, 52, 53, 54, 55, 56, 57, 97, 98, 99, 100, 101, 102] : List UInt8).getD ((Int.tmod x_n2 10)).toNat 0).toNat : Int)] : List (Int))).length)) (a_ (a_ (lt_ 0 1 rfl) (a_ (lt_ 0 1 rfl) (a_ gL0_3 (a_ (Eq.refl 1) (Eq.refl true))))) (a_ (Eq.refl 1) (Nat.le_refl (l).length)))) (a_ (le_gs_app 2 l ([((([48, 49, 50, 51, 52, 53, 54, 55, 56, 57, 97, 98, 99, 100, 101, 102] : List UInt8).getD ((Int.tmod x_n2 10)).toNat 0).toNat : Int)] : List (Int))) (a_ (sub_app (cInt .u8) default 1 l ([((([48, 49, 50, 51, 52, 53, 54, 55, 56, 57, 97, 98, 99, 100, 101, 102] : List UInt8).getD ((Int.tmod x_n2 10)).toNat 0).toNat : Int)] : List (Int))) tr))) (r1_ tr)))))) (a_ (r1_ (a_ (a_ (ne0 10 rfl) tr) (r1_ tr))) tr))) (ih _ _ r h) (by kernel_rfl) ⟨fun _ _ => rfl, trivial⟩
    · skip
      obtain ⟨gL0_2, h⟩ := guard_some h
      obtain ⟨gL0_3, h⟩ := guard_some h
      obtain ⟨yL0_5, eL0_4, h⟩ := bind_some h
      obtain ⟨gL0_6, h⟩ := guard_some h
      obtain rfl := Option.some.inj h
      exact run_ret mixed (L := []) (n := 27) (s := [.go, .reg [(1, hF)], .reg [(3, { os := [(1, .gr 1 (([((([48, 49, 50, 51, 52, 53, 54, 55, 56, 57, 97, 98, 99, 100, 101, 102] : List UInt8).getD x_n2.toNat 0).toNat : Int)] : List (Int))).length (rowF (cInt .u8) default ([((([48, 49, 50, 51, 52, 53, 54, 55, 56, 57, 97, 98, 99, 100, 101, 102] : List UInt8).getD x_n2.toNat 0).toNat : Int)] : List (Int))))], v := some (.gs 1 (([((([48, 49, 50, 51, 52, 53, 54, 55, 56, 57, 97, 98, 99, 100, 101, 102] : List UInt8).getD x_n2.toNat 0).toNat : Int)] : List (Int))).length) }), (4, { app := 3, os := [(2, .gr 1 ((l ++ ([((([48, 49, 50, 51, 52, 53, 54, 55, 56, 57, 97, 98, 99, 100, 101, 102] : List UInt8).getD x_n2.toNat 0).toNat : Int)] : List (Int)))).length (rowF (cInt .u8) default (l ++ ([((([48, 49, 50, 51, 52, 53, 54, 55, 56, 57, 97, 98, 99, 100, 101, 102] : List UInt8).getD x_n2.toNat 0).toNat : Int)] : List (Int)))))], v := some (.gs 2 ((l ++ ([((([48, 49, 50, 51, 52, 53, 54, 55, 56, 57, 97, 98, 99, 100, 101, 102] : List UInt8).getD x_n2.toNat 0).toNat : Int)] : List (Int)))).length) })], .reg [(1, { call := some ((slices_Reverse_byte_byte_v yL0_5).ren (sel [2]), preOf (sel [2]) 0 (slices_Reverse_byte_byte_objs (l ++ ([((([48, 49, 50, 51, 52, 53, 54, 55, 56, 57, 97, 98, 99, 100, 101, 102] : List UInt8).getD x_n2.toNat 0).toNat : Int)] : List (Int)))), upOf (sel [2]) (slices_Reverse_byte_byte_up (l ++ ([((([48, 49, 50, 51, 52, 53, 54, 55, 56, 57, 97, 98, 99, 100, 101, 102] : List UInt8).getD x_n2.toNat 0).toNat : Int)] : List (Int))) yL0_5)) })], .wk [(3, .gs 2 (yL0_5).length), (24, .gs 2 (yL0_5).length), (25, .gs 2 (yL0_5).length)] [], .frz 2, .reg [(1, { v := some (.str (strI yL0_5)) })]])
        (a_ (a_ (r1_ (f_ cL0_1 tr)) (a_ (r2_ (a_ (a_ gL0_2 tr) (a_ (a_ (a_ (Eq.refl true) (a_ (Eq.refl 1) (a_ (lt_ 0 1 rfl) (le_ 1 16777216 rfl)))) (a_ (le_sl_gs 1 1 (some 1) rfl) (a_ (sub_lit (cInt .u8) default 1 (fun _ => rfl) ([((([48, 49, 50, 51, 52, 53, 54, 55, 56, 57, 97, 98, 99, 100, 101, 102] : List UInt8).getD x_n2.toNat 0).toNat : Int)] : List (Int))) tr))) (a_ (a_ (a_ (a_ (Eq.refl 1) (Nat.le_refl (([((([48, 49, 50, 51, 52, 53, 54, 55, 56, 57, 97, 98, 99, 100, 101, 102] : List UInt8).getD x_n2.toNat 0).toNat : Int)] : List (Int))).length)) (a_ (a_ (lt_ 0 1 rfl) (a_ (lt_ 0 1 rfl) (a_ gL0_3 (a_ (Eq.refl 1) (Eq.refl true))))) (a_ (Eq.refl 1) (Nat.le_refl (l).length)))) (a_ (le_gs_app 2 l ([((([48, 49, 50, 51, 52, 53, 54, 55, 56, 57, 97, 98, 99, 100, 101, 102] : List UInt8).getD x_n2.toNat 0).toNat : Int)] : List (Int))) (a_ (sub_app (cInt .u8) default 1 l ([((([48, 49, 50, 51, 52, 53, 54, 55, 56, 57, 97, 98, 99, 100, 101, 102] : List UInt8).getD x_n2.toNat 0).toNat : Int)] : List (Int))) tr))) (r1_ tr))))) (a_ (r1_ (a_ (a_ (a_ (slices_Reverse_byte_byte_ok (l ++ ([((([48, 49, 50, 51, 52, 53, 54, 55, 56, 57, 97, 98, 99, 100, 101, 102] : List UInt8).getD x_n2.toNat 0).toNat : Int)] : List (Int))) yL0_5 eL0_4 (sel [2]) (sel_inj rfl rfl)) (a_ (LO.Le.refl (.gr 1 ((l ++ ([((([48, 49, 50, 51, 52, 53, 54, 55, 56, 57, 97, 98, 99, 100, 101, 102] : List UInt8).getD x_n2.toNat 0).toNat : Int)] : List (Int)))).length (rowF (cInt .u8) default (l ++ ([((([48, 49, 50, 51, 52, 53, 54, 55, 56, 57, 97, 98, 99, 100, 101, 102] : List UInt8).getD x_n2.toNat 0).toNat : Int)] : List (Int)))))) tr)) tr) tr)) (a_ (a_ (a_ (le_gs 2 gL0_6) (a_ (le_gs 2 gL0_6) (a_ (le_gs 2 gL0_6) tr))) tr) (a_ (a_ (fz_row (enc := (cInt .u8)) (d := default) (fun _ => rfl) yL0_5) (a_ (Nat.le_refl (yL0_5).length) (a_ (Nat.le_refl (yL0_5).length) (a_ (Nat.le_refl (yL0_5).length) tr)))) (a_ (r1_ (a_ (a_ (a_ (Eq.refl 1) (str_ob yL0_5)) (a_ (le_str yL0_5) tr)) (r1_ tr))) tr)))))) tr) (by kernel_rfl) rfl

theorem script_digits_r_ok (x_n : Int) (r : (List UInt8)) (h : script_digits_r x_n = some r) : ∀ σ, Inj 0 σ → FnTri Tryd.prog 20 (renL σ [.int .i64 x_n]) (preOf σ 0 []) ((script_digits_r_v r).ren σ) (upOf σ []) := by
  refine fn_of Tryd.func20 (by kernel_rfl) (by kernel_rfl) (by kernel_rfl) trivial (by kernel_rfl) trivial (by kernel_rfl) ?_
  intro w0 W μ0 hμ
  unfold script_digits_r at h
  rcases itb_some h with ⟨c1, h⟩ | ⟨c1, h⟩
  · skip
    cases h
  · skip
    exact run_to mixed hμ (L := [0]) (n := 25) (s := [.reg [], .reg [(1, hF)], .void (.gr 1 (([] : List (Int))).length (rowF (cInt .u8) default ([] : List (Int)))), .reg [(0, { v := some (.gs 0 (([] : List (Int))).length) })]])
      (a_ (r1_ tr) (a_ (r1_ (f_ c1 tr)) (a_ (Eq.refl 0) (a_ (a_ (a_ tr (a_ (le_nil_gs 0) tr)) tr) tr)))) (script_digits_r_l0_ok hμ   big _ _ r h) (by kernel_rfl) ⟨fun _ _ => rfl, trivial⟩

theorem script_digits_r_tri (x_n : Int) (r : (List UInt8)) (h : script_digits_r x_n = some r) : FnTri Tryd.prog 20 [.int .i64 x_n] [] (script_digits_r_v r) [] := FnTri.none (script_digits_r_ok x_n r h) rfl rfl

/-- parrel/script.digits -/

def script_digits_v (r : (List UInt8)) : LV := .str r

def script_digits_T0  (x_n2 : Int) (l : List (Int)) : List LV := [.int .i64 x_n2, .any, .any, .gs 0 (l).length, .any, .any, .any, .any, .any, .any, .any, .any, .any, .any, .any, .any, .any, .any, .any, .any, .any, .any, .any, .any, .any, .any, .any, .any, .any]

def script_digits_H0  (x_n2 : Int) (l : List (Int)) : Heap := [some (.gr 1 (l).length (rowF (cInt .u8) default l))]

def script_digits_l0   : Nat → (Int) → (List (Int)) → Option ((List UInt8))
  | 0, _, _ => none
  | fuel + 1, x_n2, l =>
    if ((decide (9 < x_n2)) : Bool) then
      if 0 ≤ (Int.tmod x_n2 10) ∧ (Int.tmod x_n2 10) < (((([48, 49, 50, 51, 52, 53, 54, 55, 56, 57, 97, 98, 99, 100, 101, 102] : List UInt8)).length : Nat) : Int) then
      if ((l).length + (([((([48, 49, 50, 51, 52, 53, 54, 55, 56, 57, 97, 98, 99, 100, 101, 102] : List UInt8).getD ((Int.tmod x_n2 10)).toNat 0).toNat : Int)] : List (Int))).length) * 1 ≤ 140737488351232 then
      script_digits_l0   fuel (IntKind.wrap .i64 (Int.tdiv x_n2 10)) (l ++ ([((([48, 49, 50, 51, 52, 53, 54, 55, 56, 57, 97, 98, 99, 100, 101, 102] : List UInt8).getD ((Int.tmod x_n2 10)).toNat 0).toNat : Int)] : List (Int)))
      else none
      else none
    else
      if 0 ≤ x_n2 ∧ x_n2 < (((([48, 49, 50, 51, 52, 53, 54, 55, 56, 57, 97, 98, 99, 100, 101, 102] : List UInt8)).length : Nat) : Int) then
      if ((l).length + (([((([48, 49, 50, 51, 52, 53, 54, 55, 56, 57, 97, 98, 99, 100, 101, 102] : List UInt8).getD x_n2.toNat 0).toNat : Int)] : List (Int))).length) * 1 ≤ 140737488351232 then
      (slices_Reverse_byte_byte (l ++ ([((([48, 49, 50, 51, 52, 53, 54, 55, 56, 57, 97, 98, 99, 100, 101, 102] : List UInt8).getD x_n2.toNat 0).toNat : Int)] : List (Int)))).bind fun yL0_5 =>
      if ((l ++ ([((([48, 49, 50, 51, 52, 53, 54, 55, 56, 57, 97, 98, 99, 100, 101, 102] : List UInt8).getD x_n2.toNat 0).toNat : Int)] : List (Int)))).length = (yL0_5).length then
      some (strI yL0_5)
      else none
      else none
      else none

def script_digits (x_n : Int) : Option ((List UInt8)) :=
  if ((decide (x_n < 0)) : Bool) then
    (script_digits_r (IntKind.wrap .i64 (0 - x_n))).bind fun y3 =>
    if (([45] : List UInt8)).length + (y3).length ≤ 9223372036854775807 then
    some (([45] : List UInt8) ++ y3)
    else none
  else
    script_digits_l0   big x_n ([] : List (Int))

theorem script_digits_l0_ok {w0 : World} {W : Nat → Prop} {μ0 : Emb} (hμ : ∀ c p, μ0 c = some p → c < 0)   : ∀ (fuel : Nat) (x_n2 : Int) (l : List (Int)) (r : (List UInt8)), script_digits_l0   fuel x_n2 l = some r → kont Tryd.prog w0 W μ0 (FnPost Tryd.prog Tryd.f20 0 0 (script_digits_v r) []) (kAt (bodyOf Tryd.f20) 0) none (script_digits_T0  x_n2 l) (script_digits_H0  x_n2 l) := by
  intro fuel
  induction fuel with
  | zero => intro x_n2 l r h; rw [script_digits_l0] at h; cases h
  | succ fuel ih =>
    intro x_n2 l r h
    rw [script_digits_l0] at h
    rcases itb_some h with ⟨cL0_1, h⟩ | ⟨cL0_1, h⟩
    · skip
      obtain ⟨gL0_2, h⟩ := guard_some h
      obtain ⟨gL0_3, h⟩ := guard_some h
      exact run_to mixed hμ (L := [2]) (n := 23) (s := [.go, .reg [(1, hT)], .reg [(4, { os := [(1, .gr 1 (([((([48, 49, 50, 51, 52, 53, 54, 55, 56, 57, 97, 98, 99, 100, 101, 102] : List UInt8).getD ((Int.tmod x_n2 10)).toNat 0).toNat : Int)] : List (Int))).length (rowF (cInt .u8) default ([((([48, 49, 50, 51, 52, 53, 54, 55, 56, 57, 97, 98, 99, 100, 101, 102] : List UInt8).getD ((Int.tmod x_n2 10)).toNat 0).toNat : Int)] : List (Int))))], v := some (.gs 1 (([((([48, 49, 50, 51, 52, 53, 54, 55, 56, 57, 97, 98, 99, 100, 101, 102] : List UInt8).getD ((Int.tmod x_n2 10)).toNat 0).toNat : Int)] : List (Int))).length) }), (5, { app := 3, os := [(2, .gr 1 ((l ++ ([((([48, 49, 50, 51, 52, 53, 54, 55, 56, 57, 97, 98, 99, 100, 101, 102] : List UInt8).getD ((Int.tmod x_n2 10)).toNat 0).toNat : Int)] : List (Int)))).length (rowF (cInt .u8) default (l ++ ([((([48, 49, 50, 51, 52, 53, 54, 55, 56, 57, 97, 98, 99, 100, 101, 102] : List UInt8).getD ((Int.tmod x_n2 10)).toNat 0).toNat : Int)] : List (Int)))))], v := some (.gs 2 ((l ++ ([((([48, 49, 50, 51, 52, 53, 54, 55, 56, 57, 97, 98, 99, 100, 101, 102] : List UInt8).getD ((Int.tmod x_n2 10)).toNat 0).toNat : Int)] : List (Int)))).length) })], .reg []])
        (a_ (r1_ (f_ cL0_1 tr)) (a_ (r2_ (a_ (a_ (ne0 10 rfl) tr) (a_ (a_ gL0_2 tr) (a_ (a_ (a_ (Eq.refl true) (a_ (Eq.refl 1) (a_ (lt_ 0 1 rfl) (le_ 1 16777216 rfl)))) (a_ (le_sl_gs 1 1 (some 1) rfl) (a_ (sub_lit (cInt .u8) default 1 (fun _ => rfl) ([((([48, 49, 50, 51, 52, 53, 54, 55, 56, 57, 97, 98, 99, 100, 101, 102] : List UInt8).getD ((Int.tmod x_n2 10)).toNat 0).toNat : Int)] : List (Int))) tr))) (a_ (a_ (a_ (a_ (Eq.refl 1) (Nat.le_refl (([((([48, 49, 50, 51, 52, 53, 54, 55, 56, 57, 97, 98, 99, 100, 101, 102] : List UInt8).getD ((Int.tmod x_n2 10)).toNat 0).toNat : Int)] : List (Int))).length)) (a_ (a_ (lt_ 0 1 rfl) (a_ (lt_ 0 1 rfl) (a_ gL0_3 (a_ (Eq.refl 1) (Eq.refl true))))) (a_ (Eq.refl 1) (Nat.le_refl (l).length)))) (a_ (le_gs_app 2 l ([((([48, 49, 50, 51, 52, 53, 54, 55, 56, 57, 97, 98, 99, 100, 101, 102] : List UInt8).getD ((Int.tmod x_n2 10)).toNat 0).toNat : Int)] : List (Int))) (a_ (sub_app (cInt .u8) default 1 l ([((([48, 49, 50, 51, 52, 53, 54, 55, 56, 57, 97, 98, 99, 100, 101, 102] : List UInt8).getD ((Int.tmod x_n2 10)).toNat 0).toNat : Int)] : List (Int))) tr))) (r1_ tr)))))) (a_ (r1_ (a_ (a_ (ne0 10 rfl) tr) (r1_ tr))) tr))) (ih _ _ r h) (by kernel_rfl) ⟨fun _ _ => rfl, trivial⟩
    · skip
      obtain ⟨gL0_2, h⟩ := guard_some h
      obtain ⟨gL0_3, h⟩ := guard_some h
      obtain ⟨yL0_5, eL0_4, h⟩ := bind_some h
      obtain ⟨gL0_6, h⟩ := guard_some h
      obtain rfl := Option.some.inj h
      exact run_ret mixed (L := []) (n := 27) (s := [.go, .reg [(1, hF)], .reg [(3, { os := [(1, .gr 1 (([((([48, 49, 50, 51, 52, 53, 54, 55, 56, 57, 97, 98, 99, 100, 101, 102] : List UInt8).getD x_n2.toNat 0).toNat : Int)] : List (Int))).length (rowF (cInt .u8) default ([((([48, 49, 50, 51, 52, 53, 54, 55, 56, 57, 97, 98, 99, 100, 101, 102] : List UInt8).getD x_n2.toNat 0).toNat : Int)] : List (Int))))], v := some (.gs 1 (([((([48, 49, 50, 51, 52, 53, 54, 55, 56, 57, 97, 98, 99, 100, 101, 102] : List UInt8).getD x_n2.toNat 0).toNat : Int)] : List (Int))).length) }), (4, { app := 3, os := [(2, .gr 1 ((l ++ ([((([48, 49, 50, 51, 52, 53, 54, 55, 56, 57, 97, 98, 99, 100, 101, 102] : List UInt8).getD x_n2.toNat 0).toNat : Int)] : List (Int)))).length (rowF (cInt .u8) default (l ++ ([((([48, 49, 50, 51, 52, 53, 54, 55, 56, 57, 97, 98, 99, 100, 101, 102] : List UInt8).getD x_n2.toNat 0).toNat : Int)] : List (Int)))))], v := some (.gs 2 ((l ++ ([((([48, 49, 50, 51, 52, 53, 54, 55, 56, 57, 97, 98, 99, 100, 101, 102] : List UInt8).getD x_n2.toNat 0).toNat : Int)] : List (Int)))).length) })], .reg [(1, { call := some ((slices_Reverse_byte_byte_v yL0_5).ren (sel [2]), preOf (sel [2]) 0 (slices_Reverse_byte_byte_objs (l ++ ([((([48, 49, 50, 51, 52, 53, 54, 55, 56, 57, 97, 98, 99, 100, 101, 102] : List UInt8).getD x_n2.toNat 0).toNat : Int)] : List (Int)))), upOf (sel [2]) (slices_Reverse_byte_byte_up (l ++ ([((([48, 49, 50, 51, 52, 53, 54, 55, 56, 57, 97, 98, 99, 100, 101, 102] : List UInt8).getD x_n2.toNat 0).toNat : Int)] : List (Int))) yL0_5)) })], .wk [(3, .gs 2 (yL0_5).length), (24, .gs 2 (yL0_5).length), (25, .gs 2 (yL0_5).length)] [], .frz 2, .reg [(1, { v := some (.str (strI yL0_5)) })]])
        (a_ (a_ (r1_ (f_ cL0_1 tr)) (a_ (r2_ (a_ (a_ gL0_2 tr) (a_ (a_ (a_ (Eq.refl true) (a_ (Eq.refl 1) (a_ (lt_ 0 1 rfl) (le_ 1 16777216 rfl)))) (a_ (le_sl_gs 1 1 (some 1) rfl) (a_ (sub_lit (cInt .u8) default 1 (fun _ => rfl) ([((([48, 49, 50, 51, 52, 53, 54, 55, 56, 57, 97, 98, 99, 100, 101, 102] : List UInt8).getD x_n2.toNat 0).toNat : Int)] : List (Int))) tr))) (a_ (a_ (a_ (a_ (Eq.refl 1) (Nat.le_refl (([((([48, 49, 50, 51, 52, 53, 54, 55, 56, 57, 97, 98, 99, 100, 101, 102] : List UInt8).getD x_n2.toNat 0).toNat : Int)] : List (Int))).length)) (a_ (a_ (lt_ 0 1 rfl) (a_ (lt_ 0 1 rfl) (a_ gL0_3 (a_ (Eq.refl 1) (Eq.refl true))))) (a_ (Eq.refl 1) (Nat.le_refl (l).length)))) (a_ (le_gs_app 2 l ([((([48, 49, 50, 51, 52, 53, 54, 55, 56, 57, 97, 98, 99, 100, 101, 102] : List UInt8).getD x_n2.toNat 0).toNat : Int)] : List (Int))) (a_ (sub_app (cInt .u8) default 1 l ([((([48, 49, 50, 51, 52, 53, 54, 55, 56, 57, 97, 98, 99, 100, 101, 102] : List UInt8).getD x_n2.toNat 0).toNat : Int)] : List (Int))) tr))) (r1_ tr))))) (a_ (r1_ (a_ (a_ (a_ (slices_Reverse_byte_byte_ok (l ++ ([((([48, 49, 50, 51, 52, 53, 54, 55, 56, 57, 97, 98, 99, 100, 101, 102] : List UInt8).getD x_n2.toNat 0).toNat : Int)] : List (Int))) yL0_5 eL0_4 (sel [2]) (sel_inj rfl rfl)) (a_ (LO.Le.refl (.gr 1 ((l ++ ([((([48, 49, 50, 51, 52, 53, 54, 55, 56, 57, 97, 98, 99, 100, 101, 102] : List UInt8).getD x_n2.toNat 0).toNat : Int)] : List (Int)))).length (rowF (cInt .u8) default (l ++ ([((([48, 49, 50, 51, 52, 53, 54, 55, 56, 57, 97, 98, 99, 100, 101, 102] : List UInt8).getD x_n2.toNat 0).toNat : Int)] : List (Int)))))) tr)) tr) tr)) (a_ (a_ (a_ (le_gs 2 gL0_6) (a_ (le_gs 2 gL0_6) (a_ (le_gs 2 gL0_6) tr))) tr) (a_ (a_ (fz_row (enc := (cInt .u8)) (d := default) (fun _ => rfl) yL0_5) (a_ (Nat.le_refl (yL0_5).length) (a_ (Nat.le_refl (yL0_5).length) (a_ (Nat.le_refl (yL0_5).length) tr)))) (a_ (r1_ (a_ (a_ (a_ (Eq.refl 1) (str_ob yL0_5)) (a_ (le_str yL0_5) tr)) (r1_ tr))) tr)))))) tr) (by kernel_rfl) rfl

theorem script_digits_ok (x_n : Int) (r : (List UInt8)) (h : script_digits x_n = some r) : ∀ σ, Inj 0 σ → FnTri Tryd.prog 20 (renL σ [.int .i64 x_n]) (preOf σ 0 []) ((script_digits_v r).ren σ) (upOf σ []) := by
  refine fn_of Tryd.func20 (by kernel_rfl) (by kernel_rfl) (by kernel_rfl) trivial (by kernel_rfl) trivial (by kernel_rfl) ?_
  intro w0 W μ0 hμ
  unfold script_digits at h
  rcases itb_some h with ⟨c1, h⟩ | ⟨c1, h⟩
  · skip
    obtain ⟨y3, e2, h⟩ := bind_some h
    obtain ⟨g4, h⟩ := guard_some h
    obtain rfl := Option.some.inj h
    exact run_ret mixed (L := []) (n := 20) (s := [.reg [], .reg [(1, hT)], .reg [(2, hC (script_digits_r_v y3))]])
      (a_ (a_ (r1_ tr) (a_ (r1_ (f_ c1 tr)) (a_ (r2_ (a_ (a_ (a_ (script_digits_r_tri (IntKind.wrap .i64 (0 - x_n)) y3 e2) tr) tr) (a_ (a_ g4 tr) (r1_ tr)))) tr))) tr) (by kernel_rfl) rfl
  · skip
    exact run_to mixed hμ (L := [0]) (n := 25) (s := [.reg [], .reg [(1, hF)], .void (.gr 1 (([] : List (Int))).length (rowF (cInt .u8) default ([] : List (Int)))), .reg [(0, { v := some (.gs 0 (([] : List (Int))).length) })]])
      (a_ (r1_ tr) (a_ (r1_ (f_ c1 tr)) (a_ (Eq.refl 0) (a_ (a_ (a_ tr (a_ (le_nil_gs 0) tr)) tr) tr)))) (script_digits_l0_ok hμ   big _ _ r h) (by kernel_rfl) ⟨fun _ _ => rfl, trivial⟩

theorem script_digits_tri (x_n : Int) (r : (List UInt8)) (h : script_digits x_n = some r) : FnTri Tryd.prog 20 [.int .i64 x_n] [] (script_digits_v r) [] := FnTri.none (script_digits_ok x_n r h) rfl rfl

/-! strings.Join: PRE -/
def jn23_lays_ren : Go.Shelf.Ren := ⟨fun | 156 => 23 | 165 => 49 | 166 => 40 | 169 => 42 | 240 => 63 | 241 => 66 | 276 => 78 | 277 => 83 | n => n, fun | 31 => 62 | 9 => 9 | 3 => 3 | 4 => 4 | 0 => 0 | 20 => 20 | 72 => 89 | 76 => 92 | 70 => 87 | 37 => 27 | 75 => 91 | 127 => 111 | 164 => 123 | 5 => 5 | 80 => 95 | n => n, fun | n => n⟩
theorem jn23_lays : Go.Proofs.Lays.n156 Tryd.prog jn23_lays_ren where
  mixed := by kernel_rfl
  f156 := Tryd.func23.trans (congrArg some (by kernel_rfl))
  f165 := Tryd.func49.trans (congrArg some (by kernel_rfl))
  f166 := Tryd.func40.trans (congrArg some (by kernel_rfl))
  f169 := Tryd.func42.trans (congrArg some (by kernel_rfl))
  f240 := Tryd.func63.trans (congrArg some (by kernel_rfl))
  f241 := Tryd.func66.trans (congrArg some (by kernel_rfl))
  f276 := Tryd.func78.trans (congrArg some (by kernel_rfl))
  f277 := Tryd.func83.trans (congrArg some (by kernel_rfl))
  t0 := Tryd.underlying0
  a0 := Tryd.isAgg0
  z0 := Tryd.sizeOf0
  v0 := Tryd.zeroValue0
  t3 := Tryd.underlying3
  a3 := Tryd.isAgg3
  z3 := Tryd.sizeOf3
  v3 := Tryd.zeroValue3
  t4 := Tryd.underlying4
  a4 := Tryd.isAgg4
  z4 := Tryd.sizeOf4
  v4 := Tryd.zeroValue4
  t9 := Tryd.underlying9
  a9 := Tryd.isAgg9
  z9 := Tryd.sizeOf9
  v9 := Tryd.zeroValue9
  t20 := Tryd.underlying20
  a20 := Tryd.isAgg20
  z20 := Tryd.sizeOf20
  v20 := Tryd.zeroValue20
  t31 := Tryd.underlying62
  a31 := Tryd.isAgg62
  z31 := Tryd.sizeOf62
  v31 := Tryd.zeroValue62
  t37 := Tryd.underlying27
  a37 := Tryd.isAgg27
  z37 := Tryd.sizeOf27
  v37 := Tryd.zeroValue27
  t70 := Tryd.underlying87
  a70 := Tryd.isAgg87
  z70 := Tryd.sizeOf87
  v70 := Tryd.zeroValue87
  t72 := Tryd.underlying89
  a72 := Tryd.isAgg89
  z72 := Tryd.sizeOf89
  v72 := Tryd.zeroValue89
  t75 := Tryd.underlying91
  a75 := Tryd.isAgg91
  z75 := Tryd.sizeOf91
  v75 := Tryd.zeroValue91
  t76 := Tryd.underlying92
  a76 := Tryd.isAgg92
  z76 := Tryd.sizeOf92
  v76 := Tryd.zeroValue92
  t127 := Tryd.underlying111
  a127 := Tryd.isAgg111
  z127 := Tryd.sizeOf111
  v127 := Tryd.zeroValue111
  t164 := Tryd.underlying123
  a164 := Tryd.isAgg123
  z164 := Tryd.sizeOf123
  v164 := Tryd.zeroValue123
theorem jn23_extra : Go.Proofs.Builder.Extra Tryd.prog jn23_lays_ren where
  sizeBuilder := by kernel_rfl
  liesBuilder := by kernel_rfl
  t5 := Tryd.underlying5
  a5 := Tryd.isAgg5
  z5 := Tryd.sizeOf5
  v5 := Tryd.zeroValue5
  infoByte := by kernel_rfl
  cellsByte := by kernel_rfl
  sizeByte := by kernel_rfl
  neB5 := by decide
theorem jn23_ba (s : List UInt8) : ((⟨s.toArray⟩ : ByteArray).data.toList) = s := rfl
theorem jn23_map (l : List (List UInt8)) : (l.map fun s => (⟨s.toArray⟩ : ByteArray)).map (·.data.toList) = l := by
  rw [List.map_map]
  exact (List.map_congr_left fun s _ => jn23_ba s).trans (List.map_id' l)
theorem jn23_join (l : List (List UInt8)) (sep : List UInt8) (h : l.length ≤ 140737488355328 ∧ (Lib.join l sep).length ≤ 140737488355328) : FnTri Tryd.prog 23 [.ds 1 l.length (rowF cStr default l), .str sep] [] (.str (Lib.join l sep)) [] := by
  refine ⟨⟨Tryd.f23, Tryd.func23, by kernel_rfl, by kernel_rfl⟩, ?_⟩
  rintro μ w vals ⟨v1, r1, rfl, hv1, v2, r2, rfl, hv2, rfl⟩ hp _
  simp only [Rel] at hv2
  subst hv2
  simp only [Rel, RelF] at hv1
  obtain ⟨base, rc, rfl, hrc, hnone, hspot, hel⟩ := hv1
  have fin : ∀ (w' : World), Go.RowKit.Below w.heap.size w w' → Delta μ w [] [] μ w' := fun w' hb =>
    ⟨Ext.refl μ, fun c p h => .inl h, hb.os, hb.tape, hb.output, (fun h => absurd h (by decide)), hb.size, fun b h _ => hb.block b h, (fun c o h => by cases h), (fun c o p h => by cases h), (fun c o c' o' p p' h => by cases h), fun b cs h => .inl h, (fun _ c o p h => by cases h)⟩
  cases l with
  | nil =>
    refine (Go.Proofs.Any.strings_Join_none jn23_lays jn23_extra base rc ⟨sep.toArray⟩ w).mono ?_
    rintro e w' ⟨rfl, rfl⟩
    exact ⟨_, μ, rfl, rfl, fin _ (Go.RowKit.Below.refl _ _)⟩
  | cons s l =>
    generalize hL : s :: l = L at *
    have hne : L.length ≠ 0 := by rw [← hL]; simp
    obtain ⟨a0, cells0, vs0, rfl, _⟩ := hel 0 (by omega)
    have hsp := hspot a0 rfl hne
    obtain ⟨bk, o, sp⟩ := a0
    simp only at hsp
    subst hsp
    have hcells : ∀ (j : Nat) (x : ByteArray), (L.map fun s => (⟨s.toArray⟩ : ByteArray))[j]? = some x → w.cell? ⟨bk, o + j, none⟩ = some (.string x) := by
      intro j x hj
      rw [List.getElem?_map, Option.map_eq_some_iff] at hj
      obtain ⟨t, ht, rfl⟩ := hj
      have hjl := (List.getElem?_eq_some_iff.1 ht).1
      obtain ⟨a1, cells, vs, e1, hf, hr, hl, hlies, _⟩ := hel j hjl
      cases e1
      have e2 : rowF cStr default L j = [.str t] := by simp [rowF, cStr, List.getD_eq_getElem?_getD, ht]
      rw [e2] at hr
      obtain ⟨u, us, rfl, hu, rfl⟩ := hr
      simp only [RelF] at hu
      subst hu
      obtain ⟨E, fr, hx⟩ := hp.fro _ _ hf
      have := hlies 0 (Value.string ⟨t.toArray⟩) rfl
      simp only [World.cell?, hx]
      simpa using this
    have hbk : bk < w.heap.size := by
      obtain ⟨a1, cells, vs, e1, hf, _⟩ := hel 0 (by omega)
      cases e1
      obtain ⟨E, fr, hx⟩ := hp.fro _ _ hf
      exact (Array.getElem?_eq_some_iff.1 hx).1
    have hm := jn23_map L
    have key := Go.Proofs.Any.strings_Join jn23_lays jn23_extra bk o rc (L.map fun s => (⟨s.toArray⟩ : ByteArray)) ⟨sep.toArray⟩ w hcells hbk (by rw [List.length_map]; exact h.1) (by rw [List.length_map]; exact hrc) (by rw [hm]; exact h.2)
    rw [hm, List.length_map] at key
    refine key.mono ?_
    rintro e w' ⟨rfl, hb⟩
    exact ⟨_, μ, rfl, rfl, fin _ hb⟩

/-- parrel/script.name -/

def script_name_v (r : (List UInt8)) : LV := .str r

def script_name (t : T_api_Tx) : Option ((List UInt8)) :=
  (script_digits (IntKind.wrap .i64 t.f_Node)).bind fun y2 =>
  (script_digits (IntKind.wrap .i64 t.f_Boot)).bind fun y4 =>
  (script_digits (IntKind.wrap .i64 t.f_Num)).bind fun y6 =>
  if (([y2, y4, y6] : List (List UInt8))).length ≤ 140737488355328 ∧ (Lib.join ([y2, y4, y6] : List (List UInt8)) ([46] : List UInt8)).length ≤ 140737488355328 then
  some (Lib.join ([y2, y4, y6] : List (List UInt8)) ([46] : List UInt8))
  else none

theorem script_name_ok (t : T_api_Tx) (r : (List UInt8)) (h : script_name t = some r) : ∀ σ, Inj 0 σ → FnTri Tryd.prog 45 (renL σ [v_T_api_Tx t]) (preOf σ 0 []) ((script_name_v r).ren σ) (upOf σ []) := by
  refine fn_of Tryd.func45 (by kernel_rfl) (by kernel_rfl) (by kernel_rfl) trivial (by kernel_rfl) trivial (by kernel_rfl) ?_
  intro w0 W μ0 hμ
  unfold script_name at h
  obtain ⟨y2, e1, h⟩ := bind_some h
  obtain ⟨y4, e3, h⟩ := bind_some h
  obtain ⟨y6, e5, h⟩ := bind_some h
  obtain ⟨g7, h⟩ := guard_some h
  obtain rfl := Option.some.inj h
  exact run_ret mixed (L := []) (n := 15) (s := [.reg [], .reg [(3, hC (script_digits_v y2)), (7, hC (script_digits_v y4)), (11, hC (script_digits_v y6)), (12, { os := [(1, .gr 1 (([y2, y4, y6] : List (List UInt8))).length (rowF cStr default ([y2, y4, y6] : List (List UInt8))))], v := some (.gs 1 (([y2, y4, y6] : List (List UInt8))).length), fz := true }), (13, hC (.str (Lib.join ([y2, y4, y6] : List (List UInt8)) ([46] : List UInt8))))]])
    (a_ (a_ (r2_ tr) (a_ (r1_ (l_ 0 3 rfl (r1_ (a_ (a_ (a_ (script_digits_tri (IntKind.wrap .i64 t.f_Node) y2 e1) tr) tr) (r1_ (l_ 1 3 rfl (r1_ (a_ (a_ (a_ (script_digits_tri (IntKind.wrap .i64 t.f_Boot) y4 e3) tr) tr) (r1_ (l_ 2 3 rfl (r1_ (a_ (a_ (a_ (script_digits_tri (IntKind.wrap .i64 t.f_Num) y6 e5) tr) tr) (a_ (a_ (a_ (a_ (Eq.refl true) (a_ (Eq.refl 1) (a_ (lt_ 0 1 rfl) (le_ 3 16777216 rfl)))) (a_ (le_sl_gs 1 3 (some 3) rfl) (a_ (sub_lit cStr default 1 (fun _ => rfl) ([y2, y4, y6] : List (List UInt8))) tr))) (a_ (Nat.le_refl (([y2, y4, y6] : List (List UInt8))).length) (fz_row (enc := cStr) (d := default) (fun _ => rfl) ([y2, y4, y6] : List (List UInt8))))) (a_ (a_ (a_ (jn23_join ([y2, y4, y6] : List (List UInt8)) ([46] : List UInt8) g7) tr) tr) (r1_ tr))))))))))))))) tr)) tr) (by kernel_rfl) rfl

theorem script_name_tri (t : T_api_Tx) (r : (List UInt8)) (h : script_name t = some r) : FnTri Tryd.prog 45 [v_T_api_Tx t] [] (script_name_v r) [] := FnTri.none (script_name_ok t r h) rfl rfl

/-- parrel/script.hex[string] -/

def script_hex_string_v (r : (List UInt8)) : LV := .str r

def script_hex_string_T0 (b : List UInt8) (t12 : Int) (l : List (Int)) : List LV := [.any, .any, .any, .gs 0 (l).length, .any, .any, .any, .any, .any, .any, .sl 1 0 0 false ((bytesI b)).length none, .int .i64 ((((bytesI b)).length : Nat) : Int), .int .i64 t12, .any, .any, .any, .any, .any, .any, .any, .any, .any, .any, .any, .any, .any, .any, .any]

def script_hex_string_H0 (b : List UInt8) (t12 : Int) (l : List (Int)) : Heap := [some (.gr 1 (l).length (rowF (cInt .u8) default l)), some (.row 1 ((bytesI b)).length (rowF (cInt .u8) default (bytesI b)) true)]

def script_hex_string_l0 (b : List UInt8)  : Nat → (Int) → (List (Int)) → Option ((List UInt8))
  | 0, _, _ => none
  | fuel + 1, t12, l =>
    if ((decide (t12 < ((((bytesI b)).length : Nat) : Int))) : Bool) then
      if 0 ≤ t12 ∧ t12 < ((((bytesI b)).length : Nat) : Int) then
      if 0 ≤ (Int.fdiv ((bytesI b).getD (0 + t12.toNat) default) (2 ^ (min (Int.toNat 4) (IntKind.bits .u8)))) ∧ (Int.fdiv ((bytesI b).getD (0 + t12.toNat) default) (2 ^ (min (Int.toNat 4) (IntKind.bits .u8)))) < (((([48, 49, 50, 51, 52, 53, 54, 55, 56, 57, 97, 98, 99, 100, 101, 102] : List UInt8)).length : Nat) : Int) then
      if 0 ≤ (IntKind.wrap .u8 ((BitVec.ofInt (IntKind.bits .u8) ((bytesI b).getD (0 + t12.toNat) default) &&& BitVec.ofInt (IntKind.bits .u8) 15).toNat : Int)) ∧ (IntKind.wrap .u8 ((BitVec.ofInt (IntKind.bits .u8) ((bytesI b).getD (0 + t12.toNat) default) &&& BitVec.ofInt (IntKind.bits .u8) 15).toNat : Int)) < (((([48, 49, 50, 51, 52, 53, 54, 55, 56, 57, 97, 98, 99, 100, 101, 102] : List UInt8)).length : Nat) : Int) then
      if ((l).length + (([((([48, 49, 50, 51, 52, 53, 54, 55, 56, 57, 97, 98, 99, 100, 101, 102] : List UInt8).getD ((Int.fdiv ((bytesI b).getD (0 + t12.toNat) default) (2 ^ (min (Int.toNat 4) (IntKind.bits .u8))))).toNat 0).toNat : Int), ((([48, 49, 50, 51, 52, 53, 54, 55, 56, 57, 97, 98, 99, 100, 101, 102] : List UInt8).getD ((IntKind.wrap .u8 ((BitVec.ofInt (IntKind.bits .u8) ((bytesI b).getD (0 + t12.toNat) default) &&& BitVec.ofInt (IntKind.bits .u8) 15).toNat : Int))).toNat 0).toNat : Int)] : List (Int))).length) * 1 ≤ 140737488351232 then
      script_hex_string_l0 b  fuel (IntKind.wrap .i64 (t12 + 1)) (l ++ ([((([48, 49, 50, 51, 52, 53, 54, 55, 56, 57, 97, 98, 99, 100, 101, 102] : List UInt8).getD ((Int.fdiv ((bytesI b).getD (0 + t12.toNat) default) (2 ^ (min (Int.toNat 4) (IntKind.bits .u8))))).toNat 0).toNat : Int), ((([48, 49, 50, 51, 52, 53, 54, 55, 56, 57, 97, 98, 99, 100, 101, 102] : List UInt8).getD ((IntKind.wrap .u8 ((BitVec.ofInt (IntKind.bits .u8) ((bytesI b).getD (0 + t12.toNat) default) &&& BitVec.ofInt (IntKind.bits .u8) 15).toNat : Int))).toNat 0).toNat : Int)] : List (Int)))
      else none
      else none
      else none
      else none
    else
      some (strI l)

def script_hex_string (b : List UInt8) : Option ((List UInt8)) :=
  if ((((b).length : Int) == 0) : Bool) then
    some ([45] : List UInt8)
  else
    script_hex_string_l0 b  big 0 ([] : List (Int))

theorem script_hex_string_l0_ok {w0 : World} {W : Nat → Prop} {μ0 : Emb} (hμ : ∀ c p, μ0 c = some p → c < 0) (b : List UInt8)  : ∀ (fuel : Nat) (t12 : Int) (l : List (Int)) (r : (List UInt8)), script_hex_string_l0 b  fuel t12 l = some r → kont Tryd.prog w0 W μ0 (FnPost Tryd.prog Tryd.f48 0 0 (script_hex_string_v r) []) (kAt (bodyOf Tryd.f48) 0) none (script_hex_string_T0 b t12 l) (script_hex_string_H0 b t12 l) := by
  intro fuel
  induction fuel with
  | zero => intro t12 l r h; rw [script_hex_string_l0] at h; cases h
  | succ fuel ih =>
    intro t12 l r h
    rw [script_hex_string_l0] at h
    rcases itb_some h with ⟨cL0_1, h⟩ | ⟨cL0_1, h⟩
    · skip
      obtain ⟨gL0_2, h⟩ := guard_some h
      obtain ⟨gL0_3, h⟩ := guard_some h
      obtain ⟨gL0_4, h⟩ := guard_some h
      obtain ⟨gL0_5, h⟩ := guard_some h
      exact run_to mixed hμ (L := [3, 1]) (n := 26) (s := [.go, .reg [(0, hT)], .reg [], .reg [(7, { os := [(2, .gr 1 (([((([48, 49, 50, 51, 52, 53, 54, 55, 56, 57, 97, 98, 99, 100, 101, 102] : List UInt8).getD ((Int.fdiv ((bytesI b).getD (0 + t12.toNat) default) (2 ^ (min (Int.toNat 4) (IntKind.bits .u8))))).toNat 0).toNat : Int), ((([48, 49, 50, 51, 52, 53, 54, 55, 56, 57, 97, 98, 99, 100, 101, 102] : List UInt8).getD ((IntKind.wrap .u8 ((BitVec.ofInt (IntKind.bits .u8) ((bytesI b).getD (0 + t12.toNat) default) &&& BitVec.ofInt (IntKind.bits .u8) 15).toNat : Int))).toNat 0).toNat : Int)] : List (Int))).length (rowF (cInt .u8) default ([((([48, 49, 50, 51, 52, 53, 54, 55, 56, 57, 97, 98, 99, 100, 101, 102] : List UInt8).getD ((Int.fdiv ((bytesI b).getD (0 + t12.toNat) default) (2 ^ (min (Int.toNat 4) (IntKind.bits .u8))))).toNat 0).toNat : Int), ((([48, 49, 50, 51, 52, 53, 54, 55, 56, 57, 97, 98, 99, 100, 101, 102] : List UInt8).getD ((IntKind.wrap .u8 ((BitVec.ofInt (IntKind.bits .u8) ((bytesI b).getD (0 + t12.toNat) default) &&& BitVec.ofInt (IntKind.bits .u8) 15).toNat : Int))).toNat 0).toNat : Int)] : List (Int))))], v := some (.gs 2 (([((([48, 49, 50, 51, 52, 53, 54, 55, 56, 57, 97, 98, 99, 100, 101, 102] : List UInt8).getD ((Int.fdiv ((bytesI b).getD (0 + t12.toNat) default) (2 ^ (min (Int.toNat 4) (IntKind.bits .u8))))).toNat 0).toNat : Int), ((([48, 49, 50, 51, 52, 53, 54, 55, 56, 57, 97, 98, 99, 100, 101, 102] : List UInt8).getD ((IntKind.wrap .u8 ((BitVec.ofInt (IntKind.bits .u8) ((bytesI b).getD (0 + t12.toNat) default) &&& BitVec.ofInt (IntKind.bits .u8) 15).toNat : Int))).toNat 0).toNat : Int)] : List (Int))).length) }), (8, { app := 3, os := [(3, .gr 1 ((l ++ ([((([48, 49, 50, 51, 52, 53, 54, 55, 56, 57, 97, 98, 99, 100, 101, 102] : List UInt8).getD ((Int.fdiv ((bytesI b).getD (0 + t12.toNat) default) (2 ^ (min (Int.toNat 4) (IntKind.bits .u8))))).toNat 0).toNat : Int), ((([48, 49, 50, 51, 52, 53, 54, 55, 56, 57, 97, 98, 99, 100, 101, 102] : List UInt8).getD ((IntKind.wrap .u8 ((BitVec.ofInt (IntKind.bits .u8) ((bytesI b).getD (0 + t12.toNat) default) &&& BitVec.ofInt (IntKind.bits .u8) 15).toNat : Int))).toNat 0).toNat : Int)] : List (Int)))).length (rowF (cInt .u8) default (l ++ ([((([48, 49, 50, 51, 52, 53, 54, 55, 56, 57, 97, 98, 99, 100, 101, 102] : List UInt8).getD ((Int.fdiv ((bytesI b).getD (0 + t12.toNat) default) (2 ^ (min (Int.toNat 4) (IntKind.bits .u8))))).toNat 0).toNat : Int), ((([48, 49, 50, 51, 52, 53, 54, 55, 56, 57, 97, 98, 99, 100, 101, 102] : List UInt8).getD ((IntKind.wrap .u8 ((BitVec.ofInt (IntKind.bits .u8) ((bytesI b).getD (0 + t12.toNat) default) &&& BitVec.ofInt (IntKind.bits .u8) 15).toNat : Int))).toNat 0).toNat : Int)] : List (Int)))))], v := some (.gs 3 ((l ++ ([((([48, 49, 50, 51, 52, 53, 54, 55, 56, 57, 97, 98, 99, 100, 101, 102] : List UInt8).getD ((Int.fdiv ((bytesI b).getD (0 + t12.toNat) default) (2 ^ (min (Int.toNat 4) (IntKind.bits .u8))))).toNat 0).toNat : Int), ((([48, 49, 50, 51, 52, 53, 54, 55, 56, 57, 97, 98, 99, 100, 101, 102] : List UInt8).getD ((IntKind.wrap .u8 ((BitVec.ofInt (IntKind.bits .u8) ((bytesI b).getD (0 + t12.toNat) default) &&& BitVec.ofInt (IntKind.bits .u8) 15).toNat : Int))).toNat 0).toNat : Int)] : List (Int)))).length) })], .reg []])
        (a_ (f_ cL0_1 tr) (a_ (a_ (a_ (a_ (Eq.refl 1) gL0_2) tr) (a_ (a_ (a_ (ltN0 gL0_2) (lt_ 0 1 rfl)) tr) (r1_ tr))) (a_ (r2_ (a_ (a_ (lei_ 0 4 rfl) tr) (a_ (a_ gL0_3 tr) (r2_ (a_ (a_ gL0_4 tr) (a_ (a_ (a_ (Eq.refl true) (a_ (Eq.refl 1) (a_ (lt_ 0 1 rfl) (le_ 2 16777216 rfl)))) (a_ (le_sl_gs 2 2 (some 2) rfl) (a_ (sub_lit (cInt .u8) default 1 (fun _ => rfl) ([((([48, 49, 50, 51, 52, 53, 54, 55, 56, 57, 97, 98, 99, 100, 101, 102] : List UInt8).getD ((Int.fdiv ((bytesI b).getD (0 + t12.toNat) default) (2 ^ (min (Int.toNat 4) (IntKind.bits .u8))))).toNat 0).toNat : Int), ((([48, 49, 50, 51, 52, 53, 54, 55, 56, 57, 97, 98, 99, 100, 101, 102] : List UInt8).getD ((IntKind.wrap .u8 ((BitVec.ofInt (IntKind.bits .u8) ((bytesI b).getD (0 + t12.toNat) default) &&& BitVec.ofInt (IntKind.bits .u8) 15).toNat : Int))).toNat 0).toNat : Int)] : List (Int))) tr))) (a_ (a_ (a_ (a_ (Eq.refl 1) (Nat.le_refl (([((([48, 49, 50, 51, 52, 53, 54, 55, 56, 57, 97, 98, 99, 100, 101, 102] : List UInt8).getD ((Int.fdiv ((bytesI b).getD (0 + t12.toNat) default) (2 ^ (min (Int.toNat 4) (IntKind.bits .u8))))).toNat 0).toNat : Int), ((([48, 49, 50, 51, 52, 53, 54, 55, 56, 57, 97, 98, 99, 100, 101, 102] : List UInt8).getD ((IntKind.wrap .u8 ((BitVec.ofInt (IntKind.bits .u8) ((bytesI b).getD (0 + t12.toNat) default) &&& BitVec.ofInt (IntKind.bits .u8) 15).toNat : Int))).toNat 0).toNat : Int)] : List (Int))).length)) (a_ (a_ (lt_ 0 1 rfl) (a_ (lt_ 0 1 rfl) (a_ gL0_5 (a_ (Eq.refl 1) (Eq.refl true))))) (a_ (Eq.refl 1) (Nat.le_refl (l).length)))) (a_ (le_gs_app 3 l ([((([48, 49, 50, 51, 52, 53, 54, 55, 56, 57, 97, 98, 99, 100, 101, 102] : List UInt8).getD ((Int.fdiv ((bytesI b).getD (0 + t12.toNat) default) (2 ^ (min (Int.toNat 4) (IntKind.bits .u8))))).toNat 0).toNat : Int), ((([48, 49, 50, 51, 52, 53, 54, 55, 56, 57, 97, 98, 99, 100, 101, 102] : List UInt8).getD ((IntKind.wrap .u8 ((BitVec.ofInt (IntKind.bits .u8) ((bytesI b).getD (0 + t12.toNat) default) &&& BitVec.ofInt (IntKind.bits .u8) 15).toNat : Int))).toNat 0).toNat : Int)] : List (Int))) (a_ (sub_app (cInt .u8) default 1 l ([((([48, 49, 50, 51, 52, 53, 54, 55, 56, 57, 97, 98, 99, 100, 101, 102] : List UInt8).getD ((Int.fdiv ((bytesI b).getD (0 + t12.toNat) default) (2 ^ (min (Int.toNat 4) (IntKind.bits .u8))))).toNat 0).toNat : Int), ((([48, 49, 50, 51, 52, 53, 54, 55, 56, 57, 97, 98, 99, 100, 101, 102] : List UInt8).getD ((IntKind.wrap .u8 ((BitVec.ofInt (IntKind.bits .u8) ((bytesI b).getD (0 + t12.toNat) default) &&& BitVec.ofInt (IntKind.bits .u8) 15).toNat : Int))).toNat 0).toNat : Int)] : List (Int))) tr))) (r1_ tr)))))))) (a_ (r2_ tr) tr)))) (ih _ _ r h) (by kernel_rfl) ⟨fun _ _ => rfl, fun _ _ => rfl, trivial⟩
    · skip
      obtain rfl := Option.some.inj h
      exact run_ret mixed (L := []) (n := 20) (s := [.go, .reg [(0, hF)], .frz 0, .reg [(1, { v := some (.str (strI l)) })]])
        (a_ (a_ (f_ cL0_1 tr) (a_ (a_ (fz_row (enc := (cInt .u8)) (d := default) (fun _ => rfl) l) (a_ (Nat.le_refl (l).length) (a_ (ob_row (cInt .u8) default (bytesI b) 0 1 (l).length (rowF (cInt .u8) default l) ((bytesI b)).length (fun _ => rfl)) tr))) (a_ (r1_ (a_ (a_ (a_ (Eq.refl 1) (str_ob l)) (a_ (le_str l) tr)) (r1_ tr))) tr))) tr) (by kernel_rfl) rfl

theorem script_hex_string_ok (b : List UInt8) (r : (List UInt8)) (h : script_hex_string b = some r) : ∀ σ, Inj 0 σ → FnTri Tryd.prog 48 (renL σ [.str b]) (preOf σ 0 []) ((script_hex_string_v r).ren σ) (upOf σ []) := by
  refine fn_of Tryd.func48 (by kernel_rfl) (by kernel_rfl) (by kernel_rfl) trivial (by kernel_rfl) trivial (by kernel_rfl) ?_
  intro w0 W μ0 hμ
  unfold script_hex_string at h
  rcases itb_some h with ⟨c1, h⟩ | ⟨c1, h⟩
  · skip
    obtain rfl := Option.some.inj h
    exact run_ret mixed (L := []) (n := 20) (s := [.reg [], .reg [(2, hT)], .reg []])
      (a_ (a_ (r1_ tr) (a_ (r2_ (f_ c1 tr)) (a_ (r1_ tr) tr))) tr) (by kernel_rfl) rfl
  · skip
    exact run_to mixed hμ (L := [0, 1]) (n := 28) (s := [.reg [], .reg [(2, hF)], .void (.gr 1 (([] : List (Int))).length (rowF (cInt .u8) default ([] : List (Int)))), .reg [(0, { v := some (.gs 0 (([] : List (Int))).length) })], .reg [(1, { os := [(1, .row 1 ((bytesI b)).length (rowF (cInt .u8) default (bytesI b)) true)], v := some (.sl 1 0 0 false ((bytesI b)).length none) })]])
      (a_ (r1_ tr) (a_ (r2_ (f_ c1 tr)) (a_ (Eq.refl 0) (a_ (a_ (a_ tr (a_ (le_nil_gs 0) tr)) tr) (a_ (r1_ (a_ (a_ tr (a_ (le_bytes 1 b) (a_ (sub_bytes b) tr))) (r2_ tr))) tr))))) (script_hex_string_l0_ok hμ b  big _ _ r h) (by kernel_rfl) ⟨fun _ _ => rfl, fun _ _ => rfl, trivial⟩

theorem script_hex_string_tri (b : List UInt8) (r : (List UInt8)) (h : script_hex_string b = some r) : FnTri Tryd.prog 48 [.str b] [] (script_hex_string_v r) [] := FnTri.none (script_hex_string_ok b r h) rfl rfl

/-- parrel/script.words -/

def script_words_v (r : (List (List UInt8))) : LV := .ds 1 (r).length (rowF cStr default r)

def script_words_T1000016  (l4 : List (List UInt8)) : List LV := [.any, .any, .any, .gs 0 (l4).length, .any, .any, .any, .any, .any, .any, .any, .any, .any, .any, .any, .any, .any, .any, .any, .any, .any, .any, .any, .any, .any, .any, .any, .any, .any, .any, .any, .any, .any, .any, .any, .any, .any, .any, .any, .any, .any, .any, .any, .any, .any, .any, .any, .any, .any, .any, .any, .any, .any, .any, .any, .any, .any, .any, .any, .any, .any, .any, .any, .any, .any, .any, .any, .any, .any, .any, .any, .any, .any, .any, .any, .any, .any, .any, .any, .any]

def script_words_H1000016  (l4 : List (List UInt8)) : Heap := [some (.gr 1 (l4).length (rowF cStr default l4))]

def script_words_T0 (c : T_node_Call) (t68 : Int) (l5 : List (List UInt8)) : List LV := [.any, .any, .any, .gs 0 (l5).length, .any, .any, .any, .any, .any, .any, .any, .any, .any, .any, .any, .any, .any, .any, .any, .any, .any, .any, .any, .any, .any, .any, .any, .any, .any, .any, .any, .any, .any, .any, .any, .any, .any, .any, .any, .any, .any, .any, .any, .any, .any, .any, .any, .any, .any, .any, .any, .any, .any, .any, .any, .any, .any, .any, .any, .any, .any, .any, .any, .any, .any, .any, .gs 1 ((([c.f_R, c.f_W] : List (Int)) ++ c.f_Votes)).length, .int .i64 (((([c.f_R, c.f_W] : List (Int)) ++ c.f_Votes)).length : Int), .int .i64 t68, .any, .any, .any, .any, .any, .any, .any, .any, .any, .any, .any]

def script_words_H0 (c : T_node_Call) (t68 : Int) (l5 : List (List UInt8)) : Heap := [some (.gr 1 (l5).length (rowF cStr default l5)), some (.gr 1 ((([c.f_R, c.f_W] : List (Int)) ++ c.f_Votes)).length (rowF (cInt .u8) default (([c.f_R, c.f_W] : List (Int)) ++ c.f_Votes)))]

def script_words_T1000011 (c : T_node_Call) (l3 : List (List UInt8)) : List LV := [.any, .ptr 0 0 0, .any, .gs 1 (l3).length, .any, .any, .any, .any, .any, .any, .any, .any, .any, .any, .any, .any, .any, .any, .any, .any, .any, .any, .any, .any, .any, .any, .any, .any, .any, .any, .any, .any, .any, .any, .any, .any, .any, .any, .any, .any, .any, .any, .any, .any, .any, .any, .any, .any, .any, .any, .any, .any, .any, .any, .any, .any, .any, .any, .any, .any, .any, .any, .any, .any, .any, .any, .any, .any, .any, .any, .any, .any, .any, .any, .any, .any, .any, .any, .any, .any]

def script_words_H1000011 (c : T_node_Call) (l3 : List (List UInt8)) : Heap := [some (.var (c_T_node_Call c)), some (.gr 1 (l3).length (rowF cStr default l3))]

def script_words_T1000005 (c : T_node_Call) (l : List (List UInt8)) : List LV := [.any, .ptr 0 0 0, .any, .gs 1 (l).length, .any, .any, .any, .any, .any, .any, .any, .any, .any, .any, .any, .any, .any, .any, .any, .any, .any, .any, .any, .any, .any, .any, .any, .any, .any, .any, .any, .any, .any, .any, .any, .any, .any, .any, .any, .any, .any, .any, .any, .any, .any, .any, .any, .any, .any, .any, .any, .any, .any, .any, .any, .any, .any, .any, .any, .any, .any, .any, .any, .any, .any, .any, .any, .any, .any, .any, .any, .any, .any, .any, .any, .any, .any, .any, .any, .any]

def script_words_H1000005 (c : T_node_Call) (l : List (List UInt8)) : Heap := [some (.var (c_T_node_Call c)), some (.gr 1 (l).length (rowF cStr default l))]

def script_words_T1000007 (c : T_node_Call) (l2 : List (List UInt8)) : List LV := [.any, .ptr 0 0 0, .any, .gs 1 (l2).length, .any, .any, .any, .any, .any, .any, .any, .any, .any, .any, .any, .any, .any, .any, .any, .any, .any, .any, .any, .any, .any, .any, .any, .any, .any, .any, .any, .any, .any, .any, .any, .any, .any, .any, .any, .any, .any, .any, .any, .any, .any, .any, .any, .any, .any, .any, .any, .any, .any, .any, .any, .any, .any, .any, .any, .any, .any, .any, .any, .any, .any, .any, .any, .any, .any, .any, .any, .any, .any, .any, .any, .any, .any, .any, .any, .any]

def script_words_H1000007 (c : T_node_Call) (l2 : List (List UInt8)) : Heap := [some (.var (c_T_node_Call c)), some (.gr 1 (l2).length (rowF cStr default l2))]

def script_words_c16   (l4 : List (List UInt8)) : Option ((List (List UInt8))) :=
  some l4

def script_words_l0 (c : T_node_Call)  : Nat → (Int) → (List (List UInt8)) → Option ((List (List UInt8)))
  | 0, _, _ => none
  | fuel + 1, t68, l5 =>
    if ((decide (t68 < (((([c.f_R, c.f_W] : List (Int)) ++ c.f_Votes)).length : Int))) : Bool) then
      if 0 ≤ t68 ∧ t68 < ((((([c.f_R, c.f_W] : List (Int)) ++ c.f_Votes)).length : Nat) : Int) then
      (script_digits (IntKind.wrap .i64 ((([c.f_R, c.f_W] : List (Int)) ++ c.f_Votes).getD t68.toNat default))).bind fun yL0_4 =>
      if ((l5).length + (([yL0_4] : List (List UInt8))).length) * 16 ≤ 140737488351232 then
      script_words_l0 c  fuel (IntKind.wrap .i64 (t68 + 1)) (l5 ++ ([yL0_4] : List (List UInt8)))
      else none
      else none
    else
      some l5

def script_words_c11 (c : T_node_Call)  (l3 : List (List UInt8)) : Option ((List (List UInt8))) :=
  if ((([c.f_R, c.f_W] : List (Int))).length + (c.f_Votes).length) * 1 ≤ 140737488351232 then
  script_words_l0 c  big 0 l3
  else none

def script_words_c5 (c : T_node_Call)  (l : List (List UInt8)) : Option ((List (List UInt8))) :=
  (ids_Name c.f_Key).bind fun yC5_2 =>
  (script_hex_string yC5_2.1).bind fun yC5_4 =>
  if ((l).length + (([yC5_4] : List (List UInt8))).length) * 16 ≤ 140737488351232 then
  if ((c.f_Kind == 3) : Bool) then
    (script_hex_string c.f_Value).bind fun yC5_8 =>
    if (((l ++ ([yC5_4] : List (List UInt8)))).length + (([yC5_8] : List (List UInt8))).length) * 16 ≤ 140737488351232 then
    some ((l ++ ([yC5_4] : List (List UInt8))) ++ ([yC5_8] : List (List UInt8)))
    else none
  else
    if ((c.f_Kind == 6) : Bool) then
      script_words_c11 c  (l ++ ([yC5_4] : List (List UInt8)))
    else
      script_words_c16   (l ++ ([yC5_4] : List (List UInt8)))
  else none

def script_words_c7 (c : T_node_Call)  (l2 : List (List UInt8)) : Option ((List (List UInt8))) :=
  if ((c.f_Kind == 3) : Bool) then
    (script_hex_string c.f_Value).bind fun yC7_3 =>
    if ((l2).length + (([yC7_3] : List (List UInt8))).length) * 16 ≤ 140737488351232 then
    some (l2 ++ ([yC7_3] : List (List UInt8)))
    else none
  else
    if ((c.f_Kind == 6) : Bool) then
      if ((([c.f_R, c.f_W] : List (Int))).length + (c.f_Votes).length) * 1 ≤ 140737488351232 then
      script_words_l0 c  big 0 l2
      else none
    else
      some l2

def script_words (c : T_node_Call) : Option ((List (List UInt8))) :=
  (script_digits (IntKind.wrap .i64 c.f_Call.f_Client)).bind fun y2 =>
  (script_digits (IntKind.wrap .i64 c.f_Call.f_Seq)).bind fun y4 =>
  (script_calls).bind fun y6 =>
  if 0 ≤ c.f_Kind ∧ c.f_Kind < (((y6).length : Nat) : Int) then
  if ((decide (1 < c.f_Kind)) : Bool) then
    (script_name c.f_Tx).bind fun y10 =>
    if ((([y2, y4, (y6.getD (c.f_Kind).toNat default)] : List (List UInt8))).length + (([y10] : List (List UInt8))).length) * 16 ≤ 140737488351232 then
    (script_hasKey c.f_Kind).bind fun y13 =>
    if (y13 : Bool) then
      script_words_c5 c  (([y2, y4, (y6.getD (c.f_Kind).toNat default)] : List (List UInt8)) ++ ([y10] : List (List UInt8)))
    else
      script_words_c7 c  (([y2, y4, (y6.getD (c.f_Kind).toNat default)] : List (List UInt8)) ++ ([y10] : List (List UInt8)))
    else none
  else
    (script_hasKey c.f_Kind).bind fun y11 =>
    if (y11 : Bool) then
      script_words_c5 c  ([y2, y4, (y6.getD (c.f_Kind).toNat default)] : List (List UInt8))
    else
      script_words_c7 c  ([y2, y4, (y6.getD (c.f_Kind).toNat default)] : List (List UInt8))
  else none

theorem script_words_c16_ok {w0 : World} {W : Nat → Prop} {μ0 : Emb} (hμ : ∀ c p, μ0 c = some p → c < 0)   (l4 : List (List UInt8)) (r : (List (List UInt8))) (h : script_words_c16   l4 = some r) : kont Tryd.prog w0 W μ0 (FnPost Tryd.prog Tryd.f21 0 0 (script_words_v r) []) (kAtR (bodyOf Tryd.f21) 16) none (script_words_T1000016  l4) (script_words_H1000016  l4) := by
  unfold script_words_c16 at h
  obtain rfl := Option.some.inj h
  exact run_ret mixed (L := []) (n := 12) (s := [.reg [], .frz 0])
    (a_ (a_ (r2_ tr) (a_ (a_ (fz_row (enc := cStr) (d := default) (fun _ => rfl) l4) (a_ (Nat.le_refl (l4).length) (a_ (Nat.le_refl (l4).length) (a_ (Nat.le_refl (l4).length) tr)))) tr)) tr) (by kernel_rfl) rfl

theorem script_words_l0_ok {w0 : World} {W : Nat → Prop} {μ0 : Emb} (hμ : ∀ c p, μ0 c = some p → c < 0) (c : T_node_Call)  : ∀ (fuel : Nat) (t68 : Int) (l5 : List (List UInt8)) (r : (List (List UInt8))), script_words_l0 c  fuel t68 l5 = some r → kont Tryd.prog w0 W μ0 (FnPost Tryd.prog Tryd.f21 0 0 (script_words_v r) []) (kAt (bodyOf Tryd.f21) 0) none (script_words_T0 c t68 l5) (script_words_H0 c t68 l5) := by
  intro fuel
  induction fuel with
  | zero => intro t68 l5 r h; rw [script_words_l0] at h; cases h
  | succ fuel ih =>
    intro t68 l5 r h
    rw [script_words_l0] at h
    rcases itb_some h with ⟨cL0_1, h⟩ | ⟨cL0_1, h⟩
    · skip
      obtain ⟨gL0_2, h⟩ := guard_some h
      obtain ⟨yL0_4, eL0_3, h⟩ := bind_some h
      obtain ⟨gL0_5, h⟩ := guard_some h
      exact run_to mixed hμ (L := [3, 1]) (n := 26) (s := [.go, .reg [(0, hT)], .reg [], .reg [(3, hC (script_digits_v yL0_4)), (4, { os := [(2, .gr 1 (([yL0_4] : List (List UInt8))).length (rowF cStr default ([yL0_4] : List (List UInt8))))], v := some (.gs 2 (([yL0_4] : List (List UInt8))).length) }), (5, { app := 3, os := [(3, .gr 1 ((l5 ++ ([yL0_4] : List (List UInt8)))).length (rowF cStr default (l5 ++ ([yL0_4] : List (List UInt8)))))], v := some (.gs 3 ((l5 ++ ([yL0_4] : List (List UInt8)))).length) })], .reg []])
        (a_ (f_ cL0_1 tr) (a_ (a_ (a_ (a_ (Eq.refl 1) gL0_2) tr) (a_ (a_ (a_ (ltN gL0_2) (lt_ 0 1 rfl)) tr) (r1_ tr))) (a_ (r1_ (r2_ (a_ (a_ (a_ (script_digits_tri (IntKind.wrap .i64 ((([c.f_R, c.f_W] : List (Int)) ++ c.f_Votes).getD t68.toNat default)) yL0_4 eL0_3) tr) tr) (a_ (a_ (a_ (Eq.refl true) (a_ (Eq.refl 1) (a_ (lt_ 0 1 rfl) (le_ 1 16777216 rfl)))) (a_ (le_sl_gs 2 1 (some 1) rfl) (a_ (sub_lit cStr default 1 (fun _ => rfl) ([yL0_4] : List (List UInt8))) tr))) (a_ (a_ (a_ (a_ (Eq.refl 1) (Nat.le_refl (([yL0_4] : List (List UInt8))).length)) (a_ (a_ (lt_ 0 1 rfl) (a_ (lt_ 0 16 rfl) (a_ gL0_5 (a_ (Eq.refl 1) (Eq.refl true))))) (a_ (Eq.refl 1) (Nat.le_refl (l5).length)))) (a_ (le_gs_app 3 l5 ([yL0_4] : List (List UInt8))) (a_ (sub_app cStr default 1 l5 ([yL0_4] : List (List UInt8))) tr))) (r1_ tr)))))) (a_ (r2_ tr) tr)))) (ih _ _ r h) (by kernel_rfl) ⟨fun _ _ => rfl, fun _ _ => rfl, trivial⟩
    · skip
      obtain rfl := Option.some.inj h
      exact run_ret mixed (L := []) (n := 21) (s := [.go, .reg [(0, hF)], .reg [], .frz 0])
        (a_ (a_ (f_ cL0_1 tr) (a_ (r2_ tr) (a_ (a_ (fz_row (enc := cStr) (d := default) (fun _ => rfl) l5) (a_ (Nat.le_refl (l5).length) (a_ (Nat.le_refl (l5).length) (a_ (Nat.le_refl (l5).length) tr)))) tr))) tr) (by kernel_rfl) rfl

theorem script_words_c11_ok {w0 : World} {W : Nat → Prop} {μ0 : Emb} (hμ : ∀ c p, μ0 c = some p → c < 0) (c : T_node_Call)  (l3 : List (List UInt8)) (r : (List (List UInt8))) (h : script_words_c11 c  l3 = some r) : kont Tryd.prog w0 W μ0 (FnPost Tryd.prog Tryd.f21 0 0 (script_words_v r) []) (kAtR (bodyOf Tryd.f21) 11) none (script_words_T1000011 c l3) (script_words_H1000011 c l3) := by
  unfold script_words_c11 at h
  obtain ⟨gC11_1, h⟩ := guard_some h
  exact run_to mixed hμ (L := [1, 3]) (n := 13) (s := [.reg [(4, { os := [(2, .gr 1 (([c.f_R, c.f_W] : List (Int))).length (rowF (cInt .u8) default ([c.f_R, c.f_W] : List (Int))))], v := some (.gs 2 (([c.f_R, c.f_W] : List (Int))).length) }), (7, { app := 3, os := [(3, .gr 1 ((([c.f_R, c.f_W] : List (Int)) ++ c.f_Votes)).length (rowF (cInt .u8) default (([c.f_R, c.f_W] : List (Int)) ++ c.f_Votes)))], v := some (.gs 3 ((([c.f_R, c.f_W] : List (Int)) ++ c.f_Votes)).length) })]])
    (a_ (r1_ (l_ 15 18 rfl (r1_ (l_ 16 18 rfl (a_ (a_ (a_ (Eq.refl true) (a_ (Eq.refl 1) (a_ (lt_ 0 1 rfl) (le_ 2 16777216 rfl)))) (a_ (le_sl_gs 2 2 (some 2) rfl) (a_ (sub_lit (cInt .u8) default 1 (fun _ => rfl) ([c.f_R, c.f_W] : List (Int))) tr))) (r1_ (l_ 17 18 rfl (a_ (a_ (a_ (Eq.refl 1) (a_ (a_ (lt_ 0 1 rfl) (a_ (lt_ 0 1 rfl) (a_ gC11_1 (a_ (Eq.refl 1) (Eq.refl true))))) (a_ (Eq.refl 1) (Nat.le_refl (([c.f_R, c.f_W] : List (Int))).length)))) (a_ (le_gs_app 3 ([c.f_R, c.f_W] : List (Int)) c.f_Votes) (a_ (sub_app (cInt .u8) default 1 ([c.f_R, c.f_W] : List (Int)) c.f_Votes) tr))) (r2_ tr))))))))) tr) (script_words_l0_ok hμ c  big _ _ r h) (by kernel_rfl) ⟨fun _ _ => rfl, fun _ _ => rfl, trivial⟩

theorem script_words_c5_ok {w0 : World} {W : Nat → Prop} {μ0 : Emb} (hμ : ∀ c p, μ0 c = some p → c < 0) (c : T_node_Call)  (l : List (List UInt8)) (r : (List (List UInt8))) (h : script_words_c5 c  l = some r) : kont Tryd.prog w0 W μ0 (FnPost Tryd.prog Tryd.f21 0 0 (script_words_v r) []) (kAtR (bodyOf Tryd.f21) 5) none (script_words_T1000005 c l) (script_words_H1000005 c l) := by
  unfold script_words_c5 at h
  obtain ⟨yC5_2, eC5_1, h⟩ := bind_some h
  obtain ⟨yC5_4, eC5_3, h⟩ := bind_some h
  obtain ⟨gC5_5, h⟩ := guard_some h
  rcases itb_some h with ⟨cC5_6, h⟩ | ⟨cC5_6, h⟩
  · skip
    obtain ⟨yC5_8, eC5_7, h⟩ := bind_some h
    obtain ⟨gC5_9, h⟩ := guard_some h
    obtain rfl := Option.some.inj h
    exact run_ret mixed (L := []) (n := 29) (s := [.reg [(2, hC (ids_Name_v yC5_2))], .reg [(2, hC (script_hex_string_v yC5_4)), (3, { os := [(2, .gr 1 (([yC5_4] : List (List UInt8))).length (rowF cStr default ([yC5_4] : List (List UInt8))))], v := some (.gs 2 (([yC5_4] : List (List UInt8))).length) }), (4, { app := 3, os := [(3, .gr 1 ((l ++ ([yC5_4] : List (List UInt8)))).length (rowF cStr default (l ++ ([yC5_4] : List (List UInt8)))))], v := some (.gs 3 ((l ++ ([yC5_4] : List (List UInt8)))).length) })], .reg [], .reg [(1, hT)], .reg [(3, hC (script_hex_string_v yC5_8)), (4, { os := [(4, .gr 1 (([yC5_8] : List (List UInt8))).length (rowF cStr default ([yC5_8] : List (List UInt8))))], v := some (.gs 4 (([yC5_8] : List (List UInt8))).length) }), (5, { app := 3, os := [(5, .gr 1 (((l ++ ([yC5_4] : List (List UInt8))) ++ ([yC5_8] : List (List UInt8)))).length (rowF cStr default ((l ++ ([yC5_4] : List (List UInt8))) ++ ([yC5_8] : List (List UInt8)))))], v := some (.gs 5 (((l ++ ([yC5_4] : List (List UInt8))) ++ ([yC5_8] : List (List UInt8)))).length) })], .reg [], .frz 5])
      (a_ (a_ (r1_ (m_ 14 18 rfl (c_ (ids_Name_tri c.f_Key yC5_2 eC5_1) (r1_ (r4_ tr))))) (a_ (r2_ (c_ (script_hex_string_tri yC5_2.1 yC5_4 eC5_3) (a_ (a_ (a_ (Eq.refl true) (a_ (Eq.refl 1) (a_ (lt_ 0 1 rfl) (le_ 1 16777216 rfl)))) (a_ (le_sl_gs 2 1 (some 1) rfl) (a_ (sub_lit cStr default 1 (fun _ => rfl) ([yC5_4] : List (List UInt8))) tr))) (a_ (a_ (a_ (a_ (Eq.refl 1) (Nat.le_refl (([yC5_4] : List (List UInt8))).length)) (a_ (a_ (lt_ 0 1 rfl) (a_ (lt_ 0 16 rfl) (a_ gC5_5 (a_ (Eq.refl 1) (Eq.refl true))))) (a_ (Eq.refl 1) (Nat.le_refl (l).length)))) (a_ (le_gs_app 3 l ([yC5_4] : List (List UInt8))) (a_ (sub_app cStr default 1 l ([yC5_4] : List (List UInt8))) tr))) (r1_ tr))))) (a_ (r1_ (l_ 2 18 rfl tr)) (a_ (r1_ (f_ cC5_6 tr)) (a_ (r2_ (l_ 14 18 rfl (c_ (script_hex_string_tri c.f_Value yC5_8 eC5_7) (a_ (a_ (a_ (Eq.refl true) (a_ (Eq.refl 1) (a_ (lt_ 0 1 rfl) (le_ 1 16777216 rfl)))) (a_ (le_sl_gs 4 1 (some 1) rfl) (a_ (sub_lit cStr default 1 (fun _ => rfl) ([yC5_8] : List (List UInt8))) tr))) (a_ (a_ (a_ (a_ (Eq.refl 1) (Nat.le_refl (([yC5_8] : List (List UInt8))).length)) (a_ (a_ (lt_ 0 1 rfl) (a_ (lt_ 0 16 rfl) (a_ gC5_9 (a_ (Eq.refl 1) (Eq.refl true))))) (a_ (Eq.refl 1) (Nat.le_refl ((l ++ ([yC5_4] : List (List UInt8)))).length)))) (a_ (le_gs_app 5 (l ++ ([yC5_4] : List (List UInt8))) ([yC5_8] : List (List UInt8))) (a_ (sub_app cStr default 1 (l ++ ([yC5_4] : List (List UInt8))) ([yC5_8] : List (List UInt8))) tr))) (r1_ tr)))))) (a_ (r2_ tr) (a_ (a_ (fz_row (enc := cStr) (d := default) (fun _ => rfl) ((l ++ ([yC5_4] : List (List UInt8))) ++ ([yC5_8] : List (List UInt8)))) (a_ (Nat.le_refl (((l ++ ([yC5_4] : List (List UInt8))) ++ ([yC5_8] : List (List UInt8)))).length) (a_ (Nat.le_refl (((l ++ ([yC5_4] : List (List UInt8))) ++ ([yC5_8] : List (List UInt8)))).length) (a_ (Nat.le_refl (((l ++ ([yC5_4] : List (List UInt8))) ++ ([yC5_8] : List (List UInt8)))).length) (a_ (Nat.le_refl (((l ++ ([yC5_4] : List (List UInt8))) ++ ([yC5_8] : List (List UInt8)))).length) tr))))) tr))))))) tr) (by kernel_rfl) rfl
  · skip
    rcases itb_some h with ⟨cC5_7, h⟩ | ⟨cC5_7, h⟩
    · skip
      exact run_to mixed hμ (L := [0, 3]) (n := 27) (s := [.reg [(2, hC (ids_Name_v yC5_2))], .reg [(2, hC (script_hex_string_v yC5_4)), (3, { os := [(2, .gr 1 (([yC5_4] : List (List UInt8))).length (rowF cStr default ([yC5_4] : List (List UInt8))))], v := some (.gs 2 (([yC5_4] : List (List UInt8))).length) }), (4, { app := 3, os := [(3, .gr 1 ((l ++ ([yC5_4] : List (List UInt8)))).length (rowF cStr default (l ++ ([yC5_4] : List (List UInt8)))))], v := some (.gs 3 ((l ++ ([yC5_4] : List (List UInt8)))).length) })], .reg [], .reg [(1, hF)], .reg [(1, hT)]])
        (a_ (r1_ (m_ 14 18 rfl (c_ (ids_Name_tri c.f_Key yC5_2 eC5_1) (r1_ (r4_ tr))))) (a_ (r2_ (c_ (script_hex_string_tri yC5_2.1 yC5_4 eC5_3) (a_ (a_ (a_ (Eq.refl true) (a_ (Eq.refl 1) (a_ (lt_ 0 1 rfl) (le_ 1 16777216 rfl)))) (a_ (le_sl_gs 2 1 (some 1) rfl) (a_ (sub_lit cStr default 1 (fun _ => rfl) ([yC5_4] : List (List UInt8))) tr))) (a_ (a_ (a_ (a_ (Eq.refl 1) (Nat.le_refl (([yC5_4] : List (List UInt8))).length)) (a_ (a_ (lt_ 0 1 rfl) (a_ (lt_ 0 16 rfl) (a_ gC5_5 (a_ (Eq.refl 1) (Eq.refl true))))) (a_ (Eq.refl 1) (Nat.le_refl (l).length)))) (a_ (le_gs_app 3 l ([yC5_4] : List (List UInt8))) (a_ (sub_app cStr default 1 l ([yC5_4] : List (List UInt8))) tr))) (r1_ tr))))) (a_ (r1_ (l_ 2 18 rfl tr)) (a_ (r1_ (f_ cC5_6 tr)) (a_ (r1_ (f_ cC5_7 tr)) tr))))) (script_words_c11_ok hμ c  _ r h) (by kernel_rfl) ⟨rfl, fun _ _ => rfl, trivial⟩
    · skip
      exact run_to mixed hμ (L := [3]) (n := 29) (s := [.reg [(2, hC (ids_Name_v yC5_2))], .reg [(2, hC (script_hex_string_v yC5_4)), (3, { os := [(2, .gr 1 (([yC5_4] : List (List UInt8))).length (rowF cStr default ([yC5_4] : List (List UInt8))))], v := some (.gs 2 (([yC5_4] : List (List UInt8))).length) }), (4, { app := 3, os := [(3, .gr 1 ((l ++ ([yC5_4] : List (List UInt8)))).length (rowF cStr default (l ++ ([yC5_4] : List (List UInt8)))))], v := some (.gs 3 ((l ++ ([yC5_4] : List (List UInt8)))).length) })], .reg [], .reg [(1, hF)], .reg [(1, hF)]])
        (a_ (r1_ (m_ 14 18 rfl (c_ (ids_Name_tri c.f_Key yC5_2 eC5_1) (r1_ (r4_ tr))))) (a_ (r2_ (c_ (script_hex_string_tri yC5_2.1 yC5_4 eC5_3) (a_ (a_ (a_ (Eq.refl true) (a_ (Eq.refl 1) (a_ (lt_ 0 1 rfl) (le_ 1 16777216 rfl)))) (a_ (le_sl_gs 2 1 (some 1) rfl) (a_ (sub_lit cStr default 1 (fun _ => rfl) ([yC5_4] : List (List UInt8))) tr))) (a_ (a_ (a_ (a_ (Eq.refl 1) (Nat.le_refl (([yC5_4] : List (List UInt8))).length)) (a_ (a_ (lt_ 0 1 rfl) (a_ (lt_ 0 16 rfl) (a_ gC5_5 (a_ (Eq.refl 1) (Eq.refl true))))) (a_ (Eq.refl 1) (Nat.le_refl (l).length)))) (a_ (le_gs_app 3 l ([yC5_4] : List (List UInt8))) (a_ (sub_app cStr default 1 l ([yC5_4] : List (List UInt8))) tr))) (r1_ tr))))) (a_ (r1_ (l_ 2 18 rfl tr)) (a_ (r1_ (f_ cC5_6 tr)) (a_ (r1_ (f_ cC5_7 tr)) tr))))) (script_words_c16_ok hμ   _ r h) (by kernel_rfl) ⟨fun _ _ => rfl, trivial⟩

theorem script_words_c7_ok {w0 : World} {W : Nat → Prop} {μ0 : Emb} (hμ : ∀ c p, μ0 c = some p → c < 0) (c : T_node_Call)  (l2 : List (List UInt8)) (r : (List (List UInt8))) (h : script_words_c7 c  l2 = some r) : kont Tryd.prog w0 W μ0 (FnPost Tryd.prog Tryd.f21 0 0 (script_words_v r) []) (kAtR (bodyOf Tryd.f21) 7) none (script_words_T1000007 c l2) (script_words_H1000007 c l2) := by
  unfold script_words_c7 at h
  rcases itb_some h with ⟨cC7_1, h⟩ | ⟨cC7_1, h⟩
  · skip
    obtain ⟨yC7_3, eC7_2, h⟩ := bind_some h
    obtain ⟨gC7_4, h⟩ := guard_some h
    obtain rfl := Option.some.inj h
    exact run_ret mixed (L := []) (n := 23) (s := [.reg [], .reg [(1, hT)], .reg [(3, hC (script_hex_string_v yC7_3)), (4, { os := [(2, .gr 1 (([yC7_3] : List (List UInt8))).length (rowF cStr default ([yC7_3] : List (List UInt8))))], v := some (.gs 2 (([yC7_3] : List (List UInt8))).length) }), (5, { app := 3, os := [(3, .gr 1 ((l2 ++ ([yC7_3] : List (List UInt8)))).length (rowF cStr default (l2 ++ ([yC7_3] : List (List UInt8)))))], v := some (.gs 3 ((l2 ++ ([yC7_3] : List (List UInt8)))).length) })], .reg [], .frz 3])
      (a_ (a_ (r1_ (l_ 2 18 rfl tr)) (a_ (r1_ (f_ cC7_1 tr)) (a_ (r2_ (l_ 14 18 rfl (c_ (script_hex_string_tri c.f_Value yC7_3 eC7_2) (a_ (a_ (a_ (Eq.refl true) (a_ (Eq.refl 1) (a_ (lt_ 0 1 rfl) (le_ 1 16777216 rfl)))) (a_ (le_sl_gs 2 1 (some 1) rfl) (a_ (sub_lit cStr default 1 (fun _ => rfl) ([yC7_3] : List (List UInt8))) tr))) (a_ (a_ (a_ (a_ (Eq.refl 1) (Nat.le_refl (([yC7_3] : List (List UInt8))).length)) (a_ (a_ (lt_ 0 1 rfl) (a_ (lt_ 0 16 rfl) (a_ gC7_4 (a_ (Eq.refl 1) (Eq.refl true))))) (a_ (Eq.refl 1) (Nat.le_refl (l2).length)))) (a_ (le_gs_app 3 l2 ([yC7_3] : List (List UInt8))) (a_ (sub_app cStr default 1 l2 ([yC7_3] : List (List UInt8))) tr))) (r1_ tr)))))) (a_ (r2_ tr) (a_ (a_ (fz_row (enc := cStr) (d := default) (fun _ => rfl) (l2 ++ ([yC7_3] : List (List UInt8)))) (a_ (Nat.le_refl ((l2 ++ ([yC7_3] : List (List UInt8)))).length) (a_ (Nat.le_refl ((l2 ++ ([yC7_3] : List (List UInt8)))).length) (a_ (Nat.le_refl ((l2 ++ ([yC7_3] : List (List UInt8)))).length) (a_ (Nat.le_refl ((l2 ++ ([yC7_3] : List (List UInt8)))).length) tr))))) tr))))) tr) (by kernel_rfl) rfl
  · skip
    rcases itb_some h with ⟨cC7_2, h⟩ | ⟨cC7_2, h⟩
    · skip
      obtain ⟨gC7_3, h⟩ := guard_some h
      exact run_to mixed hμ (L := [1, 3]) (n := 25) (s := [.reg [], .reg [(1, hF)], .reg [(1, hT)], .reg [(4, { os := [(2, .gr 1 (([c.f_R, c.f_W] : List (Int))).length (rowF (cInt .u8) default ([c.f_R, c.f_W] : List (Int))))], v := some (.gs 2 (([c.f_R, c.f_W] : List (Int))).length) }), (7, { app := 3, os := [(3, .gr 1 ((([c.f_R, c.f_W] : List (Int)) ++ c.f_Votes)).length (rowF (cInt .u8) default (([c.f_R, c.f_W] : List (Int)) ++ c.f_Votes)))], v := some (.gs 3 ((([c.f_R, c.f_W] : List (Int)) ++ c.f_Votes)).length) })]])
        (a_ (r1_ (l_ 2 18 rfl tr)) (a_ (r1_ (f_ cC7_1 tr)) (a_ (r1_ (f_ cC7_2 tr)) (a_ (r1_ (l_ 15 18 rfl (r1_ (l_ 16 18 rfl (a_ (a_ (a_ (Eq.refl true) (a_ (Eq.refl 1) (a_ (lt_ 0 1 rfl) (le_ 2 16777216 rfl)))) (a_ (le_sl_gs 2 2 (some 2) rfl) (a_ (sub_lit (cInt .u8) default 1 (fun _ => rfl) ([c.f_R, c.f_W] : List (Int))) tr))) (r1_ (l_ 17 18 rfl (a_ (a_ (a_ (Eq.refl 1) (a_ (a_ (lt_ 0 1 rfl) (a_ (lt_ 0 1 rfl) (a_ gC7_3 (a_ (Eq.refl 1) (Eq.refl true))))) (a_ (Eq.refl 1) (Nat.le_refl (([c.f_R, c.f_W] : List (Int))).length)))) (a_ (le_gs_app 3 ([c.f_R, c.f_W] : List (Int)) c.f_Votes) (a_ (sub_app (cInt .u8) default 1 ([c.f_R, c.f_W] : List (Int)) c.f_Votes) tr))) (r2_ tr))))))))) tr)))) (script_words_l0_ok hμ c  big _ _ r h) (by kernel_rfl) ⟨fun _ _ => rfl, fun _ _ => rfl, trivial⟩
    · skip
      obtain rfl := Option.some.inj h
      exact run_ret mixed (L := []) (n := 26) (s := [.reg [], .reg [(1, hF)], .reg [(1, hF)], .reg [], .frz 1])
        (a_ (a_ (r1_ (l_ 2 18 rfl tr)) (a_ (r1_ (f_ cC7_1 tr)) (a_ (r1_ (f_ cC7_2 tr)) (a_ (r2_ tr) (a_ (a_ (fz_row (enc := cStr) (d := default) (fun _ => rfl) l2) (a_ (Nat.le_refl (l2).length) (a_ (Nat.le_refl (l2).length) (a_ (Nat.le_refl (l2).length) tr)))) tr))))) tr) (by kernel_rfl) rfl

theorem script_words_ok (c : T_node_Call) (r : (List (List UInt8))) (h : script_words c = some r) : ∀ σ, Inj 0 σ → FnTri Tryd.prog 21 (renL σ [v_T_node_Call c]) (preOf σ 0 []) ((script_words_v r).ren σ) (upOf σ []) := by
  refine fn_of Tryd.func21 (by kernel_rfl) (by kernel_rfl) (by kernel_rfl) trivial (by kernel_rfl) trivial (by kernel_rfl) ?_
  intro w0 W μ0 hμ
  unfold script_words at h
  obtain ⟨y2, e1, h⟩ := bind_some h
  obtain ⟨y4, e3, h⟩ := bind_some h
  obtain ⟨y6, e5, h⟩ := bind_some h
  obtain ⟨g7, h⟩ := guard_some h
  rcases itb_some h with ⟨c8, h⟩ | ⟨c8, h⟩
  · skip
    obtain ⟨y10, e9, h⟩ := bind_some h
    obtain ⟨g11, h⟩ := guard_some h
    obtain ⟨y13, e12, h⟩ := bind_some h
    rcases itb_some h with ⟨c14, h⟩ | ⟨c14, h⟩
    · skip
      exact run_to mixed hμ (L := [0, 3]) (n := 28) (s := [.reg [(1, { v := some (.ds 1 (([] : List (List UInt8))).length (rowF cStr default ([] : List (List UInt8)))) })], .reg [(4, hC (script_digits_v y2)), (9, hC (script_digits_v y4)), (10, hC (script_calls_v y6)), (15, { os := [(1, .gr 1 (([y2, y4, (y6.getD (c.f_Kind).toNat default)] : List (List UInt8))).length (rowF cStr default ([y2, y4, (y6.getD (c.f_Kind).toNat default)] : List (List UInt8))))], v := some (.gs 1 (([y2, y4, (y6.getD (c.f_Kind).toNat default)] : List (List UInt8))).length) })], .reg [(2, hT)], .reg [(3, hC (script_name_v y10)), (4, { os := [(2, .gr 1 (([y10] : List (List UInt8))).length (rowF cStr default ([y10] : List (List UInt8))))], v := some (.gs 2 (([y10] : List (List UInt8))).length) }), (5, { app := 3, os := [(3, .gr 1 ((([y2, y4, (y6.getD (c.f_Kind).toNat default)] : List (List UInt8)) ++ ([y10] : List (List UInt8)))).length (rowF cStr default (([y2, y4, (y6.getD (c.f_Kind).toNat default)] : List (List UInt8)) ++ ([y10] : List (List UInt8)))))], v := some (.gs 3 ((([y2, y4, (y6.getD (c.f_Kind).toNat default)] : List (List UInt8)) ++ ([y10] : List (List UInt8)))).length) })], .reg [(2, { call := some (script_hasKey_v y13, [], []), v := some (.bool true) })]])
        (a_ (r1_ (a_ (a_ tr (a_ (le_nil_ds 1 (rowF cStr default [])) tr)) tr)) (a_ (r2_ (l_ 0 18 rfl (r1_ (a_ (a_ (a_ (script_digits_tri (IntKind.wrap .i64 c.f_Call.f_Client) y2 e1) tr) tr) (r2_ (l_ 1 18 rfl (r1_ (a_ (a_ (a_ (script_digits_tri (IntKind.wrap .i64 c.f_Call.f_Seq) y4 e3) tr) tr) (c_ (script_calls_tri  y6 e5) (r1_ (l_ 2 18 rfl (a_ (a_ (a_ (Eq.refl 1) g7) tr) (a_ (a_ (lt_ 0 1 rfl) tr) (a_ (a_ (a_ (Eq.refl true) (a_ (Eq.refl 1) (a_ (lt_ 0 1 rfl) (le_ 3 16777216 rfl)))) (a_ (le_sl_gs 1 3 (some 3) rfl) (a_ (sub_lit cStr default 1 (fun _ => rfl) ([y2, y4, (y6.getD (c.f_Kind).toNat default)] : List (List UInt8))) tr))) (r1_ tr))))))))))))))) (a_ (r1_ (l_ 2 18 rfl (f_ c8 tr))) (a_ (r2_ (m_ 6 18 rfl (c_ (script_name_tri c.f_Tx y10 e9) (a_ (a_ (a_ (Eq.refl true) (a_ (Eq.refl 1) (a_ (lt_ 0 1 rfl) (le_ 1 16777216 rfl)))) (a_ (le_sl_gs 2 1 (some 1) rfl) (a_ (sub_lit cStr default 1 (fun _ => rfl) ([y10] : List (List UInt8))) tr))) (a_ (a_ (a_ (a_ (Eq.refl 1) (Nat.le_refl (([y10] : List (List UInt8))).length)) (a_ (a_ (lt_ 0 1 rfl) (a_ (lt_ 0 16 rfl) (a_ g11 (a_ (Eq.refl 1) (Eq.refl true))))) (a_ (Eq.refl 1) (Nat.le_refl (([y2, y4, (y6.getD (c.f_Kind).toNat default)] : List (List UInt8))).length)))) (a_ (le_gs_app 3 ([y2, y4, (y6.getD (c.f_Kind).toNat default)] : List (List UInt8)) ([y10] : List (List UInt8))) (a_ (sub_app cStr default 1 ([y2, y4, (y6.getD (c.f_Kind).toNat default)] : List (List UInt8)) ([y10] : List (List UInt8))) tr))) (r1_ tr)))))) (a_ (r1_ (l_ 2 18 rfl (a_ (a_ (a_ (script_hasKey_tri c.f_Kind y13 e12) tr) (a_ (leB c14) tr)) tr))) tr))))) (script_words_c5_ok hμ c  _ r h) (by kernel_rfl) ⟨rfl, fun _ _ => rfl, trivial⟩
    · skip
      exact run_to mixed hμ (L := [0, 3]) (n := 30) (s := [.reg [(1, { v := some (.ds 1 (([] : List (List UInt8))).length (rowF cStr default ([] : List (List UInt8)))) })], .reg [(4, hC (script_digits_v y2)), (9, hC (script_digits_v y4)), (10, hC (script_calls_v y6)), (15, { os := [(1, .gr 1 (([y2, y4, (y6.getD (c.f_Kind).toNat default)] : List (List UInt8))).length (rowF cStr default ([y2, y4, (y6.getD (c.f_Kind).toNat default)] : List (List UInt8))))], v := some (.gs 1 (([y2, y4, (y6.getD (c.f_Kind).toNat default)] : List (List UInt8))).length) })], .reg [(2, hT)], .reg [(3, hC (script_name_v y10)), (4, { os := [(2, .gr 1 (([y10] : List (List UInt8))).length (rowF cStr default ([y10] : List (List UInt8))))], v := some (.gs 2 (([y10] : List (List UInt8))).length) }), (5, { app := 3, os := [(3, .gr 1 ((([y2, y4, (y6.getD (c.f_Kind).toNat default)] : List (List UInt8)) ++ ([y10] : List (List UInt8)))).length (rowF cStr default (([y2, y4, (y6.getD (c.f_Kind).toNat default)] : List (List UInt8)) ++ ([y10] : List (List UInt8)))))], v := some (.gs 3 ((([y2, y4, (y6.getD (c.f_Kind).toNat default)] : List (List UInt8)) ++ ([y10] : List (List UInt8)))).length) })], .reg [(2, { call := some (script_hasKey_v y13, [], []), v := some (.bool false) })]])
        (a_ (r1_ (a_ (a_ tr (a_ (le_nil_ds 1 (rowF cStr default [])) tr)) tr)) (a_ (r2_ (l_ 0 18 rfl (r1_ (a_ (a_ (a_ (script_digits_tri (IntKind.wrap .i64 c.f_Call.f_Client) y2 e1) tr) tr) (r2_ (l_ 1 18 rfl (r1_ (a_ (a_ (a_ (script_digits_tri (IntKind.wrap .i64 c.f_Call.f_Seq) y4 e3) tr) tr) (c_ (script_calls_tri  y6 e5) (r1_ (l_ 2 18 rfl (a_ (a_ (a_ (Eq.refl 1) g7) tr) (a_ (a_ (lt_ 0 1 rfl) tr) (a_ (a_ (a_ (Eq.refl true) (a_ (Eq.refl 1) (a_ (lt_ 0 1 rfl) (le_ 3 16777216 rfl)))) (a_ (le_sl_gs 1 3 (some 3) rfl) (a_ (sub_lit cStr default 1 (fun _ => rfl) ([y2, y4, (y6.getD (c.f_Kind).toNat default)] : List (List UInt8))) tr))) (r1_ tr))))))))))))))) (a_ (r1_ (l_ 2 18 rfl (f_ c8 tr))) (a_ (r2_ (m_ 6 18 rfl (c_ (script_name_tri c.f_Tx y10 e9) (a_ (a_ (a_ (Eq.refl true) (a_ (Eq.refl 1) (a_ (lt_ 0 1 rfl) (le_ 1 16777216 rfl)))) (a_ (le_sl_gs 2 1 (some 1) rfl) (a_ (sub_lit cStr default 1 (fun _ => rfl) ([y10] : List (List UInt8))) tr))) (a_ (a_ (a_ (a_ (Eq.refl 1) (Nat.le_refl (([y10] : List (List UInt8))).length)) (a_ (a_ (lt_ 0 1 rfl) (a_ (lt_ 0 16 rfl) (a_ g11 (a_ (Eq.refl 1) (Eq.refl true))))) (a_ (Eq.refl 1) (Nat.le_refl (([y2, y4, (y6.getD (c.f_Kind).toNat default)] : List (List UInt8))).length)))) (a_ (le_gs_app 3 ([y2, y4, (y6.getD (c.f_Kind).toNat default)] : List (List UInt8)) ([y10] : List (List UInt8))) (a_ (sub_app cStr default 1 ([y2, y4, (y6.getD (c.f_Kind).toNat default)] : List (List UInt8)) ([y10] : List (List UInt8))) tr))) (r1_ tr)))))) (a_ (r1_ (l_ 2 18 rfl (a_ (a_ (a_ (script_hasKey_tri c.f_Kind y13 e12) tr) (a_ (leB c14) tr)) tr))) tr))))) (script_words_c7_ok hμ c  _ r h) (by kernel_rfl) ⟨rfl, fun _ _ => rfl, trivial⟩
  · skip
    obtain ⟨y11, e9, h⟩ := bind_some h
    rcases itb_some h with ⟨c12, h⟩ | ⟨c12, h⟩
    · skip
      exact run_to mixed hμ (L := [0, 1]) (n := 27) (s := [.reg [(1, { v := some (.ds 1 (([] : List (List UInt8))).length (rowF cStr default ([] : List (List UInt8)))) })], .reg [(4, hC (script_digits_v y2)), (9, hC (script_digits_v y4)), (10, hC (script_calls_v y6)), (15, { os := [(1, .gr 1 (([y2, y4, (y6.getD (c.f_Kind).toNat default)] : List (List UInt8))).length (rowF cStr default ([y2, y4, (y6.getD (c.f_Kind).toNat default)] : List (List UInt8))))], v := some (.gs 1 (([y2, y4, (y6.getD (c.f_Kind).toNat default)] : List (List UInt8))).length) })], .reg [(2, hF)], .reg [(2, { call := some (script_hasKey_v y11, [], []), v := some (.bool true) })]])
        (a_ (r1_ (a_ (a_ tr (a_ (le_nil_ds 1 (rowF cStr default [])) tr)) tr)) (a_ (r2_ (l_ 0 18 rfl (r1_ (a_ (a_ (a_ (script_digits_tri (IntKind.wrap .i64 c.f_Call.f_Client) y2 e1) tr) tr) (r2_ (l_ 1 18 rfl (r1_ (a_ (a_ (a_ (script_digits_tri (IntKind.wrap .i64 c.f_Call.f_Seq) y4 e3) tr) tr) (c_ (script_calls_tri  y6 e5) (r1_ (l_ 2 18 rfl (a_ (a_ (a_ (Eq.refl 1) g7) tr) (a_ (a_ (lt_ 0 1 rfl) tr) (a_ (a_ (a_ (Eq.refl true) (a_ (Eq.refl 1) (a_ (lt_ 0 1 rfl) (le_ 3 16777216 rfl)))) (a_ (le_sl_gs 1 3 (some 3) rfl) (a_ (sub_lit cStr default 1 (fun _ => rfl) ([y2, y4, (y6.getD (c.f_Kind).toNat default)] : List (List UInt8))) tr))) (r1_ tr))))))))))))))) (a_ (r1_ (l_ 2 18 rfl (f_ c8 tr))) (a_ (r1_ (l_ 2 18 rfl (a_ (a_ (a_ (script_hasKey_tri c.f_Kind y11 e9) tr) (a_ (leB c12) tr)) tr))) tr)))) (script_words_c5_ok hμ c  _ r h) (by kernel_rfl) ⟨rfl, fun _ _ => rfl, trivial⟩
    · skip
      exact run_to mixed hμ (L := [0, 1]) (n := 29) (s := [.reg [(1, { v := some (.ds 1 (([] : List (List UInt8))).length (rowF cStr default ([] : List (List UInt8)))) })], .reg [(4, hC (script_digits_v y2)), (9, hC (script_digits_v y4)), (10, hC (script_calls_v y6)), (15, { os := [(1, .gr 1 (([y2, y4, (y6.getD (c.f_Kind).toNat default)] : List (List UInt8))).length (rowF cStr default ([y2, y4, (y6.getD (c.f_Kind).toNat default)] : List (List UInt8))))], v := some (.gs 1 (([y2, y4, (y6.getD (c.f_Kind).toNat default)] : List (List UInt8))).length) })], .reg [(2, hF)], .reg [(2, { call := some (script_hasKey_v y11, [], []), v := some (.bool false) })]])
        (a_ (r1_ (a_ (a_ tr (a_ (le_nil_ds 1 (rowF cStr default [])) tr)) tr)) (a_ (r2_ (l_ 0 18 rfl (r1_ (a_ (a_ (a_ (script_digits_tri (IntKind.wrap .i64 c.f_Call.f_Client) y2 e1) tr) tr) (r2_ (l_ 1 18 rfl (r1_ (a_ (a_ (a_ (script_digits_tri (IntKind.wrap .i64 c.f_Call.f_Seq) y4 e3) tr) tr) (c_ (script_calls_tri  y6 e5) (r1_ (l_ 2 18 rfl (a_ (a_ (a_ (Eq.refl 1) g7) tr) (a_ (a_ (lt_ 0 1 rfl) tr) (a_ (a_ (a_ (Eq.refl true) (a_ (Eq.refl 1) (a_ (lt_ 0 1 rfl) (le_ 3 16777216 rfl)))) (a_ (le_sl_gs 1 3 (some 3) rfl) (a_ (sub_lit cStr default 1 (fun _ => rfl) ([y2, y4, (y6.getD (c.f_Kind).toNat default)] : List (List UInt8))) tr))) (r1_ tr))))))))))))))) (a_ (r1_ (l_ 2 18 rfl (f_ c8 tr))) (a_ (r1_ (l_ 2 18 rfl (a_ (a_ (a_ (script_hasKey_tri c.f_Kind y11 e9) tr) (a_ (leB c12) tr)) tr))) tr)))) (script_words_c7_ok hμ c  _ r h) (by kernel_rfl) ⟨rfl, fun _ _ => rfl, trivial⟩

theorem script_words_tri (c : T_node_Call) (r : (List (List UInt8))) (h : script_words c = some r) : FnTri Tryd.prog 21 [v_T_node_Call c] [] (script_words_v r) [] := FnTri.none (script_words_ok c r h) rfl rfl

/-- parrel/script.hex[[]byte] -/

def script_hex_byte_v (r : (List UInt8)) : LV := .str r

def script_hex_byte_T0 (b : List (Int)) (t11 : Int) (l : List (Int)) : List LV := [.any, .any, .any, .gs 0 (l).length, .any, .any, .any, .any, .any, .ds 1 (b).length (rowF (cInt .u8) default b), .int .i64 ((b).length : Int), .int .i64 t11, .any, .any, .any, .any, .any, .any, .any, .any, .any, .any, .any, .any, .any, .any, .any]

def script_hex_byte_H0 (b : List (Int)) (t11 : Int) (l : List (Int)) : Heap := [some (.gr 1 (l).length (rowF (cInt .u8) default l))]

def script_hex_byte_l0 (b : List (Int))  : Nat → (Int) → (List (Int)) → Option ((List UInt8))
  | 0, _, _ => none
  | fuel + 1, t11, l =>
    if ((decide (t11 < ((b).length : Int))) : Bool) then
      if 0 ≤ t11 ∧ t11 < (((b).length : Nat) : Int) then
      if 0 ≤ (Int.fdiv (b.getD t11.toNat default) (2 ^ (min (Int.toNat 4) (IntKind.bits .u8)))) ∧ (Int.fdiv (b.getD t11.toNat default) (2 ^ (min (Int.toNat 4) (IntKind.bits .u8)))) < (((([48, 49, 50, 51, 52, 53, 54, 55, 56, 57, 97, 98, 99, 100, 101, 102] : List UInt8)).length : Nat) : Int) then
      if 0 ≤ (IntKind.wrap .u8 ((BitVec.ofInt (IntKind.bits .u8) (b.getD t11.toNat default) &&& BitVec.ofInt (IntKind.bits .u8) 15).toNat : Int)) ∧ (IntKind.wrap .u8 ((BitVec.ofInt (IntKind.bits .u8) (b.getD t11.toNat default) &&& BitVec.ofInt (IntKind.bits .u8) 15).toNat : Int)) < (((([48, 49, 50, 51, 52, 53, 54, 55, 56, 57, 97, 98, 99, 100, 101, 102] : List UInt8)).length : Nat) : Int) then
      if ((l).length + (([((([48, 49, 50, 51, 52, 53, 54, 55, 56, 57, 97, 98, 99, 100, 101, 102] : List UInt8).getD ((Int.fdiv (b.getD t11.toNat default) (2 ^ (min (Int.toNat 4) (IntKind.bits .u8))))).toNat 0).toNat : Int), ((([48, 49, 50, 51, 52, 53, 54, 55, 56, 57, 97, 98, 99, 100, 101, 102] : List UInt8).getD ((IntKind.wrap .u8 ((BitVec.ofInt (IntKind.bits .u8) (b.getD t11.toNat default) &&& BitVec.ofInt (IntKind.bits .u8) 15).toNat : Int))).toNat 0).toNat : Int)] : List (Int))).length) * 1 ≤ 140737488351232 then
      script_hex_byte_l0 b  fuel (IntKind.wrap .i64 (t11 + 1)) (l ++ ([((([48, 49, 50, 51, 52, 53, 54, 55, 56, 57, 97, 98, 99, 100, 101, 102] : List UInt8).getD ((Int.fdiv (b.getD t11.toNat default) (2 ^ (min (Int.toNat 4) (IntKind.bits .u8))))).toNat 0).toNat : Int), ((([48, 49, 50, 51, 52, 53, 54, 55, 56, 57, 97, 98, 99, 100, 101, 102] : List UInt8).getD ((IntKind.wrap .u8 ((BitVec.ofInt (IntKind.bits .u8) (b.getD t11.toNat default) &&& BitVec.ofInt (IntKind.bits .u8) 15).toNat : Int))).toNat 0).toNat : Int)] : List (Int)))
      else none
      else none
      else none
      else none
    else
      some (strI l)

def script_hex_byte (b : List (Int)) : Option ((List UInt8)) :=
  if ((((b).length : Int) == 0) : Bool) then
    some ([45] : List UInt8)
  else
    script_hex_byte_l0 b  big 0 ([] : List (Int))

theorem script_hex_byte_l0_ok {w0 : World} {W : Nat → Prop} {μ0 : Emb} (hμ : ∀ c p, μ0 c = some p → c < 0) (b : List (Int))  : ∀ (fuel : Nat) (t11 : Int) (l : List (Int)) (r : (List UInt8)), script_hex_byte_l0 b  fuel t11 l = some r → kont Tryd.prog w0 W μ0 (FnPost Tryd.prog Tryd.f22 0 0 (script_hex_byte_v r) []) (kAt (bodyOf Tryd.f22) 0) none (script_hex_byte_T0 b t11 l) (script_hex_byte_H0 b t11 l) := by
  intro fuel
  induction fuel with
  | zero => intro t11 l r h; rw [script_hex_byte_l0] at h; cases h
  | succ fuel ih =>
    intro t11 l r h
    rw [script_hex_byte_l0] at h
    rcases itb_some h with ⟨cL0_1, h⟩ | ⟨cL0_1, h⟩
    · skip
      obtain ⟨gL0_2, h⟩ := guard_some h
      obtain ⟨gL0_3, h⟩ := guard_some h
      obtain ⟨gL0_4, h⟩ := guard_some h
      obtain ⟨gL0_5, h⟩ := guard_some h
      exact run_to mixed hμ (L := [2]) (n := 26) (s := [.go, .reg [(0, hT)], .reg [], .reg [(7, { os := [(1, .gr 1 (([((([48, 49, 50, 51, 52, 53, 54, 55, 56, 57, 97, 98, 99, 100, 101, 102] : List UInt8).getD ((Int.fdiv (b.getD t11.toNat default) (2 ^ (min (Int.toNat 4) (IntKind.bits .u8))))).toNat 0).toNat : Int), ((([48, 49, 50, 51, 52, 53, 54, 55, 56, 57, 97, 98, 99, 100, 101, 102] : List UInt8).getD ((IntKind.wrap .u8 ((BitVec.ofInt (IntKind.bits .u8) (b.getD t11.toNat default) &&& BitVec.ofInt (IntKind.bits .u8) 15).toNat : Int))).toNat 0).toNat : Int)] : List (Int))).length (rowF (cInt .u8) default ([((([48, 49, 50, 51, 52, 53, 54, 55, 56, 57, 97, 98, 99, 100, 101, 102] : List UInt8).getD ((Int.fdiv (b.getD t11.toNat default) (2 ^ (min (Int.toNat 4) (IntKind.bits .u8))))).toNat 0).toNat : Int), ((([48, 49, 50, 51, 52, 53, 54, 55, 56, 57, 97, 98, 99, 100, 101, 102] : List UInt8).getD ((IntKind.wrap .u8 ((BitVec.ofInt (IntKind.bits .u8) (b.getD t11.toNat default) &&& BitVec.ofInt (IntKind.bits .u8) 15).toNat : Int))).toNat 0).toNat : Int)] : List (Int))))], v := some (.gs 1 (([((([48, 49, 50, 51, 52, 53, 54, 55, 56, 57, 97, 98, 99, 100, 101, 102] : List UInt8).getD ((Int.fdiv (b.getD t11.toNat default) (2 ^ (min (Int.toNat 4) (IntKind.bits .u8))))).toNat 0).toNat : Int), ((([48, 49, 50, 51, 52, 53, 54, 55, 56, 57, 97, 98, 99, 100, 101, 102] : List UInt8).getD ((IntKind.wrap .u8 ((BitVec.ofInt (IntKind.bits .u8) (b.getD t11.toNat default) &&& BitVec.ofInt (IntKind.bits .u8) 15).toNat : Int))).toNat 0).toNat : Int)] : List (Int))).length) }), (8, { app := 3, os := [(2, .gr 1 ((l ++ ([((([48, 49, 50, 51, 52, 53, 54, 55, 56, 57, 97, 98, 99, 100, 101, 102] : List UInt8).getD ((Int.fdiv (b.getD t11.toNat default) (2 ^ (min (Int.toNat 4) (IntKind.bits .u8))))).toNat 0).toNat : Int), ((([48, 49, 50, 51, 52, 53, 54, 55, 56, 57, 97, 98, 99, 100, 101, 102] : List UInt8).getD ((IntKind.wrap .u8 ((BitVec.ofInt (IntKind.bits .u8) (b.getD t11.toNat default) &&& BitVec.ofInt (IntKind.bits .u8) 15).toNat : Int))).toNat 0).toNat : Int)] : List (Int)))).length (rowF (cInt .u8) default (l ++ ([((([48, 49, 50, 51, 52, 53, 54, 55, 56, 57, 97, 98, 99, 100, 101, 102] : List UInt8).getD ((Int.fdiv (b.getD t11.toNat default) (2 ^ (min (Int.toNat 4) (IntKind.bits .u8))))).toNat 0).toNat : Int), ((([48, 49, 50, 51, 52, 53, 54, 55, 56, 57, 97, 98, 99, 100, 101, 102] : List UInt8).getD ((IntKind.wrap .u8 ((BitVec.ofInt (IntKind.bits .u8) (b.getD t11.toNat default) &&& BitVec.ofInt (IntKind.bits .u8) 15).toNat : Int))).toNat 0).toNat : Int)] : List (Int)))))], v := some (.gs 2 ((l ++ ([((([48, 49, 50, 51, 52, 53, 54, 55, 56, 57, 97, 98, 99, 100, 101, 102] : List UInt8).getD ((Int.fdiv (b.getD t11.toNat default) (2 ^ (min (Int.toNat 4) (IntKind.bits .u8))))).toNat 0).toNat : Int), ((([48, 49, 50, 51, 52, 53, 54, 55, 56, 57, 97, 98, 99, 100, 101, 102] : List UInt8).getD ((IntKind.wrap .u8 ((BitVec.ofInt (IntKind.bits .u8) (b.getD t11.toNat default) &&& BitVec.ofInt (IntKind.bits .u8) 15).toNat : Int))).toNat 0).toNat : Int)] : List (Int)))).length) })], .reg []])
        (a_ (f_ cL0_1 tr) (a_ (a_ (a_ (a_ (Eq.refl 1) gL0_2) tr) (a_ (a_ (lt_ 0 1 rfl) tr) (r1_ tr))) (a_ (r2_ (a_ (a_ (lei_ 0 4 rfl) tr) (a_ (a_ gL0_3 tr) (r2_ (a_ (a_ gL0_4 tr) (a_ (a_ (a_ (Eq.refl true) (a_ (Eq.refl 1) (a_ (lt_ 0 1 rfl) (le_ 2 16777216 rfl)))) (a_ (le_sl_gs 1 2 (some 2) rfl) (a_ (sub_lit (cInt .u8) default 1 (fun _ => rfl) ([((([48, 49, 50, 51, 52, 53, 54, 55, 56, 57, 97, 98, 99, 100, 101, 102] : List UInt8).getD ((Int.fdiv (b.getD t11.toNat default) (2 ^ (min (Int.toNat 4) (IntKind.bits .u8))))).toNat 0).toNat : Int), ((([48, 49, 50, 51, 52, 53, 54, 55, 56, 57, 97, 98, 99, 100, 101, 102] : List UInt8).getD ((IntKind.wrap .u8 ((BitVec.ofInt (IntKind.bits .u8) (b.getD t11.toNat default) &&& BitVec.ofInt (IntKind.bits .u8) 15).toNat : Int))).toNat 0).toNat : Int)] : List (Int))) tr))) (a_ (a_ (a_ (a_ (Eq.refl 1) (Nat.le_refl (([((([48, 49, 50, 51, 52, 53, 54, 55, 56, 57, 97, 98, 99, 100, 101, 102] : List UInt8).getD ((Int.fdiv (b.getD t11.toNat default) (2 ^ (min (Int.toNat 4) (IntKind.bits .u8))))).toNat 0).toNat : Int), ((([48, 49, 50, 51, 52, 53, 54, 55, 56, 57, 97, 98, 99, 100, 101, 102] : List UInt8).getD ((IntKind.wrap .u8 ((BitVec.ofInt (IntKind.bits .u8) (b.getD t11.toNat default) &&& BitVec.ofInt (IntKind.bits .u8) 15).toNat : Int))).toNat 0).toNat : Int)] : List (Int))).length)) (a_ (a_ (lt_ 0 1 rfl) (a_ (lt_ 0 1 rfl) (a_ gL0_5 (a_ (Eq.refl 1) (Eq.refl true))))) (a_ (Eq.refl 1) (Nat.le_refl (l).length)))) (a_ (le_gs_app 2 l ([((([48, 49, 50, 51, 52, 53, 54, 55, 56, 57, 97, 98, 99, 100, 101, 102] : List UInt8).getD ((Int.fdiv (b.getD t11.toNat default) (2 ^ (min (Int.toNat 4) (IntKind.bits .u8))))).toNat 0).toNat : Int), ((([48, 49, 50, 51, 52, 53, 54, 55, 56, 57, 97, 98, 99, 100, 101, 102] : List UInt8).getD ((IntKind.wrap .u8 ((BitVec.ofInt (IntKind.bits .u8) (b.getD t11.toNat default) &&& BitVec.ofInt (IntKind.bits .u8) 15).toNat : Int))).toNat 0).toNat : Int)] : List (Int))) (a_ (sub_app (cInt .u8) default 1 l ([((([48, 49, 50, 51, 52, 53, 54, 55, 56, 57, 97, 98, 99, 100, 101, 102] : List UInt8).getD ((Int.fdiv (b.getD t11.toNat default) (2 ^ (min (Int.toNat 4) (IntKind.bits .u8))))).toNat 0).toNat : Int), ((([48, 49, 50, 51, 52, 53, 54, 55, 56, 57, 97, 98, 99, 100, 101, 102] : List UInt8).getD ((IntKind.wrap .u8 ((BitVec.ofInt (IntKind.bits .u8) (b.getD t11.toNat default) &&& BitVec.ofInt (IntKind.bits .u8) 15).toNat : Int))).toNat 0).toNat : Int)] : List (Int))) tr))) (r1_ tr)))))))) (a_ (r2_ tr) tr)))) (ih _ _ r h) (by kernel_rfl) ⟨fun _ _ => rfl, trivial⟩
    · skip
      obtain rfl := Option.some.inj h
      exact run_ret mixed (L := []) (n := 20) (s := [.go, .reg [(0, hF)], .frz 0, .reg [(1, { v := some (.str (strI l)) })]])
        (a_ (a_ (f_ cL0_1 tr) (a_ (a_ (fz_row (enc := (cInt .u8)) (d := default) (fun _ => rfl) l) (a_ (Nat.le_refl (l).length) tr)) (a_ (r1_ (a_ (a_ (a_ (Eq.refl 1) (str_ob l)) (a_ (le_str l) tr)) (r1_ tr))) tr))) tr) (by kernel_rfl) rfl

theorem script_hex_byte_ok (b : List (Int)) (r : (List UInt8)) (h : script_hex_byte b = some r) : ∀ σ, Inj 0 σ → FnTri Tryd.prog 22 (renL σ [.ds 1 (b).length (rowF (cInt .u8) default b)]) (preOf σ 0 []) ((script_hex_byte_v r).ren σ) (upOf σ []) := by
  refine fn_of Tryd.func22 (by kernel_rfl) (by kernel_rfl) (by kernel_rfl) trivial (by kernel_rfl) trivial (by kernel_rfl) ?_
  intro w0 W μ0 hμ
  unfold script_hex_byte at h
  rcases itb_some h with ⟨c1, h⟩ | ⟨c1, h⟩
  · skip
    obtain rfl := Option.some.inj h
    exact run_ret mixed (L := []) (n := 20) (s := [.reg [], .reg [(2, hT)], .reg []])
      (a_ (a_ (r1_ tr) (a_ (r2_ (f_ c1 tr)) (a_ (r1_ tr) tr))) tr) (by kernel_rfl) rfl
  · skip
    exact run_to mixed hμ (L := [0]) (n := 28) (s := [.reg [], .reg [(2, hF)], .void (.gr 1 (([] : List (Int))).length (rowF (cInt .u8) default ([] : List (Int)))), .reg [(0, { v := some (.gs 0 (([] : List (Int))).length) })], .reg []])
      (a_ (r1_ tr) (a_ (r2_ (f_ c1 tr)) (a_ (Eq.refl 0) (a_ (a_ (a_ tr (a_ (le_nil_gs 0) tr)) tr) (a_ (r1_ (r2_ tr)) tr))))) (script_hex_byte_l0_ok hμ b  big _ _ r h) (by kernel_rfl) ⟨fun _ _ => rfl, trivial⟩

theorem script_hex_byte_tri (b : List (Int)) (r : (List UInt8)) (h : script_hex_byte b = some r) : FnTri Tryd.prog 22 [.ds 1 (b).length (rowF (cInt .u8) default b)] [] (script_hex_byte_v r) [] := FnTri.none (script_hex_byte_ok b r h) rfl rfl

/-- parrel/script.Line -/

def script_Line_v (r : (List UInt8) × (Int)) : LV := .tup [.str r.1, .int .i64 r.2]

def script_Line_T1000006 (s : T_script_Step) (y5 : (List (List UInt8))) (y8 : (List UInt8))  : List LV := [.any, .ptr 0 0 0, .any, .any, .gs 1 (([(y5.getD (s.f_Kind).toNat default), y8] : List (List UInt8))).length, .any, .any, .any, .any, .any, .any, .any, .any, .any, .any, .any, .any, .any, .any, .any, .any, .any, .any, .any, .any, .any, .any, .any, .any, .any, .any, .any, .any, .any, .any, .any, .any, .any, .any, .any, .any, .any, .any, .any, .any, .any, .any, .any, .any, .any, .any, .any, .any, .any, .any, .any, .any, .any, .any, .any, .any, .any, .any, .any, .any, .any, .any, .any, .any, .any, .any, .any]

def script_Line_H1000006 (s : T_script_Step) (y5 : (List (List UInt8))) (y8 : (List UInt8))  : Heap := [some (.var (c_T_script_Step s)), some (.gr 1 (([(y5.getD (s.f_Kind).toNat default), y8] : List (List UInt8))).length (rowF cStr default ([(y5.getD (s.f_Kind).toNat default), y8] : List (List UInt8))))]

def script_Line_T1005021 (s : T_script_Step) (y5 : (List (List UInt8))) (y8 : (List UInt8)) (yC7_8 : (List UInt8))  : List LV := [.any, .any, .any, .any, .gs 0 ((([(y5.getD (s.f_Kind).toNat default), y8] : List (List UInt8)) ++ ([yC7_8] : List (List UInt8)))).length, .any, .any, .any, .any, .any, .any, .any, .any, .any, .any, .any, .any, .any, .any, .any, .any, .any, .any, .any, .any, .any, .any, .any, .any, .any, .any, .any, .any, .any, .any, .any, .any, .any, .any, .any, .any, .any, .any, .any, .any, .any, .any, .any, .any, .any, .any, .any, .any, .any, .any, .any, .any, .any, .any, .any, .any, .any, .any, .any, .any, .any, .any, .any, .any, .any, .any, .any]

def script_Line_H1005021 (s : T_script_Step) (y5 : (List (List UInt8))) (y8 : (List UInt8)) (yC7_8 : (List UInt8))  : Heap := [some (.gr 1 ((([(y5.getD (s.f_Kind).toNat default), y8] : List (List UInt8)) ++ ([yC7_8] : List (List UInt8)))).length (rowF cStr default (([(y5.getD (s.f_Kind).toNat default), y8] : List (List UInt8)) ++ ([yC7_8] : List (List UInt8)))))]

def script_Line_T1002021 (s : T_script_Step) (y5 : (List (List UInt8))) (y8 : (List UInt8)) (yC7_6 : (List UInt8))  : List LV := [.any, .any, .any, .any, .gs 0 ((([(y5.getD (s.f_Kind).toNat default), y8] : List (List UInt8)).set 1 yC7_6)).length, .any, .any, .any, .any, .any, .any, .any, .any, .any, .any, .any, .any, .any, .any, .any, .any, .any, .any, .any, .any, .any, .any, .any, .any, .any, .any, .any, .any, .any, .any, .any, .any, .any, .any, .any, .any, .any, .any, .any, .any, .any, .any, .any, .any, .any, .any, .any, .any, .any, .any, .any, .any, .any, .any, .any, .any, .any, .any, .any, .any, .any, .any, .any, .any, .any, .any, .any]

def script_Line_H1002021 (s : T_script_Step) (y5 : (List (List UInt8))) (y8 : (List UInt8)) (yC7_6 : (List UInt8))  : Heap := [some (.gr 1 ((([(y5.getD (s.f_Kind).toNat default), y8] : List (List UInt8)).set 1 yC7_6)).length (rowF cStr default (([(y5.getD (s.f_Kind).toNat default), y8] : List (List UInt8)).set 1 yC7_6)))]

def script_Line_T1006021 (s : T_script_Step) (y5 : (List (List UInt8))) (y8 : (List UInt8)) (yC7_9 : (List UInt8)) (yC7_11 : (List UInt8))  : List LV := [.any, .any, .any, .any, .gs 0 ((([(y5.getD (s.f_Kind).toNat default), y8] : List (List UInt8)) ++ ([yC7_9, yC7_11] : List (List UInt8)))).length, .any, .any, .any, .any, .any, .any, .any, .any, .any, .any, .any, .any, .any, .any, .any, .any, .any, .any, .any, .any, .any, .any, .any, .any, .any, .any, .any, .any, .any, .any, .any, .any, .any, .any, .any, .any, .any, .any, .any, .any, .any, .any, .any, .any, .any, .any, .any, .any, .any, .any, .any, .any, .any, .any, .any, .any, .any, .any, .any, .any, .any, .any, .any, .any, .any, .any, .any]

def script_Line_H1006021 (s : T_script_Step) (y5 : (List (List UInt8))) (y8 : (List UInt8)) (yC7_9 : (List UInt8)) (yC7_11 : (List UInt8))  : Heap := [some (.gr 1 ((([(y5.getD (s.f_Kind).toNat default), y8] : List (List UInt8)) ++ ([yC7_9, yC7_11] : List (List UInt8)))).length (rowF cStr default (([(y5.getD (s.f_Kind).toNat default), y8] : List (List UInt8)) ++ ([yC7_9, yC7_11] : List (List UInt8)))))]

def script_Line_T1003021 (s : T_script_Step) (y5 : (List (List UInt8))) (y8 : (List UInt8)) (yC7_8 : (List UInt8)) (yC7_10 : (List UInt8))  : List LV := [.any, .any, .any, .any, .gs 0 ((([(y5.getD (s.f_Kind).toNat default), y8] : List (List UInt8)) ++ ([yC7_8, ([99, 117, 116] : List UInt8), yC7_10] : List (List UInt8)))).length, .any, .any, .any, .any, .any, .any, .any, .any, .any, .any, .any, .any, .any, .any, .any, .any, .any, .any, .any, .any, .any, .any, .any, .any, .any, .any, .any, .any, .any, .any, .any, .any, .any, .any, .any, .any, .any, .any, .any, .any, .any, .any, .any, .any, .any, .any, .any, .any, .any, .any, .any, .any, .any, .any, .any, .any, .any, .any, .any, .any, .any, .any, .any, .any, .any, .any, .any]

def script_Line_H1003021 (s : T_script_Step) (y5 : (List (List UInt8))) (y8 : (List UInt8)) (yC7_8 : (List UInt8)) (yC7_10 : (List UInt8))  : Heap := [some (.gr 1 ((([(y5.getD (s.f_Kind).toNat default), y8] : List (List UInt8)) ++ ([yC7_8, ([99, 117, 116] : List UInt8), yC7_10] : List (List UInt8)))).length (rowF cStr default (([(y5.getD (s.f_Kind).toNat default), y8] : List (List UInt8)) ++ ([yC7_8, ([99, 117, 116] : List UInt8), yC7_10] : List (List UInt8)))))]

def script_Line_T1004021 (s : T_script_Step) (y5 : (List (List UInt8))) (y8 : (List UInt8)) (yC7_8 : (List UInt8)) (yC7_10 : (List UInt8))  : List LV := [.any, .any, .any, .any, .gs 0 ((([(y5.getD (s.f_Kind).toNat default), y8] : List (List UInt8)) ++ ([yC7_8, ([119, 104, 111, 108, 101] : List UInt8), yC7_10] : List (List UInt8)))).length, .any, .any, .any, .any, .any, .any, .any, .any, .any, .any, .any, .any, .any, .any, .any, .any, .any, .any, .any, .any, .any, .any, .any, .any, .any, .any, .any, .any, .any, .any, .any, .any, .any, .any, .any, .any, .any, .any, .any, .any, .any, .any, .any, .any, .any, .any, .any, .any, .any, .any, .any, .any, .any, .any, .any, .any, .any, .any, .any, .any, .any, .any, .any, .any, .any, .any, .any]

def script_Line_H1004021 (s : T_script_Step) (y5 : (List (List UInt8))) (y8 : (List UInt8)) (yC7_8 : (List UInt8)) (yC7_10 : (List UInt8))  : Heap := [some (.gr 1 ((([(y5.getD (s.f_Kind).toNat default), y8] : List (List UInt8)) ++ ([yC7_8, ([119, 104, 111, 108, 101] : List UInt8), yC7_10] : List (List UInt8)))).length (rowF cStr default (([(y5.getD (s.f_Kind).toNat default), y8] : List (List UInt8)) ++ ([yC7_8, ([119, 104, 111, 108, 101] : List UInt8), yC7_10] : List (List UInt8)))))]

def script_Line_T1000021 (s : T_script_Step) (y5 : (List (List UInt8))) (y8 : (List UInt8)) (yC7_4 : (List UInt8))  : List LV := [.any, .any, .any, .any, .gs 0 ((([(y5.getD (s.f_Kind).toNat default), y8] : List (List UInt8)).set 1 yC7_4)).length, .any, .any, .any, .any, .any, .any, .any, .any, .any, .any, .any, .any, .any, .any, .any, .any, .any, .any, .any, .any, .any, .any, .any, .any, .any, .any, .any, .any, .any, .any, .any, .any, .any, .any, .any, .any, .any, .any, .any, .any, .any, .any, .any, .any, .any, .any, .any, .any, .any, .any, .any, .any, .any, .any, .any, .any, .any, .any, .any, .any, .any, .any, .any, .any, .any, .any, .any]

def script_Line_H1000021 (s : T_script_Step) (y5 : (List (List UInt8))) (y8 : (List UInt8)) (yC7_4 : (List UInt8))  : Heap := [some (.gr 1 ((([(y5.getD (s.f_Kind).toNat default), y8] : List (List UInt8)).set 1 yC7_4)).length (rowF cStr default (([(y5.getD (s.f_Kind).toNat default), y8] : List (List UInt8)).set 1 yC7_4)))]

def script_Line_T1001021 (s : T_script_Step) (y5 : (List (List UInt8))) (y8 : (List UInt8)) (yC7_5 : (List UInt8))  : List LV := [.any, .any, .any, .any, .gs 0 ((([(y5.getD (s.f_Kind).toNat default), y8] : List (List UInt8)).set 1 yC7_5)).length, .any, .any, .any, .any, .any, .any, .any, .any, .any, .any, .any, .any, .any, .any, .any, .any, .any, .any, .any, .any, .any, .any, .any, .any, .any, .any, .any, .any, .any, .any, .any, .any, .any, .any, .any, .any, .any, .any, .any, .any, .any, .any, .any, .any, .any, .any, .any, .any, .any, .any, .any, .any, .any, .any, .any, .any, .any, .any, .any, .any, .any, .any, .any, .any, .any, .any, .any]

def script_Line_H1001021 (s : T_script_Step) (y5 : (List (List UInt8))) (y8 : (List UInt8)) (yC7_5 : (List UInt8))  : Heap := [some (.gr 1 ((([(y5.getD (s.f_Kind).toNat default), y8] : List (List UInt8)).set 1 yC7_5)).length (rowF cStr default (([(y5.getD (s.f_Kind).toNat default), y8] : List (List UInt8)).set 1 yC7_5)))]

def script_Line_T1000007 (s : T_script_Step) (y5 : (List (List UInt8))) (y8 : (List UInt8))  : List LV := [.any, .ptr 0 0 0, .any, .any, .gs 1 (([(y5.getD (s.f_Kind).toNat default), y8] : List (List UInt8))).length, .any, .any, .any, .any, .any, .any, .any, .any, .any, .any, .any, .any, .any, .any, .int .u8 s.f_Kind, .any, .any, .any, .any, .any, .any, .any, .any, .any, .any, .any, .any, .any, .any, .any, .any, .any, .any, .any, .any, .any, .any, .any, .any, .any, .any, .any, .any, .any, .any, .any, .any, .any, .any, .any, .any, .any, .any, .any, .any, .any, .any, .any, .any, .any, .any, .any, .any, .any, .any, .any, .any]

def script_Line_H1000007 (s : T_script_Step) (y5 : (List (List UInt8))) (y8 : (List UInt8))  : Heap := [some (.var (c_T_script_Step s)), some (.gr 1 (([(y5.getD (s.f_Kind).toNat default), y8] : List (List UInt8))).length (rowF cStr default ([(y5.getD (s.f_Kind).toNat default), y8] : List (List UInt8))))]

def script_Line_c6 (s : T_script_Step) (y5 : (List (List UInt8))) (y8 : (List UInt8))   : Option ((List UInt8) × (Int)) :=
  (script_words s.f_Call).bind fun yC6_2 =>
  if ((([(y5.getD (s.f_Kind).toNat default), y8] : List (List UInt8))).length + (yC6_2).length) * 16 ≤ 140737488351232 then
  if ((([(y5.getD (s.f_Kind).toNat default), y8] : List (List UInt8)) ++ yC6_2)).length ≤ 140737488355328 ∧ (Lib.join (([(y5.getD (s.f_Kind).toNat default), y8] : List (List UInt8)) ++ yC6_2) ([32] : List UInt8)).length ≤ 140737488355328 then
  some ((Lib.join (([(y5.getD (s.f_Kind).toNat default), y8] : List (List UInt8)) ++ yC6_2) ([32] : List UInt8)), 0)
  else none
  else none

def script_Line_c5021 (s : T_script_Step) (y5 : (List (List UInt8))) (y8 : (List UInt8)) (yC7_8 : (List UInt8))   : Option ((List UInt8) × (Int)) :=
  if ((([(y5.getD (s.f_Kind).toNat default), y8] : List (List UInt8)) ++ ([yC7_8] : List (List UInt8)))).length ≤ 140737488355328 ∧ (Lib.join (([(y5.getD (s.f_Kind).toNat default), y8] : List (List UInt8)) ++ ([yC7_8] : List (List UInt8))) ([32] : List UInt8)).length ≤ 140737488355328 then
  some ((Lib.join (([(y5.getD (s.f_Kind).toNat default), y8] : List (List UInt8)) ++ ([yC7_8] : List (List UInt8))) ([32] : List UInt8)), 0)
  else none

def script_Line_c2021 (s : T_script_Step) (y5 : (List (List UInt8))) (y8 : (List UInt8)) (yC7_6 : (List UInt8))   : Option ((List UInt8) × (Int)) :=
  if ((([(y5.getD (s.f_Kind).toNat default), y8] : List (List UInt8)).set 1 yC7_6)).length ≤ 140737488355328 ∧ (Lib.join (([(y5.getD (s.f_Kind).toNat default), y8] : List (List UInt8)).set 1 yC7_6) ([32] : List UInt8)).length ≤ 140737488355328 then
  some ((Lib.join (([(y5.getD (s.f_Kind).toNat default), y8] : List (List UInt8)).set 1 yC7_6) ([32] : List UInt8)), 0)
  else none

def script_Line_c6021 (s : T_script_Step) (y5 : (List (List UInt8))) (y8 : (List UInt8)) (yC7_9 : (List UInt8)) (yC7_11 : (List UInt8))   : Option ((List UInt8) × (Int)) :=
  if ((([(y5.getD (s.f_Kind).toNat default), y8] : List (List UInt8)) ++ ([yC7_9, yC7_11] : List (List UInt8)))).length ≤ 140737488355328 ∧ (Lib.join (([(y5.getD (s.f_Kind).toNat default), y8] : List (List UInt8)) ++ ([yC7_9, yC7_11] : List (List UInt8))) ([32] : List UInt8)).length ≤ 140737488355328 then
  some ((Lib.join (([(y5.getD (s.f_Kind).toNat default), y8] : List (List UInt8)) ++ ([yC7_9, yC7_11] : List (List UInt8))) ([32] : List UInt8)), 0)
  else none

def script_Line_c3021 (s : T_script_Step) (y5 : (List (List UInt8))) (y8 : (List UInt8)) (yC7_8 : (List UInt8)) (yC7_10 : (List UInt8))   : Option ((List UInt8) × (Int)) :=
  if ((([(y5.getD (s.f_Kind).toNat default), y8] : List (List UInt8)) ++ ([yC7_8, ([99, 117, 116] : List UInt8), yC7_10] : List (List UInt8)))).length ≤ 140737488355328 ∧ (Lib.join (([(y5.getD (s.f_Kind).toNat default), y8] : List (List UInt8)) ++ ([yC7_8, ([99, 117, 116] : List UInt8), yC7_10] : List (List UInt8))) ([32] : List UInt8)).length ≤ 140737488355328 then
  some ((Lib.join (([(y5.getD (s.f_Kind).toNat default), y8] : List (List UInt8)) ++ ([yC7_8, ([99, 117, 116] : List UInt8), yC7_10] : List (List UInt8))) ([32] : List UInt8)), 0)
  else none

def script_Line_c4021 (s : T_script_Step) (y5 : (List (List UInt8))) (y8 : (List UInt8)) (yC7_8 : (List UInt8)) (yC7_10 : (List UInt8))   : Option ((List UInt8) × (Int)) :=
  if ((([(y5.getD (s.f_Kind).toNat default), y8] : List (List UInt8)) ++ ([yC7_8, ([119, 104, 111, 108, 101] : List UInt8), yC7_10] : List (List UInt8)))).length ≤ 140737488355328 ∧ (Lib.join (([(y5.getD (s.f_Kind).toNat default), y8] : List (List UInt8)) ++ ([yC7_8, ([119, 104, 111, 108, 101] : List UInt8), yC7_10] : List (List UInt8))) ([32] : List UInt8)).length ≤ 140737488355328 then
  some ((Lib.join (([(y5.getD (s.f_Kind).toNat default), y8] : List (List UInt8)) ++ ([yC7_8, ([119, 104, 111, 108, 101] : List UInt8), yC7_10] : List (List UInt8))) ([32] : List UInt8)), 0)
  else none

def script_Line_c21 (s : T_script_Step) (y5 : (List (List UInt8))) (y8 : (List UInt8)) (yC7_4 : (List UInt8))   : Option ((List UInt8) × (Int)) :=
  if ((([(y5.getD (s.f_Kind).toNat default), y8] : List (List UInt8)).set 1 yC7_4)).length ≤ 140737488355328 ∧ (Lib.join (([(y5.getD (s.f_Kind).toNat default), y8] : List (List UInt8)).set 1 yC7_4) ([32] : List UInt8)).length ≤ 140737488355328 then
  some ((Lib.join (([(y5.getD (s.f_Kind).toNat default), y8] : List (List UInt8)).set 1 yC7_4) ([32] : List UInt8)), 0)
  else none

def script_Line_c1021 (s : T_script_Step) (y5 : (List (List UInt8))) (y8 : (List UInt8)) (yC7_5 : (List UInt8))   : Option ((List UInt8) × (Int)) :=
  if ((([(y5.getD (s.f_Kind).toNat default), y8] : List (List UInt8)).set 1 yC7_5)).length ≤ 140737488355328 ∧ (Lib.join (([(y5.getD (s.f_Kind).toNat default), y8] : List (List UInt8)).set 1 yC7_5) ([32] : List UInt8)).length ≤ 140737488355328 then
  some ((Lib.join (([(y5.getD (s.f_Kind).toNat default), y8] : List (List UInt8)).set 1 yC7_5) ([32] : List UInt8)), 0)
  else none

def script_Line_c7 (s : T_script_Step) (y5 : (List (List UInt8))) (y8 : (List UInt8))   : Option ((List UInt8) × (Int)) :=
  if ((s.f_Kind == 2) : Bool) then
    (script_digits s.f_Wire).bind fun yC7_3 =>
    if 0 ≤ (1 : Int) ∧ (1 : Int) < (((([(y5.getD (s.f_Kind).toNat default), y8] : List (List UInt8))).length : Nat) : Int) then
    if ((([(y5.getD (s.f_Kind).toNat default), y8] : List (List UInt8)).set 1 yC7_3)).length ≤ 140737488355328 ∧ (Lib.join (([(y5.getD (s.f_Kind).toNat default), y8] : List (List UInt8)).set 1 yC7_3) ([32] : List UInt8)).length ≤ 140737488355328 then
    some ((Lib.join (([(y5.getD (s.f_Kind).toNat default), y8] : List (List UInt8)).set 1 yC7_3) ([32] : List UInt8)), 0)
    else none
    else none
  else
    if ((s.f_Kind == 3) : Bool) then
      (script_digits s.f_Wire).bind fun yC7_4 =>
      if 0 ≤ (1 : Int) ∧ (1 : Int) < (((([(y5.getD (s.f_Kind).toNat default), y8] : List (List UInt8))).length : Nat) : Int) then
      script_Line_c21 s y5 y8 yC7_4  
      else none
    else
      if ((s.f_Kind == 4) : Bool) then
        (script_digits s.f_Wire).bind fun yC7_5 =>
        if 0 ≤ (1 : Int) ∧ (1 : Int) < (((([(y5.getD (s.f_Kind).toNat default), y8] : List (List UInt8))).length : Nat) : Int) then
        script_Line_c1021 s y5 y8 yC7_5  
        else none
      else
        if ((s.f_Kind == 5) : Bool) then
          (script_digits s.f_Wire).bind fun yC7_6 =>
          if 0 ≤ (1 : Int) ∧ (1 : Int) < (((([(y5.getD (s.f_Kind).toNat default), y8] : List (List UInt8))).length : Nat) : Int) then
          script_Line_c2021 s y5 y8 yC7_6  
          else none
        else
          if ((s.f_Kind == 8) : Bool) then
            if (s.f_Cut : Bool) then
              (script_digits s.f_N).bind fun yC7_8 =>
              (script_hex_byte s.f_Bytes).bind fun yC7_10 =>
              if ((([(y5.getD (s.f_Kind).toNat default), y8] : List (List UInt8))).length + (([yC7_8, ([99, 117, 116] : List UInt8), yC7_10] : List (List UInt8))).length) * 16 ≤ 140737488351232 then
              script_Line_c3021 s y5 y8 yC7_8 yC7_10  
              else none
            else
              (script_digits s.f_N).bind fun yC7_8 =>
              (script_hex_byte s.f_Bytes).bind fun yC7_10 =>
              if ((([(y5.getD (s.f_Kind).toNat default), y8] : List (List UInt8))).length + (([yC7_8, ([119, 104, 111, 108, 101] : List UInt8), yC7_10] : List (List UInt8))).length) * 16 ≤ 140737488351232 then
              script_Line_c4021 s y5 y8 yC7_8 yC7_10  
              else none
          else
            if ((s.f_Kind == 9) : Bool) then
              (script_digits s.f_N).bind fun yC7_8 =>
              if ((([(y5.getD (s.f_Kind).toNat default), y8] : List (List UInt8))).length + (([yC7_8] : List (List UInt8))).length) * 16 ≤ 140737488351232 then
              script_Line_c5021 s y5 y8 yC7_8  
              else none
            else
              if ((s.f_Kind == 10) : Bool) then
                (script_digits s.f_To).bind fun yC7_9 =>
                (script_hex_byte s.f_Bytes).bind fun yC7_11 =>
                if ((([(y5.getD (s.f_Kind).toNat default), y8] : List (List UInt8))).length + (([yC7_9, yC7_11] : List (List UInt8))).length) * 16 ≤ 140737488351232 then
                script_Line_c6021 s y5 y8 yC7_9 yC7_11  
                else none
              else
                if (([(y5.getD (s.f_Kind).toNat default), y8] : List (List UInt8))).length ≤ 140737488355328 ∧ (Lib.join ([(y5.getD (s.f_Kind).toNat default), y8] : List (List UInt8)) ([32] : List UInt8)).length ≤ 140737488355328 then
                some ((Lib.join ([(y5.getD (s.f_Kind).toNat default), y8] : List (List UInt8)) ([32] : List UInt8)), 0)
                else none

def script_Line (s : T_script_Step) : Option ((List UInt8) × (Int)) :=
  (script_May s).bind fun y2 =>
  if ((!y2) : Bool) then
    some ([], 1)
  else
    (script_verbs).bind fun y5 =>
    if 0 ≤ s.f_Kind ∧ s.f_Kind < (((y5).length : Nat) : Int) then
    (script_digits s.f_Node).bind fun y8 =>
    if ((s.f_Kind == 1) : Bool) then
      script_Line_c6 s y5 y8  
    else
      script_Line_c7 s y5 y8  
    else none

theorem script_Line_c6_ok {w0 : World} {W : Nat → Prop} {μ0 : Emb} (hμ : ∀ c p, μ0 c = some p → c < 0) (s : T_script_Step) (y5 : (List (List UInt8))) (y8 : (List UInt8))   (r : (List UInt8) × (Int)) (h : script_Line_c6 s y5 y8   = some r) : kont Tryd.prog w0 W μ0 (FnPost Tryd.prog Tryd.f9 0 0 (script_Line_v r) []) (kAtR (bodyOf Tryd.f9) 6) none (script_Line_T1000006 s y5 y8 ) (script_Line_H1000006 s y5 y8 ) := by
  unfold script_Line_c6 at h
  obtain ⟨yC6_2, eC6_1, h⟩ := bind_some h
  obtain ⟨gC6_3, h⟩ := guard_some h
  obtain ⟨gC6_4, h⟩ := guard_some h
  obtain rfl := Option.some.inj h
  exact run_ret mixed (L := []) (n := 16) (s := [.reg [(3, hC (script_words_v yC6_2)), (4, { app := 3, os := [(2, .gr 1 ((([(y5.getD (s.f_Kind).toNat default), y8] : List (List UInt8)) ++ yC6_2)).length (rowF cStr default (([(y5.getD (s.f_Kind).toNat default), y8] : List (List UInt8)) ++ yC6_2)))], v := some (.gs 2 ((([(y5.getD (s.f_Kind).toNat default), y8] : List (List UInt8)) ++ yC6_2)).length) })], .frz 2, .reg [(1, hC (.str (Lib.join (([(y5.getD (s.f_Kind).toNat default), y8] : List (List UInt8)) ++ yC6_2) ([32] : List UInt8))))]])
    (a_ (a_ (r2_ (m_ 23 25 rfl (c_ (script_words_tri s.f_Call yC6_2 eC6_1) (a_ (a_ (a_ (Eq.refl 1) (a_ (a_ (lt_ 0 1 rfl) (a_ (lt_ 0 16 rfl) (a_ gC6_3 (a_ (Eq.refl 1) (Eq.refl true))))) (a_ (Eq.refl 1) (Nat.le_refl (([(y5.getD (s.f_Kind).toNat default), y8] : List (List UInt8))).length)))) (a_ (le_gs_app 2 ([(y5.getD (s.f_Kind).toNat default), y8] : List (List UInt8)) yC6_2) (a_ (sub_app cStr default 1 ([(y5.getD (s.f_Kind).toNat default), y8] : List (List UInt8)) yC6_2) tr))) (r1_ tr))))) (a_ (a_ (fz_row (enc := cStr) (d := default) (fun _ => rfl) (([(y5.getD (s.f_Kind).toNat default), y8] : List (List UInt8)) ++ yC6_2)) (a_ (Nat.le_refl ((([(y5.getD (s.f_Kind).toNat default), y8] : List (List UInt8)) ++ yC6_2)).length) (a_ (Nat.le_refl ((([(y5.getD (s.f_Kind).toNat default), y8] : List (List UInt8)) ++ yC6_2)).length) tr))) (a_ (r1_ (a_ (a_ (a_ (jn23_join (([(y5.getD (s.f_Kind).toNat default), y8] : List (List UInt8)) ++ yC6_2) ([32] : List UInt8) gC6_4) tr) tr) (r2_ tr))) tr))) tr) (by kernel_rfl) rfl

theorem script_Line_c5021_ok {w0 : World} {W : Nat → Prop} {μ0 : Emb} (hμ : ∀ c p, μ0 c = some p → c < 0) (s : T_script_Step) (y5 : (List (List UInt8))) (y8 : (List UInt8)) (yC7_8 : (List UInt8))   (r : (List UInt8) × (Int)) (h : script_Line_c5021 s y5 y8 yC7_8   = some r) : kont Tryd.prog w0 W μ0 (FnPost Tryd.prog Tryd.f9 0 0 (script_Line_v r) []) (kAtR (bodyOf Tryd.f9) 21) none (script_Line_T1005021 s y5 y8 yC7_8 ) (script_Line_H1005021 s y5 y8 yC7_8 ) := by
  unfold script_Line_c5021 at h
  obtain ⟨gC5021_1, h⟩ := guard_some h
  obtain rfl := Option.some.inj h
  exact run_ret mixed (L := []) (n := 12) (s := [.frz 0, .reg [(1, hC (.str (Lib.join (([(y5.getD (s.f_Kind).toNat default), y8] : List (List UInt8)) ++ ([yC7_8] : List (List UInt8))) ([32] : List UInt8))))]])
    (a_ (a_ (a_ (fz_row (enc := cStr) (d := default) (fun _ => rfl) (([(y5.getD (s.f_Kind).toNat default), y8] : List (List UInt8)) ++ ([yC7_8] : List (List UInt8)))) (a_ (Nat.le_refl ((([(y5.getD (s.f_Kind).toNat default), y8] : List (List UInt8)) ++ ([yC7_8] : List (List UInt8)))).length) tr)) (a_ (r1_ (a_ (a_ (a_ (jn23_join (([(y5.getD (s.f_Kind).toNat default), y8] : List (List UInt8)) ++ ([yC7_8] : List (List UInt8))) ([32] : List UInt8) gC5021_1) tr) tr) (r2_ tr))) tr)) tr) (by kernel_rfl) rfl

theorem script_Line_c2021_ok {w0 : World} {W : Nat → Prop} {μ0 : Emb} (hμ : ∀ c p, μ0 c = some p → c < 0) (s : T_script_Step) (y5 : (List (List UInt8))) (y8 : (List UInt8)) (yC7_6 : (List UInt8))   (r : (List UInt8) × (Int)) (h : script_Line_c2021 s y5 y8 yC7_6   = some r) : kont Tryd.prog w0 W μ0 (FnPost Tryd.prog Tryd.f9 0 0 (script_Line_v r) []) (kAtR (bodyOf Tryd.f9) 21) none (script_Line_T1002021 s y5 y8 yC7_6 ) (script_Line_H1002021 s y5 y8 yC7_6 ) := by
  unfold script_Line_c2021 at h
  obtain ⟨gC2021_1, h⟩ := guard_some h
  obtain rfl := Option.some.inj h
  exact run_ret mixed (L := []) (n := 12) (s := [.frz 0, .reg [(1, hC (.str (Lib.join (([(y5.getD (s.f_Kind).toNat default), y8] : List (List UInt8)).set 1 yC7_6) ([32] : List UInt8))))]])
    (a_ (a_ (a_ (fz_row (enc := cStr) (d := default) (fun _ => rfl) (([(y5.getD (s.f_Kind).toNat default), y8] : List (List UInt8)).set 1 yC7_6)) (a_ (Nat.le_refl ((([(y5.getD (s.f_Kind).toNat default), y8] : List (List UInt8)).set 1 yC7_6)).length) tr)) (a_ (r1_ (a_ (a_ (a_ (jn23_join (([(y5.getD (s.f_Kind).toNat default), y8] : List (List UInt8)).set 1 yC7_6) ([32] : List UInt8) gC2021_1) tr) tr) (r2_ tr))) tr)) tr) (by kernel_rfl) rfl

theorem script_Line_c6021_ok {w0 : World} {W : Nat → Prop} {μ0 : Emb} (hμ : ∀ c p, μ0 c = some p → c < 0) (s : T_script_Step) (y5 : (List (List UInt8))) (y8 : (List UInt8)) (yC7_9 : (List UInt8)) (yC7_11 : (List UInt8))   (r : (List UInt8) × (Int)) (h : script_Line_c6021 s y5 y8 yC7_9 yC7_11   = some r) : kont Tryd.prog w0 W μ0 (FnPost Tryd.prog Tryd.f9 0 0 (script_Line_v r) []) (kAtR (bodyOf Tryd.f9) 21) none (script_Line_T1006021 s y5 y8 yC7_9 yC7_11 ) (script_Line_H1006021 s y5 y8 yC7_9 yC7_11 ) := by
  unfold script_Line_c6021 at h
  obtain ⟨gC6021_1, h⟩ := guard_some h
  obtain rfl := Option.some.inj h
  exact run_ret mixed (L := []) (n := 12) (s := [.frz 0, .reg [(1, hC (.str (Lib.join (([(y5.getD (s.f_Kind).toNat default), y8] : List (List UInt8)) ++ ([yC7_9, yC7_11] : List (List UInt8))) ([32] : List UInt8))))]])
    (a_ (a_ (a_ (fz_row (enc := cStr) (d := default) (fun _ => rfl) (([(y5.getD (s.f_Kind).toNat default), y8] : List (List UInt8)) ++ ([yC7_9, yC7_11] : List (List UInt8)))) (a_ (Nat.le_refl ((([(y5.getD (s.f_Kind).toNat default), y8] : List (List UInt8)) ++ ([yC7_9, yC7_11] : List (List UInt8)))).length) tr)) (a_ (r1_ (a_ (a_ (a_ (jn23_join (([(y5.getD (s.f_Kind).toNat default), y8] : List (List UInt8)) ++ ([yC7_9, yC7_11] : List (List UInt8))) ([32] : List UInt8) gC6021_1) tr) tr) (r2_ tr))) tr)) tr) (by kernel_rfl) rfl

theorem script_Line_c3021_ok {w0 : World} {W : Nat → Prop} {μ0 : Emb} (hμ : ∀ c p, μ0 c = some p → c < 0) (s : T_script_Step) (y5 : (List (List UInt8))) (y8 : (List UInt8)) (yC7_8 : (List UInt8)) (yC7_10 : (List UInt8))   (r : (List UInt8) × (Int)) (h : script_Line_c3021 s y5 y8 yC7_8 yC7_10   = some r) : kont Tryd.prog w0 W μ0 (FnPost Tryd.prog Tryd.f9 0 0 (script_Line_v r) []) (kAtR (bodyOf Tryd.f9) 21) none (script_Line_T1003021 s y5 y8 yC7_8 yC7_10 ) (script_Line_H1003021 s y5 y8 yC7_8 yC7_10 ) := by
  unfold script_Line_c3021 at h
  obtain ⟨gC3021_1, h⟩ := guard_some h
  obtain rfl := Option.some.inj h
  exact run_ret mixed (L := []) (n := 12) (s := [.frz 0, .reg [(1, hC (.str (Lib.join (([(y5.getD (s.f_Kind).toNat default), y8] : List (List UInt8)) ++ ([yC7_8, ([99, 117, 116] : List UInt8), yC7_10] : List (List UInt8))) ([32] : List UInt8))))]])
    (a_ (a_ (a_ (fz_row (enc := cStr) (d := default) (fun _ => rfl) (([(y5.getD (s.f_Kind).toNat default), y8] : List (List UInt8)) ++ ([yC7_8, ([99, 117, 116] : List UInt8), yC7_10] : List (List UInt8)))) (a_ (Nat.le_refl ((([(y5.getD (s.f_Kind).toNat default), y8] : List (List UInt8)) ++ ([yC7_8, ([99, 117, 116] : List UInt8), yC7_10] : List (List UInt8)))).length) tr)) (a_ (r1_ (a_ (a_ (a_ (jn23_join (([(y5.getD (s.f_Kind).toNat default), y8] : List (List UInt8)) ++ ([yC7_8, ([99, 117, 116] : List UInt8), yC7_10] : List (List UInt8))) ([32] : List UInt8) gC3021_1) tr) tr) (r2_ tr))) tr)) tr) (by kernel_rfl) rfl

theorem script_Line_c4021_ok {w0 : World} {W : Nat → Prop} {μ0 : Emb} (hμ : ∀ c p, μ0 c = some p → c < 0) (s : T_script_Step) (y5 : (List (List UInt8))) (y8 : (List UInt8)) (yC7_8 : (List UInt8)) (yC7_10 : (List UInt8))   (r : (List UInt8) × (Int)) (h : script_Line_c4021 s y5 y8 yC7_8 yC7_10   = some r) : kont Tryd.prog w0 W μ0 (FnPost Tryd.prog Tryd.f9 0 0 (script_Line_v r) []) (kAtR (bodyOf Tryd.f9) 21) none (script_Line_T1004021 s y5 y8 yC7_8 yC7_10 ) (script_Line_H1004021 s y5 y8 yC7_8 yC7_10 ) := by
  unfold script_Line_c4021 at h
  obtain ⟨gC4021_1, h⟩ := guard_some h
  obtain rfl := Option.some.inj h
  exact run_ret mixed (L := []) (n := 12) (s := [.frz 0, .reg [(1, hC (.str (Lib.join (([(y5.getD (s.f_Kind).toNat default), y8] : List (List UInt8)) ++ ([yC7_8, ([119, 104, 111, 108, 101] : List UInt8), yC7_10] : List (List UInt8))) ([32] : List UInt8))))]])
    (a_ (a_ (a_ (fz_row (enc := cStr) (d := default) (fun _ => rfl) (([(y5.getD (s.f_Kind).toNat default), y8] : List (List UInt8)) ++ ([yC7_8, ([119, 104, 111, 108, 101] : List UInt8), yC7_10] : List (List UInt8)))) (a_ (Nat.le_refl ((([(y5.getD (s.f_Kind).toNat default), y8] : List (List UInt8)) ++ ([yC7_8, ([119, 104, 111, 108, 101] : List UInt8), yC7_10] : List (List UInt8)))).length) tr)) (a_ (r1_ (a_ (a_ (a_ (jn23_join (([(y5.getD (s.f_Kind).toNat default), y8] : List (List UInt8)) ++ ([yC7_8, ([119, 104, 111, 108, 101] : List UInt8), yC7_10] : List (List UInt8))) ([32] : List UInt8) gC4021_1) tr) tr) (r2_ tr))) tr)) tr) (by kernel_rfl) rfl

theorem script_Line_c21_ok {w0 : World} {W : Nat → Prop} {μ0 : Emb} (hμ : ∀ c p, μ0 c = some p → c < 0) (s : T_script_Step) (y5 : (List (List UInt8))) (y8 : (List UInt8)) (yC7_4 : (List UInt8))   (r : (List UInt8) × (Int)) (h : script_Line_c21 s y5 y8 yC7_4   = some r) : kont Tryd.prog w0 W μ0 (FnPost Tryd.prog Tryd.f9 0 0 (script_Line_v r) []) (kAtR (bodyOf Tryd.f9) 21) none (script_Line_T1000021 s y5 y8 yC7_4 ) (script_Line_H1000021 s y5 y8 yC7_4 ) := by
  unfold script_Line_c21 at h
  obtain ⟨gC21_1, h⟩ := guard_some h
  obtain rfl := Option.some.inj h
  exact run_ret mixed (L := []) (n := 12) (s := [.frz 0, .reg [(1, hC (.str (Lib.join (([(y5.getD (s.f_Kind).toNat default), y8] : List (List UInt8)).set 1 yC7_4) ([32] : List UInt8))))]])
    (a_ (a_ (a_ (fz_row (enc := cStr) (d := default) (fun _ => rfl) (([(y5.getD (s.f_Kind).toNat default), y8] : List (List UInt8)).set 1 yC7_4)) (a_ (Nat.le_refl ((([(y5.getD (s.f_Kind).toNat default), y8] : List (List UInt8)).set 1 yC7_4)).length) tr)) (a_ (r1_ (a_ (a_ (a_ (jn23_join (([(y5.getD (s.f_Kind).toNat default), y8] : List (List UInt8)).set 1 yC7_4) ([32] : List UInt8) gC21_1) tr) tr) (r2_ tr))) tr)) tr) (by kernel_rfl) rfl

theorem script_Line_c1021_ok {w0 : World} {W : Nat → Prop} {μ0 : Emb} (hμ : ∀ c p, μ0 c = some p → c < 0) (s : T_script_Step) (y5 : (List (List UInt8))) (y8 : (List UInt8)) (yC7_5 : (List UInt8))   (r : (List UInt8) × (Int)) (h : script_Line_c1021 s y5 y8 yC7_5   = some r) : kont Tryd.prog w0 W μ0 (FnPost Tryd.prog Tryd.f9 0 0 (script_Line_v r) []) (kAtR (bodyOf Tryd.f9) 21) none (script_Line_T1001021 s y5 y8 yC7_5 ) (script_Line_H1001021 s y5 y8 yC7_5 ) := by
  unfold script_Line_c1021 at h
  obtain ⟨gC1021_1, h⟩ := guard_some h
  obtain rfl := Option.some.inj h
  exact run_ret mixed (L := []) (n := 12) (s := [.frz 0, .reg [(1, hC (.str (Lib.join (([(y5.getD (s.f_Kind).toNat default), y8] : List (List UInt8)).set 1 yC7_5) ([32] : List UInt8))))]])
    (a_ (a_ (a_ (fz_row (enc := cStr) (d := default) (fun _ => rfl) (([(y5.getD (s.f_Kind).toNat default), y8] : List (List UInt8)).set 1 yC7_5)) (a_ (Nat.le_refl ((([(y5.getD (s.f_Kind).toNat default), y8] : List (List UInt8)).set 1 yC7_5)).length) tr)) (a_ (r1_ (a_ (a_ (a_ (jn23_join (([(y5.getD (s.f_Kind).toNat default), y8] : List (List UInt8)).set 1 yC7_5) ([32] : List UInt8) gC1021_1) tr) tr) (r2_ tr))) tr)) tr) (by kernel_rfl) rfl

theorem script_Line_c7_ok {w0 : World} {W : Nat → Prop} {μ0 : Emb} (hμ : ∀ c p, μ0 c = some p → c < 0) (s : T_script_Step) (y5 : (List (List UInt8))) (y8 : (List UInt8))   (r : (List UInt8) × (Int)) (h : script_Line_c7 s y5 y8   = some r) : kont Tryd.prog w0 W μ0 (FnPost Tryd.prog Tryd.f9 0 0 (script_Line_v r) []) (kAtR (bodyOf Tryd.f9) 7) none (script_Line_T1000007 s y5 y8 ) (script_Line_H1000007 s y5 y8 ) := by
  unfold script_Line_c7 at h
  rcases itb_some h with ⟨cC7_1, h⟩ | ⟨cC7_1, h⟩
  · skip
    obtain ⟨yC7_3, eC7_2, h⟩ := bind_some h
    obtain ⟨gC7_4, h⟩ := guard_some h
    obtain ⟨gC7_5, h⟩ := guard_some h
    obtain rfl := Option.some.inj h
    exact run_ret mixed (L := []) (n := 22) (s := [.reg [(1, hT)], .reg [(3, hC (script_digits_v yC7_3)), (5, { os := [(1, .gr 1 ((([(y5.getD (s.f_Kind).toNat default), y8] : List (List UInt8)).set 1 yC7_3)).length (rowF cStr default (([(y5.getD (s.f_Kind).toNat default), y8] : List (List UInt8)).set 1 yC7_3)))] })], .wk [(4, .gs 1 ((([(y5.getD (s.f_Kind).toNat default), y8] : List (List UInt8)).set 1 yC7_3)).length), (32, .gs 1 ((([(y5.getD (s.f_Kind).toNat default), y8] : List (List UInt8)).set 1 yC7_3)).length)] [], .frz 1, .reg [(1, hC (.str (Lib.join (([(y5.getD (s.f_Kind).toNat default), y8] : List (List UInt8)).set 1 yC7_3) ([32] : List UInt8))))]])
      (a_ (a_ (r1_ (f_ cC7_1 tr)) (a_ (r2_ (l_ 2 25 rfl (c_ (script_digits_tri s.f_Wire yC7_3 eC7_2) (a_ (a_ (a_ (Eq.refl 1) gC7_4) tr) (a_ (a_ (a_ (Eq.refl 1) (a_ (le_ 1 1 rfl) (ltN gC7_4))) (a_ (sub_set_gr cStr default 1 ([(y5.getD (s.f_Kind).toNat default), y8] : List (List UInt8)) 1 yC7_3 (ltN gC7_4) (splL (rowF cStr default ([(y5.getD (s.f_Kind).toNat default), y8] : List (List UInt8)) 1) 0 [.str yC7_3]) (by kernel_rfl)) tr)) tr))))) (a_ (a_ (a_ (le_gs 1 (show (([(y5.getD (s.f_Kind).toNat default), y8] : List (List UInt8))).length = ((([(y5.getD (s.f_Kind).toNat default), y8] : List (List UInt8)).set 1 yC7_3)).length from by simp)) (a_ (le_gs 1 (show (([(y5.getD (s.f_Kind).toNat default), y8] : List (List UInt8))).length = ((([(y5.getD (s.f_Kind).toNat default), y8] : List (List UInt8)).set 1 yC7_3)).length from by simp)) tr)) tr) (a_ (a_ (fz_row (enc := cStr) (d := default) (fun _ => rfl) (([(y5.getD (s.f_Kind).toNat default), y8] : List (List UInt8)).set 1 yC7_3)) (a_ (Nat.le_refl ((([(y5.getD (s.f_Kind).toNat default), y8] : List (List UInt8)).set 1 yC7_3)).length) (a_ (Nat.le_refl ((([(y5.getD (s.f_Kind).toNat default), y8] : List (List UInt8)).set 1 yC7_3)).length) tr))) (a_ (r1_ (a_ (a_ (a_ (jn23_join (([(y5.getD (s.f_Kind).toNat default), y8] : List (List UInt8)).set 1 yC7_3) ([32] : List UInt8) gC7_5) tr) tr) (r2_ tr))) tr))))) tr) (by kernel_rfl) rfl
  · skip
    rcases itb_some h with ⟨cC7_2, h⟩ | ⟨cC7_2, h⟩
    · skip
      obtain ⟨yC7_4, eC7_3, h⟩ := bind_some h
      obtain ⟨gC7_5, h⟩ := guard_some h
      exact run_to mixed hμ (L := [1]) (n := 23) (s := [.reg [(1, hF)], .reg [(1, hT)], .reg [(3, hC (script_digits_v yC7_4)), (5, { os := [(1, .gr 1 ((([(y5.getD (s.f_Kind).toNat default), y8] : List (List UInt8)).set 1 yC7_4)).length (rowF cStr default (([(y5.getD (s.f_Kind).toNat default), y8] : List (List UInt8)).set 1 yC7_4)))] })], .wk [(4, .gs 1 ((([(y5.getD (s.f_Kind).toNat default), y8] : List (List UInt8)).set 1 yC7_4)).length)] []])
        (a_ (r1_ (f_ cC7_1 tr)) (a_ (r1_ (f_ cC7_2 tr)) (a_ (r2_ (l_ 2 25 rfl (c_ (script_digits_tri s.f_Wire yC7_4 eC7_3) (a_ (a_ (a_ (Eq.refl 1) gC7_5) tr) (a_ (a_ (a_ (Eq.refl 1) (a_ (le_ 1 1 rfl) (ltN gC7_5))) (a_ (sub_set_gr cStr default 1 ([(y5.getD (s.f_Kind).toNat default), y8] : List (List UInt8)) 1 yC7_4 (ltN gC7_5) (splL (rowF cStr default ([(y5.getD (s.f_Kind).toNat default), y8] : List (List UInt8)) 1) 0 [.str yC7_4]) (by kernel_rfl)) tr)) tr))))) (a_ (a_ (a_ (le_gs 1 (show (([(y5.getD (s.f_Kind).toNat default), y8] : List (List UInt8))).length = ((([(y5.getD (s.f_Kind).toNat default), y8] : List (List UInt8)).set 1 yC7_4)).length from by simp)) tr) tr) tr)))) (script_Line_c21_ok hμ s y5 y8 yC7_4   r h) (by kernel_rfl) ⟨fun _ _ => rfl, trivial⟩
    · skip
      rcases itb_some h with ⟨cC7_3, h⟩ | ⟨cC7_3, h⟩
      · skip
        obtain ⟨yC7_5, eC7_4, h⟩ := bind_some h
        obtain ⟨gC7_6, h⟩ := guard_some h
        exact run_to mixed hμ (L := [1]) (n := 27) (s := [.reg [(1, hF)], .reg [(1, hF)], .reg [(1, hT)], .reg [(3, hC (script_digits_v yC7_5)), (5, { os := [(1, .gr 1 ((([(y5.getD (s.f_Kind).toNat default), y8] : List (List UInt8)).set 1 yC7_5)).length (rowF cStr default (([(y5.getD (s.f_Kind).toNat default), y8] : List (List UInt8)).set 1 yC7_5)))] })], .wk [(4, .gs 1 ((([(y5.getD (s.f_Kind).toNat default), y8] : List (List UInt8)).set 1 yC7_5)).length)] []])
          (a_ (r1_ (f_ cC7_1 tr)) (a_ (r1_ (f_ cC7_2 tr)) (a_ (r1_ (f_ cC7_3 tr)) (a_ (r2_ (l_ 2 25 rfl (c_ (script_digits_tri s.f_Wire yC7_5 eC7_4) (a_ (a_ (a_ (Eq.refl 1) gC7_6) tr) (a_ (a_ (a_ (Eq.refl 1) (a_ (le_ 1 1 rfl) (ltN gC7_6))) (a_ (sub_set_gr cStr default 1 ([(y5.getD (s.f_Kind).toNat default), y8] : List (List UInt8)) 1 yC7_5 (ltN gC7_6) (splL (rowF cStr default ([(y5.getD (s.f_Kind).toNat default), y8] : List (List UInt8)) 1) 0 [.str yC7_5]) (by kernel_rfl)) tr)) tr))))) (a_ (a_ (a_ (le_gs 1 (show (([(y5.getD (s.f_Kind).toNat default), y8] : List (List UInt8))).length = ((([(y5.getD (s.f_Kind).toNat default), y8] : List (List UInt8)).set 1 yC7_5)).length from by simp)) tr) tr) tr))))) (script_Line_c1021_ok hμ s y5 y8 yC7_5   r h) (by kernel_rfl) ⟨fun _ _ => rfl, trivial⟩
      · skip
        rcases itb_some h with ⟨cC7_4, h⟩ | ⟨cC7_4, h⟩
        · skip
          obtain ⟨yC7_6, eC7_5, h⟩ := bind_some h
          obtain ⟨gC7_7, h⟩ := guard_some h
          exact run_to mixed hμ (L := [1]) (n := 28) (s := [.reg [(1, hF)], .reg [(1, hF)], .reg [(1, hF)], .reg [(1, hT)], .reg [(3, hC (script_digits_v yC7_6)), (5, { os := [(1, .gr 1 ((([(y5.getD (s.f_Kind).toNat default), y8] : List (List UInt8)).set 1 yC7_6)).length (rowF cStr default (([(y5.getD (s.f_Kind).toNat default), y8] : List (List UInt8)).set 1 yC7_6)))] })], .wk [(4, .gs 1 ((([(y5.getD (s.f_Kind).toNat default), y8] : List (List UInt8)).set 1 yC7_6)).length)] []])
            (a_ (r1_ (f_ cC7_1 tr)) (a_ (r1_ (f_ cC7_2 tr)) (a_ (r1_ (f_ cC7_3 tr)) (a_ (r1_ (f_ cC7_4 tr)) (a_ (r2_ (l_ 2 25 rfl (c_ (script_digits_tri s.f_Wire yC7_6 eC7_5) (a_ (a_ (a_ (Eq.refl 1) gC7_7) tr) (a_ (a_ (a_ (Eq.refl 1) (a_ (le_ 1 1 rfl) (ltN gC7_7))) (a_ (sub_set_gr cStr default 1 ([(y5.getD (s.f_Kind).toNat default), y8] : List (List UInt8)) 1 yC7_6 (ltN gC7_7) (splL (rowF cStr default ([(y5.getD (s.f_Kind).toNat default), y8] : List (List UInt8)) 1) 0 [.str yC7_6]) (by kernel_rfl)) tr)) tr))))) (a_ (a_ (a_ (le_gs 1 (show (([(y5.getD (s.f_Kind).toNat default), y8] : List (List UInt8))).length = ((([(y5.getD (s.f_Kind).toNat default), y8] : List (List UInt8)).set 1 yC7_6)).length from by simp)) tr) tr) tr)))))) (script_Line_c2021_ok hμ s y5 y8 yC7_6   r h) (by kernel_rfl) ⟨fun _ _ => rfl, trivial⟩
        · skip
          rcases itb_some h with ⟨cC7_5, h⟩ | ⟨cC7_5, h⟩
          · skip
            rcases itb_some h with ⟨cC7_6, h⟩ | ⟨cC7_6, h⟩
            · skip
              obtain ⟨yC7_8, eC7_7, h⟩ := bind_some h
              obtain ⟨yC7_10, eC7_9, h⟩ := bind_some h
              obtain ⟨gC7_11, h⟩ := guard_some h
              exact run_to mixed hμ (L := [3]) (n := 41) (s := [.reg [(1, hF)], .reg [(1, hF)], .reg [(1, hF)], .reg [(1, hF)], .reg [(1, hT)], .reg [], .reg [(1, hT)], .reg [], .reg [(3, hC (script_digits_v yC7_8)), (7, hC (script_hex_byte_v yC7_10)), (8, { os := [(2, .gr 1 (([yC7_8, ([99, 117, 116] : List UInt8), yC7_10] : List (List UInt8))).length (rowF cStr default ([yC7_8, ([99, 117, 116] : List UInt8), yC7_10] : List (List UInt8))))], v := some (.gs 2 (([yC7_8, ([99, 117, 116] : List UInt8), yC7_10] : List (List UInt8))).length) }), (9, { app := 3, os := [(3, .gr 1 ((([(y5.getD (s.f_Kind).toNat default), y8] : List (List UInt8)) ++ ([yC7_8, ([99, 117, 116] : List UInt8), yC7_10] : List (List UInt8)))).length (rowF cStr default (([(y5.getD (s.f_Kind).toNat default), y8] : List (List UInt8)) ++ ([yC7_8, ([99, 117, 116] : List UInt8), yC7_10] : List (List UInt8)))))], v := some (.gs 3 ((([(y5.getD (s.f_Kind).toNat default), y8] : List (List UInt8)) ++ ([yC7_8, ([99, 117, 116] : List UInt8), yC7_10] : List (List UInt8)))).length) })]])
                (a_ (r1_ (f_ cC7_1 tr)) (a_ (r1_ (f_ cC7_2 tr)) (a_ (r1_ (f_ cC7_3 tr)) (a_ (r1_ (f_ cC7_4 tr)) (a_ (r1_ (f_ cC7_5 tr)) (a_ (r1_ tr) (a_ (r1_ (a_ (a_ (a_ tr (lt_ 4 25 rfl)) (a_ (leB cC7_6) tr)) tr)) (a_ (r1_ tr) (a_ (r2_ (l_ 3 25 rfl (c_ (script_digits_tri s.f_N yC7_8 eC7_7) (r2_ (l_ 24 25 rfl (c_ (script_hex_byte_tri s.f_Bytes yC7_10 eC7_9) (a_ (a_ (a_ (Eq.refl true) (a_ (Eq.refl 1) (a_ (lt_ 0 1 rfl) (le_ 3 16777216 rfl)))) (a_ (le_sl_gs 2 3 (some 3) rfl) (a_ (sub_lit cStr default 1 (fun _ => rfl) ([yC7_8, ([99, 117, 116] : List UInt8), yC7_10] : List (List UInt8))) tr))) (a_ (a_ (a_ (a_ (Eq.refl 1) (Nat.le_refl (([yC7_8, ([99, 117, 116] : List UInt8), yC7_10] : List (List UInt8))).length)) (a_ (a_ (lt_ 0 1 rfl) (a_ (lt_ 0 16 rfl) (a_ gC7_11 (a_ (Eq.refl 1) (Eq.refl true))))) (a_ (Eq.refl 1) (Nat.le_refl (([(y5.getD (s.f_Kind).toNat default), y8] : List (List UInt8))).length)))) (a_ (le_gs_app 3 ([(y5.getD (s.f_Kind).toNat default), y8] : List (List UInt8)) ([yC7_8, ([99, 117, 116] : List UInt8), yC7_10] : List (List UInt8))) (a_ (sub_app cStr default 1 ([(y5.getD (s.f_Kind).toNat default), y8] : List (List UInt8)) ([yC7_8, ([99, 117, 116] : List UInt8), yC7_10] : List (List UInt8))) tr))) (r1_ tr))))))))) tr))))))))) (script_Line_c3021_ok hμ s y5 y8 yC7_8 yC7_10   r h) (by kernel_rfl) ⟨fun _ _ => rfl, trivial⟩
            · skip
              obtain ⟨yC7_8, eC7_7, h⟩ := bind_some h
              obtain ⟨yC7_10, eC7_9, h⟩ := bind_some h
              obtain ⟨gC7_11, h⟩ := guard_some h
              exact run_to mixed hμ (L := [3]) (n := 40) (s := [.reg [(1, hF)], .reg [(1, hF)], .reg [(1, hF)], .reg [(1, hF)], .reg [(1, hT)], .reg [], .reg [(1, hF)], .reg [(3, hC (script_digits_v yC7_8)), (7, hC (script_hex_byte_v yC7_10)), (8, { os := [(2, .gr 1 (([yC7_8, ([119, 104, 111, 108, 101] : List UInt8), yC7_10] : List (List UInt8))).length (rowF cStr default ([yC7_8, ([119, 104, 111, 108, 101] : List UInt8), yC7_10] : List (List UInt8))))], v := some (.gs 2 (([yC7_8, ([119, 104, 111, 108, 101] : List UInt8), yC7_10] : List (List UInt8))).length) }), (9, { app := 3, os := [(3, .gr 1 ((([(y5.getD (s.f_Kind).toNat default), y8] : List (List UInt8)) ++ ([yC7_8, ([119, 104, 111, 108, 101] : List UInt8), yC7_10] : List (List UInt8)))).length (rowF cStr default (([(y5.getD (s.f_Kind).toNat default), y8] : List (List UInt8)) ++ ([yC7_8, ([119, 104, 111, 108, 101] : List UInt8), yC7_10] : List (List UInt8)))))], v := some (.gs 3 ((([(y5.getD (s.f_Kind).toNat default), y8] : List (List UInt8)) ++ ([yC7_8, ([119, 104, 111, 108, 101] : List UInt8), yC7_10] : List (List UInt8)))).length) })]])
                (a_ (r1_ (f_ cC7_1 tr)) (a_ (r1_ (f_ cC7_2 tr)) (a_ (r1_ (f_ cC7_3 tr)) (a_ (r1_ (f_ cC7_4 tr)) (a_ (r1_ (f_ cC7_5 tr)) (a_ (r1_ tr) (a_ (r1_ (a_ (a_ (a_ tr (lt_ 4 25 rfl)) (a_ (leB cC7_6) tr)) tr)) (a_ (r2_ (l_ 3 25 rfl (c_ (script_digits_tri s.f_N yC7_8 eC7_7) (r2_ (l_ 24 25 rfl (c_ (script_hex_byte_tri s.f_Bytes yC7_10 eC7_9) (a_ (a_ (a_ (Eq.refl true) (a_ (Eq.refl 1) (a_ (lt_ 0 1 rfl) (le_ 3 16777216 rfl)))) (a_ (le_sl_gs 2 3 (some 3) rfl) (a_ (sub_lit cStr default 1 (fun _ => rfl) ([yC7_8, ([119, 104, 111, 108, 101] : List UInt8), yC7_10] : List (List UInt8))) tr))) (a_ (a_ (a_ (a_ (Eq.refl 1) (Nat.le_refl (([yC7_8, ([119, 104, 111, 108, 101] : List UInt8), yC7_10] : List (List UInt8))).length)) (a_ (a_ (lt_ 0 1 rfl) (a_ (lt_ 0 16 rfl) (a_ gC7_11 (a_ (Eq.refl 1) (Eq.refl true))))) (a_ (Eq.refl 1) (Nat.le_refl (([(y5.getD (s.f_Kind).toNat default), y8] : List (List UInt8))).length)))) (a_ (le_gs_app 3 ([(y5.getD (s.f_Kind).toNat default), y8] : List (List UInt8)) ([yC7_8, ([119, 104, 111, 108, 101] : List UInt8), yC7_10] : List (List UInt8))) (a_ (sub_app cStr default 1 ([(y5.getD (s.f_Kind).toNat default), y8] : List (List UInt8)) ([yC7_8, ([119, 104, 111, 108, 101] : List UInt8), yC7_10] : List (List UInt8))) tr))) (r1_ tr))))))))) tr)))))))) (script_Line_c4021_ok hμ s y5 y8 yC7_8 yC7_10   r h) (by kernel_rfl) ⟨fun _ _ => rfl, trivial⟩
          · skip
            rcases itb_some h with ⟨cC7_6, h⟩ | ⟨cC7_6, h⟩
            · skip
              obtain ⟨yC7_8, eC7_7, h⟩ := bind_some h
              obtain ⟨gC7_9, h⟩ := guard_some h
              exact run_to mixed hμ (L := [3]) (n := 35) (s := [.reg [(1, hF)], .reg [(1, hF)], .reg [(1, hF)], .reg [(1, hF)], .reg [(1, hF)], .reg [(1, hT)], .reg [(3, hC (script_digits_v yC7_8)), (4, { os := [(2, .gr 1 (([yC7_8] : List (List UInt8))).length (rowF cStr default ([yC7_8] : List (List UInt8))))], v := some (.gs 2 (([yC7_8] : List (List UInt8))).length) }), (5, { app := 3, os := [(3, .gr 1 ((([(y5.getD (s.f_Kind).toNat default), y8] : List (List UInt8)) ++ ([yC7_8] : List (List UInt8)))).length (rowF cStr default (([(y5.getD (s.f_Kind).toNat default), y8] : List (List UInt8)) ++ ([yC7_8] : List (List UInt8)))))], v := some (.gs 3 ((([(y5.getD (s.f_Kind).toNat default), y8] : List (List UInt8)) ++ ([yC7_8] : List (List UInt8)))).length) })]])
                (a_ (r1_ (f_ cC7_1 tr)) (a_ (r1_ (f_ cC7_2 tr)) (a_ (r1_ (f_ cC7_3 tr)) (a_ (r1_ (f_ cC7_4 tr)) (a_ (r1_ (f_ cC7_5 tr)) (a_ (r1_ (f_ cC7_6 tr)) (a_ (r2_ (l_ 3 25 rfl (c_ (script_digits_tri s.f_N yC7_8 eC7_7) (a_ (a_ (a_ (Eq.refl true) (a_ (Eq.refl 1) (a_ (lt_ 0 1 rfl) (le_ 1 16777216 rfl)))) (a_ (le_sl_gs 2 1 (some 1) rfl) (a_ (sub_lit cStr default 1 (fun _ => rfl) ([yC7_8] : List (List UInt8))) tr))) (a_ (a_ (a_ (a_ (Eq.refl 1) (Nat.le_refl (([yC7_8] : List (List UInt8))).length)) (a_ (a_ (lt_ 0 1 rfl) (a_ (lt_ 0 16 rfl) (a_ gC7_9 (a_ (Eq.refl 1) (Eq.refl true))))) (a_ (Eq.refl 1) (Nat.le_refl (([(y5.getD (s.f_Kind).toNat default), y8] : List (List UInt8))).length)))) (a_ (le_gs_app 3 ([(y5.getD (s.f_Kind).toNat default), y8] : List (List UInt8)) ([yC7_8] : List (List UInt8))) (a_ (sub_app cStr default 1 ([(y5.getD (s.f_Kind).toNat default), y8] : List (List UInt8)) ([yC7_8] : List (List UInt8))) tr))) (r1_ tr)))))) tr))))))) (script_Line_c5021_ok hμ s y5 y8 yC7_8   r h) (by kernel_rfl) ⟨fun _ _ => rfl, trivial⟩
            · skip
              rcases itb_some h with ⟨cC7_7, h⟩ | ⟨cC7_7, h⟩
              · skip
                obtain ⟨yC7_9, eC7_8, h⟩ := bind_some h
                obtain ⟨yC7_11, eC7_10, h⟩ := bind_some h
                obtain ⟨gC7_12, h⟩ := guard_some h
                exact run_to mixed hμ (L := [3]) (n := 39) (s := [.reg [(1, hF)], .reg [(1, hF)], .reg [(1, hF)], .reg [(1, hF)], .reg [(1, hF)], .reg [(1, hF)], .reg [(1, hT)], .reg [(3, hC (script_digits_v yC7_9)), (6, hC (script_hex_byte_v yC7_11)), (7, { os := [(2, .gr 1 (([yC7_9, yC7_11] : List (List UInt8))).length (rowF cStr default ([yC7_9, yC7_11] : List (List UInt8))))], v := some (.gs 2 (([yC7_9, yC7_11] : List (List UInt8))).length) }), (8, { app := 3, os := [(3, .gr 1 ((([(y5.getD (s.f_Kind).toNat default), y8] : List (List UInt8)) ++ ([yC7_9, yC7_11] : List (List UInt8)))).length (rowF cStr default (([(y5.getD (s.f_Kind).toNat default), y8] : List (List UInt8)) ++ ([yC7_9, yC7_11] : List (List UInt8)))))], v := some (.gs 3 ((([(y5.getD (s.f_Kind).toNat default), y8] : List (List UInt8)) ++ ([yC7_9, yC7_11] : List (List UInt8)))).length) })]])
                  (a_ (r1_ (f_ cC7_1 tr)) (a_ (r1_ (f_ cC7_2 tr)) (a_ (r1_ (f_ cC7_3 tr)) (a_ (r1_ (f_ cC7_4 tr)) (a_ (r1_ (f_ cC7_5 tr)) (a_ (r1_ (f_ cC7_6 tr)) (a_ (r1_ (f_ cC7_7 tr)) (a_ (r2_ (l_ 23 25 rfl (c_ (script_digits_tri s.f_To yC7_9 eC7_8) (r1_ (l_ 24 25 rfl (c_ (script_hex_byte_tri s.f_Bytes yC7_11 eC7_10) (a_ (a_ (a_ (Eq.refl true) (a_ (Eq.refl 1) (a_ (lt_ 0 1 rfl) (le_ 2 16777216 rfl)))) (a_ (le_sl_gs 2 2 (some 2) rfl) (a_ (sub_lit cStr default 1 (fun _ => rfl) ([yC7_9, yC7_11] : List (List UInt8))) tr))) (a_ (a_ (a_ (a_ (Eq.refl 1) (Nat.le_refl (([yC7_9, yC7_11] : List (List UInt8))).length)) (a_ (a_ (lt_ 0 1 rfl) (a_ (lt_ 0 16 rfl) (a_ gC7_12 (a_ (Eq.refl 1) (Eq.refl true))))) (a_ (Eq.refl 1) (Nat.le_refl (([(y5.getD (s.f_Kind).toNat default), y8] : List (List UInt8))).length)))) (a_ (le_gs_app 3 ([(y5.getD (s.f_Kind).toNat default), y8] : List (List UInt8)) ([yC7_9, yC7_11] : List (List UInt8))) (a_ (sub_app cStr default 1 ([(y5.getD (s.f_Kind).toNat default), y8] : List (List UInt8)) ([yC7_9, yC7_11] : List (List UInt8))) tr))) (r1_ tr))))))))) tr)))))))) (script_Line_c6021_ok hμ s y5 y8 yC7_9 yC7_11   r h) (by kernel_rfl) ⟨fun _ _ => rfl, trivial⟩
              · skip
                obtain ⟨gC7_8, h⟩ := guard_some h
                obtain rfl := Option.some.inj h
                exact run_ret mixed (L := []) (n := 41) (s := [.reg [(1, hF)], .reg [(1, hF)], .reg [(1, hF)], .reg [(1, hF)], .reg [(1, hF)], .reg [(1, hF)], .reg [(1, hF)], .frz 1, .reg [(1, hC (.str (Lib.join ([(y5.getD (s.f_Kind).toNat default), y8] : List (List UInt8)) ([32] : List UInt8))))]])
                  (a_ (a_ (r1_ (f_ cC7_1 tr)) (a_ (r1_ (f_ cC7_2 tr)) (a_ (r1_ (f_ cC7_3 tr)) (a_ (r1_ (f_ cC7_4 tr)) (a_ (r1_ (f_ cC7_5 tr)) (a_ (r1_ (f_ cC7_6 tr)) (a_ (r1_ (f_ cC7_7 tr)) (a_ (a_ (fz_row (enc := cStr) (d := default) (fun _ => rfl) ([(y5.getD (s.f_Kind).toNat default), y8] : List (List UInt8))) (a_ (Nat.le_refl (([(y5.getD (s.f_Kind).toNat default), y8] : List (List UInt8))).length) tr)) (a_ (r1_ (a_ (a_ (a_ (jn23_join ([(y5.getD (s.f_Kind).toNat default), y8] : List (List UInt8)) ([32] : List UInt8) gC7_8) tr) tr) (r2_ tr))) tr))))))))) tr) (by kernel_rfl) rfl

theorem script_Line_ok (s : T_script_Step) (r : (List UInt8) × (Int)) (h : script_Line s = some r) : ∀ σ, Inj 0 σ → FnTri Tryd.prog 9 (renL σ [v_T_script_Step s]) (preOf σ 0 []) ((script_Line_v r).ren σ) (upOf σ []) := by
  refine fn_of Tryd.func9 (by kernel_rfl) (by kernel_rfl) (by kernel_rfl) trivial (by kernel_rfl) trivial (by kernel_rfl) ?_
  intro w0 W μ0 hμ
  unfold script_Line at h
  obtain ⟨y2, e1, h⟩ := bind_some h
  rcases itb_some h with ⟨c3, h⟩ | ⟨c3, h⟩
  · skip
    obtain rfl := Option.some.inj h
    exact run_ret mixed (L := []) (n := 20) (s := [.reg [], .reg [(1, hC (script_May_v y2)), (2, hT)], .reg []])
      (a_ (a_ (r1_ (r2_ tr)) (a_ (m_ 25 25 rfl (c_ (script_May_tri s y2 e1) (f_ c3 tr))) (a_ (r2_ tr) tr))) tr) (by kernel_rfl) rfl
  · skip
    obtain ⟨y5, e4, h⟩ := bind_some h
    obtain ⟨g6, h⟩ := guard_some h
    obtain ⟨y8, e7, h⟩ := bind_some h
    rcases itb_some h with ⟨c9, h⟩ | ⟨c9, h⟩
    · skip
      exact run_to mixed hμ (L := [0, 1]) (n := 30) (s := [.reg [], .reg [(1, hC (script_May_v y2)), (2, hF)], .reg [(0, hC (script_verbs_v y5)), (7, hC (script_digits_v y8)), (8, { os := [(1, .gr 1 (([(y5.getD (s.f_Kind).toNat default), y8] : List (List UInt8))).length (rowF cStr default ([(y5.getD (s.f_Kind).toNat default), y8] : List (List UInt8))))], v := some (.gs 1 (([(y5.getD (s.f_Kind).toNat default), y8] : List (List UInt8))).length) })], .reg [], .reg [(1, hT)]])
        (a_ (r1_ (r2_ tr)) (a_ (m_ 25 25 rfl (c_ (script_May_tri s y2 e1) (f_ c3 tr))) (a_ (c_ (script_verbs_tri  y5 e4) (r1_ (l_ 0 25 rfl (a_ (a_ (a_ (Eq.refl 1) g6) tr) (a_ (a_ (lt_ 0 1 rfl) tr) (r1_ (l_ 1 25 rfl (c_ (script_digits_tri s.f_Node y8 e7) (a_ (a_ (a_ (Eq.refl true) (a_ (Eq.refl 1) (a_ (lt_ 0 1 rfl) (le_ 2 16777216 rfl)))) (a_ (le_sl_gs 1 2 (some 2) rfl) (a_ (sub_lit cStr default 1 (fun _ => rfl) ([(y5.getD (s.f_Kind).toNat default), y8] : List (List UInt8))) tr))) (r1_ tr)))))))))) (a_ (r1_ (l_ 0 25 rfl tr)) (a_ (r1_ (f_ c9 tr)) tr))))) (script_Line_c6_ok hμ s y5 y8   r h) (by kernel_rfl) ⟨rfl, fun _ _ => rfl, trivial⟩
    · skip
      exact run_to mixed hμ (L := [0, 1]) (n := 32) (s := [.reg [], .reg [(1, hC (script_May_v y2)), (2, hF)], .reg [(0, hC (script_verbs_v y5)), (7, hC (script_digits_v y8)), (8, { os := [(1, .gr 1 (([(y5.getD (s.f_Kind).toNat default), y8] : List (List UInt8))).length (rowF cStr default ([(y5.getD (s.f_Kind).toNat default), y8] : List (List UInt8))))], v := some (.gs 1 (([(y5.getD (s.f_Kind).toNat default), y8] : List (List UInt8))).length) })], .reg [], .reg [(1, hF)]])
        (a_ (r1_ (r2_ tr)) (a_ (m_ 25 25 rfl (c_ (script_May_tri s y2 e1) (f_ c3 tr))) (a_ (c_ (script_verbs_tri  y5 e4) (r1_ (l_ 0 25 rfl (a_ (a_ (a_ (Eq.refl 1) g6) tr) (a_ (a_ (lt_ 0 1 rfl) tr) (r1_ (l_ 1 25 rfl (c_ (script_digits_tri s.f_Node y8 e7) (a_ (a_ (a_ (Eq.refl true) (a_ (Eq.refl 1) (a_ (lt_ 0 1 rfl) (le_ 2 16777216 rfl)))) (a_ (le_sl_gs 1 2 (some 2) rfl) (a_ (sub_lit cStr default 1 (fun _ => rfl) ([(y5.getD (s.f_Kind).toNat default), y8] : List (List UInt8))) tr))) (r1_ tr)))))))))) (a_ (r1_ (l_ 0 25 rfl tr)) (a_ (r1_ (f_ c9 tr)) tr))))) (script_Line_c7_ok hμ s y5 y8   r h) (by kernel_rfl) ⟨rfl, fun _ _ => rfl, trivial⟩

theorem script_Line_tri (s : T_script_Step) (r : (List UInt8) × (Int)) (h : script_Line s = some r) : FnTri Tryd.prog 9 [v_T_script_Step s] [] (script_Line_v r) [] := FnTri.none (script_Line_ok s r h) rfl rfl

/-- parrel/parrellaw27.alive -/

def parrellaw27_alive_v (r : (Bool)) : LV := .bool r

def parrellaw27_alive  : Option ((Bool)) :=
  (script_Parse ([100, 111, 32, 48, 32, 49, 32, 51, 32, 119, 114, 105, 116, 101, 32, 48, 46, 49, 46, 49, 32, 54, 49, 32, 55, 56] : List UInt8)).bind fun y2 =>
  (script_Line y2.1).bind fun y4 =>
  if ((y2.2 == 0) : Bool) then
    if ((y2.1.f_Call.f_Value == ([120] : List UInt8)) : Bool) then
      if ((decide (y2.1.f_Call.f_Key = (A8.mk 97 0 0 0 0 0 0 0))) : Bool) then
        if ((y4.1 == ([100, 111, 32, 48, 32, 49, 32, 51, 32, 119, 114, 105, 116, 101, 32, 48, 46, 49, 46, 49, 32, 54, 49, 32, 55, 56] : List UInt8)) : Bool) then
          some (y4.2 == 0)
        else
          some false
      else
        some false
    else
      some false
  else
    some false

theorem parrellaw27_alive_ok  (r : (Bool)) (h : parrellaw27_alive  = some r) : ∀ σ, Inj 0 σ → FnTri Tryd.prog 8 (renL σ []) (preOf σ 0 []) ((parrellaw27_alive_v r).ren σ) (upOf σ []) := by
  refine fn_of Tryd.func8 (by kernel_rfl) (by kernel_rfl) (by kernel_rfl) trivial (by kernel_rfl) trivial (by kernel_rfl) ?_
  intro w0 W μ0 hμ
  unfold parrellaw27_alive at h
  obtain ⟨y2, e1, h⟩ := bind_some h
  obtain ⟨y4, e3, h⟩ := bind_some h
  rcases itb_some h with ⟨c5, h⟩ | ⟨c5, h⟩
  · skip
    rcases itb_some h with ⟨c6, h⟩ | ⟨c6, h⟩
    · skip
      rcases itb_some h with ⟨c7, h⟩ | ⟨c7, h⟩
      · skip
        rcases itb_some h with ⟨c8, h⟩ | ⟨c8, h⟩
        · skip
          obtain rfl := Option.some.inj h
          exact run_ret mixed (L := []) (n := 21) (s := [.reg [], .reg [(0, hC (script_Parse_v y2))], .reg [(1, hC (script_Line_v y4))], .reg [(2, hT), (8, hT), (13, { v := some (.bool (decide (y2.1.f_Call.f_Key = (A8.mk 97 0 0 0 0 0 0 0)))) }), (15, hT), (19, hT)]])
            (a_ (a_ (r1_ tr) (a_ (a_ (a_ (a_ (script_Parse_tri ([100, 111, 32, 48, 32, 49, 32, 51, 32, 119, 114, 105, 116, 101, 32, 48, 46, 49, 46, 49, 32, 54, 49, 32, 55, 56] : List UInt8) y2 e1) tr) tr) (r4_ (a_ (a_ (a_ (Eq.refl 25) (a_ (le_ 25 25 rfl) (Eq.refl 0))) tr) (r1_ tr)))) (a_ (m_ 25 25 rfl (c_ (script_Line_tri y2.1 y4 e3) (r1_ (r4_ tr)))) (a_ (r2_ (f_ c5 (r2_ (l_ 19 25 rfl (r2_ (f_ c6 (r2_ (m_ 19 25 rfl (a_ (a_ (Eq.refl true) tr) (a_ (a_ tr (a_ (leB ((k_arr8 .u8) y2.1.f_Call.f_Key (A8.mk 97 0 0 0 0 0 0 0))) tr)) (r1_ (f_ c7 (r1_ (r2_ (f_ c8 (r4_ tr)))))))))))))))) tr)))) tr) (by kernel_rfl) rfl
        · skip
          obtain rfl := Option.some.inj h
          exact run_ret mixed (L := []) (n := 21) (s := [.reg [], .reg [(0, hC (script_Parse_v y2))], .reg [(1, hC (script_Line_v y4))], .reg [(2, hT), (8, hT), (13, { v := some (.bool (decide (y2.1.f_Call.f_Key = (A8.mk 97 0 0 0 0 0 0 0)))) }), (15, hT), (19, hF)]])
            (a_ (a_ (r1_ tr) (a_ (a_ (a_ (a_ (script_Parse_tri ([100, 111, 32, 48, 32, 49, 32, 51, 32, 119, 114, 105, 116, 101, 32, 48, 46, 49, 46, 49, 32, 54, 49, 32, 55, 56] : List UInt8) y2 e1) tr) tr) (r4_ (a_ (a_ (a_ (Eq.refl 25) (a_ (le_ 25 25 rfl) (Eq.refl 0))) tr) (r1_ tr)))) (a_ (m_ 25 25 rfl (c_ (script_Line_tri y2.1 y4 e3) (r1_ (r4_ tr)))) (a_ (r2_ (f_ c5 (r2_ (l_ 19 25 rfl (r2_ (f_ c6 (r2_ (m_ 19 25 rfl (a_ (a_ (Eq.refl true) tr) (a_ (a_ tr (a_ (leB ((k_arr8 .u8) y2.1.f_Call.f_Key (A8.mk 97 0 0 0 0 0 0 0))) tr)) (r1_ (f_ c7 (r1_ (r2_ (f_ c8 (t2_ (r2_ tr))))))))))))))))) tr)))) tr) (by kernel_rfl) rfl
      · skip
        obtain rfl := Option.some.inj h
        exact run_ret mixed (L := []) (n := 21) (s := [.reg [], .reg [(0, hC (script_Parse_v y2))], .reg [(1, hC (script_Line_v y4))], .reg [(2, hT), (8, hT), (13, { v := some (.bool (decide (y2.1.f_Call.f_Key = (A8.mk 97 0 0 0 0 0 0 0)))) }), (15, hF)]])
          (a_ (a_ (r1_ tr) (a_ (a_ (a_ (a_ (script_Parse_tri ([100, 111, 32, 48, 32, 49, 32, 51, 32, 119, 114, 105, 116, 101, 32, 48, 46, 49, 46, 49, 32, 54, 49, 32, 55, 56] : List UInt8) y2 e1) tr) tr) (r4_ (a_ (a_ (a_ (Eq.refl 25) (a_ (le_ 25 25 rfl) (Eq.refl 0))) tr) (r1_ tr)))) (a_ (m_ 25 25 rfl (c_ (script_Line_tri y2.1 y4 e3) (r1_ (r4_ tr)))) (a_ (r2_ (f_ c5 (r2_ (l_ 19 25 rfl (r2_ (f_ c6 (r2_ (m_ 19 25 rfl (a_ (a_ (Eq.refl true) tr) (a_ (a_ tr (a_ (leB ((k_arr8 .u8) y2.1.f_Call.f_Key (A8.mk 97 0 0 0 0 0 0 0))) tr)) (r1_ (f_ c7 (t2_ (r2_ (t2_ (r2_ tr)))))))))))))))) tr)))) tr) (by kernel_rfl) rfl
    · skip
      obtain rfl := Option.some.inj h
      exact run_ret mixed (L := []) (n := 21) (s := [.reg [], .reg [(0, hC (script_Parse_v y2))], .reg [(1, hC (script_Line_v y4))], .reg [(2, hT), (8, hF)]])
        (a_ (a_ (r1_ tr) (a_ (a_ (a_ (a_ (script_Parse_tri ([100, 111, 32, 48, 32, 49, 32, 51, 32, 119, 114, 105, 116, 101, 32, 48, 46, 49, 46, 49, 32, 54, 49, 32, 55, 56] : List UInt8) y2 e1) tr) tr) (r4_ (a_ (a_ (a_ (Eq.refl 25) (a_ (le_ 25 25 rfl) (Eq.refl 0))) tr) (r1_ tr)))) (a_ (m_ 25 25 rfl (c_ (script_Line_tri y2.1 y4 e3) (r1_ (r4_ tr)))) (a_ (r2_ (f_ c5 (r2_ (l_ 19 25 rfl (r2_ (f_ c6 (a_ tr (t4_ (r2_ (t2_ (r2_ (t2_ (r2_ tr))))))))))))) tr)))) tr) (by kernel_rfl) rfl
  · skip
    obtain rfl := Option.some.inj h
    exact run_ret mixed (L := []) (n := 21) (s := [.reg [], .reg [(0, hC (script_Parse_v y2))], .reg [(1, hC (script_Line_v y4))], .reg [(2, hF)]])
      (a_ (a_ (r1_ tr) (a_ (a_ (a_ (a_ (script_Parse_tri ([100, 111, 32, 48, 32, 49, 32, 51, 32, 119, 114, 105, 116, 101, 32, 48, 46, 49, 46, 49, 32, 54, 49, 32, 55, 56] : List UInt8) y2 e1) tr) tr) (r4_ (a_ (a_ (a_ (Eq.refl 25) (a_ (le_ 25 25 rfl) (Eq.refl 0))) tr) (r1_ tr)))) (a_ (m_ 25 25 rfl (c_ (script_Line_tri y2.1 y4 e3) (r1_ (r4_ tr)))) (a_ (r2_ (f_ c5 (t4_ (r2_ (a_ tr (t4_ (r2_ (t2_ (r2_ (t2_ (r2_ tr))))))))))) tr)))) tr) (by kernel_rfl) rfl

theorem parrellaw27_alive_tri  (r : (Bool)) (h : parrellaw27_alive  = some r) : FnTri Tryd.prog 8 [] [] (parrellaw27_alive_v r) [] := FnTri.none (parrellaw27_alive_ok  r h) rfl rfl

/-- parrel/parrellaw27.long -/

def parrellaw27_long_v (r : (Bool)) : LV := .bool r

def parrellaw27_long (s : T_parrelref27_Step) : Option ((Bool)) :=
  if ((decide (5000 < ((s.f_Bytes).length : Int))) : Bool) then
    some true
  else
    if ((decide (5000 < ((s.f_Call.f_Value).length : Int))) : Bool) then
      some true
    else
      some (decide (300 < ((s.f_Call.f_Votes).length : Int)))

theorem parrellaw27_long_ok (s : T_parrelref27_Step) (r : (Bool)) (h : parrellaw27_long s = some r) : ∀ σ, Inj 0 σ → FnTri Tryd.prog 7 (renL σ [v_T_parrelref27_Step s]) (preOf σ 0 []) ((parrellaw27_long_v r).ren σ) (upOf σ []) := by
  refine fn_of Tryd.func7 (by kernel_rfl) (by kernel_rfl) (by kernel_rfl) trivial (by kernel_rfl) trivial (by kernel_rfl) ?_
  intro w0 W μ0 hμ
  unfold parrellaw27_long at h
  rcases itb_some h with ⟨c1, h⟩ | ⟨c1, h⟩
  · skip
    obtain rfl := Option.some.inj h
    exact run_ret mixed (L := []) (n := 15) (s := [.reg [], .reg [(4, hT)]])
      (a_ (a_ (r2_ tr) (a_ (r1_ (l_ 24 25 rfl (r2_ (f_ c1 (a_ tr (t4_ (r2_ (a_ tr (t4_ (r2_ tr)))))))))) tr)) tr) (by kernel_rfl) rfl
  · skip
    rcases itb_some h with ⟨c2, h⟩ | ⟨c2, h⟩
    · skip
      obtain rfl := Option.some.inj h
      exact run_ret mixed (L := []) (n := 15) (s := [.reg [], .reg [(4, hF), (11, hT)]])
        (a_ (a_ (r2_ tr) (a_ (r1_ (l_ 24 25 rfl (r2_ (f_ c1 (r2_ (l_ 19 25 rfl (r1_ (r2_ (f_ c2 (a_ tr (t4_ (r2_ tr)))))))))))) tr)) tr) (by kernel_rfl) rfl
    · skip
      obtain rfl := Option.some.inj h
      exact run_ret mixed (L := []) (n := 15) (s := [.reg [], .reg [(4, hF), (11, hF)]])
        (a_ (a_ (r2_ tr) (a_ (r1_ (l_ 24 25 rfl (r2_ (f_ c1 (r2_ (l_ 19 25 rfl (r1_ (r2_ (f_ c2 (r2_ (l_ 22 25 rfl (r4_ tr)))))))))))) tr)) tr) (by kernel_rfl) rfl

theorem parrellaw27_long_tri (s : T_parrelref27_Step) (r : (Bool)) (h : parrellaw27_long s = some r) : FnTri Tryd.prog 7 [v_T_parrelref27_Step s] [] (parrellaw27_long_v r) [] := FnTri.none (parrellaw27_long_ok s r h) rfl rfl

/-- parrel/parrellaw27.theirs -/

def parrellaw27_theirs_v (r : (T_script_Step)) : LV := v_T_script_Step r

def parrellaw27_theirs (s : T_parrelref27_Step) : Option ((T_script_Step)) :=
  some (T_script_Step.mk s.f_Kind s.f_Node s.f_Wire s.f_N s.f_Cut (T_node_Call.mk (T_sess_Call.mk s.f_Call.f_Client s.f_Call.f_Seq) s.f_Call.f_Kind s.f_Call.f_Tx s.f_Call.f_Key s.f_Call.f_Value s.f_Call.f_R s.f_Call.f_W s.f_Call.f_Votes) s.f_To s.f_Bytes)

theorem parrellaw27_theirs_ok (s : T_parrelref27_Step) (r : (T_script_Step)) (h : parrellaw27_theirs s = some r) : ∀ σ, Inj 0 σ → FnTri Tryd.prog 10 (renL σ [v_T_parrelref27_Step s]) (preOf σ 0 []) ((parrellaw27_theirs_v r).ren σ) (upOf σ []) := by
  refine fn_of Tryd.func10 (by kernel_rfl) (by kernel_rfl) (by kernel_rfl) trivial (by kernel_rfl) trivial (by kernel_rfl) ?_
  intro w0 W μ0 hμ
  unfold parrellaw27_theirs at h
  obtain rfl := Option.some.inj h
  exact run_ret mixed (L := []) (n := 18) (s := [.reg [], .reg [], .reg []])
    (a_ (a_ (r2_ tr) (a_ (r1_ (m_ 23 25 rfl (r1_ (a_ (a_ (a_ (Eq.refl 18) (a_ (le_ 18 18 rfl) (Eq.refl 0))) tr) tr)))) (a_ (r1_ (l_ 0 25 rfl (r1_ (l_ 1 25 rfl (r1_ (l_ 2 25 rfl (r1_ (l_ 3 25 rfl (r1_ (l_ 4 25 rfl (r1_ (l_ 23 25 rfl (r1_ (l_ 24 25 rfl (r1_ (l_ 0 18 rfl (r1_ (l_ 1 18 rfl (a_ (a_ (Eq.refl true) tr) (r1_ (l_ 2 18 rfl (r1_ (m_ 6 18 rfl (r1_ (m_ 14 18 rfl (r1_ (l_ 14 18 rfl (r1_ (l_ 15 18 rfl (r1_ (l_ 16 18 rfl (r1_ (l_ 17 18 rfl (a_ (a_ (Eq.refl true) tr) (a_ (a_ (Eq.refl true) tr) (a_ (a_ (a_ (Eq.refl 25) (a_ (le_ 25 25 rfl) (Eq.refl 0))) tr) tr)))))))))))))))))))))))))))))))))))) tr))) (a_ (a_ tr (le_ 25 25 rfl)) tr)) (by kernel_rfl) rfl

theorem parrellaw27_theirs_tri (s : T_parrelref27_Step) (r : (T_script_Step)) (h : parrellaw27_theirs s = some r) : FnTri Tryd.prog 10 [v_T_parrelref27_Step s] [] (parrellaw27_theirs_v r) [] := FnTri.none (parrellaw27_theirs_ok s r h) rfl rfl

/-! strings.Builder: PRE -/
theorem bd_info : ∃ i, Tryd.prog.info? 5 = some i ∧ i.zero = some (.int .u8 0) ∧ i.size = 1 ∧ i.bytes = 1 := by
  have h : (Tryd.prog.info? 5).map (fun i => (i.zero, i.size, i.bytes)) = some (some (.int .u8 0), 1, 1) := by kernel_rfl
  obtain ⟨i, h1, h2⟩ := Option.map_eq_some_iff.1 h
  simp only [Prod.mk.injEq] at h2
  exact ⟨i, h1, h2⟩
/-- The buffer as it is. -/
abbrev bd_Own (w : World) (v : Value) (l : List UInt8) : Prop := w.ownsRow 0 5 1 v l.length (Lib.byteCells l)
def bd_New (w : World) (v v' : Value) : Prop := ∀ g, v'.ownBlock = some g → v.ownBlock = some g ∨ w.heap.size ≤ g
theorem bd_shape {w : World} {v : Value} {l : List UInt8} (h : bd_Own w v l) : (v = .slice none 0 0 ∧ l = []) ∨ ∃ g cap cur, v = .slice (some ⟨g, 0, none⟩) l.length cap ∧ w.heap[g]? = some (.cells cur 5 (0, 0)) ∧ l.length ≤ cap ∧ cap ≤ maxLen ∧ cur.size = cap ∧ cur.toList.take l.length = Lib.byteCells l := by
  rcases h.2 with ⟨h1, h2⟩ | ⟨g, cap, cur, h1, _, h2, h3, h4, h5, h6⟩
  · exact .inl ⟨h1, List.eq_nil_of_length_eq_zero h2⟩
  · exact .inr ⟨g, cap, cur, h1, h2, h3, h4, by omega, by simpa using h6⟩
theorem bd_appS (w : World) (v : Value) (l s : List UInt8) (hown : bd_Own w v l) (hb : l.length + s.length ≤ 140737488351232) :
    ∃ v' w', (∀ ty, (Builtin.append_ #[27, 9] ty #[v, .string ⟨s.toArray⟩]).run Tryd.prog w = .ok v' w') ∧ bd_Own w' v' (l ++ s) ∧ w.grownBy w' v.ownBlock ∧ bd_New w v v' ∧ (v' = .slice none 0 0 ↔ v = .slice none 0 0 ∧ s = []) := by
  obtain ⟨i, hi, hz, hs, hby⟩ := bd_info
  have hss : (⟨s.toArray⟩ : ByteArray).size = s.length := by simp [ByteArray.size]
  have hsc : Lib.strCells ⟨s.toArray⟩ = Lib.byteCells s := by simp [Lib.strCells_eq]
  obtain ⟨v', w', hr, h2, h3, h4⟩ := Lib.run_append_own_string (P := Tryd.prog) w 0 27 9 27 5 i Tryd.underlying27 Tryd.underlying9 hi hz hs hby v l.length (Lib.byteCells l) hown ⟨s.toArray⟩ (by rw [hss]; unfold maxLen; omega) (by rw [hss]; omega) (Nat.zero_le _)
  have e : ∀ ty, Builtin.append_ #[27, 9] ty #[v, .string ⟨s.toArray⟩] = Builtin.append_ #[27, 9] 27 #[v, .string ⟨s.toArray⟩] := fun ty => rfl
  refine ⟨v', w', fun ty => by rw [e]; exact hr, by rw [hss, hsc] at h2; simpa [bd_Own, Lib.byteCells_append] using h2, h3, ?_, by rw [hss] at h4; simpa using h4⟩
  rcases bd_shape hown with ⟨rfl, rfl⟩ | ⟨g, cap, cur, rfl, hg, hc, hm, hcs, ht⟩
  · obtain ⟨v2, w2, hr2, k2, _⟩ := Lib.run_append_own_string (P := Tryd.prog) w w.heap.size 27 9 27 5 i Tryd.underlying27 Tryd.underlying9 hi hz hs hby (.slice none 0 0) 0 [] (World.ownsRow_nil w _ _ _) ⟨s.toArray⟩ (by rw [hss]; unfold maxLen; simp at hb; omega) (by rw [hss]; simp at hb; omega) (Nat.le_refl _)
    rw [hr] at hr2
    cases hr2
    exact fun g hg => .inr (k2.lt g hg).1
  · by_cases hroom : l.length + s.length ≤ cap
    · have := Lib.run_append_room_string (P := Tryd.prog) w 27 9 27 5 i Tryd.underlying27 Tryd.underlying9 hi hs g l.length cap cur hg ⟨s.toArray⟩ (by rw [hss]; exact hroom) (by rw [hss]; omega)
      rw [hr] at this
      cases this
      exact fun k hk => .inl hk
    · have := Lib.run_append_grow_string (P := Tryd.prog) w 27 9 27 5 i (.int .u8 0) Tryd.underlying27 Tryd.underlying9 hi hz ⟨g, 0, none⟩ l.length cap (Lib.byteCells l) (by rw [hs]; simp [Lib.byteCells_length]) (hown.cells (g := g) rfl) ⟨s.toArray⟩ (by rw [hss]; omega) (by rw [hss]; omega) (by rw [hby]; exact growslice_fits (by omega) (by omega))
      rw [hr] at this
      cases this
      intro k hk
      simp only [Value.ownBlock, Option.some.injEq] at hk
      exact .inr (by omega)
theorem bd_appB (w : World) (v : Value) (l : List UInt8) (c : UInt8) (hown : bd_Own w v l) (hb : l.length + 1 ≤ 140737488351232) (a : Addr) (ha : w.cell? (a.add 0) = some (.int .u8 c.toNat)) :
    ∃ v' w', (∀ ty, (Builtin.append_ #[27, 27] ty #[v, .slice (some a) 1 1]).run Tryd.prog w = .ok v' w') ∧ bd_Own w' v' (l ++ [c]) ∧ w.grownBy w' v.ownBlock ∧ bd_New w v v' ∧ (v' = .slice none 0 0 ↔ v = .slice none 0 0 ∧ 1 = 0) := by
  obtain ⟨i, hi, hz, hs, hby⟩ := bd_info
  have hn : ∀ (j : Nat) (u : Value), [Value.int .u8 c.toNat][j]? = some u → w.cell? (a.add j) = some u := by
    intro j u hj
    cases j with
    | zero => simp at hj; subst hj; exact ha
    | succ j => simp at hj
  have h1 : ∀ u ∈ [Value.int .u8 c.toNat], u.oneCell' = true := by simp [Value.oneCell']
  obtain ⟨v', w', hr, h2, h3, h4⟩ := run_append_own (P := Tryd.prog) w 0 27 27 5 i (.int .u8 0) 1 1 Tryd.underlying27 hi hz hs hby rfl (by decide) v l.length (Lib.byteCells l) hown a 1 1 [.int .u8 c.toNat] rfl hn h1 (by unfold maxLen; omega) (by omega) (Nat.zero_le _)
  have e : ∀ ty, Builtin.append_ #[27, 27] ty #[v, .slice (some a) 1 1] = Builtin.append_ #[27, 27] 27 #[v, .slice (some a) 1 1] := fun ty => rfl
  refine ⟨v', w', fun ty => by rw [e]; exact hr, by simpa [bd_Own, Lib.byteCells] using h2, h3, ?_, h4⟩
  rcases bd_shape hown with ⟨rfl, rfl⟩ | ⟨g, cap, cur, rfl, hg, hc, hm, hcs, ht⟩
  · obtain ⟨v2, w2, hr2, k2, _⟩ := run_append_own (P := Tryd.prog) w w.heap.size 27 27 5 i (.int .u8 0) 1 1 Tryd.underlying27 hi hz hs hby rfl (by decide) (.slice none 0 0) 0 [] (World.ownsRow_nil w _ _ _) a 1 1 [.int .u8 c.toNat] rfl hn h1 (by unfold maxLen; omega) (by omega) (Nat.le_refl _)
    rw [hr] at hr2
    cases hr2
    exact fun g hg => .inr (k2.lt g hg).1
  · by_cases hroom : l.length + 1 ≤ cap
    · have := run_append_room (P := Tryd.prog) w 27 27 5 i Tryd.underlying27 hi g l.length cap cur hg a 1 1 [.int .u8 c.toNat] (by rw [hs]; rfl) hn h1 hroom (by rw [hs]; simp; omega)
      rw [hr] at this
      cases this
      exact fun k hk => .inl hk
    · have := run_append_grow (P := Tryd.prog) w 27 27 5 i (.int .u8 0) Tryd.underlying27 hi hz ⟨g, 0, none⟩ l.length cap (Lib.byteCells l) (by rw [hs]; simp [Lib.byteCells_length]) (hown.cells (g := g) rfl) a 1 1 [.int .u8 c.toNat] (by rw [hs]; rfl) hn (by omega) (by omega) (growslice_fits (by omega) (by rw [hby]; omega))
      rw [hr] at this
      cases this
      intro k hk
      simp only [Value.ownBlock, Option.some.injEq] at hk
      exact .inr (by omega)
theorem bd_hn (w : World) (o : Obj) : (w.alloc o).heap[w.heap.size]? = some o := by
  show (w.heap.push o)[w.heap.size]? = some o
  simp
/-- A builder in the world. -/
structure bd_At (w : World) (b : Nat) (v : Value) (l : List UInt8) : Prop where
  hb : w.heap[b]? = some (.cells #[.pointer none, v] 89 (0, 0)) ∨ w.heap[b]? = some (.cells #[.pointer (some ⟨b, 0, none⟩), v] 89 (0, 0))
  own : bd_Own w v l
  ne : v.ownBlock ≠ some b
theorem bd_At.is {w : World} {b : Nat} {v : Value} {l : List UInt8} (h : bd_At w b v l) : Lib.IsBuilder 89 5 0 b (Lib.byteCells l) w := by
  have ho : w.ownsRow 0 5 1 v (Lib.byteCells l).length (Lib.byteCells l) := by rw [Lib.byteCells_length]; exact h.own
  exact h.hb.imp (fun k => ⟨Nat.zero_le _, v, k, ho, h.ne⟩) (fun k => ⟨Nat.zero_le _, v, k, ho, h.ne⟩)
theorem bd_At.lt {w : World} {b : Nat} {v : Value} {l : List UInt8} (h : bd_At w b v l) : b < w.heap.size := by
  rcases h.hb with k | k <;> exact (Array.getElem?_eq_some_iff.1 k).1
/-- What the copy check leaves. -/
structure bd_Chk (w : World) (b : Nat) (v : Value) (w' : World) : Prop where
  hb : w'.heap[b]? = some (.cells #[.pointer (some ⟨b, 0, none⟩), v] 89 (0, 0))
  os : w'.os = w.os
  tape : w'.tape = w.tape
  output : w'.output = w.output
  size : w'.heap.size = w.heap.size
  block : ∀ k, k ≠ b → w'.heap[k]? = w.heap[k]?
theorem bd_cc (w : World) (b : Nat) (v : Value) (l : List UInt8) (h : bd_At w b v l) : Calls Tryd.prog 63 #[.pointer (some ⟨b, 0, none⟩)] w fun e w' => e = .returned (.tuple #[]) ∧ bd_Chk w b v w' := by
  rcases h.hb with k | k
  · have hA : Lib.BuilderAt 89 5 0 b (.pointer none) (Lib.byteCells l) w := ⟨Nat.zero_le _, v, k, by rw [Lib.byteCells_length]; exact h.own, h.ne⟩
    refine (Go.Proofs.Any.Builder_copyCheck_fresh { jn23_lays with } jn23_extra.toX72 b w hA.cell0 hA.shape hA.frozen0).mono ?_
    rintro e w' ⟨rfl, rfl⟩
    have hlt := h.lt
    have e1 : w.heap[b]? = some w.heap[b] := Array.getElem?_eq_getElem hlt
    exact ⟨rfl, by simp [World.setCell, Array.getElem?_modify, k], rfl, rfl, rfl, by simp [World.setCell], fun j hj => Below.heap_setCell _ _ _ _ hj⟩
  · have hA : Lib.BuilderAt 89 5 0 b (.pointer (some ⟨b, 0, none⟩)) (Lib.byteCells l) w := ⟨Nat.zero_le _, v, k, by rw [Lib.byteCells_length]; exact h.own, h.ne⟩
    refine (Go.Proofs.Any.Builder_copyCheck_used { jn23_lays with } jn23_extra.toX72 b w hA.cell0).mono ?_
    rintro e w' ⟨rfl, rfl⟩
    exact ⟨rfl, k, rfl, rfl, rfl, rfl, fun _ _ => rfl⟩
/-- What a write leaves. -/
structure bd_Post (w : World) (b : Nat) (v : Value) (l : List UInt8) (v' : Value) (w' : World) : Prop where
  hb : w'.heap[b]? = some (.cells #[.pointer (some ⟨b, 0, none⟩), v'] 89 (0, 0))
  own : bd_Own w' v' l
  os : w'.os = w.os
  tape : w'.tape = w.tape
  output : w'.output = w.output
  size : w.heap.size ≤ w'.heap.size
  block : ∀ k, k < w.heap.size → k ≠ b → some k ≠ v.ownBlock → w'.heap[k]? = w.heap[k]?
  new : bd_New w v v'
theorem bd_end {w w1 w2 : World} {b : Nat} {v v' : Value} {l : List UInt8} (hc : bd_Chk w b v w1) (hlt : b < w.heap.size) (hne : v.ownBlock ≠ some b) {w0 : World} (h0 : w0 = w1 ∨ ∃ o, w0 = w1.alloc o) (hown : bd_Own w2 v' l) (hg : w0.grownBy w2 v.ownBlock) (hn : bd_New w0 v v') :
    bd_Post w b v l v' (w2.setCell ⟨b, 1, none⟩ v') := by
  have hs0 : w.heap.size ≤ w0.heap.size := by rcases h0 with rfl | ⟨o, rfl⟩ <;> simp [hc.size]
  have hk0 : ∀ k, k < w.heap.size → w0.heap[k]? = w1.heap[k]? := by
    intro k hk
    rcases h0 with rfl | ⟨o, rfl⟩
    · rfl
    · exact Lib.alloc_old w1 o k (by rw [hc.size]; exact hk)
  have hb2 : w2.heap[b]? = some (.cells #[.pointer (some ⟨b, 0, none⟩), v] 89 (0, 0)) := by rw [hg.block b (by omega) (fun e => hne e.symm), hk0 b hlt]; exact hc.hb
  have hnb : v'.ownBlock ≠ some b := fun e => by
    rcases hn b e with h | h
    · exact hne h
    · omega
  refine ⟨by simp [World.setCell, Array.getElem?_modify, hb2], ?_, ?_, ?_, ?_, ?_, ?_, ?_⟩
  · exact hown.kept (row := some b) ⟨rfl, rfl, rfl, by simp [World.setCell], fun k _ hk => Below.heap_setCell _ _ _ _ (fun e => hk (by simp [e]))⟩ (Or.inr hnb)
  · show w2.os = _; rw [hg.os]; rcases h0 with rfl | ⟨o, rfl⟩ <;> exact hc.os
  · show w2.tape = _; rw [hg.tape]; rcases h0 with rfl | ⟨o, rfl⟩ <;> exact hc.tape
  · show w2.output = _; rw [hg.output]; rcases h0 with rfl | ⟨o, rfl⟩ <;> exact hc.output
  · have := hg.size; simp [World.setCell]; omega
  · intro k hk hkb hkv
    rw [Below.heap_setCell _ _ _ _ hkb, hg.block k (by omega) hkv, hk0 k hk]
    exact hc.block k hkb
  · intro g hg'
    exact (hn g hg').imp id (fun h => by omega)
theorem bd_ws (w : World) (b : Nat) (v : Value) (l s : List UInt8) (h : bd_At w b v l) (hb : l.length + s.length ≤ 140737488351232) :
    Calls Tryd.prog 40 #[.pointer (some ⟨b, 0, none⟩), .string ⟨s.toArray⟩] w fun e w' => e = .returned (.tuple #[.int .i64 s.length, .nilIface]) ∧ ∃ v', bd_Post w b v (l ++ s) v' w' ∧ (v' = .slice none 0 0 ↔ v = .slice none 0 0 ∧ s = []) := by
  have hlt := h.lt
  have A0 : Aside (bd_At w b v l) := h
  clear h
  go_enter Tryd.func40, Tryd.ntmps40
  go_wp2_with (go_at_call 63; refine (bd_cc w b v l A0.out).mono ?_)
  rintro e w1 ⟨rfl, hck⟩
  have hown1 : bd_Own w1 v l := A0.out.own.kept (row := some b) ⟨hck.os, hck.tape, hck.output, by rw [hck.size]; exact Nat.le_refl _, fun k _ hk => hck.block k (fun e => hk (by rw [e]))⟩ (Or.inr A0.out.ne)
  obtain ⟨v', w2, hrun, r1, r2, r3, r4⟩ := bd_appS w1 v l s hown1 hb
  have c0 : w1.cell? ⟨b, 0, none⟩ = some (.pointer (some ⟨b, 0, none⟩)) := by rw [Lib.cell_of_heap hck.hb]; rfl
  have c1 : w1.cell? ⟨b, 1, none⟩ = some v := by rw [Lib.cell_of_heap hck.hb]; rfl
  have hb2 : w2.heap[b]? = some (.cells #[.pointer (some ⟨b, 0, none⟩), v] 89 (0, 0)) := by
    rw [r2.block b (by rw [hck.size]; exact hlt) (fun e => A0.out.ne e.symm)]; exact hck.hb
  have d0 : w2.cell? ⟨b, 0, none⟩ = some (.pointer (some ⟨b, 0, none⟩)) := by rw [Lib.cell_of_heap hb2]; rfl
  have d1 : w2.cell? ⟨b, 1, none⟩ = some v := by rw [Lib.cell_of_heap hb2]; rfl
  have f1 : w2.frozen? ⟨b, 1, none⟩ = false := Lib.frozen_of_heap hb2 1
  have F : Aside (bd_Post w b v (l ++ s) v' (w2.setCell ⟨b, 1, none⟩ v') ∧ (v' = .slice none 0 0 ↔ v = .slice none 0 0 ∧ s = [])) := ⟨bd_end hck hlt A0.out.ne (.inl rfl) r1 r2 r3, r4⟩
  obtain ⟨ao, n', cap, rfl⟩ : ∃ ao n' cap, v' = .slice ao n' cap := by
    rcases r1.2 with ⟨hv, _⟩ | ⟨g, cap, cur, hv, _⟩
    · exact ⟨_, _, _, hv⟩
    · exact ⟨_, _, _, hv⟩
  clear r1 r2 r3 r4 hown1 hck hb2
  go_wp2_with (at_builtin; refine Lib.wpList_append_run _ rfl _ _ _ _ rfl _ _ rfl rfl _ _ (hrun _) ?_)
  go_ret2
  exact ⟨rfl, _, F.out.1, F.out.2⟩
theorem bd_wb (w : World) (b : Nat) (v : Value) (l : List UInt8) (c : UInt8) (h : bd_At w b v l) (hb : l.length + 1 ≤ 140737488351232) :
    Calls Tryd.prog 41 #[.pointer (some ⟨b, 0, none⟩), .int .u8 c.toNat] w fun e w' => e = .returned .nilIface ∧ ∃ v', bd_Post w b v (l ++ [c]) v' w' ∧ (v' = .slice none 0 0 ↔ v = .slice none 0 0 ∧ 1 = 0) := by
  have hlt := h.lt
  have A0 : Aside (bd_At w b v l) := h
  clear h
  go_enter Tryd.func41, Tryd.ntmps41
  go_wp2_with (go_at_call 63; refine (bd_cc w b v l A0.out).mono ?_)
  rintro e w1 ⟨rfl, hck⟩
  have hown1 : bd_Own w1 v l := A0.out.own.kept (row := some b) ⟨hck.os, hck.tape, hck.output, by rw [hck.size]; exact Nat.le_refl _, fun k _ hk => hck.block k (fun e => hk (by rw [e]))⟩ (Or.inr A0.out.ne)
  have c0 : w1.cell? ⟨b, 0, none⟩ = some (.pointer (some ⟨b, 0, none⟩)) := by rw [Lib.cell_of_heap hck.hb]; rfl
  have c1 : w1.cell? ⟨b, 1, none⟩ = some v := by rw [Lib.cell_of_heap hck.hb]; rfl
  obtain ⟨v', w2, hrun, r1, r2, r3, r4⟩ := bd_appB (w1.alloc (.cells #[.int .u8 c.toNat] 5)) v l c (hown1.alloc _) hb ⟨w1.heap.size, 0, none⟩ (by show (w1.alloc _).cell? ⟨w1.heap.size, 0, none⟩ = _; rw [Lib.cell_of_heap (bd_hn w1 _)]; rfl)
  have hb2 : w2.heap[b]? = some (.cells #[.pointer (some ⟨b, 0, none⟩), v] 89 (0, 0)) := by
    have hlt1 : b < w1.heap.size := by rw [hck.size]; exact hlt
    rw [r2.block b (by simp; omega) (fun e => A0.out.ne e.symm), Lib.alloc_old _ _ _ hlt1]; exact hck.hb
  have d0 : w2.cell? ⟨b, 0, none⟩ = some (.pointer (some ⟨b, 0, none⟩)) := by rw [Lib.cell_of_heap hb2]; rfl
  have d1 : w2.cell? ⟨b, 1, none⟩ = some v := by rw [Lib.cell_of_heap hb2]; rfl
  have f1 : w2.frozen? ⟨b, 1, none⟩ = false := Lib.frozen_of_heap hb2 1
  have F : Aside (bd_Post w b v (l ++ [c]) v' (w2.setCell ⟨b, 1, none⟩ v') ∧ (v' = .slice none 0 0 ↔ v = .slice none 0 0 ∧ 1 = 0)) := ⟨bd_end hck hlt A0.out.ne (.inr ⟨_, rfl⟩) r1 r2 r3, r4⟩
  obtain ⟨ao, n', cap, rfl⟩ : ∃ ao n' cap, v' = .slice ao n' cap := by
    rcases r1.2 with ⟨hv, _⟩ | ⟨g, cap, cur, hv, _⟩
    · exact ⟨_, _, _, hv⟩
    · exact ⟨_, _, _, hv⟩
  clear r1 r2 r3 r4 hown1 hck hb2
  go_wp2_with (at_builtin; refine Lib.wpList_append_run _ rfl _ _ _ _ rfl _ _ rfl rfl _ _ (hrun _) ?_)
  go_wp2
  go_ret
  exact ⟨rfl, _, F.out.1, F.out.2⟩
theorem bd_st (w : World) (b : Nat) (p v : Value) (l : List UInt8) (hbk : w.heap[b]? = some (.cells #[p, v] 89 (0, 0))) (hown : bd_Own w v l) (hv : v = .slice none 0 0 ↔ l = []) :
    Calls Tryd.prog 42 #[.pointer (some ⟨b, 0, none⟩)] w fun e w' => e = .returned (.string ⟨l.toArray⟩) ∧ (w' = w.drew ∨ ∃ g, v.ownBlock = some g ∧ w' = w.drew.freeze ⟨g, 0, none⟩ l.length) := by
  rcases bd_shape hown with ⟨rfl, rfl⟩ | ⟨g, cap, cur, rfl, hg, hc, hm, hcs, ht⟩
  · have hUS : ∀ (W : World) q, (Builtin.unsafeString_ #[111, 3] 9 #[.pointer q, .int .i64 0]).run Tryd.prog W = .ok (.string .empty) W := fun W q => Lib.run_unsafeString_none W _ _ _ q
    have c1 : w.drew.cell? ⟨b, 1, none⟩ = some (.slice none 0 0) := by
      have : w.drew.heap[b]? = some (.cells #[p, .slice none 0 0] 89 (0, 0)) := hbk
      rw [Lib.cell_of_heap this]; rfl
    have hSD : (Builtin.unsafeSliceData_ #[27] 111 #[.slice none 0 0]).run Tryd.prog w.drew = .ok (.pointer none) w.drew := rfl
    have mixed := mixed
    go_enter Tryd.func42, Tryd.ntmps42
    go_wp2
    go_region_o
    all_goals (go_wp2; go_ret; exact ⟨rfl, .inl rfl⟩)
  · have hne : l ≠ [] := fun h => by cases hv.2 h
    have c1 : w.drew.cell? ⟨b, 1, none⟩ = some (.slice (some ⟨g, 0, none⟩) l.length cap) := by
      have : w.drew.heap[b]? = some (.cells #[p, .slice (some ⟨g, 0, none⟩) l.length cap] 89 (0, 0)) := hbk
      rw [Lib.cell_of_heap this]; rfl
    have hSD : (Builtin.unsafeSliceData_ #[27] 111 #[.slice (some ⟨g, 0, none⟩) l.length cap]).run Tryd.prog w.drew = .ok (.pointer (some ⟨g, 0, none⟩)) w.drew :=
      Lib.run_unsafeSliceData_row _ _ _ _ _ _ (by have := List.length_pos_iff.2 hne; omega)
    have hUS : (Builtin.unsafeString_ #[111, 3] 9 #[.pointer (some ⟨g, 0, none⟩), .int .i64 l.length]).run Tryd.prog w.drew = .ok (.string ⟨l.toArray⟩) (w.drew.freeze ⟨g, 0, none⟩ l.length) := by
      refine Lib.run_unsafeString_row w.drew 111 3 9 5 Tryd.underlying111 jn23_extra.cellsByte g cur.size (by have hg' : w.drew.heap[g]? = some (.cells cur 5 (0, 0)) := hg; simp [World.shape?, hg']) l hne (by omega) (by unfold maxLen at hm; omega) ?_
      intro j x hx
      exact hown.cells (g := g) rfl j (.int .u8 x.toNat) (by simp [Lib.byteCells, hx])
    have hrc : cap ≠ 0 := by have := List.length_pos_iff.2 hne; omega
    clear hg hown hm hcs ht
    have mixed := mixed
    go_enter Tryd.func42, Tryd.ntmps42
    go_wp2
    go_region_o
    all_goals (go_wp2; go_ret; exact ⟨rfl, .inr ⟨g, rfl, rfl⟩⟩)
theorem bd_pre {μ : Emb} {w : World} {c0 c1 : Nat} {l : List UInt8} (h01 : c0 ≠ c1) (hp : PreOK μ [(c0, .bld 89 c1 l.length), (c1, .tg 5 l)] w) :
    ∃ p0 v, μ c0 = some p0 ∧ p0.off = 0 ∧ bd_At w p0.rb v l ∧ (∀ g, v.ownBlock = some g → ∃ p1, μ c1 = some p1 ∧ p1.rb = g) ∧ (v = .slice none 0 0 ↔ l = []) ∧ μ.fro p0.rb = none := by
  obtain ⟨p0, hp0, hoff, v0, v, hb, hv0, hbuf⟩ := hp.obj c0 (.bld 89 c1 l.length) List.mem_cons_self
  refine ⟨p0, v, hp0, hoff, ?_⟩
  have hfr := hp.frs c0 _ p0 (List.mem_cons_self) rfl hp0
  have hh : w.heap[p0.rb]? = some (.cells #[.pointer none, v] 89 (0, 0)) ∨ w.heap[p0.rb]? = some (.cells #[.pointer (some ⟨p0.rb, 0, none⟩), v] 89 (0, 0)) := by
    rcases hv0 with rfl | rfl
    · exact .inl hb
    · exact .inr hb
  rcases hbuf with ⟨h0, rfl⟩ | ⟨h0, q, hq, hqo, rfl⟩
  · have hl : l = [] := List.eq_nil_of_length_eq_zero h0
    subst hl
    exact ⟨⟨hh, World.ownsRow_nil w _ _ _, by simp [Value.ownBlock]⟩, by simp [Value.ownBlock], by simp, hfr⟩
  · rcases hp.obj' c1 _ (List.mem_cons_of_mem _ List.mem_cons_self) with ⟨h1, _⟩ | ⟨p, hpc, hok⟩
    · rw [h1] at hq; cases hq
    obtain rfl := Option.some.inj (hq.symm.trans hpc)
    obtain ⟨k0, k1, k2, k3, cells, k4, k5, k6⟩ := hok
    have hlen : (Lib.byteCells l).length = l.length * 1 := by simp [Lib.byteCells_length]
    have hne := hp.sep c0 _ c1 _ p0 q List.mem_cons_self (List.mem_cons_of_mem _ List.mem_cons_self) h01 (.inl rfl) hp0 hq
    refine ⟨⟨hh, ⟨hlen, .inr ⟨q.rb, q.ext, cells, rfl, Nat.zero_le _, k4, k2, k3, by omega, by rw [Nat.mul_one]; exact k6⟩⟩, ?_⟩, ?_, ?_, hfr⟩
    · simp only [Value.ownBlock, ne_eq, Option.some.injEq]; exact fun e => hne e.symm
    · intro g hg
      simp only [Value.ownBlock, Option.some.injEq] at hg
      exact ⟨q, hq, hg⟩
    · constructor
      · intro h; cases h
      · rintro rfl; exact absurd rfl h0
theorem bd_delta {μ : Emb} {w w' : World} {c0 c1 c2 : Nat} {l l' : List UInt8} (h01 : c0 ≠ c1) (h02 : c2 ≠ c0) (h12 : c2 ≠ c1) (hp : PreOK μ [(c0, .bld 89 c1 l.length), (c1, .tg 5 l)] w) (hc2 : μ c2 = none)
    {p0 : Pl} {v v' : Value} (hp0 : μ c0 = some p0) (ho0 : p0.off = 0) (hat : bd_At w p0.rb v l) (h1 : ∀ g, v.ownBlock = some g → ∃ p1, μ c1 = some p1 ∧ p1.rb = g) (hpo : bd_Post w p0.rb v l' v' w') (hv' : v' = .slice none 0 0 ↔ l' = []) :
    ∃ μ', Delta μ w [(c0, .bld 89 c1 l.length), (c1, .tg 5 l)] [(c0, some (.bld 89 c2 l'.length)), (c1, none), (c2, some (.tg 5 l'))] μ' w' := by
  have hlt := hat.lt
  have hnb : v'.ownBlock ≠ some p0.rb := fun e => by
    rcases hpo.new _ e with h | h
    · exact hat.ne h
    · omega
  have keep : ∀ b, b < w.heap.size → (∀ c o p, (c, o) ∈ [(c0, LO.bld 89 c1 l.length), (c1, LO.tg 5 l)] → o.wr = true → Upd.has [(c0, some (.bld 89 c2 l'.length)), (c1, none), (c2, some (.tg 5 l'))] c = true → μ c = some p → p.rb ≠ b) → w'.heap[b]? = w.heap[b]? := by
    intro b hb hk
    refine hpo.block b hb (fun e => hk c0 _ p0 List.mem_cons_self rfl (by simp [Upd.has]) hp0 e.symm) (fun e => ?_)
    obtain ⟨p1, hp1, e1⟩ := h1 b e.symm
    exact hk c1 _ p1 (List.mem_cons_of_mem _ List.mem_cons_self) rfl (by simp [Upd.has]) hp1 e1
  have hdr : drawsOn = true → w.drawn ≤ w'.drawn := fun h => absurd h (by decide)
  rcases bd_shape hpo.own with ⟨rfl, hl⟩ | ⟨g, cap, cur, rfl, hg, hc, hm, hcs, ht⟩
  · subst hl
    refine ⟨μ, ⟨Ext.refl μ, fun _ _ h => .inl h, hpo.os, hpo.tape, hpo.output, hdr, hpo.size, keep, ?_, ?_, ?_, fun _ _ h => .inl h, ?_⟩⟩
    · intro c o hco
      simp only [List.mem_cons, Prod.mk.injEq, Option.some.injEq, List.not_mem_nil, or_false, reduceCtorEq, and_false, false_or] at hco
      rcases hco with ⟨rfl, rfl⟩ | ⟨rfl, rfl⟩
      · exact .inr ⟨p0, hp0, ho0, _, _, hpo.hb, .inr rfl, .inl ⟨rfl, rfl⟩⟩
      · exact .inl ⟨hc2, rfl⟩
    · intro c o p hco hpc
      simp only [List.mem_cons, Prod.mk.injEq, Option.some.injEq, List.not_mem_nil, or_false, reduceCtorEq, and_false, false_or] at hco
      rcases hco with ⟨rfl, rfl⟩ | ⟨rfl, rfl⟩
      · exact .inr ⟨c, _, p0, List.mem_cons_self, rfl, by simp [Upd.has], hp0, by rw [hp0] at hpc; rw [Option.some.inj hpc]⟩
      · rw [hc2] at hpc; cases hpc
    · intro c o c' o' p p' hco hco' hne hw hpc hpc'
      simp only [List.mem_cons, Prod.mk.injEq, Option.some.injEq, List.not_mem_nil, or_false, reduceCtorEq, and_false, false_or] at hco hco'
      rcases hco with ⟨rfl, rfl⟩ | ⟨rfl, rfl⟩ <;> rcases hco' with ⟨rfl, rfl⟩ | ⟨rfl, rfl⟩
      · exact absurd rfl hne
      · rw [hc2] at hpc'; cases hpc'
      · rw [hc2] at hpc; cases hpc
      · exact absurd rfl hne
    · intro hf c o p hco hw hpc
      simp only [List.mem_cons, Prod.mk.injEq, Option.some.injEq, List.not_mem_nil, or_false, reduceCtorEq, and_false, false_or] at hco
      rcases hco with ⟨rfl, rfl⟩ | ⟨rfl, rfl⟩
      · exact hf.2 c _ p List.mem_cons_self rfl hpc
      · rw [hc2] at hpc; cases hpc
  · have hl0 : l' ≠ [] := fun h => by cases hv'.2 h
    have hgp : g ≠ p0.rb := fun e => hnb (by simp [Value.ownBlock, e])
    have e0 : (μ.set c2 ⟨g, 0, 1, cap⟩) c0 = some p0 := by rw [Emb.set_at, if_neg (Ne.symm h02)]; exact hp0
    have hold : v.ownBlock = some g ∨ w.heap.size ≤ g := hpo.new g rfl
    refine ⟨μ.set c2 ⟨g, 0, 1, cap⟩, ⟨Emb.ext_set hc2, ?_, hpo.os, hpo.tape, hpo.output, hdr, hpo.size, keep, ?_, ?_, ?_, fun _ _ h => .inl h, ?_⟩⟩
    · intro c p hpc
      rw [Emb.set_at] at hpc
      split at hpc
      · rename_i e; subst e; exact .inr ⟨by simp [Upd.has], hc2⟩
      · exact .inl hpc
    · intro c o hco
      simp only [List.mem_cons, Prod.mk.injEq, Option.some.injEq, List.not_mem_nil, or_false, reduceCtorEq, and_false, false_or] at hco
      rcases hco with ⟨rfl, rfl⟩ | ⟨rfl, rfl⟩
      · exact .inr ⟨p0, e0, ho0, _, _, hpo.hb, .inr rfl, .inr ⟨fun h => hl0 (List.eq_nil_of_length_eq_zero h), _, Emb.set_self, rfl, rfl⟩⟩
      · exact .inr ⟨_, Emb.set_self, rfl, rfl, hc, hm, cur, hg, hcs, ht⟩
    · intro c o p hco hpc
      simp only [List.mem_cons, Prod.mk.injEq, Option.some.injEq, List.not_mem_nil, or_false, reduceCtorEq, and_false, false_or] at hco
      rcases hco with ⟨rfl, rfl⟩ | ⟨rfl, rfl⟩
      · exact .inr ⟨c, _, p0, List.mem_cons_self, rfl, by simp [Upd.has], hp0, by rw [e0] at hpc; rw [Option.some.inj hpc]⟩
      · rw [Emb.set_self] at hpc
        obtain rfl := Option.some.inj hpc
        rcases hold with h | h
        · obtain ⟨p1, hp1, hr⟩ := h1 g h
          exact .inr ⟨c1, _, p1, List.mem_cons_of_mem _ List.mem_cons_self, rfl, by simp [Upd.has], hp1, hr⟩
        · exact .inl h
    · intro c o c' o' p p' hco hco' hne hw hpc hpc'
      simp only [List.mem_cons, Prod.mk.injEq, Option.some.injEq, List.not_mem_nil, or_false, reduceCtorEq, and_false, false_or] at hco hco'
      rcases hco with ⟨rfl, rfl⟩ | ⟨rfl, rfl⟩ <;> rcases hco' with ⟨rfl, rfl⟩ | ⟨rfl, rfl⟩
      · exact absurd rfl hne
      · rw [e0] at hpc; rw [Emb.set_self] at hpc'; cases hpc; cases hpc'; exact fun e => hgp e.symm
      · rw [e0] at hpc'; rw [Emb.set_self] at hpc; cases hpc; cases hpc'; exact hgp
      · exact absurd rfl hne
    · intro hf c o p hco hw hpc
      simp only [List.mem_cons, Prod.mk.injEq, Option.some.injEq, List.not_mem_nil, or_false, reduceCtorEq, and_false, false_or] at hco
      rcases hco with ⟨rfl, rfl⟩ | ⟨rfl, rfl⟩
      · rw [e0] at hpc; exact hf.2 c _ p List.mem_cons_self rfl (hp0.trans hpc)
      · rw [Emb.set_self] at hpc
        obtain rfl := Option.some.inj hpc
        rcases hold with h | h
        · obtain ⟨p1, hp1, hr⟩ := h1 g h
          have := hf.2 c1 _ p1 (List.mem_cons_of_mem _ List.mem_cons_self) rfl hp1
          rw [hr] at this; exact this
        · cases hx : (μ.set c ⟨g, 0, 1, cap⟩).fro g with
          | none => rfl
          | some cs => have := hf.1 _ _ hx; omega
theorem bd_free {μ : Emb} {c0 c1 c2 : Nat} {o0 o1 : LO} {a b c : Option LO} (h02 : c2 ≠ c0) (h12 : c2 ≠ c1) (hf : Fits μ [(c0, o0), (c1, o1)] [(c0, a), (c1, b), (c2, c)]) : μ c2 = none := by
  rcases hf c2 (by simp [Upd.has]) with ⟨o, h, _⟩ | h
  · simp only [List.mem_cons, Prod.mk.injEq, List.not_mem_nil, or_false] at h
    rcases h with ⟨h, _⟩ | ⟨h, _⟩
    · exact absurd h h02
    · exact absurd h h12
  · exact h
theorem bd_wsT (c0 c1 c2 : Nat) (h01 : c0 ≠ c1) (h02 : c2 ≠ c0) (h12 : c2 ≠ c1) (l s : List UInt8) (hb : l.length + s.length ≤ 140737488351232) :
    FnTri Tryd.prog 40 [.ptr c0 0 0, .str s] [(c0, .bld 89 c1 l.length), (c1, .tg 5 l)] (.tup [.int .i64 s.length, .any]) [(c0, some (.bld 89 c2 (l ++ s).length)), (c1, none), (c2, some (.tg 5 (l ++ s)))] := by
  refine ⟨⟨Tryd.f40, Tryd.func40, by kernel_rfl, by kernel_rfl⟩, ?_⟩
  rintro μ w vals ⟨v1, r1, rfl, ⟨q, hq, rfl⟩, v2, r2, rfl, rfl, rfl⟩ hp hf
  obtain ⟨p0, v, hp0, ho0, hat, h1, hv, hfr⟩ := bd_pre h01 hp
  obtain rfl := Option.some.inj (hp0.symm.trans hq)
  have ea : p0.addr 0 0 = ⟨p0.rb, 0, none⟩ := by simp [Pl.addr, ho0]
  rw [ea]
  refine (bd_ws w p0.rb v l s hat hb).mono ?_
  rintro e w' ⟨rfl, v', hpo, hv'⟩
  obtain ⟨μ', hd⟩ := bd_delta h01 h02 h12 hp (bd_free h02 h12 hf) hp0 ho0 hat h1 hpo (by rw [hv', hv]; simp)
  exact ⟨_, μ', rfl, ⟨_, rfl, _, _, rfl, rfl, _, _, rfl, trivial, rfl⟩, hd⟩
theorem bd_wbT (c0 c1 c2 : Nat) (h01 : c0 ≠ c1) (h02 : c2 ≠ c0) (h12 : c2 ≠ c1) (l : List UInt8) (c : UInt8) (hb : l.length + 1 ≤ 140737488351232) :
    FnTri Tryd.prog 41 [.ptr c0 0 0, .int .u8 c.toNat] [(c0, .bld 89 c1 l.length), (c1, .tg 5 l)] .any [(c0, some (.bld 89 c2 (l ++ [c]).length)), (c1, none), (c2, some (.tg 5 (l ++ [c])))] := by
  refine ⟨⟨Tryd.f41, Tryd.func41, by kernel_rfl, by kernel_rfl⟩, ?_⟩
  rintro μ w vals ⟨v1, r1, rfl, ⟨q, hq, rfl⟩, v2, r2, rfl, rfl, rfl⟩ hp hf
  obtain ⟨p0, v, hp0, ho0, hat, h1, hv, hfr⟩ := bd_pre h01 hp
  obtain rfl := Option.some.inj (hp0.symm.trans hq)
  have ea : p0.addr 0 0 = ⟨p0.rb, 0, none⟩ := by simp [Pl.addr, ho0]
  rw [ea]
  refine (bd_wb w p0.rb v l c hat hb).mono ?_
  rintro e w' ⟨rfl, v', hpo, hv'⟩
  obtain ⟨μ', hd⟩ := bd_delta h01 h02 h12 hp (bd_free h02 h12 hf) hp0 ho0 hat h1 hpo (by rw [hv']; simp)
  exact ⟨_, μ', rfl, trivial, hd⟩
theorem bd_stT (c0 c1 : Nat) (h01 : c0 ≠ c1) (l : List UInt8) :
    FnTri Tryd.prog 42 [.ptr c0 0 0] [(c0, .bld 89 c1 l.length), (c1, .tg 5 l)] (.str l) [(c0, none), (c1, none)] := by
  refine ⟨⟨Tryd.f42, Tryd.func42, by kernel_rfl, by kernel_rfl⟩, ?_⟩
  rintro μ w vals ⟨v1, r1, rfl, ⟨q, hq, rfl⟩, rfl⟩ hp hf
  obtain ⟨p0, v, hp0, ho0, hat, h1, hv, hfr⟩ := bd_pre h01 hp
  obtain rfl := Option.some.inj (hp0.symm.trans hq)
  have ea : p0.addr 0 0 = ⟨p0.rb, 0, none⟩ := by simp [Pl.addr, ho0]
  rw [ea]
  obtain ⟨p, hbk⟩ : ∃ p, w.heap[p0.rb]? = some (.cells #[p, v] 89 (0, 0)) := by rcases hat.hb with h | h <;> exact ⟨_, h⟩
  refine (bd_st w p0.rb p v l hbk hat.own hv).mono ?_
  rintro e w' ⟨rfl, hw'⟩
  have hkeep : ∀ b, (∀ g, v.ownBlock = some g → g ≠ b) → w'.heap[b]? = w.heap[b]? := by
    intro b hb
    rcases hw' with rfl | ⟨g, hg, rfl⟩
    · rfl
    · unfold World.freeze
      split
      · rfl
      · simp only [Array.getElem?_modify]
        rw [if_neg (hb g hg)]; rfl
  have hside : w'.os = w.os ∧ w'.tape = w.tape ∧ w'.output = w.output ∧ w'.heap.size = w.heap.size := by
    rcases hw' with rfl | ⟨g, hg, rfl⟩
    · exact ⟨rfl, rfl, rfl, rfl⟩
    · unfold World.freeze
      split
      · exact ⟨rfl, rfl, rfl, rfl⟩
      · exact ⟨rfl, rfl, rfl, by simp⟩
  refine ⟨_, μ, rfl, rfl, ⟨Ext.refl μ, fun _ _ h => .inl h, hside.1, hside.2.1, hside.2.2.1, fun h => absurd h (by decide), by rw [hside.2.2.2]; exact Nat.le_refl _, ?_, ?_, ?_, ?_, fun _ _ h => .inl h, ?_⟩⟩
  · intro b hb hk
    refine hkeep b (fun g hg e => ?_)
    obtain ⟨p1, hp1, e1⟩ := h1 g hg
    exact hk c1 _ p1 (List.mem_cons_of_mem _ List.mem_cons_self) rfl (by simp [Upd.has]) hp1 (e1.trans e)
  all_goals intros
  all_goals simp_all

/-- parrel/script.Text -/

def script_Text_v (r : (List UInt8) × (Int)) : LV := .tup [.str r.1, .int .i64 r.2]

def script_Text_T0 (l : List (T_script_Step)) (t11 : Int) (text : List UInt8) : List LV := [.ds 25 (l).length (rowF c_T_script_Step default l), .any, .any, .any, .ptr 0 0 0, .any, .any, .any, .any, .ds 25 (l).length (rowF c_T_script_Step default l), .int .i64 ((l).length : Int), .int .i64 t11, .any, .any, .any, .any, .any, .any, .any, .any, .any, .any, .any, .any, .any, .any, .any, .any, .any, .any, .any]

def script_Text_H0 (l : List (T_script_Step)) (t11 : Int) (text : List UInt8) : Heap := [some (.bld 89 1 (text).length), some (.tg 5 text)]

def script_Text_l0 (l : List (T_script_Step))  : Nat → (Int) → (List UInt8) → Option ((List UInt8) × (Int))
  | 0, _, _ => none
  | fuel + 1, t11, text =>
    if ((decide (t11 < ((l).length : Int))) : Bool) then
      if 0 ≤ t11 ∧ t11 < (((l).length : Nat) : Int) then
      (script_Line (l.getD t11.toNat default)).bind fun yL0_4 =>
      if ((yL0_4.2 != 0) : Bool) then
        some ([], yL0_4.2)
      else
        if (text).length + (yL0_4.1).length ≤ 140737488351232 then
        if ((text ++ yL0_4.1)).length + 1 ≤ 140737488351232 then
        script_Text_l0 l  fuel (IntKind.wrap .i64 (t11 + 1)) ((text ++ yL0_4.1) ++ [10])
        else none
        else none
      else none
    else
      if ((decide (4096 < ((l).length : Int))) : Bool) then
        some ([], 5)
      else
        some (text, 0)

def script_Text (l : List (T_script_Step)) : Option ((List UInt8) × (Int)) :=
  script_Text_l0 l  big 0 ([] : List UInt8)

theorem script_Text_l0_ok {w0 : World} {W : Nat → Prop} {μ0 : Emb} (hμ : ∀ c p, μ0 c = some p → c < 0) (l : List (T_script_Step))  : ∀ (fuel : Nat) (t11 : Int) (text : List UInt8) (r : (List UInt8) × (Int)), script_Text_l0 l  fuel t11 text = some r → kont Tryd.prog w0 W μ0 (FnPost Tryd.prog Tryd.f18 0 0 (script_Text_v r) []) (kAt (bodyOf Tryd.f18) 0) none (script_Text_T0 l t11 text) (script_Text_H0 l t11 text) := by
  intro fuel
  induction fuel with
  | zero => intro t11 text r h; rw [script_Text_l0] at h; cases h
  | succ fuel ih =>
    intro t11 text r h
    rw [script_Text_l0] at h
    rcases itb_some h with ⟨cL0_1, h⟩ | ⟨cL0_1, h⟩
    · skip
      obtain ⟨gL0_2, h⟩ := guard_some h
      obtain ⟨yL0_4, eL0_3, h⟩ := bind_some h
      rcases itb_some h with ⟨cL0_5, h⟩ | ⟨cL0_5, h⟩
      · skip
        obtain rfl := Option.some.inj h
        exact run_ret mixed (L := []) (n := 32) (s := [.go, .reg [(0, hT)], .reg [], .reg [(1, hC (script_Line_v yL0_4))], .reg [(1, hT)], .reg []])
          (a_ (a_ (f_ cL0_1 tr) (a_ (a_ (a_ (a_ (Eq.refl 25) gL0_2) tr) (a_ (a_ (le_ 25 25 rfl) tr) (r1_ (a_ (a_ (a_ (Eq.refl 25) (a_ (le_ 25 25 rfl) (Eq.refl 0))) tr) tr)))) (a_ (m_ 25 25 rfl (a_ (a_ (a_ (script_Line_tri (l.getD t11.toNat default) yL0_4 eL0_3) tr) tr) (r1_ (r4_ tr)))) (a_ (r1_ (f_ cL0_5 tr)) (a_ (r1_ (r2_ tr)) tr))))) tr) (by kernel_rfl) rfl
      · skip
        obtain ⟨gL0_6, h⟩ := guard_some h
        obtain ⟨gL0_7, h⟩ := guard_some h
        exact run_to mixed hμ (L := [0, 4]) (n := 38) (s := [.go, .reg [(0, hT)], .reg [], .reg [(1, hC (script_Line_v yL0_4))], .reg [(1, hF)], .reg [(1, { call := some (.tup [.int .i64 (((yL0_4.1).length : Nat) : Int), .any], [(0, .bld 89 1 (text).length), (1, .tg 5 text)], [(0, some (.bld 89 3 ((text ++ yL0_4.1)).length)), (1, none), (3, some (.tg 5 (text ++ yL0_4.1)))]) })], .reg [(0, { call := some (.any, [(0, .bld 89 3 ((text ++ yL0_4.1)).length), (3, .tg 5 (text ++ yL0_4.1))], [(0, some (.bld 89 4 (((text ++ yL0_4.1) ++ [10])).length)), (3, none), (4, some (.tg 5 ((text ++ yL0_4.1) ++ [10])))]) })], .reg []])
          (a_ (f_ cL0_1 tr) (a_ (a_ (a_ (a_ (Eq.refl 25) gL0_2) tr) (a_ (a_ (le_ 25 25 rfl) tr) (r1_ (a_ (a_ (a_ (Eq.refl 25) (a_ (le_ 25 25 rfl) (Eq.refl 0))) tr) tr)))) (a_ (m_ 25 25 rfl (a_ (a_ (a_ (script_Line_tri (l.getD t11.toNat default) yL0_4 eL0_3) tr) tr) (r1_ (r4_ tr)))) (a_ (r1_ (f_ cL0_5 tr)) (a_ (r1_ (a_ (a_ (a_ (bd_wsT 0 1 3 (by decide) (by decide) (by decide) text yL0_4.1 gL0_6) (a_ (LO.Le.refl (.bld 89 1 (text).length)) (a_ (LO.Le.refl (.tg 5 text)) tr))) tr) tr)) (a_ (a_ (a_ (a_ (bd_wbT 0 3 4 (by decide) (by decide) (by decide) (text ++ yL0_4.1) 10 gL0_7) (a_ (LO.Le.refl (.bld 89 3 ((text ++ yL0_4.1)).length)) (a_ (LO.Le.refl (.tg 5 (text ++ yL0_4.1))) tr))) tr) tr) (a_ (r2_ tr) tr))))))) (ih _ _ r h) (by kernel_rfl) ⟨lt_ 1 2 rfl, trivial, trivial⟩
    · skip
      rcases itb_some h with ⟨cL0_2, h⟩ | ⟨cL0_2, h⟩
      · skip
        obtain rfl := Option.some.inj h
        exact run_ret mixed (L := []) (n := 24) (s := [.go, .reg [(0, hF)], .reg [(2, hT)], .reg []])
          (a_ (a_ (f_ cL0_1 tr) (a_ (r2_ (f_ cL0_2 tr)) (a_ (r2_ tr) tr))) tr) (by kernel_rfl) rfl
      · skip
        obtain rfl := Option.some.inj h
        exact run_ret mixed (L := []) (n := 25) (s := [.go, .reg [(0, hF)], .reg [(2, hF)], .reg [(0, { call := some (.str text, [(0, .bld 89 1 (text).length), (1, .tg 5 text)], [(0, none), (1, none)]) })]])
          (a_ (a_ (f_ cL0_1 tr) (a_ (r2_ (f_ cL0_2 tr)) (a_ (a_ (a_ (a_ (bd_stT 0 1 (by decide) text) (a_ (LO.Le.refl (.bld 89 1 (text).length)) (a_ (LO.Le.refl (.tg 5 text)) tr))) tr) (r2_ tr)) tr))) tr) (by kernel_rfl) rfl

theorem script_Text_ok (l : List (T_script_Step)) (r : (List UInt8) × (Int)) (h : script_Text l = some r) : ∀ σ, Inj 0 σ → FnTri Tryd.prog 18 (renL σ [.ds 25 (l).length (rowF c_T_script_Step default l)]) (preOf σ 0 []) ((script_Text_v r).ren σ) (upOf σ []) := by
  refine fn_of Tryd.func18 (by kernel_rfl) (by kernel_rfl) (by kernel_rfl) trivial (by kernel_rfl) trivial (by kernel_rfl) ?_
  intro w0 W μ0 hμ
  unfold script_Text at h
  exact run_to mixed hμ (L := [1, 0]) (n := 22) (s := [.reg [], .void (.tg 5 ([] : List UInt8)), .reg [(0, { app := 100 })], .reg []])
    (a_ (r2_ tr) (a_ (Eq.refl ([] : List UInt8)) (a_ (r1_ tr) (a_ (r1_ (r2_ tr)) tr)))) (script_Text_l0_ok hμ l  big _ _ r h) (by kernel_rfl) ⟨lt_ 1 2 rfl, trivial, trivial⟩

theorem script_Text_tri (l : List (T_script_Step)) (r : (List UInt8) × (Int)) (h : script_Text l = some r) : FnTri Tryd.prog 18 [.ds 25 (l).length (rowF c_T_script_Step default l)] [] (script_Text_v r) [] := FnTri.none (script_Text_ok l r h) rfl rfl

/-- internal/stringslite.Index -/

def internal_stringslite_Index_3_v (r : (Int)) : LV := .int .i64 r

def internal_stringslite_Index_3 (s : List UInt8) : Option ((Int)) :=
  if ((([10] : List UInt8) == s) : Bool) then
    some 0
  else
    (internal_stringslite_IndexByte s 10).bind fun y3 =>
    some y3

theorem internal_stringslite_Index_3_ok (s : List UInt8) (r : (Int)) (h : internal_stringslite_Index_3 s = some r) : ∀ σ, Inj 0 σ → FnTri Tryd.prog 67 (renL σ [.str s, .str ([10] : List UInt8)]) (preOf σ 0 []) ((internal_stringslite_Index_3_v r).ren σ) (upOf σ []) := by
  refine fn_of Tryd.func67 (by kernel_rfl) (by kernel_rfl) (by kernel_rfl) trivial (by kernel_rfl) trivial (by kernel_rfl) ?_
  intro w0 W μ0 hμ
  unfold internal_stringslite_Index_3 at h
  rcases itb_some h with ⟨c1, h⟩ | ⟨c1, h⟩
  · skip
    obtain rfl := Option.some.inj h
    exact run_ret mixed (L := []) (n := 24) (s := [.reg [], .reg [], .reg [(7, hT)], .reg []])
      (a_ (a_ (r1_ tr) (a_ (r1_ (r2_ tr)) (a_ (r1_ (r2_ (r4_ (f_ c1 tr)))) (a_ (r1_ tr) tr)))) tr) (by kernel_rfl) rfl
  · skip
    obtain ⟨y3, e2, h⟩ := bind_some h
    obtain rfl := Option.some.inj h
    exact run_ret mixed (L := []) (n := 28) (s := [.reg [], .reg [], .reg [(7, hF)], .reg [], .reg [(3, hC (internal_stringslite_IndexByte_v y3))]])
      (a_ (a_ (r1_ tr) (a_ (r1_ (r2_ tr)) (a_ (r1_ (r2_ (r4_ (f_ c1 tr)))) (a_ (r1_ (r2_ tr)) (a_ (r2_ (a_ (a_ (a_ (lei_ 0 0 rfl) (lti_ 0 1 rfl)) tr) (c_ (internal_stringslite_IndexByte_tri s 10 y3 e2) (r1_ tr)))) tr))))) tr) (by kernel_rfl) rfl

theorem internal_stringslite_Index_3_tri (s : List UInt8) (r : (Int)) (h : internal_stringslite_Index_3 s = some r) : FnTri Tryd.prog 67 [.str s, .str ([10] : List UInt8)] [] (internal_stringslite_Index_3_v r) [] := FnTri.none (internal_stringslite_Index_3_ok s r h) rfl rfl

/-- internal/stringslite.Cut -/

def internal_stringslite_Cut_v (r : (List UInt8) × (List UInt8) × (Bool)) : LV := .tup [.str r.1, .str r.2.1, .bool r.2.2]

def internal_stringslite_Cut (s : List UInt8) : Option ((List UInt8) × (List UInt8) × (Bool)) :=
  (internal_stringslite_Index_3 s).bind fun y2 =>
  if ((decide (0 ≤ y2)) : Bool) then
    if 0 ≤ (0 : Int) ∧ (0 : Int) ≤ y2 ∧ y2 ≤ (((s).length : Nat) : Int) then
    if 0 ≤ (IntKind.wrap .i64 (y2 + 1)) ∧ (IntKind.wrap .i64 (y2 + 1)) ≤ (((s).length : Nat) : Int) ∧ (((s).length : Nat) : Int) ≤ (((s).length : Nat) : Int) then
    some (((s.drop 0).take (y2.toNat - 0)), ((s.drop ((IntKind.wrap .i64 (y2 + 1))).toNat).take (((s).length) - ((IntKind.wrap .i64 (y2 + 1))).toNat)), true)
    else none
    else none
  else
    some (s, [], false)

theorem internal_stringslite_Cut_ok (s : List UInt8) (r : (List UInt8) × (List UInt8) × (Bool)) (h : internal_stringslite_Cut s = some r) : ∀ σ, Inj 0 σ → FnTri Tryd.prog 56 (renL σ [.str s, .str ([10] : List UInt8)]) (preOf σ 0 []) ((internal_stringslite_Cut_v r).ren σ) (upOf σ []) := by
  refine fn_of Tryd.func56 (by kernel_rfl) (by kernel_rfl) (by kernel_rfl) trivial (by kernel_rfl) trivial (by kernel_rfl) ?_
  intro w0 W μ0 hμ
  unfold internal_stringslite_Cut at h
  obtain ⟨y2, e1, h⟩ := bind_some h
  rcases itb_some h with ⟨c3, h⟩ | ⟨c3, h⟩
  · skip
    obtain ⟨g4, h⟩ := guard_some h
    obtain ⟨g5, h⟩ := guard_some h
    obtain rfl := Option.some.inj h
    exact run_ret mixed (L := []) (n := 23) (s := [.reg [], .reg [(2, hC (internal_stringslite_Index_3_v y2))], .reg [(1, hT)], .reg []])
      (a_ (a_ (r1_ (r2_ tr)) (a_ (r2_ (c_ (internal_stringslite_Index_3_tri s y2 e1) (r1_ tr))) (a_ (r1_ (f_ c3 tr)) (a_ (r2_ (a_ (a_ g4 tr) (r1_ (r4_ (a_ (a_ g5 tr) (r1_ (r2_ tr))))))) tr)))) tr) (by kernel_rfl) rfl
  · skip
    obtain rfl := Option.some.inj h
    exact run_ret mixed (L := []) (n := 24) (s := [.reg [], .reg [(2, hC (internal_stringslite_Index_3_v y2))], .reg [(1, hF)], .reg []])
      (a_ (a_ (r1_ (r2_ tr)) (a_ (r2_ (c_ (internal_stringslite_Index_3_tri s y2 e1) (r1_ tr))) (a_ (r1_ (f_ c3 tr)) (a_ (r4_ tr) tr)))) tr) (by kernel_rfl) rfl

theorem internal_stringslite_Cut_tri (s : List UInt8) (r : (List UInt8) × (List UInt8) × (Bool)) (h : internal_stringslite_Cut s = some r) : FnTri Tryd.prog 56 [.str s, .str ([10] : List UInt8)] [] (internal_stringslite_Cut_v r) [] := FnTri.none (internal_stringslite_Cut_ok s r h) rfl rfl

/-- strings.Cut -/

def strings_Cut_v (r : (List UInt8) × (List UInt8) × (Bool)) : LV := .tup [.str r.1, .str r.2.1, .bool r.2.2]

def strings_Cut (s : List UInt8) : Option ((List UInt8) × (List UInt8) × (Bool)) :=
  (internal_stringslite_Cut s).bind fun y2 =>
  some (y2.1, y2.2.1, y2.2.2)

theorem strings_Cut_ok (s : List UInt8) (r : (List UInt8) × (List UInt8) × (Bool)) (h : strings_Cut s = some r) : ∀ σ, Inj 0 σ → FnTri Tryd.prog 37 (renL σ [.str s, .str ([10] : List UInt8)]) (preOf σ 0 []) ((strings_Cut_v r).ren σ) (upOf σ []) := by
  refine fn_of Tryd.func37 (by kernel_rfl) (by kernel_rfl) (by kernel_rfl) trivial (by kernel_rfl) trivial (by kernel_rfl) ?_
  intro w0 W μ0 hμ
  unfold strings_Cut at h
  obtain ⟨y2, e1, h⟩ := bind_some h
  obtain rfl := Option.some.inj h
  exact run_ret mixed (L := []) (n := 15) (s := [.reg [], .reg [(2, hC (internal_stringslite_Cut_v y2))]])
    (a_ (a_ (r1_ (r2_ tr)) (a_ (r2_ (c_ (internal_stringslite_Cut_tri s y2 e1) (r2_ (r4_ tr)))) tr)) tr) (by kernel_rfl) rfl

theorem strings_Cut_tri (s : List UInt8) (r : (List UInt8) × (List UInt8) × (Bool)) (h : strings_Cut s = some r) : FnTri Tryd.prog 37 [.str s, .str ([10] : List UInt8)] [] (strings_Cut_v r) [] := FnTri.none (strings_Cut_ok s r h) rfl rfl

end
end Go.Proofs.YtdchgoaokceomaaDoor.Wk
