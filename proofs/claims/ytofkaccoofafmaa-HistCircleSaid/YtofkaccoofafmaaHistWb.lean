/- Printed by tr.py: Go functions as Lean functions, with the proofs that they walk so. -/
import Derived.Test.YtofkaccoofafmaaHistWa
namespace Go.Proofs.Ytofkaccoofafmaa.Wk
open Go Go.Cn
set_option maxRecDepth 100000
set_option maxHeartbeats 4000000
set_option linter.unusedVariables false
set_option linter.unusedSimpArgs false
/-- parrel/parrellaw26.alive -/

def parrellaw26_alive_v (r : (Bool)) : LV := .bool r

def parrellaw26_alive  : Option ((Bool)) :=
  (parrellaw26_lost).bind fun y2 =>
  (hist_Order y2).bind fun y4 =>
  (parrellaw26_lost).bind fun y6 =>
  if 0 ≤ (0 : Int) ∧ 0 ≤ (1 : Int) ∧ (1 : Int) ≤ (((y6).length : Nat) : Int) then
  (hist_Order (y6.take 1)).bind fun y9 =>
  if ((((y4.1).length : Int) == 0) : Bool) then
    if ((y4.2 == 11) : Bool) then
      (parrellaw26_lost).bind fun y13 =>
      (hist_Circle y13).bind fun y15 =>
      (parrelref01_Ints y15 ([0, 1])).bind fun y17 =>
      if (y17 : Bool) then
        (parrelref01_Ints y9.1 ([0])).bind fun y20 =>
        if (y20 : Bool) then
          if ((y9.2 == 0) : Bool) then
            (parrellaw26_lost).bind fun y24 =>
            if 0 ≤ (0 : Int) ∧ 0 ≤ (1 : Int) ∧ (1 : Int) ≤ (((y24).length : Nat) : Int) then
            (hist_Play (y24.take 1) y9.1).bind fun y27 =>
            some y27
            else none
          else
            some false
        else
          some false
      else
        some false
    else
      some false
  else
    some false
  else none

theorem parrellaw26_alive_ok  (r : (Bool)) (h : parrellaw26_alive  = some r) : ∀ σ, Inj 0 σ → FnTri Try.prog 9 (renL σ []) (preOf σ 0 []) ((parrellaw26_alive_v r).ren σ) (upOf σ []) := by
  refine fn_of Try.func9 (by kernel_rfl) (by kernel_rfl) (by kernel_rfl) trivial (by kernel_rfl) trivial (by kernel_rfl) ?_
  intro w0 W μ0 hμ
  unfold parrellaw26_alive at h
  obtain ⟨y2, e1, h⟩ := bind_some h
  obtain ⟨y4, e3, h⟩ := bind_some h
  obtain ⟨y6, e5, h⟩ := bind_some h
  obtain ⟨g7, h⟩ := guard_some h
  obtain ⟨y9, e8, h⟩ := bind_some h
  rcases itb_some h with ⟨c10, h⟩ | ⟨c10, h⟩
  · skip
    rcases itb_some h with ⟨c11, h⟩ | ⟨c11, h⟩
    · skip
      obtain ⟨y13, e12, h⟩ := bind_some h
      obtain ⟨y15, e14, h⟩ := bind_some h
      obtain ⟨y17, e16, h⟩ := bind_some h
      rcases itb_some h with ⟨c18, h⟩ | ⟨c18, h⟩
      · skip
        obtain ⟨y20, e19, h⟩ := bind_some h
        rcases itb_some h with ⟨c21, h⟩ | ⟨c21, h⟩
        · skip
          rcases itb_some h with ⟨c22, h⟩ | ⟨c22, h⟩
          · skip
            obtain ⟨y24, e23, h⟩ := bind_some h
            obtain ⟨g25, h⟩ := guard_some h
            obtain ⟨y27, e26, h⟩ := bind_some h
            obtain rfl := Option.some.inj h
            exact run_ret mixed (L := []) (n := 21) (s := [.reg [], .reg [(0, { call := some (parrellaw26_lost_v y2, [], []) }), (1, { call := some (hist_Order_v y4, [], []) })], .reg [(0, { call := some (parrellaw26_lost_v y6, [], []) }), (1, { v := some (.ds 4 ((y6.take 1)).length (rowF c_T_hist_Tx default (y6.take 1))) }), (2, { call := some (hist_Order_v y9, [], []) })], .reg [(3, { v := some (.bool true) }), (7, { v := some (.bool true) }), (8, { call := some (parrellaw26_lost_v y13, [], []) }), (9, { call := some (hist_Circle_v y15, [], []) }), (10, { os := [(0, .gr 1 ([0, 1]).length (rowF (cInt .i64) default [0, 1]))], v := some (.gs 0 ([0, 1]).length) }), (11, { call := some ((parrelref01_Ints_v y17).ren (sel [0]), preOf (sel [0]) 0 (parrelref01_Ints_objs y15 ([0, 1])), upOf (sel [0]) (parrelref01_Ints_up y15 ([0, 1]) y17)) }), (13, { v := some (.bool true) }), (15, { os := [(1, .gr 1 ([0]).length (rowF (cInt .i64) default [0]))], v := some (.gs 1 ([0]).length) }), (16, { call := some ((parrelref01_Ints_v y20).ren (sel [1]), preOf (sel [1]) 0 (parrelref01_Ints_objs y9.1 ([0])), upOf (sel [1]) (parrelref01_Ints_up y9.1 ([0]) y20)) }), (18, { v := some (.bool true) }), (22, { v := some (.bool true) }), (23, { call := some (parrellaw26_lost_v y24, [], []) }), (24, { v := some (.ds 4 ((y24.take 1)).length (rowF c_T_hist_Tx default (y24.take 1))) }), (26, { call := some (hist_Play_v y27, [], []) })]])
              (a_ (a_ (a_ (a_ tr tr) tr) (a_ (a_ (a_ (a_ (parrellaw26_lost_tri  y2 e1) tr) tr) (a_ (a_ (a_ (hist_Order_tri y2 y4 e3) tr) tr) (a_ (a_ tr tr) (a_ (a_ tr tr) (a_ (a_ tr tr) (a_ (a_ tr tr) (a_ (a_ tr tr) tr))))))) (a_ (a_ (a_ (a_ (parrellaw26_lost_tri  y6 e5) tr) tr) (a_ (a_ (a_ (Eq.refl 4) g7) (a_ (le_take c_T_hist_Tx default 4 y6 1 (toN_le g7.2.2)) tr)) (a_ (a_ (a_ (hist_Order_tri (y6.take 1) y9 e8) tr) tr) (a_ (a_ tr tr) (a_ (a_ tr tr) (a_ (a_ tr tr) (a_ (a_ tr tr) (a_ (a_ tr tr) tr)))))))) (a_ (a_ (a_ tr tr) (a_ (a_ tr tr) (a_ (a_ tr tr) (a_ (a_ tr (a_ (leB c10) tr)) (a_ (a_ tr tr) (a_ (a_ tr tr) (a_ (a_ tr tr) (a_ (a_ tr (a_ (leB c11) tr)) (a_ (a_ (a_ (parrellaw26_lost_tri  y13 e12) tr) tr) (a_ (a_ (a_ (hist_Circle_tri y13 y15 e14) tr) tr) (a_ (a_ (a_ (Eq.refl true) (a_ (Eq.refl 1) (a_ (lt_ 0 1 rfl) (le_ 2 16777216 rfl)))) (a_ (le_sl_gs 0 2 (some 2) rfl) (a_ (sub_lit (cInt .i64) default 1 (fun _ => rfl) [0, 1]) tr))) (a_ (a_ (a_ (parrelref01_Ints_ok y15 ([0, 1]) y17 e16 (sel [0]) (sel_inj rfl rfl)) (a_ (LO.Le.refl (.gr 1 ([0, 1]).length (rowF (cInt .i64) default [0, 1]))) tr)) tr) (a_ (a_ tr tr) (a_ (a_ tr (a_ (leB c18) tr)) (a_ (a_ tr tr) (a_ (a_ (a_ (Eq.refl true) (a_ (Eq.refl 1) (a_ (lt_ 0 1 rfl) (le_ 1 16777216 rfl)))) (a_ (le_sl_gs 1 1 (some 1) rfl) (a_ (sub_lit (cInt .i64) default 1 (fun _ => rfl) [0]) tr))) (a_ (a_ (a_ (parrelref01_Ints_ok y9.1 ([0]) y20 e19 (sel [1]) (sel_inj rfl rfl)) (a_ (LO.Le.refl (.gr 1 ([0]).length (rowF (cInt .i64) default [0]))) tr)) tr) (a_ (a_ tr tr) (a_ (a_ tr (a_ (leB c21) tr)) (a_ (a_ tr tr) (a_ (a_ tr tr) (a_ (a_ tr tr) (a_ (a_ tr (a_ (leB c22) tr)) (a_ (a_ (a_ (parrellaw26_lost_tri  y24 e23) tr) tr) (a_ (a_ (a_ (Eq.refl 4) g25) (a_ (le_take c_T_hist_Tx default 4 y24 1 (toN_le g25.2.2)) tr)) (a_ (a_ tr tr) (a_ (a_ (a_ (hist_Play_tri (y24.take 1) y9.1 y27 e26) tr) tr) (a_ (a_ tr tr) (a_ (a_ tr tr) tr))))))))))))))))))))))))))))) tr)))) tr) (by kernel_rfl) rfl
          · skip
            obtain rfl := Option.some.inj h
            exact run_ret mixed (L := []) (n := 21) (s := [.reg [], .reg [(0, { call := some (parrellaw26_lost_v y2, [], []) }), (1, { call := some (hist_Order_v y4, [], []) })], .reg [(0, { call := some (parrellaw26_lost_v y6, [], []) }), (1, { v := some (.ds 4 ((y6.take 1)).length (rowF c_T_hist_Tx default (y6.take 1))) }), (2, { call := some (hist_Order_v y9, [], []) })], .reg [(3, { v := some (.bool true) }), (7, { v := some (.bool true) }), (8, { call := some (parrellaw26_lost_v y13, [], []) }), (9, { call := some (hist_Circle_v y15, [], []) }), (10, { os := [(0, .gr 1 ([0, 1]).length (rowF (cInt .i64) default [0, 1]))], v := some (.gs 0 ([0, 1]).length) }), (11, { call := some ((parrelref01_Ints_v y17).ren (sel [0]), preOf (sel [0]) 0 (parrelref01_Ints_objs y15 ([0, 1])), upOf (sel [0]) (parrelref01_Ints_up y15 ([0, 1]) y17)) }), (13, { v := some (.bool true) }), (15, { os := [(1, .gr 1 ([0]).length (rowF (cInt .i64) default [0]))], v := some (.gs 1 ([0]).length) }), (16, { call := some ((parrelref01_Ints_v y20).ren (sel [1]), preOf (sel [1]) 0 (parrelref01_Ints_objs y9.1 ([0])), upOf (sel [1]) (parrelref01_Ints_up y9.1 ([0]) y20)) }), (18, { v := some (.bool true) }), (22, { v := some (.bool false) })]])
              (a_ (a_ (a_ (a_ tr tr) tr) (a_ (a_ (a_ (a_ (parrellaw26_lost_tri  y2 e1) tr) tr) (a_ (a_ (a_ (hist_Order_tri y2 y4 e3) tr) tr) (a_ (a_ tr tr) (a_ (a_ tr tr) (a_ (a_ tr tr) (a_ (a_ tr tr) (a_ (a_ tr tr) tr))))))) (a_ (a_ (a_ (a_ (parrellaw26_lost_tri  y6 e5) tr) tr) (a_ (a_ (a_ (Eq.refl 4) g7) (a_ (le_take c_T_hist_Tx default 4 y6 1 (toN_le g7.2.2)) tr)) (a_ (a_ (a_ (hist_Order_tri (y6.take 1) y9 e8) tr) tr) (a_ (a_ tr tr) (a_ (a_ tr tr) (a_ (a_ tr tr) (a_ (a_ tr tr) (a_ (a_ tr tr) tr)))))))) (a_ (a_ (a_ tr tr) (a_ (a_ tr tr) (a_ (a_ tr tr) (a_ (a_ tr (a_ (leB c10) tr)) (a_ (a_ tr tr) (a_ (a_ tr tr) (a_ (a_ tr tr) (a_ (a_ tr (a_ (leB c11) tr)) (a_ (a_ (a_ (parrellaw26_lost_tri  y13 e12) tr) tr) (a_ (a_ (a_ (hist_Circle_tri y13 y15 e14) tr) tr) (a_ (a_ (a_ (Eq.refl true) (a_ (Eq.refl 1) (a_ (lt_ 0 1 rfl) (le_ 2 16777216 rfl)))) (a_ (le_sl_gs 0 2 (some 2) rfl) (a_ (sub_lit (cInt .i64) default 1 (fun _ => rfl) [0, 1]) tr))) (a_ (a_ (a_ (parrelref01_Ints_ok y15 ([0, 1]) y17 e16 (sel [0]) (sel_inj rfl rfl)) (a_ (LO.Le.refl (.gr 1 ([0, 1]).length (rowF (cInt .i64) default [0, 1]))) tr)) tr) (a_ (a_ tr tr) (a_ (a_ tr (a_ (leB c18) tr)) (a_ (a_ tr tr) (a_ (a_ (a_ (Eq.refl true) (a_ (Eq.refl 1) (a_ (lt_ 0 1 rfl) (le_ 1 16777216 rfl)))) (a_ (le_sl_gs 1 1 (some 1) rfl) (a_ (sub_lit (cInt .i64) default 1 (fun _ => rfl) [0]) tr))) (a_ (a_ (a_ (parrelref01_Ints_ok y9.1 ([0]) y20 e19 (sel [1]) (sel_inj rfl rfl)) (a_ (LO.Le.refl (.gr 1 ([0]).length (rowF (cInt .i64) default [0]))) tr)) tr) (a_ (a_ tr tr) (a_ (a_ tr (a_ (leB c21) tr)) (a_ (a_ tr tr) (a_ (a_ tr tr) (a_ (a_ tr tr) (a_ (a_ tr (a_ (leB c22) tr)) (a_ tr (a_ tr (a_ tr (a_ tr (a_ (a_ tr tr) (a_ (a_ tr tr) tr))))))))))))))))))))))))))))) tr)))) tr) (by kernel_rfl) rfl
        · skip
          obtain rfl := Option.some.inj h
          exact run_ret mixed (L := []) (n := 21) (s := [.reg [], .reg [(0, { call := some (parrellaw26_lost_v y2, [], []) }), (1, { call := some (hist_Order_v y4, [], []) })], .reg [(0, { call := some (parrellaw26_lost_v y6, [], []) }), (1, { v := some (.ds 4 ((y6.take 1)).length (rowF c_T_hist_Tx default (y6.take 1))) }), (2, { call := some (hist_Order_v y9, [], []) })], .reg [(3, { v := some (.bool true) }), (7, { v := some (.bool true) }), (8, { call := some (parrellaw26_lost_v y13, [], []) }), (9, { call := some (hist_Circle_v y15, [], []) }), (10, { os := [(0, .gr 1 ([0, 1]).length (rowF (cInt .i64) default [0, 1]))], v := some (.gs 0 ([0, 1]).length) }), (11, { call := some ((parrelref01_Ints_v y17).ren (sel [0]), preOf (sel [0]) 0 (parrelref01_Ints_objs y15 ([0, 1])), upOf (sel [0]) (parrelref01_Ints_up y15 ([0, 1]) y17)) }), (13, { v := some (.bool true) }), (15, { os := [(1, .gr 1 ([0]).length (rowF (cInt .i64) default [0]))], v := some (.gs 1 ([0]).length) }), (16, { call := some ((parrelref01_Ints_v y20).ren (sel [1]), preOf (sel [1]) 0 (parrelref01_Ints_objs y9.1 ([0])), upOf (sel [1]) (parrelref01_Ints_up y9.1 ([0]) y20)) }), (18, { v := some (.bool false) })]])
            (a_ (a_ (a_ (a_ tr tr) tr) (a_ (a_ (a_ (a_ (parrellaw26_lost_tri  y2 e1) tr) tr) (a_ (a_ (a_ (hist_Order_tri y2 y4 e3) tr) tr) (a_ (a_ tr tr) (a_ (a_ tr tr) (a_ (a_ tr tr) (a_ (a_ tr tr) (a_ (a_ tr tr) tr))))))) (a_ (a_ (a_ (a_ (parrellaw26_lost_tri  y6 e5) tr) tr) (a_ (a_ (a_ (Eq.refl 4) g7) (a_ (le_take c_T_hist_Tx default 4 y6 1 (toN_le g7.2.2)) tr)) (a_ (a_ (a_ (hist_Order_tri (y6.take 1) y9 e8) tr) tr) (a_ (a_ tr tr) (a_ (a_ tr tr) (a_ (a_ tr tr) (a_ (a_ tr tr) (a_ (a_ tr tr) tr)))))))) (a_ (a_ (a_ tr tr) (a_ (a_ tr tr) (a_ (a_ tr tr) (a_ (a_ tr (a_ (leB c10) tr)) (a_ (a_ tr tr) (a_ (a_ tr tr) (a_ (a_ tr tr) (a_ (a_ tr (a_ (leB c11) tr)) (a_ (a_ (a_ (parrellaw26_lost_tri  y13 e12) tr) tr) (a_ (a_ (a_ (hist_Circle_tri y13 y15 e14) tr) tr) (a_ (a_ (a_ (Eq.refl true) (a_ (Eq.refl 1) (a_ (lt_ 0 1 rfl) (le_ 2 16777216 rfl)))) (a_ (le_sl_gs 0 2 (some 2) rfl) (a_ (sub_lit (cInt .i64) default 1 (fun _ => rfl) [0, 1]) tr))) (a_ (a_ (a_ (parrelref01_Ints_ok y15 ([0, 1]) y17 e16 (sel [0]) (sel_inj rfl rfl)) (a_ (LO.Le.refl (.gr 1 ([0, 1]).length (rowF (cInt .i64) default [0, 1]))) tr)) tr) (a_ (a_ tr tr) (a_ (a_ tr (a_ (leB c18) tr)) (a_ (a_ tr tr) (a_ (a_ (a_ (Eq.refl true) (a_ (Eq.refl 1) (a_ (lt_ 0 1 rfl) (le_ 1 16777216 rfl)))) (a_ (le_sl_gs 1 1 (some 1) rfl) (a_ (sub_lit (cInt .i64) default 1 (fun _ => rfl) [0]) tr))) (a_ (a_ (a_ (parrelref01_Ints_ok y9.1 ([0]) y20 e19 (sel [1]) (sel_inj rfl rfl)) (a_ (LO.Le.refl (.gr 1 ([0]).length (rowF (cInt .i64) default [0]))) tr)) tr) (a_ (a_ tr tr) (a_ (a_ tr (a_ (leB c21) tr)) (a_ tr (a_ tr (a_ (a_ tr tr) (a_ (a_ tr tr) (a_ tr (a_ tr (a_ tr (a_ tr (a_ (a_ tr tr) (a_ (a_ tr tr) tr))))))))))))))))))))))))))))) tr)))) tr) (by kernel_rfl) rfl
      · skip
        obtain rfl := Option.some.inj h
        exact run_ret mixed (L := []) (n := 21) (s := [.reg [], .reg [(0, { call := some (parrellaw26_lost_v y2, [], []) }), (1, { call := some (hist_Order_v y4, [], []) })], .reg [(0, { call := some (parrellaw26_lost_v y6, [], []) }), (1, { v := some (.ds 4 ((y6.take 1)).length (rowF c_T_hist_Tx default (y6.take 1))) }), (2, { call := some (hist_Order_v y9, [], []) })], .reg [(3, { v := some (.bool true) }), (7, { v := some (.bool true) }), (8, { call := some (parrellaw26_lost_v y13, [], []) }), (9, { call := some (hist_Circle_v y15, [], []) }), (10, { os := [(0, .gr 1 ([0, 1]).length (rowF (cInt .i64) default [0, 1]))], v := some (.gs 0 ([0, 1]).length) }), (11, { call := some ((parrelref01_Ints_v y17).ren (sel [0]), preOf (sel [0]) 0 (parrelref01_Ints_objs y15 ([0, 1])), upOf (sel [0]) (parrelref01_Ints_up y15 ([0, 1]) y17)) }), (13, { v := some (.bool false) })]])
          (a_ (a_ (a_ (a_ tr tr) tr) (a_ (a_ (a_ (a_ (parrellaw26_lost_tri  y2 e1) tr) tr) (a_ (a_ (a_ (hist_Order_tri y2 y4 e3) tr) tr) (a_ (a_ tr tr) (a_ (a_ tr tr) (a_ (a_ tr tr) (a_ (a_ tr tr) (a_ (a_ tr tr) tr))))))) (a_ (a_ (a_ (a_ (parrellaw26_lost_tri  y6 e5) tr) tr) (a_ (a_ (a_ (Eq.refl 4) g7) (a_ (le_take c_T_hist_Tx default 4 y6 1 (toN_le g7.2.2)) tr)) (a_ (a_ (a_ (hist_Order_tri (y6.take 1) y9 e8) tr) tr) (a_ (a_ tr tr) (a_ (a_ tr tr) (a_ (a_ tr tr) (a_ (a_ tr tr) (a_ (a_ tr tr) tr)))))))) (a_ (a_ (a_ tr tr) (a_ (a_ tr tr) (a_ (a_ tr tr) (a_ (a_ tr (a_ (leB c10) tr)) (a_ (a_ tr tr) (a_ (a_ tr tr) (a_ (a_ tr tr) (a_ (a_ tr (a_ (leB c11) tr)) (a_ (a_ (a_ (parrellaw26_lost_tri  y13 e12) tr) tr) (a_ (a_ (a_ (hist_Circle_tri y13 y15 e14) tr) tr) (a_ (a_ (a_ (Eq.refl true) (a_ (Eq.refl 1) (a_ (lt_ 0 1 rfl) (le_ 2 16777216 rfl)))) (a_ (le_sl_gs 0 2 (some 2) rfl) (a_ (sub_lit (cInt .i64) default 1 (fun _ => rfl) [0, 1]) tr))) (a_ (a_ (a_ (parrelref01_Ints_ok y15 ([0, 1]) y17 e16 (sel [0]) (sel_inj rfl rfl)) (a_ (LO.Le.refl (.gr 1 ([0, 1]).length (rowF (cInt .i64) default [0, 1]))) tr)) tr) (a_ (a_ tr tr) (a_ (a_ tr (a_ (leB c18) tr)) (a_ tr (a_ tr (a_ tr (a_ (a_ tr tr) (a_ (a_ tr tr) (a_ tr (a_ tr (a_ (a_ tr tr) (a_ (a_ tr tr) (a_ tr (a_ tr (a_ tr (a_ tr (a_ (a_ tr tr) (a_ (a_ tr tr) tr))))))))))))))))))))))))))))) tr)))) tr) (by kernel_rfl) rfl
    · skip
      obtain rfl := Option.some.inj h
      exact run_ret mixed (L := []) (n := 21) (s := [.reg [], .reg [(0, { call := some (parrellaw26_lost_v y2, [], []) }), (1, { call := some (hist_Order_v y4, [], []) })], .reg [(0, { call := some (parrellaw26_lost_v y6, [], []) }), (1, { v := some (.ds 4 ((y6.take 1)).length (rowF c_T_hist_Tx default (y6.take 1))) }), (2, { call := some (hist_Order_v y9, [], []) })], .reg [(3, { v := some (.bool true) }), (7, { v := some (.bool false) })]])
        (a_ (a_ (a_ (a_ tr tr) tr) (a_ (a_ (a_ (a_ (parrellaw26_lost_tri  y2 e1) tr) tr) (a_ (a_ (a_ (hist_Order_tri y2 y4 e3) tr) tr) (a_ (a_ tr tr) (a_ (a_ tr tr) (a_ (a_ tr tr) (a_ (a_ tr tr) (a_ (a_ tr tr) tr))))))) (a_ (a_ (a_ (a_ (parrellaw26_lost_tri  y6 e5) tr) tr) (a_ (a_ (a_ (Eq.refl 4) g7) (a_ (le_take c_T_hist_Tx default 4 y6 1 (toN_le g7.2.2)) tr)) (a_ (a_ (a_ (hist_Order_tri (y6.take 1) y9 e8) tr) tr) (a_ (a_ tr tr) (a_ (a_ tr tr) (a_ (a_ tr tr) (a_ (a_ tr tr) (a_ (a_ tr tr) tr)))))))) (a_ (a_ (a_ tr tr) (a_ (a_ tr tr) (a_ (a_ tr tr) (a_ (a_ tr (a_ (leB c10) tr)) (a_ (a_ tr tr) (a_ (a_ tr tr) (a_ (a_ tr tr) (a_ (a_ tr (a_ (leB c11) tr)) (a_ tr (a_ tr (a_ tr (a_ tr (a_ (a_ tr tr) (a_ (a_ tr tr) (a_ tr (a_ tr (a_ tr (a_ (a_ tr tr) (a_ (a_ tr tr) (a_ tr (a_ tr (a_ (a_ tr tr) (a_ (a_ tr tr) (a_ tr (a_ tr (a_ tr (a_ tr (a_ (a_ tr tr) (a_ (a_ tr tr) tr))))))))))))))))))))))))))))) tr)))) tr) (by kernel_rfl) rfl
  · skip
    obtain rfl := Option.some.inj h
    exact run_ret mixed (L := []) (n := 21) (s := [.reg [], .reg [(0, { call := some (parrellaw26_lost_v y2, [], []) }), (1, { call := some (hist_Order_v y4, [], []) })], .reg [(0, { call := some (parrellaw26_lost_v y6, [], []) }), (1, { v := some (.ds 4 ((y6.take 1)).length (rowF c_T_hist_Tx default (y6.take 1))) }), (2, { call := some (hist_Order_v y9, [], []) })], .reg [(3, { v := some (.bool false) })]])
      (a_ (a_ (a_ (a_ tr tr) tr) (a_ (a_ (a_ (a_ (parrellaw26_lost_tri  y2 e1) tr) tr) (a_ (a_ (a_ (hist_Order_tri y2 y4 e3) tr) tr) (a_ (a_ tr tr) (a_ (a_ tr tr) (a_ (a_ tr tr) (a_ (a_ tr tr) (a_ (a_ tr tr) tr))))))) (a_ (a_ (a_ (a_ (parrellaw26_lost_tri  y6 e5) tr) tr) (a_ (a_ (a_ (Eq.refl 4) g7) (a_ (le_take c_T_hist_Tx default 4 y6 1 (toN_le g7.2.2)) tr)) (a_ (a_ (a_ (hist_Order_tri (y6.take 1) y9 e8) tr) tr) (a_ (a_ tr tr) (a_ (a_ tr tr) (a_ (a_ tr tr) (a_ (a_ tr tr) (a_ (a_ tr tr) tr)))))))) (a_ (a_ (a_ tr tr) (a_ (a_ tr tr) (a_ (a_ tr tr) (a_ (a_ tr (a_ (leB c10) tr)) (a_ tr (a_ tr (a_ (a_ tr tr) (a_ (a_ tr tr) (a_ tr (a_ tr (a_ tr (a_ tr (a_ (a_ tr tr) (a_ (a_ tr tr) (a_ tr (a_ tr (a_ tr (a_ (a_ tr tr) (a_ (a_ tr tr) (a_ tr (a_ tr (a_ (a_ tr tr) (a_ (a_ tr tr) (a_ tr (a_ tr (a_ tr (a_ tr (a_ (a_ tr tr) (a_ (a_ tr tr) tr))))))))))))))))))))))))))))) tr)))) tr) (by kernel_rfl) rfl

theorem parrellaw26_alive_tri  (r : (Bool)) (h : parrellaw26_alive  = some r) : FnTri Try.prog 9 [] [] (parrellaw26_alive_v r) [] := FnTri.none (parrellaw26_alive_ok  r h) rfl rfl

/-- parrel/parrellaw26.items -/

def parrellaw26_items_v (r : (List (T_hist_Item))) : LV := .ds 10 (r).length (rowF c_T_hist_Item default r)

def parrellaw26_items_T0 (l : List (T_parrelref26_Item)) (t8 : Int) (l2 : List (T_hist_Item)) : List LV := [.any, .any, .any, .gs 0 (l2).length, .any, .any, .ds 10 (l).length (rowF c_T_parrelref26_Item default l), .int .i64 ((l).length : Int), .int .i64 t8, .any, .any, .any, .any, .any, .any, .any, .any, .any, .any, .any, .any, .any, .any, .any]

def parrellaw26_items_H0 (l : List (T_parrelref26_Item)) (t8 : Int) (l2 : List (T_hist_Item)) : Heap := [some (.gr 10 (l2).length (rowF c_T_hist_Item default l2))]

def parrellaw26_items_l0 (l : List (T_parrelref26_Item))  : Nat → (Int) → (List (T_hist_Item)) → Option ((List (T_hist_Item)))
  | 0, _, _ => none
  | fuel + 1, t8, l2 =>
    if ((decide (t8 < ((l).length : Int))) : Bool) then
      if 0 ≤ t8 ∧ t8 < (((l).length : Nat) : Int) then
      if ((l2).length + ([(T_hist_Item.mk (l.getD t8.toNat default).f_Key (l.getD t8.toNat default).f_Version (l.getD t8.toNat default).f_Value)]).length) * 32 ≤ 140737488351232 then
      parrellaw26_items_l0 l  fuel (IntKind.wrap .i64 (t8 + 1)) (l2 ++ [(T_hist_Item.mk (l.getD t8.toNat default).f_Key (l.getD t8.toNat default).f_Version (l.getD t8.toNat default).f_Value)])
      else none
      else none
    else
      some l2

def parrellaw26_items (l : List (T_parrelref26_Item)) : Option ((List (T_hist_Item))) :=
  parrellaw26_items_l0 l  big 0 ([] : List (T_hist_Item))

theorem parrellaw26_items_l0_ok {w0 : World} {W : Nat → Prop} {μ0 : Emb} (hμ : ∀ c p, μ0 c = some p → c < 0) (l : List (T_parrelref26_Item))  : ∀ (fuel : Nat) (t8 : Int) (l2 : List (T_hist_Item)) (r : (List (T_hist_Item))), parrellaw26_items_l0 l  fuel t8 l2 = some r → kont Try.prog w0 W μ0 (FnPost Try.prog Try.f23 0 0 (parrellaw26_items_v r) []) (kAt (bodyOf Try.f23) 0) none (parrellaw26_items_T0 l t8 l2) (parrellaw26_items_H0 l t8 l2) := by
  intro fuel
  induction fuel with
  | zero => intro t8 l2 r h; rw [parrellaw26_items_l0] at h; cases h
  | succ fuel ih =>
    intro t8 l2 r h
    rw [parrellaw26_items_l0] at h
    rcases itb_some h with ⟨cL0_1, h⟩ | ⟨cL0_1, h⟩
    · skip
      obtain ⟨gL0_2, h⟩ := guard_some h
      obtain ⟨gL0_3, h⟩ := guard_some h
      exact run_to mixed hμ (L := [3]) (n := 26) (s := [.go, .reg [(0, { v := some (.bool true) })], .reg [], .reg [(8, { os := [(2, .gr 10 ([(T_hist_Item.mk (l.getD t8.toNat default).f_Key (l.getD t8.toNat default).f_Version (l.getD t8.toNat default).f_Value)]).length (rowF c_T_hist_Item default [(T_hist_Item.mk (l.getD t8.toNat default).f_Key (l.getD t8.toNat default).f_Version (l.getD t8.toNat default).f_Value)]))], v := some (.gs 2 ([(T_hist_Item.mk (l.getD t8.toNat default).f_Key (l.getD t8.toNat default).f_Version (l.getD t8.toNat default).f_Value)]).length) }), (9, { app := 3, os := [(3, .gr 10 ((l2 ++ [(T_hist_Item.mk (l.getD t8.toNat default).f_Key (l.getD t8.toNat default).f_Version (l.getD t8.toNat default).f_Value)])).length (rowF c_T_hist_Item default (l2 ++ [(T_hist_Item.mk (l.getD t8.toNat default).f_Key (l.getD t8.toNat default).f_Version (l.getD t8.toNat default).f_Value)])))], v := some (.gs 3 ((l2 ++ [(T_hist_Item.mk (l.getD t8.toNat default).f_Key (l.getD t8.toNat default).f_Version (l.getD t8.toNat default).f_Value)])).length) })], .reg []])
        (a_ (a_ (a_ tr (a_ (leB cL0_1) tr)) tr) (a_ (a_ (a_ (a_ (Eq.refl 10) gL0_2) tr) (a_ (a_ (le_ 10 10 rfl) tr) (a_ (a_ tr tr) (a_ (a_ (a_ (Eq.refl 10) (a_ (le_ 10 10 rfl) (Eq.refl 0))) tr) tr)))) (a_ (a_ (a_ tr tr) (a_ (a_ tr tr) (a_ (a_ (a_ tr (le_ 8 10 rfl)) tr) (a_ (a_ tr tr) (a_ (a_ (a_ tr (lt_ 8 10 rfl)) tr) (a_ (a_ tr tr) (a_ (a_ (a_ tr (lt_ 9 10 rfl)) tr) (a_ (a_ (Eq.refl true) tr) (a_ (a_ (a_ (Eq.refl true) (a_ (Eq.refl 10) (a_ (lt_ 0 10 rfl) (le_ 10 16777216 rfl)))) (a_ (le_sl_gs 2 1 (some 1) rfl) (a_ (sub_lit c_T_hist_Item default 10 (fun _ => rfl) [(T_hist_Item.mk (l.getD t8.toNat default).f_Key (l.getD t8.toNat default).f_Version (l.getD t8.toNat default).f_Value)]) tr))) (a_ (a_ (a_ (a_ (Eq.refl 10) (Nat.le_refl ([(T_hist_Item.mk (l.getD t8.toNat default).f_Key (l.getD t8.toNat default).f_Version (l.getD t8.toNat default).f_Value)]).length)) (a_ (a_ (lt_ 0 10 rfl) (a_ (lt_ 0 32 rfl) (a_ gL0_3 (a_ (Eq.refl 10) (Eq.refl true))))) (a_ (Eq.refl 10) (Nat.le_refl (l2).length)))) (a_ (le_gs_app 3 l2 [(T_hist_Item.mk (l.getD t8.toNat default).f_Key (l.getD t8.toNat default).f_Version (l.getD t8.toNat default).f_Value)]) (a_ (sub_app c_T_hist_Item default 10 l2 [(T_hist_Item.mk (l.getD t8.toNat default).f_Key (l.getD t8.toNat default).f_Version (l.getD t8.toNat default).f_Value)]) tr))) (a_ (a_ tr tr) tr))))))))))) (a_ (a_ (a_ tr tr) (a_ (a_ tr tr) tr)) tr)))) (ih _ _ r h) (by kernel_rfl) ⟨fun _ _ => rfl, trivial⟩
    · skip
      obtain rfl := Option.some.inj h
      exact run_ret mixed (L := []) (n := 20) (s := [.go, .reg [(0, { v := some (.bool false) })], .reg [], .frz 0])
        (a_ (a_ (a_ (a_ tr (a_ (leB cL0_1) tr)) tr) (a_ (a_ (a_ tr tr) (a_ (a_ tr tr) tr)) (a_ (a_ (fz_row (enc := c_T_hist_Item) (d := default) (fun _ => rfl) l2) (a_ (Nat.le_refl (l2).length) (a_ (Nat.le_refl (l2).length) (a_ (Nat.le_refl (l2).length) tr)))) tr))) tr) (by kernel_rfl) rfl

theorem parrellaw26_items_ok (l : List (T_parrelref26_Item)) (r : (List (T_hist_Item))) (h : parrellaw26_items l = some r) : ∀ σ, Inj 0 σ → FnTri Try.prog 23 (renL σ [.ds 10 (l).length (rowF c_T_parrelref26_Item default l)]) (preOf σ 0 []) ((parrellaw26_items_v r).ren σ) (upOf σ []) := by
  refine fn_of Try.func23 (by kernel_rfl) (by kernel_rfl) (by kernel_rfl) trivial (by kernel_rfl) trivial (by kernel_rfl) ?_
  intro w0 W μ0 hμ
  unfold parrellaw26_items at h
  exact run_to mixed hμ (L := [0]) (n := 22) (s := [.reg [(0, { v := some (.ds 10 (([] : List (T_hist_Item))).length (rowF c_T_hist_Item default ([] : List (T_hist_Item)))) })], .void (.gr 10 (([] : List (T_hist_Item))).length (rowF c_T_hist_Item default ([] : List (T_hist_Item)))), .reg [(0, { v := some (.gs 0 (([] : List (T_hist_Item))).length) })], .reg []])
    (a_ (a_ (a_ tr (a_ (le_nil_ds 10 (rowF c_T_hist_Item default [])) tr)) tr) (a_ (Eq.refl 0) (a_ (a_ (a_ tr (a_ (le_nil_gs 0) tr)) tr) (a_ (a_ (a_ tr tr) (a_ (a_ tr tr) (a_ (a_ tr tr) tr))) tr)))) (parrellaw26_items_l0_ok hμ l  big _ _ r h) (by kernel_rfl) ⟨fun _ _ => rfl, trivial⟩

theorem parrellaw26_items_tri (l : List (T_parrelref26_Item)) (r : (List (T_hist_Item))) (h : parrellaw26_items l = some r) : FnTri Try.prog 23 [.ds 10 (l).length (rowF c_T_parrelref26_Item default l)] [] (parrellaw26_items_v r) [] := FnTri.none (parrellaw26_items_ok l r h) rfl rfl

/-- parrel/parrellaw26.theirs -/

def parrellaw26_theirs_v (r : (List (T_hist_Tx))) : LV := .ds 4 (r).length (rowF c_T_hist_Tx default r)

def parrellaw26_theirs_T0 (l : List (T_parrelref26_Tx)) (t8 : Int) (l2 : List (T_hist_Tx)) : List LV := [.any, .any, .any, .gs 0 (l2).length, .any, .any, .ds 4 (l).length (rowF c_T_parrelref26_Tx default l), .int .i64 ((l).length : Int), .int .i64 t8, .any, .any, .any, .any, .any, .any, .any, .any, .any, .any, .any, .any, .any, .any, .any, .any, .any, .any, .any]

def parrellaw26_theirs_H0 (l : List (T_parrelref26_Tx)) (t8 : Int) (l2 : List (T_hist_Tx)) : Heap := [some (.gr 4 (l2).length (rowF c_T_hist_Tx default l2))]

def parrellaw26_theirs_l0 (l : List (T_parrelref26_Tx))  : Nat → (Int) → (List (T_hist_Tx)) → Option ((List (T_hist_Tx)))
  | 0, _, _ => none
  | fuel + 1, t8, l2 =>
    if ((decide (t8 < ((l).length : Int))) : Bool) then
      if 0 ≤ t8 ∧ t8 < (((l).length : Nat) : Int) then
      (parrellaw26_items (l.getD t8.toNat default).f_Reads).bind fun yL0_4 =>
      (parrellaw26_items (l.getD t8.toNat default).f_Writes).bind fun yL0_6 =>
      if ((l2).length + ([(T_hist_Tx.mk yL0_4 yL0_6 (l.getD t8.toNat default).f_Begin (l.getD t8.toNat default).f_End)]).length) * 64 ≤ 140737488351232 then
      parrellaw26_theirs_l0 l  fuel (IntKind.wrap .i64 (t8 + 1)) (l2 ++ [(T_hist_Tx.mk yL0_4 yL0_6 (l.getD t8.toNat default).f_Begin (l.getD t8.toNat default).f_End)])
      else none
      else none
    else
      some l2

def parrellaw26_theirs (l : List (T_parrelref26_Tx)) : Option ((List (T_hist_Tx))) :=
  parrellaw26_theirs_l0 l  big 0 ([] : List (T_hist_Tx))

theorem parrellaw26_theirs_l0_ok {w0 : World} {W : Nat → Prop} {μ0 : Emb} (hμ : ∀ c p, μ0 c = some p → c < 0) (l : List (T_parrelref26_Tx))  : ∀ (fuel : Nat) (t8 : Int) (l2 : List (T_hist_Tx)) (r : (List (T_hist_Tx))), parrellaw26_theirs_l0 l  fuel t8 l2 = some r → kont Try.prog w0 W μ0 (FnPost Try.prog Try.f11 0 0 (parrellaw26_theirs_v r) []) (kAt (bodyOf Try.f11) 0) none (parrellaw26_theirs_T0 l t8 l2) (parrellaw26_theirs_H0 l t8 l2) := by
  intro fuel
  induction fuel with
  | zero => intro t8 l2 r h; rw [parrellaw26_theirs_l0] at h; cases h
  | succ fuel ih =>
    intro t8 l2 r h
    rw [parrellaw26_theirs_l0] at h
    rcases itb_some h with ⟨cL0_1, h⟩ | ⟨cL0_1, h⟩
    · skip
      obtain ⟨gL0_2, h⟩ := guard_some h
      obtain ⟨yL0_4, eL0_3, h⟩ := bind_some h
      obtain ⟨yL0_6, eL0_5, h⟩ := bind_some h
      obtain ⟨gL0_7, h⟩ := guard_some h
      exact run_to mixed hμ (L := [3]) (n := 26) (s := [.go, .reg [(0, { v := some (.bool true) })], .reg [], .reg [(3, { call := some (parrellaw26_items_v yL0_4, [], []) }), (6, { call := some (parrellaw26_items_v yL0_6, [], []) }), (12, { os := [(2, .gr 4 ([(T_hist_Tx.mk yL0_4 yL0_6 (l.getD t8.toNat default).f_Begin (l.getD t8.toNat default).f_End)]).length (rowF c_T_hist_Tx default [(T_hist_Tx.mk yL0_4 yL0_6 (l.getD t8.toNat default).f_Begin (l.getD t8.toNat default).f_End)]))], v := some (.gs 2 ([(T_hist_Tx.mk yL0_4 yL0_6 (l.getD t8.toNat default).f_Begin (l.getD t8.toNat default).f_End)]).length) }), (13, { app := 3, os := [(3, .gr 4 ((l2 ++ [(T_hist_Tx.mk yL0_4 yL0_6 (l.getD t8.toNat default).f_Begin (l.getD t8.toNat default).f_End)])).length (rowF c_T_hist_Tx default (l2 ++ [(T_hist_Tx.mk yL0_4 yL0_6 (l.getD t8.toNat default).f_Begin (l.getD t8.toNat default).f_End)])))], v := some (.gs 3 ((l2 ++ [(T_hist_Tx.mk yL0_4 yL0_6 (l.getD t8.toNat default).f_Begin (l.getD t8.toNat default).f_End)])).length) })], .reg []])
        (a_ (a_ (a_ tr (a_ (leB cL0_1) tr)) tr) (a_ (a_ (a_ (a_ (Eq.refl 4) gL0_2) tr) (a_ (a_ (le_ 4 4 rfl) tr) (a_ (a_ tr tr) (a_ (a_ (a_ (Eq.refl 4) (a_ (le_ 4 4 rfl) (Eq.refl 0))) tr) tr)))) (a_ (a_ (a_ tr tr) (a_ (a_ tr tr) (a_ (a_ (a_ tr (lt_ 0 4 rfl)) tr) (a_ (a_ (a_ (parrellaw26_items_tri (l.getD t8.toNat default).f_Reads yL0_4 eL0_3) tr) tr) (a_ (a_ tr tr) (a_ (a_ (a_ tr (lt_ 1 4 rfl)) tr) (a_ (a_ (a_ (parrellaw26_items_tri (l.getD t8.toNat default).f_Writes yL0_6 eL0_5) tr) tr) (a_ (a_ tr tr) (a_ (a_ (a_ tr (lt_ 2 4 rfl)) tr) (a_ (a_ tr tr) (a_ (a_ (a_ tr (lt_ 3 4 rfl)) tr) (a_ (a_ (Eq.refl true) tr) (a_ (a_ (a_ (Eq.refl true) (a_ (Eq.refl 4) (a_ (lt_ 0 4 rfl) (le_ 4 16777216 rfl)))) (a_ (le_sl_gs 2 1 (some 1) rfl) (a_ (sub_lit c_T_hist_Tx default 4 (fun _ => rfl) [(T_hist_Tx.mk yL0_4 yL0_6 (l.getD t8.toNat default).f_Begin (l.getD t8.toNat default).f_End)]) tr))) (a_ (a_ (a_ (a_ (Eq.refl 4) (Nat.le_refl ([(T_hist_Tx.mk yL0_4 yL0_6 (l.getD t8.toNat default).f_Begin (l.getD t8.toNat default).f_End)]).length)) (a_ (a_ (lt_ 0 4 rfl) (a_ (lt_ 0 64 rfl) (a_ gL0_7 (a_ (Eq.refl 4) (Eq.refl true))))) (a_ (Eq.refl 4) (Nat.le_refl (l2).length)))) (a_ (le_gs_app 3 l2 [(T_hist_Tx.mk yL0_4 yL0_6 (l.getD t8.toNat default).f_Begin (l.getD t8.toNat default).f_End)]) (a_ (sub_app c_T_hist_Tx default 4 l2 [(T_hist_Tx.mk yL0_4 yL0_6 (l.getD t8.toNat default).f_Begin (l.getD t8.toNat default).f_End)]) tr))) (a_ (a_ tr tr) tr))))))))))))))) (a_ (a_ (a_ tr tr) (a_ (a_ tr tr) tr)) tr)))) (ih _ _ r h) (by kernel_rfl) ⟨fun _ _ => rfl, trivial⟩
    · skip
      obtain rfl := Option.some.inj h
      exact run_ret mixed (L := []) (n := 20) (s := [.go, .reg [(0, { v := some (.bool false) })], .reg [], .frz 0])
        (a_ (a_ (a_ (a_ tr (a_ (leB cL0_1) tr)) tr) (a_ (a_ (a_ tr tr) (a_ (a_ tr tr) tr)) (a_ (a_ (fz_row (enc := c_T_hist_Tx) (d := default) (fun _ => rfl) l2) (a_ (Nat.le_refl (l2).length) (a_ (Nat.le_refl (l2).length) (a_ (Nat.le_refl (l2).length) tr)))) tr))) tr) (by kernel_rfl) rfl

theorem parrellaw26_theirs_ok (l : List (T_parrelref26_Tx)) (r : (List (T_hist_Tx))) (h : parrellaw26_theirs l = some r) : ∀ σ, Inj 0 σ → FnTri Try.prog 11 (renL σ [.ds 4 (l).length (rowF c_T_parrelref26_Tx default l)]) (preOf σ 0 []) ((parrellaw26_theirs_v r).ren σ) (upOf σ []) := by
  refine fn_of Try.func11 (by kernel_rfl) (by kernel_rfl) (by kernel_rfl) trivial (by kernel_rfl) trivial (by kernel_rfl) ?_
  intro w0 W μ0 hμ
  unfold parrellaw26_theirs at h
  exact run_to mixed hμ (L := [0]) (n := 22) (s := [.reg [(0, { v := some (.ds 4 (([] : List (T_hist_Tx))).length (rowF c_T_hist_Tx default ([] : List (T_hist_Tx)))) })], .void (.gr 4 (([] : List (T_hist_Tx))).length (rowF c_T_hist_Tx default ([] : List (T_hist_Tx)))), .reg [(0, { v := some (.gs 0 (([] : List (T_hist_Tx))).length) })], .reg []])
    (a_ (a_ (a_ tr (a_ (le_nil_ds 4 (rowF c_T_hist_Tx default [])) tr)) tr) (a_ (Eq.refl 0) (a_ (a_ (a_ tr (a_ (le_nil_gs 0) tr)) tr) (a_ (a_ (a_ tr tr) (a_ (a_ tr tr) (a_ (a_ tr tr) tr))) tr)))) (parrellaw26_theirs_l0_ok hμ l  big _ _ r h) (by kernel_rfl) ⟨fun _ _ => rfl, trivial⟩

theorem parrellaw26_theirs_tri (l : List (T_parrelref26_Tx)) (r : (List (T_hist_Tx))) (h : parrellaw26_theirs l = some r) : FnTri Try.prog 11 [.ds 4 (l).length (rowF c_T_parrelref26_Tx default l)] [] (parrellaw26_theirs_v r) [] := FnTri.none (parrellaw26_theirs_ok l r h) rfl rfl

/-- parrel/parrelref26.twice -/

def parrelref26_twice_v (r : (Bool)) : LV := .bool r

def parrelref26_twice_T1 (l : List (T_parrelref26_Item)) (i : Int) (x_k : Int) : List LV := [.ds 10 (l).length (rowF c_T_parrelref26_Item default l), .any, .any, .int .i64 i, .int .i64 x_k, .any, .any, .any, .any, .any, .any, .any, .any, .any, .any, .any, .any, .any, .any, .any, .any, .any, .any, .any, .any, .any, .any]

def parrelref26_twice_H1 (l : List (T_parrelref26_Item)) (i : Int) (x_k : Int) : Heap := []

def parrelref26_twice_T0 (l : List (T_parrelref26_Item)) (i : Int) : List LV := [.ds 10 (l).length (rowF c_T_parrelref26_Item default l), .any, .any, .int .i64 i, .any, .any, .any, .any, .any, .any, .any, .any, .any, .any, .any, .any, .any, .any, .any, .any, .any, .any, .any, .any, .any, .any, .any]

def parrelref26_twice_H0 (l : List (T_parrelref26_Item)) (i : Int) : Heap := []

def parrelref26_twice_l1 (l : List (T_parrelref26_Item)) (i : Int) (k0 : (Int) → Option ((Bool))) : Nat → (Int) → Option ((Bool))
  | 0, _ => none
  | fuel + 1, x_k =>
    if ((decide (x_k < i)) : Bool) then
      if 0 ≤ x_k ∧ x_k < (((l).length : Nat) : Int) then
      if 0 ≤ i ∧ i < (((l).length : Nat) : Int) then
      if ((decide ((l.getD x_k.toNat default).f_Key = (l.getD i.toNat default).f_Key)) : Bool) then
        some true
      else
        parrelref26_twice_l1 l i k0 fuel (IntKind.wrap .i64 (x_k + 1))
      else none
      else none
    else
      k0 (IntKind.wrap .i64 (i + 1))

def parrelref26_twice_l0 (l : List (T_parrelref26_Item))  : Nat → (Int) → Option ((Bool))
  | 0, _ => none
  | fuel + 1, i =>
    if ((decide (i < ((l).length : Int))) : Bool) then
      parrelref26_twice_l1 l i (parrelref26_twice_l0 l  fuel) big 0
    else
      some false

def parrelref26_twice (l : List (T_parrelref26_Item)) : Option ((Bool)) :=
  parrelref26_twice_l0 l  big 0

theorem parrelref26_twice_l1_ok {w0 : World} {W : Nat → Prop} {μ0 : Emb} (hμ : ∀ c p, μ0 c = some p → c < 0) (l : List (T_parrelref26_Item)) (i : Int) (k0 : (Int) → Option ((Bool))) (hk0 : ∀ (i : Int) (r : (Bool)), k0 i = some r → kont Try.prog w0 W μ0 (FnPost Try.prog Try.f44 0 0 (parrelref26_twice_v r) []) (kAt (bodyOf Try.f44) 0) none (parrelref26_twice_T0 l i) (parrelref26_twice_H0 l i)) : ∀ (fuel : Nat) (x_k : Int) (r : (Bool)), parrelref26_twice_l1 l i k0 fuel x_k = some r → kont Try.prog w0 W μ0 (FnPost Try.prog Try.f44 0 0 (parrelref26_twice_v r) []) (kAt (bodyOf Try.f44) 1) none (parrelref26_twice_T1 l i x_k) (parrelref26_twice_H1 l i x_k) := by
  intro fuel
  induction fuel with
  | zero => intro x_k r h; rw [parrelref26_twice_l1] at h; cases h
  | succ fuel ih =>
    intro x_k r h
    rw [parrelref26_twice_l1] at h
    rcases itb_some h with ⟨cL1_1, h⟩ | ⟨cL1_1, h⟩
    · skip
      obtain ⟨gL1_2, h⟩ := guard_some h
      obtain ⟨gL1_3, h⟩ := guard_some h
      rcases itb_some h with ⟨cL1_4, h⟩ | ⟨cL1_4, h⟩
      · skip
        obtain rfl := Option.some.inj h
        exact run_ret mixed (L := []) (n := 25) (s := [.go, .reg [(2, { v := some (.bool true) })], .reg [(10, { v := some (.bool true) })], .reg []])
          (a_ (a_ (a_ (a_ tr tr) (a_ (a_ tr tr) (a_ (a_ tr (a_ (leB cL1_1) tr)) tr))) (a_ (a_ (a_ tr tr) (a_ (a_ tr tr) (a_ (a_ (a_ (Eq.refl 10) gL1_2) tr) (a_ (a_ tr tr) (a_ (a_ (le_ 8 10 rfl) tr) (a_ (a_ tr tr) (a_ (a_ tr tr) (a_ (a_ (a_ (Eq.refl 10) gL1_3) tr) (a_ (a_ tr tr) (a_ (a_ (le_ 8 10 rfl) tr) (a_ (a_ tr (a_ (LV.Le.trans (leB ((k_arr8 .u8) (l.getD x_k.toNat default).f_Key (l.getD i.toNat default).f_Key)) (leB cL1_4)) tr)) tr))))))))))) (a_ (a_ (a_ tr tr) tr) tr))) tr) (by kernel_rfl) rfl
      · skip
        exact run_to mixed hμ (L := []) (n := 26) (s := [.go, .reg [(2, { v := some (.bool true) })], .reg [(10, { v := some (.bool false) })], .reg []])
          (a_ (a_ (a_ tr tr) (a_ (a_ tr tr) (a_ (a_ tr (a_ (leB cL1_1) tr)) tr))) (a_ (a_ (a_ tr tr) (a_ (a_ tr tr) (a_ (a_ (a_ (Eq.refl 10) gL1_2) tr) (a_ (a_ tr tr) (a_ (a_ (le_ 8 10 rfl) tr) (a_ (a_ tr tr) (a_ (a_ tr tr) (a_ (a_ (a_ (Eq.refl 10) gL1_3) tr) (a_ (a_ tr tr) (a_ (a_ (le_ 8 10 rfl) tr) (a_ (a_ tr (a_ (LV.Le.trans (leB ((k_arr8 .u8) (l.getD x_k.toNat default).f_Key (l.getD i.toNat default).f_Key)) (leB cL1_4)) tr)) tr))))))))))) (a_ (a_ (a_ tr tr) (a_ (a_ tr tr) (a_ (a_ tr tr) tr))) tr))) (ih _ r h) (by kernel_rfl) trivial
    · skip
      exact run_to mixed hμ (L := []) (n := 19) (s := [.go, .reg [(2, { v := some (.bool false) })], .reg []])
        (a_ (a_ (a_ tr tr) (a_ (a_ tr tr) (a_ (a_ tr (a_ (leB cL1_1) tr)) tr))) (a_ (a_ (a_ tr tr) (a_ (a_ tr tr) (a_ (a_ tr tr) tr))) tr)) (hk0 _ r h) (by kernel_rfl) trivial

theorem parrelref26_twice_l0_ok {w0 : World} {W : Nat → Prop} {μ0 : Emb} (hμ : ∀ c p, μ0 c = some p → c < 0) (l : List (T_parrelref26_Item))  : ∀ (fuel : Nat) (i : Int) (r : (Bool)), parrelref26_twice_l0 l  fuel i = some r → kont Try.prog w0 W μ0 (FnPost Try.prog Try.f44 0 0 (parrelref26_twice_v r) []) (kAt (bodyOf Try.f44) 0) none (parrelref26_twice_T0 l i) (parrelref26_twice_H0 l i) := by
  intro fuel
  induction fuel with
  | zero => intro i r h; rw [parrelref26_twice_l0] at h; cases h
  | succ fuel ih =>
    intro i r h
    rw [parrelref26_twice_l0] at h
    rcases itb_some h with ⟨cL0_1, h⟩ | ⟨cL0_1, h⟩
    · skip
      exact run_to mixed hμ (L := []) (n := 23) (s := [.go, .reg [(3, { v := some (.bool true) })], .reg []])
        (a_ (a_ (a_ tr tr) (a_ (a_ tr tr) (a_ (a_ tr tr) (a_ (a_ tr (a_ (leB cL0_1) tr)) tr)))) (a_ (a_ (a_ tr tr) tr) tr)) (parrelref26_twice_l1_ok hμ l i (parrelref26_twice_l0 l  fuel) (fun i r h => ih i r h) big _ r h) (by kernel_rfl) trivial
    · skip
      obtain rfl := Option.some.inj h
      exact run_ret mixed (L := []) (n := 19) (s := [.go, .reg [(3, { v := some (.bool false) })], .reg []])
        (a_ (a_ (a_ (a_ tr tr) (a_ (a_ tr tr) (a_ (a_ tr tr) (a_ (a_ tr (a_ (leB cL0_1) tr)) tr)))) (a_ (a_ (a_ tr tr) tr) tr)) tr) (by kernel_rfl) rfl

theorem parrelref26_twice_ok (l : List (T_parrelref26_Item)) (r : (Bool)) (h : parrelref26_twice l = some r) : ∀ σ, Inj 0 σ → FnTri Try.prog 44 (renL σ [.ds 10 (l).length (rowF c_T_parrelref26_Item default l)]) (preOf σ 0 []) ((parrelref26_twice_v r).ren σ) (upOf σ []) := by
  refine fn_of Try.func44 (by kernel_rfl) (by kernel_rfl) (by kernel_rfl) trivial (by kernel_rfl) trivial (by kernel_rfl) ?_
  intro w0 W μ0 hμ
  unfold parrelref26_twice at h
  exact run_to mixed hμ (L := []) (n := 18) (s := [.reg [], .reg []])
    (a_ (a_ (a_ tr tr) tr) (a_ (a_ (a_ tr tr) tr) tr)) (parrelref26_twice_l0_ok hμ l  big _ r h) (by kernel_rfl) trivial

theorem parrelref26_twice_tri (l : List (T_parrelref26_Item)) (r : (Bool)) (h : parrelref26_twice l = some r) : FnTri Try.prog 44 [.ds 10 (l).length (rowF c_T_parrelref26_Item default l)] [] (parrelref26_twice_v r) [] := FnTri.none (parrelref26_twice_ok l r h) rfl rfl

/-- parrel/parrelref26.may -/

def parrelref26_may_v (r : (Bool)) : LV := .bool r

def parrelref26_may_T1 (l : List (T_parrelref26_Tx)) (i : Int) (j : Int) : List LV := [.ds 4 (l).length (rowF c_T_parrelref26_Tx default l), .any, .any, .int .i64 i, .int .i64 j, .any, .any, .any, .any, .any, .any, .any, .any, .any, .any, .any, .any, .any, .any, .any, .any, .any, .any, .any, .any, .any, .any, .any, .any, .any, .any, .any, .any, .any, .any, .any, .any, .any, .any, .any, .any, .any, .any, .any, .any, .any, .any, .any, .any, .any, .any, .any, .any, .any, .any, .any, .any, .any, .any, .any, .any, .any, .any, .any, .any, .any]

def parrelref26_may_H1 (l : List (T_parrelref26_Tx)) (i : Int) (j : Int) : Heap := []

def parrelref26_may_T0 (l : List (T_parrelref26_Tx)) (i : Int) : List LV := [.ds 4 (l).length (rowF c_T_parrelref26_Tx default l), .any, .any, .int .i64 i, .any, .any, .any, .any, .any, .any, .any, .any, .any, .any, .any, .any, .any, .any, .any, .any, .any, .any, .any, .any, .any, .any, .any, .any, .any, .any, .any, .any, .any, .any, .any, .any, .any, .any, .any, .any, .any, .any, .any, .any, .any, .any, .any, .any, .any, .any, .any, .any, .any, .any, .any, .any, .any, .any, .any, .any, .any, .any, .any, .any, .any, .any]

def parrelref26_may_H0 (l : List (T_parrelref26_Tx)) (i : Int) : Heap := []

def parrelref26_may_l1 (l : List (T_parrelref26_Tx)) (i : Int) (k0 : (Int) → Option ((Bool))) : Nat → (Int) → Option ((Bool))
  | 0, _ => none
  | fuel + 1, j =>
    if 0 ≤ i ∧ i < (((l).length : Nat) : Int) then
    if ((decide (j < (((l.getD i.toNat default).f_Writes).length : Int))) : Bool) then
      if 0 ≤ j ∧ j < ((((l.getD i.toNat default).f_Writes).length : Nat) : Int) then
      if ((((l.getD i.toNat default).f_Writes.getD j.toNat default).f_Version == 0) : Bool) then
        some false
      else
        parrelref26_may_l1 l i k0 fuel (IntKind.wrap .i64 (j + 1))
      else none
    else
      k0 (IntKind.wrap .i64 (i + 1))
    else none

def parrelref26_may_l0 (l : List (T_parrelref26_Tx))  : Nat → (Int) → Option ((Bool))
  | 0, _ => none
  | fuel + 1, i =>
    if ((decide (i < ((l).length : Int))) : Bool) then
      if 0 ≤ i ∧ i < (((l).length : Nat) : Int) then
      if ((decide (64 < (((l.getD i.toNat default).f_Reads).length : Int))) : Bool) then
        some false
      else
        if ((decide (64 < (((l.getD i.toNat default).f_Writes).length : Int))) : Bool) then
          some false
        else
          (parrelref26_twice (l.getD i.toNat default).f_Reads).bind fun yL0_6 =>
          if (yL0_6 : Bool) then
            some false
          else
            (parrelref26_twice (l.getD i.toNat default).f_Writes).bind fun yL0_9 =>
            if (yL0_9 : Bool) then
              some false
            else
              parrelref26_may_l1 l i (parrelref26_may_l0 l  fuel) big 0
      else none
    else
      some (decide (((l).length : Int) ≤ 64))

def parrelref26_may (l : List (T_parrelref26_Tx)) : Option ((Bool)) :=
  parrelref26_may_l0 l  big 0

theorem parrelref26_may_l1_ok {w0 : World} {W : Nat → Prop} {μ0 : Emb} (hμ : ∀ c p, μ0 c = some p → c < 0) (l : List (T_parrelref26_Tx)) (i : Int) (k0 : (Int) → Option ((Bool))) (hk0 : ∀ (i : Int) (r : (Bool)), k0 i = some r → kont Try.prog w0 W μ0 (FnPost Try.prog Try.f29 0 0 (parrelref26_may_v r) []) (kAt (bodyOf Try.f29) 0) none (parrelref26_may_T0 l i) (parrelref26_may_H0 l i)) : ∀ (fuel : Nat) (j : Int) (r : (Bool)), parrelref26_may_l1 l i k0 fuel j = some r → kont Try.prog w0 W μ0 (FnPost Try.prog Try.f29 0 0 (parrelref26_may_v r) []) (kAt (bodyOf Try.f29) 1) none (parrelref26_may_T1 l i j) (parrelref26_may_H1 l i j) := by
  intro fuel
  induction fuel with
  | zero => intro j r h; rw [parrelref26_may_l1] at h; cases h
  | succ fuel ih =>
    intro j r h
    rw [parrelref26_may_l1] at h
    obtain ⟨gL1_1, h⟩ := guard_some h
    rcases itb_some h with ⟨cL1_2, h⟩ | ⟨cL1_2, h⟩
    · skip
      obtain ⟨gL1_3, h⟩ := guard_some h
      rcases itb_some h with ⟨cL1_4, h⟩ | ⟨cL1_4, h⟩
      · skip
        obtain rfl := Option.some.inj h
        exact run_ret mixed (L := []) (n := 25) (s := [.go, .reg [(7, { v := some (.bool true) })], .reg [(9, { v := some (.bool true) })], .reg []])
          (a_ (a_ (a_ (a_ tr tr) (a_ (a_ tr tr) (a_ (a_ tr tr) (a_ (a_ (a_ (Eq.refl 4) gL1_1) tr) (a_ (a_ tr tr) (a_ (a_ (lt_ 0 3 rfl) tr) (a_ (a_ tr tr) (a_ (a_ tr (a_ (leB cL1_2) tr)) tr)))))))) (a_ (a_ (a_ tr tr) (a_ (a_ tr tr) (a_ (a_ (a_ (Eq.refl 4) gL1_1) tr) (a_ (a_ tr tr) (a_ (a_ (lt_ 0 3 rfl) tr) (a_ (a_ tr tr) (a_ (a_ (a_ (Eq.refl 10) gL1_3) tr) (a_ (a_ tr tr) (a_ (a_ (lt_ 0 2 rfl) tr) (a_ (a_ tr (a_ (leB cL1_4) tr)) tr)))))))))) (a_ (a_ (a_ tr tr) tr) tr))) tr) (by kernel_rfl) rfl
      · skip
        exact run_to mixed hμ (L := []) (n := 26) (s := [.go, .reg [(7, { v := some (.bool true) })], .reg [(9, { v := some (.bool false) })], .reg []])
          (a_ (a_ (a_ tr tr) (a_ (a_ tr tr) (a_ (a_ tr tr) (a_ (a_ (a_ (Eq.refl 4) gL1_1) tr) (a_ (a_ tr tr) (a_ (a_ (lt_ 0 3 rfl) tr) (a_ (a_ tr tr) (a_ (a_ tr (a_ (leB cL1_2) tr)) tr)))))))) (a_ (a_ (a_ tr tr) (a_ (a_ tr tr) (a_ (a_ (a_ (Eq.refl 4) gL1_1) tr) (a_ (a_ tr tr) (a_ (a_ (lt_ 0 3 rfl) tr) (a_ (a_ tr tr) (a_ (a_ (a_ (Eq.refl 10) gL1_3) tr) (a_ (a_ tr tr) (a_ (a_ (lt_ 0 2 rfl) tr) (a_ (a_ tr (a_ (leB cL1_4) tr)) tr)))))))))) (a_ (a_ (a_ tr tr) (a_ (a_ tr tr) (a_ (a_ tr tr) tr))) tr))) (ih _ r h) (by kernel_rfl) trivial
    · skip
      exact run_to mixed hμ (L := []) (n := 19) (s := [.go, .reg [(7, { v := some (.bool false) })], .reg []])
        (a_ (a_ (a_ tr tr) (a_ (a_ tr tr) (a_ (a_ tr tr) (a_ (a_ (a_ (Eq.refl 4) gL1_1) tr) (a_ (a_ tr tr) (a_ (a_ (lt_ 0 3 rfl) tr) (a_ (a_ tr tr) (a_ (a_ tr (a_ (leB cL1_2) tr)) tr)))))))) (a_ (a_ (a_ tr tr) (a_ (a_ tr tr) (a_ (a_ tr tr) tr))) tr)) (hk0 _ r h) (by kernel_rfl) trivial

theorem parrelref26_may_l0_ok {w0 : World} {W : Nat → Prop} {μ0 : Emb} (hμ : ∀ c p, μ0 c = some p → c < 0) (l : List (T_parrelref26_Tx))  : ∀ (fuel : Nat) (i : Int) (r : (Bool)), parrelref26_may_l0 l  fuel i = some r → kont Try.prog w0 W μ0 (FnPost Try.prog Try.f29 0 0 (parrelref26_may_v r) []) (kAt (bodyOf Try.f29) 0) none (parrelref26_may_T0 l i) (parrelref26_may_H0 l i) := by
  intro fuel
  induction fuel with
  | zero => intro i r h; rw [parrelref26_may_l0] at h; cases h
  | succ fuel ih =>
    intro i r h
    rw [parrelref26_may_l0] at h
    rcases itb_some h with ⟨cL0_1, h⟩ | ⟨cL0_1, h⟩
    · skip
      obtain ⟨gL0_2, h⟩ := guard_some h
      rcases itb_some h with ⟨cL0_3, h⟩ | ⟨cL0_3, h⟩
      · skip
        obtain rfl := Option.some.inj h
        exact run_ret mixed (L := []) (n := 26) (s := [.go, .reg [(3, { v := some (.bool true) })], .reg [(7, { v := some (.bool true) })], .reg []])
          (a_ (a_ (a_ (a_ tr tr) (a_ (a_ tr tr) (a_ (a_ tr tr) (a_ (a_ tr (a_ (leB cL0_1) tr)) tr)))) (a_ (a_ (a_ tr tr) (a_ (a_ tr tr) (a_ (a_ (a_ (Eq.refl 4) gL0_2) tr) (a_ (a_ tr tr) (a_ (a_ (lt_ 0 4 rfl) tr) (a_ (a_ tr tr) (a_ (a_ tr tr) (a_ (a_ tr (a_ (leB cL0_3) tr)) (a_ tr (a_ tr (a_ tr (a_ tr (a_ tr (a_ tr (a_ tr (a_ (a_ tr tr) (a_ (a_ tr tr) (a_ tr (a_ tr (a_ tr (a_ tr (a_ tr (a_ tr (a_ (a_ tr tr) (a_ (a_ tr tr) (a_ tr (a_ tr (a_ tr (a_ tr (a_ tr (a_ tr (a_ (a_ tr tr) tr)))))))))))))))))))))))))))))))) (a_ (a_ (a_ tr tr) tr) tr))) tr) (by kernel_rfl) rfl
      · skip
        rcases itb_some h with ⟨cL0_4, h⟩ | ⟨cL0_4, h⟩
        · skip
          obtain rfl := Option.some.inj h
          exact run_ret mixed (L := []) (n := 26) (s := [.go, .reg [(3, { v := some (.bool true) })], .reg [(7, { v := some (.bool false) }), (16, { v := some (.bool true) })], .reg []])
            (a_ (a_ (a_ (a_ tr tr) (a_ (a_ tr tr) (a_ (a_ tr tr) (a_ (a_ tr (a_ (leB cL0_1) tr)) tr)))) (a_ (a_ (a_ tr tr) (a_ (a_ tr tr) (a_ (a_ (a_ (Eq.refl 4) gL0_2) tr) (a_ (a_ tr tr) (a_ (a_ (lt_ 0 4 rfl) tr) (a_ (a_ tr tr) (a_ (a_ tr tr) (a_ (a_ tr (a_ (leB cL0_3) tr)) (a_ (a_ tr tr) (a_ (a_ tr tr) (a_ (a_ (a_ (Eq.refl 4) gL0_2) tr) (a_ (a_ tr tr) (a_ (a_ (lt_ 0 3 rfl) tr) (a_ (a_ tr tr) (a_ (a_ tr tr) (a_ (a_ tr tr) (a_ (a_ tr (a_ (leB cL0_4) tr)) (a_ tr (a_ tr (a_ tr (a_ tr (a_ tr (a_ tr (a_ (a_ tr tr) (a_ (a_ tr tr) (a_ tr (a_ tr (a_ tr (a_ tr (a_ tr (a_ tr (a_ (a_ tr tr) tr)))))))))))))))))))))))))))))))) (a_ (a_ (a_ tr tr) tr) tr))) tr) (by kernel_rfl) rfl
        · skip
          obtain ⟨yL0_6, eL0_5, h⟩ := bind_some h
          rcases itb_some h with ⟨cL0_7, h⟩ | ⟨cL0_7, h⟩
          · skip
            obtain rfl := Option.some.inj h
            exact run_ret mixed (L := []) (n := 26) (s := [.go, .reg [(3, { v := some (.bool true) })], .reg [(7, { v := some (.bool false) }), (16, { v := some (.bool false) }), (22, { call := some (parrelref26_twice_v yL0_6, [], []) }), (24, { v := some (.bool true) })], .reg []])
              (a_ (a_ (a_ (a_ tr tr) (a_ (a_ tr tr) (a_ (a_ tr tr) (a_ (a_ tr (a_ (leB cL0_1) tr)) tr)))) (a_ (a_ (a_ tr tr) (a_ (a_ tr tr) (a_ (a_ (a_ (Eq.refl 4) gL0_2) tr) (a_ (a_ tr tr) (a_ (a_ (lt_ 0 4 rfl) tr) (a_ (a_ tr tr) (a_ (a_ tr tr) (a_ (a_ tr (a_ (leB cL0_3) tr)) (a_ (a_ tr tr) (a_ (a_ tr tr) (a_ (a_ (a_ (Eq.refl 4) gL0_2) tr) (a_ (a_ tr tr) (a_ (a_ (lt_ 0 3 rfl) tr) (a_ (a_ tr tr) (a_ (a_ tr tr) (a_ (a_ tr tr) (a_ (a_ tr (a_ (leB cL0_4) tr)) (a_ (a_ tr tr) (a_ (a_ tr tr) (a_ (a_ (a_ (Eq.refl 4) gL0_2) tr) (a_ (a_ tr tr) (a_ (a_ (lt_ 0 4 rfl) tr) (a_ (a_ (a_ (parrelref26_twice_tri (l.getD i.toNat default).f_Reads yL0_6 eL0_5) tr) tr) (a_ (a_ tr tr) (a_ (a_ tr (a_ (leB cL0_7) tr)) (a_ tr (a_ tr (a_ tr (a_ tr (a_ tr (a_ tr (a_ (a_ tr tr) tr)))))))))))))))))))))))))))))))) (a_ (a_ (a_ tr tr) tr) tr))) tr) (by kernel_rfl) rfl
          · skip
            obtain ⟨yL0_9, eL0_8, h⟩ := bind_some h
            rcases itb_some h with ⟨cL0_10, h⟩ | ⟨cL0_10, h⟩
            · skip
              obtain rfl := Option.some.inj h
              exact run_ret mixed (L := []) (n := 26) (s := [.go, .reg [(3, { v := some (.bool true) })], .reg [(7, { v := some (.bool false) }), (16, { v := some (.bool false) }), (22, { call := some (parrelref26_twice_v yL0_6, [], []) }), (24, { v := some (.bool false) }), (30, { call := some (parrelref26_twice_v yL0_9, [], []) }), (31, { v := some (.bool true) })], .reg []])
                (a_ (a_ (a_ (a_ tr tr) (a_ (a_ tr tr) (a_ (a_ tr tr) (a_ (a_ tr (a_ (leB cL0_1) tr)) tr)))) (a_ (a_ (a_ tr tr) (a_ (a_ tr tr) (a_ (a_ (a_ (Eq.refl 4) gL0_2) tr) (a_ (a_ tr tr) (a_ (a_ (lt_ 0 4 rfl) tr) (a_ (a_ tr tr) (a_ (a_ tr tr) (a_ (a_ tr (a_ (leB cL0_3) tr)) (a_ (a_ tr tr) (a_ (a_ tr tr) (a_ (a_ (a_ (Eq.refl 4) gL0_2) tr) (a_ (a_ tr tr) (a_ (a_ (lt_ 0 3 rfl) tr) (a_ (a_ tr tr) (a_ (a_ tr tr) (a_ (a_ tr tr) (a_ (a_ tr (a_ (leB cL0_4) tr)) (a_ (a_ tr tr) (a_ (a_ tr tr) (a_ (a_ (a_ (Eq.refl 4) gL0_2) tr) (a_ (a_ tr tr) (a_ (a_ (lt_ 0 4 rfl) tr) (a_ (a_ (a_ (parrelref26_twice_tri (l.getD i.toNat default).f_Reads yL0_6 eL0_5) tr) tr) (a_ (a_ tr tr) (a_ (a_ tr (a_ (leB cL0_7) tr)) (a_ (a_ tr tr) (a_ (a_ tr tr) (a_ (a_ (a_ (Eq.refl 4) gL0_2) tr) (a_ (a_ tr tr) (a_ (a_ (lt_ 0 3 rfl) tr) (a_ (a_ (a_ (parrelref26_twice_tri (l.getD i.toNat default).f_Writes yL0_9 eL0_8) tr) tr) (a_ (a_ tr (a_ (leB cL0_10) tr)) tr)))))))))))))))))))))))))))))))) (a_ (a_ (a_ tr tr) tr) tr))) tr) (by kernel_rfl) rfl
            · skip
              exact run_to mixed hμ (L := []) (n := 29) (s := [.go, .reg [(3, { v := some (.bool true) })], .reg [(7, { v := some (.bool false) }), (16, { v := some (.bool false) }), (22, { call := some (parrelref26_twice_v yL0_6, [], []) }), (24, { v := some (.bool false) }), (30, { call := some (parrelref26_twice_v yL0_9, [], []) }), (31, { v := some (.bool false) })], .reg []])
                (a_ (a_ (a_ tr tr) (a_ (a_ tr tr) (a_ (a_ tr tr) (a_ (a_ tr (a_ (leB cL0_1) tr)) tr)))) (a_ (a_ (a_ tr tr) (a_ (a_ tr tr) (a_ (a_ (a_ (Eq.refl 4) gL0_2) tr) (a_ (a_ tr tr) (a_ (a_ (lt_ 0 4 rfl) tr) (a_ (a_ tr tr) (a_ (a_ tr tr) (a_ (a_ tr (a_ (leB cL0_3) tr)) (a_ (a_ tr tr) (a_ (a_ tr tr) (a_ (a_ (a_ (Eq.refl 4) gL0_2) tr) (a_ (a_ tr tr) (a_ (a_ (lt_ 0 3 rfl) tr) (a_ (a_ tr tr) (a_ (a_ tr tr) (a_ (a_ tr tr) (a_ (a_ tr (a_ (leB cL0_4) tr)) (a_ (a_ tr tr) (a_ (a_ tr tr) (a_ (a_ (a_ (Eq.refl 4) gL0_2) tr) (a_ (a_ tr tr) (a_ (a_ (lt_ 0 4 rfl) tr) (a_ (a_ (a_ (parrelref26_twice_tri (l.getD i.toNat default).f_Reads yL0_6 eL0_5) tr) tr) (a_ (a_ tr tr) (a_ (a_ tr (a_ (leB cL0_7) tr)) (a_ (a_ tr tr) (a_ (a_ tr tr) (a_ (a_ (a_ (Eq.refl 4) gL0_2) tr) (a_ (a_ tr tr) (a_ (a_ (lt_ 0 3 rfl) tr) (a_ (a_ (a_ (parrelref26_twice_tri (l.getD i.toNat default).f_Writes yL0_9 eL0_8) tr) tr) (a_ (a_ tr (a_ (leB cL0_10) tr)) tr)))))))))))))))))))))))))))))))) (a_ (a_ (a_ tr tr) tr) tr))) (parrelref26_may_l1_ok hμ l i (parrelref26_may_l0 l  fuel) (fun i r h => ih i r h) big _ r h) (by kernel_rfl) trivial
    · skip
      obtain rfl := Option.some.inj h
      exact run_ret mixed (L := []) (n := 19) (s := [.go, .reg [(3, { v := some (.bool false) })], .reg []])
        (a_ (a_ (a_ (a_ tr tr) (a_ (a_ tr tr) (a_ (a_ tr tr) (a_ (a_ tr (a_ (leB cL0_1) tr)) tr)))) (a_ (a_ (a_ tr tr) (a_ (a_ tr tr) (a_ (a_ tr tr) (a_ (a_ tr tr) tr)))) tr)) tr) (by kernel_rfl) rfl

theorem parrelref26_may_ok (l : List (T_parrelref26_Tx)) (r : (Bool)) (h : parrelref26_may l = some r) : ∀ σ, Inj 0 σ → FnTri Try.prog 29 (renL σ [.ds 4 (l).length (rowF c_T_parrelref26_Tx default l)]) (preOf σ 0 []) ((parrelref26_may_v r).ren σ) (upOf σ []) := by
  refine fn_of Try.func29 (by kernel_rfl) (by kernel_rfl) (by kernel_rfl) trivial (by kernel_rfl) trivial (by kernel_rfl) ?_
  intro w0 W μ0 hμ
  unfold parrelref26_may at h
  exact run_to mixed hμ (L := []) (n := 18) (s := [.reg [], .reg []])
    (a_ (a_ (a_ tr tr) tr) (a_ (a_ (a_ tr tr) tr) tr)) (parrelref26_may_l0_ok hμ l  big _ r h) (by kernel_rfl) trivial

theorem parrelref26_may_tri (l : List (T_parrelref26_Tx)) (r : (Bool)) (h : parrelref26_may l = some r) : FnTri Try.prog 29 [.ds 4 (l).length (rowF c_T_parrelref26_Tx default l)] [] (parrelref26_may_v r) [] := FnTri.none (parrelref26_may_ok l r h) rfl rfl

/-- parrel/parrelref26.writer -/

def parrelref26_writer_v (r : (Int) × (List UInt8)) : LV := .tup [.int .i64 r.1, .str r.2]

def parrelref26_writer_T1 (l : List (T_parrelref26_Tx)) (x_k : A8 (Int)) (version : Int) (i : Int) (j : Int) : List LV := [.ds 4 (l).length (rowF c_T_parrelref26_Tx default l), .any, .int .u32 version, .any, .ptr 0 0 0, .any, .any, .any, .int .i64 i, .int .i64 j, .any, .any, .any, .any, .any, .any, .any, .any, .any, .any, .any, .any, .any, .any, .any, .any, .any, .any, .any, .any, .any, .any, .any, .any, .any, .any, .any, .any, .any, .any, .any, .any, .any, .any, .any, .any, .any, .any]

def parrelref26_writer_H1 (l : List (T_parrelref26_Tx)) (x_k : A8 (Int)) (version : Int) (i : Int) (j : Int) : Heap := [some (.var [.int .u8 x_k.a0, .int .u8 x_k.a1, .int .u8 x_k.a2, .int .u8 x_k.a3, .int .u8 x_k.a4, .int .u8 x_k.a5, .int .u8 x_k.a6, .int .u8 x_k.a7])]

def parrelref26_writer_T0 (l : List (T_parrelref26_Tx)) (x_k : A8 (Int)) (version : Int) (i : Int) : List LV := [.ds 4 (l).length (rowF c_T_parrelref26_Tx default l), .any, .int .u32 version, .any, .ptr 0 0 0, .any, .any, .any, .int .i64 i, .any, .any, .any, .any, .any, .any, .any, .any, .any, .any, .any, .any, .any, .any, .any, .any, .any, .any, .any, .any, .any, .any, .any, .any, .any, .any, .any, .any, .any, .any, .any, .any, .any, .any, .any, .any, .any, .any, .any]

def parrelref26_writer_H0 (l : List (T_parrelref26_Tx)) (x_k : A8 (Int)) (version : Int) (i : Int) : Heap := [some (.var [.int .u8 x_k.a0, .int .u8 x_k.a1, .int .u8 x_k.a2, .int .u8 x_k.a3, .int .u8 x_k.a4, .int .u8 x_k.a5, .int .u8 x_k.a6, .int .u8 x_k.a7])]

def parrelref26_writer_l1 (l : List (T_parrelref26_Tx)) (x_k : A8 (Int)) (version : Int) (i : Int) (k0 : (Int) → Option ((Int) × (List UInt8))) : Nat → (Int) → Option ((Int) × (List UInt8))
  | 0, _ => none
  | fuel + 1, j =>
    if 0 ≤ i ∧ i < (((l).length : Nat) : Int) then
    if ((decide (j < (((l.getD i.toNat default).f_Writes).length : Int))) : Bool) then
      if 0 ≤ j ∧ j < ((((l.getD i.toNat default).f_Writes).length : Nat) : Int) then
      if ((decide (((l.getD i.toNat default).f_Writes.getD j.toNat default).f_Key = x_k)) : Bool) then
        if ((((l.getD i.toNat default).f_Writes.getD j.toNat default).f_Version == version) : Bool) then
          some (i, ((l.getD i.toNat default).f_Writes.getD j.toNat default).f_Value)
        else
          parrelref26_writer_l1 l x_k version i k0 fuel (IntKind.wrap .i64 (j + 1))
      else
        parrelref26_writer_l1 l x_k version i k0 fuel (IntKind.wrap .i64 (j + 1))
      else none
    else
      k0 (IntKind.wrap .i64 (i + 1))
    else none

def parrelref26_writer_l0 (l : List (T_parrelref26_Tx)) (x_k : A8 (Int)) (version : Int)  : Nat → (Int) → Option ((Int) × (List UInt8))
  | 0, _ => none
  | fuel + 1, i =>
    if ((decide (i < ((l).length : Int))) : Bool) then
      parrelref26_writer_l1 l x_k version i (parrelref26_writer_l0 l x_k version  fuel) big 0
    else
      some ((-1), [])

def parrelref26_writer (l : List (T_parrelref26_Tx)) (x_k : A8 (Int)) (version : Int) : Option ((Int) × (List UInt8)) :=
  parrelref26_writer_l0 l x_k version  big 0

theorem parrelref26_writer_l1_ok {w0 : World} {W : Nat → Prop} {μ0 : Emb} (hμ : ∀ c p, μ0 c = some p → c < 0) (l : List (T_parrelref26_Tx)) (x_k : A8 (Int)) (version : Int) (i : Int) (k0 : (Int) → Option ((Int) × (List UInt8))) (hk0 : ∀ (i : Int) (r : (Int) × (List UInt8)), k0 i = some r → kont Try.prog w0 W μ0 (FnPost Try.prog Try.f30 0 0 (parrelref26_writer_v r) []) (kAt (bodyOf Try.f30) 0) none (parrelref26_writer_T0 l x_k version i) (parrelref26_writer_H0 l x_k version i)) : ∀ (fuel : Nat) (j : Int) (r : (Int) × (List UInt8)), parrelref26_writer_l1 l x_k version i k0 fuel j = some r → kont Try.prog w0 W μ0 (FnPost Try.prog Try.f30 0 0 (parrelref26_writer_v r) []) (kAt (bodyOf Try.f30) 1) none (parrelref26_writer_T1 l x_k version i j) (parrelref26_writer_H1 l x_k version i j) := by
  intro fuel
  induction fuel with
  | zero => intro j r h; rw [parrelref26_writer_l1] at h; cases h
  | succ fuel ih =>
    intro j r h
    rw [parrelref26_writer_l1] at h
    obtain ⟨gL1_1, h⟩ := guard_some h
    rcases itb_some h with ⟨cL1_2, h⟩ | ⟨cL1_2, h⟩
    · skip
      obtain ⟨gL1_3, h⟩ := guard_some h
      rcases itb_some h with ⟨cL1_4, h⟩ | ⟨cL1_4, h⟩
      · skip
        rcases itb_some h with ⟨cL1_5, h⟩ | ⟨cL1_5, h⟩
        · skip
          obtain rfl := Option.some.inj h
          exact run_ret mixed (L := []) (n := 28) (s := [.go, .reg [(7, { v := some (.bool true) })], .reg [], .reg [(3, { v := some (.bool (decide (((l.getD i.toNat default).f_Writes.getD j.toNat default).f_Key = x_k))) }), (4, { v := some (.bool true) }), (9, { v := some (.bool true) })], .reg []])
            (a_ (a_ (a_ (a_ tr tr) (a_ (a_ tr tr) (a_ (a_ tr tr) (a_ (a_ (a_ (Eq.refl 4) gL1_1) tr) (a_ (a_ tr tr) (a_ (a_ (lt_ 0 3 rfl) tr) (a_ (a_ tr tr) (a_ (a_ tr (a_ (leB cL1_2) tr)) tr)))))))) (a_ (a_ (a_ tr tr) (a_ (a_ tr tr) (a_ (a_ (a_ (Eq.refl 4) gL1_1) tr) (a_ (a_ tr tr) (a_ (a_ (lt_ 0 3 rfl) tr) (a_ (a_ tr tr) (a_ (a_ (a_ (Eq.refl 10) gL1_3) tr) (a_ (a_ (le_ 10 10 rfl) tr) (a_ (a_ tr tr) (a_ (a_ (a_ (Eq.refl 10) (a_ (le_ 10 10 rfl) (Eq.refl 0))) tr) tr)))))))))) (a_ (a_ (a_ tr tr) (a_ (a_ (a_ tr (le_ 8 10 rfl)) tr) (a_ (a_ (a_ tr (le_ 8 8 rfl)) tr) (a_ (a_ tr (a_ (leB ((k_arr8 .u8) ((l.getD i.toNat default).f_Writes.getD j.toNat default).f_Key x_k)) tr)) (a_ (a_ tr (a_ (leB cL1_4) tr)) (a_ (a_ tr tr) (a_ (a_ (a_ tr (lt_ 8 10 rfl)) tr) (a_ (a_ tr tr) (a_ (a_ tr tr) (a_ (a_ tr (a_ (leB cL1_5) tr)) tr)))))))))) (a_ (a_ (a_ tr tr) (a_ (a_ tr tr) (a_ (a_ (a_ tr (lt_ 9 10 rfl)) tr) (a_ (a_ tr tr) (a_ (a_ tr tr) tr))))) tr)))) tr) (by kernel_rfl) rfl
        · skip
          exact run_to mixed hμ (L := [0]) (n := 29) (s := [.go, .reg [(7, { v := some (.bool true) })], .reg [], .reg [(3, { v := some (.bool (decide (((l.getD i.toNat default).f_Writes.getD j.toNat default).f_Key = x_k))) }), (4, { v := some (.bool true) }), (9, { v := some (.bool false) })], .reg []])
            (a_ (a_ (a_ tr tr) (a_ (a_ tr tr) (a_ (a_ tr tr) (a_ (a_ (a_ (Eq.refl 4) gL1_1) tr) (a_ (a_ tr tr) (a_ (a_ (lt_ 0 3 rfl) tr) (a_ (a_ tr tr) (a_ (a_ tr (a_ (leB cL1_2) tr)) tr)))))))) (a_ (a_ (a_ tr tr) (a_ (a_ tr tr) (a_ (a_ (a_ (Eq.refl 4) gL1_1) tr) (a_ (a_ tr tr) (a_ (a_ (lt_ 0 3 rfl) tr) (a_ (a_ tr tr) (a_ (a_ (a_ (Eq.refl 10) gL1_3) tr) (a_ (a_ (le_ 10 10 rfl) tr) (a_ (a_ tr tr) (a_ (a_ (a_ (Eq.refl 10) (a_ (le_ 10 10 rfl) (Eq.refl 0))) tr) tr)))))))))) (a_ (a_ (a_ tr tr) (a_ (a_ (a_ tr (le_ 8 10 rfl)) tr) (a_ (a_ (a_ tr (le_ 8 8 rfl)) tr) (a_ (a_ tr (a_ (leB ((k_arr8 .u8) ((l.getD i.toNat default).f_Writes.getD j.toNat default).f_Key x_k)) tr)) (a_ (a_ tr (a_ (leB cL1_4) tr)) (a_ (a_ tr tr) (a_ (a_ (a_ tr (lt_ 8 10 rfl)) tr) (a_ (a_ tr tr) (a_ (a_ tr tr) (a_ (a_ tr (a_ (leB cL1_5) tr)) tr)))))))))) (a_ (a_ (a_ tr tr) (a_ (a_ tr tr) (a_ (a_ tr tr) tr))) tr)))) (ih _ r h) (by kernel_rfl) ⟨rfl, trivial⟩
      · skip
        exact run_to mixed hμ (L := [0]) (n := 29) (s := [.go, .reg [(7, { v := some (.bool true) })], .reg [], .reg [(3, { v := some (.bool (decide (((l.getD i.toNat default).f_Writes.getD j.toNat default).f_Key = x_k))) }), (4, { v := some (.bool false) })], .reg []])
          (a_ (a_ (a_ tr tr) (a_ (a_ tr tr) (a_ (a_ tr tr) (a_ (a_ (a_ (Eq.refl 4) gL1_1) tr) (a_ (a_ tr tr) (a_ (a_ (lt_ 0 3 rfl) tr) (a_ (a_ tr tr) (a_ (a_ tr (a_ (leB cL1_2) tr)) tr)))))))) (a_ (a_ (a_ tr tr) (a_ (a_ tr tr) (a_ (a_ (a_ (Eq.refl 4) gL1_1) tr) (a_ (a_ tr tr) (a_ (a_ (lt_ 0 3 rfl) tr) (a_ (a_ tr tr) (a_ (a_ (a_ (Eq.refl 10) gL1_3) tr) (a_ (a_ (le_ 10 10 rfl) tr) (a_ (a_ tr tr) (a_ (a_ (a_ (Eq.refl 10) (a_ (le_ 10 10 rfl) (Eq.refl 0))) tr) tr)))))))))) (a_ (a_ (a_ tr tr) (a_ (a_ (a_ tr (le_ 8 10 rfl)) tr) (a_ (a_ (a_ tr (le_ 8 8 rfl)) tr) (a_ (a_ tr (a_ (leB ((k_arr8 .u8) ((l.getD i.toNat default).f_Writes.getD j.toNat default).f_Key x_k)) tr)) (a_ (a_ tr (a_ (leB cL1_4) tr)) (a_ tr (a_ tr (a_ tr (a_ tr (a_ (a_ tr tr) tr)))))))))) (a_ (a_ (a_ tr tr) (a_ (a_ tr tr) (a_ (a_ tr tr) tr))) tr)))) (ih _ r h) (by kernel_rfl) ⟨rfl, trivial⟩
    · skip
      exact run_to mixed hμ (L := [0]) (n := 19) (s := [.go, .reg [(7, { v := some (.bool false) })], .reg []])
        (a_ (a_ (a_ tr tr) (a_ (a_ tr tr) (a_ (a_ tr tr) (a_ (a_ (a_ (Eq.refl 4) gL1_1) tr) (a_ (a_ tr tr) (a_ (a_ (lt_ 0 3 rfl) tr) (a_ (a_ tr tr) (a_ (a_ tr (a_ (leB cL1_2) tr)) tr)))))))) (a_ (a_ (a_ tr tr) (a_ (a_ tr tr) (a_ (a_ tr tr) tr))) tr)) (hk0 _ r h) (by kernel_rfl) ⟨rfl, trivial⟩

theorem parrelref26_writer_l0_ok {w0 : World} {W : Nat → Prop} {μ0 : Emb} (hμ : ∀ c p, μ0 c = some p → c < 0) (l : List (T_parrelref26_Tx)) (x_k : A8 (Int)) (version : Int)  : ∀ (fuel : Nat) (i : Int) (r : (Int) × (List UInt8)), parrelref26_writer_l0 l x_k version  fuel i = some r → kont Try.prog w0 W μ0 (FnPost Try.prog Try.f30 0 0 (parrelref26_writer_v r) []) (kAt (bodyOf Try.f30) 0) none (parrelref26_writer_T0 l x_k version i) (parrelref26_writer_H0 l x_k version i) := by
  intro fuel
  induction fuel with
  | zero => intro i r h; rw [parrelref26_writer_l0] at h; cases h
  | succ fuel ih =>
    intro i r h
    rw [parrelref26_writer_l0] at h
    rcases itb_some h with ⟨cL0_1, h⟩ | ⟨cL0_1, h⟩
    · skip
      exact run_to mixed hμ (L := [0]) (n := 23) (s := [.go, .reg [(3, { v := some (.bool true) })], .reg []])
        (a_ (a_ (a_ tr tr) (a_ (a_ tr tr) (a_ (a_ tr tr) (a_ (a_ tr (a_ (leB cL0_1) tr)) tr)))) (a_ (a_ (a_ tr tr) tr) tr)) (parrelref26_writer_l1_ok hμ l x_k version i (parrelref26_writer_l0 l x_k version  fuel) (fun i r h => ih i r h) big _ r h) (by kernel_rfl) ⟨rfl, trivial⟩
    · skip
      obtain rfl := Option.some.inj h
      exact run_ret mixed (L := []) (n := 19) (s := [.go, .reg [(3, { v := some (.bool false) })], .reg []])
        (a_ (a_ (a_ (a_ tr tr) (a_ (a_ tr tr) (a_ (a_ tr tr) (a_ (a_ tr (a_ (leB cL0_1) tr)) tr)))) (a_ (a_ (a_ tr tr) (a_ (a_ tr tr) tr)) tr)) tr) (by kernel_rfl) rfl

theorem parrelref26_writer_ok (l : List (T_parrelref26_Tx)) (x_k : A8 (Int)) (version : Int) (r : (Int) × (List UInt8)) (h : parrelref26_writer l x_k version = some r) : ∀ σ, Inj 0 σ → FnTri Try.prog 30 (renL σ [.ds 4 (l).length (rowF c_T_parrelref26_Tx default l), .agg [.int .u8 x_k.a0, .int .u8 x_k.a1, .int .u8 x_k.a2, .int .u8 x_k.a3, .int .u8 x_k.a4, .int .u8 x_k.a5, .int .u8 x_k.a6, .int .u8 x_k.a7], .int .u32 version]) (preOf σ 0 []) ((parrelref26_writer_v r).ren σ) (upOf σ []) := by
  refine fn_of Try.func30 (by kernel_rfl) (by kernel_rfl) (by kernel_rfl) trivial (by kernel_rfl) trivial (by kernel_rfl) ?_
  intro w0 W μ0 hμ
  unfold parrelref26_writer at h
  exact run_to mixed hμ (L := [0]) (n := 18) (s := [.reg [], .reg []])
    (a_ (a_ (a_ tr tr) (a_ (a_ tr tr) (a_ (a_ tr tr) tr))) (a_ (a_ (a_ tr tr) tr) tr)) (parrelref26_writer_l0_ok hμ l x_k version  big _ r h) (by kernel_rfl) ⟨rfl, trivial⟩

theorem parrelref26_writer_tri (l : List (T_parrelref26_Tx)) (x_k : A8 (Int)) (version : Int) (r : (Int) × (List UInt8)) (h : parrelref26_writer l x_k version = some r) : FnTri Try.prog 30 [.ds 4 (l).length (rowF c_T_parrelref26_Tx default l), .agg [.int .u8 x_k.a0, .int .u8 x_k.a1, .int .u8 x_k.a2, .int .u8 x_k.a3, .int .u8 x_k.a4, .int .u8 x_k.a5, .int .u8 x_k.a6, .int .u8 x_k.a7], .int .u32 version] [] (parrelref26_writer_v r) [] := FnTri.none (parrelref26_writer_ok l x_k version r h) rfl rfl

/-- parrel/parrelref26.Check -/

def parrelref26_Check_v (r : (Int)) : LV := .int .i64 r

def parrelref26_Check_T1 (l : List (T_parrelref26_Tx)) (i : Int) (j : Int) : List LV := [.ds 4 (l).length (rowF c_T_parrelref26_Tx default l), .any, .any, .int .i64 i, .int .i64 j, .any, .any, .any, .any, .any, .any, .any, .any, .any, .any, .any, .any, .any, .any, .any, .any, .any, .any, .any, .any, .any, .any, .any, .any, .any, .any, .any, .any, .any, .any, .any, .any, .any, .any, .any, .any, .any, .any, .any, .any, .any, .any, .any, .any, .any, .any, .any, .any, .any, .any, .any, .any, .any, .any, .any, .any, .any, .any, .any, .any, .any, .any, .any, .any, .any, .any, .any, .any, .any, .any, .any, .any, .any, .any, .any, .any, .any, .any, .any, .any, .any, .any, .any, .any, .any, .any, .any, .any, .any, .any, .any, .any, .any, .any, .any, .any, .any, .any, .any, .any, .any, .any, .any]

def parrelref26_Check_H1 (l : List (T_parrelref26_Tx)) (i : Int) (j : Int) : Heap := []

def parrelref26_Check_T3 (l : List (T_parrelref26_Tx)) (i2 : Int) (bad2 : Int) (j2 : Int) : List LV := [.ds 4 (l).length (rowF c_T_parrelref26_Tx default l), .any, .any, .any, .any, .any, .any, .int .i64 bad2, .int .i64 i2, .int .i64 j2, .any, .any, .any, .any, .any, .any, .any, .any, .any, .any, .any, .any, .any, .any, .any, .any, .any, .any, .any, .any, .any, .any, .any, .any, .any, .any, .any, .any, .any, .any, .any, .any, .any, .any, .any, .any, .any, .any, .any, .any, .any, .any, .any, .any, .any, .any, .any, .any, .any, .any, .any, .any, .any, .any, .any, .any, .any, .any, .any, .any, .any, .any, .any, .any, .any, .any, .any, .any, .any, .any, .any, .any, .any, .any, .any, .any, .any, .any, .any, .any, .any, .any, .any, .any, .any, .any, .any, .any, .any, .any, .any, .any, .any, .any, .any, .any, .any, .any]

def parrelref26_Check_H3 (l : List (T_parrelref26_Tx)) (i2 : Int) (bad2 : Int) (j2 : Int) : Heap := []

def parrelref26_Check_T2 (l : List (T_parrelref26_Tx)) (bad : Int) (i2 : Int) : List LV := [.ds 4 (l).length (rowF c_T_parrelref26_Tx default l), .any, .any, .any, .any, .any, .any, .int .i64 bad, .int .i64 i2, .any, .any, .any, .any, .any, .any, .any, .any, .any, .any, .any, .any, .any, .any, .any, .any, .any, .any, .any, .any, .any, .any, .any, .any, .any, .any, .any, .any, .any, .any, .any, .any, .any, .any, .any, .any, .any, .any, .any, .any, .any, .any, .any, .any, .any, .any, .any, .any, .any, .any, .any, .any, .any, .any, .any, .any, .any, .any, .any, .any, .any, .any, .any, .any, .any, .any, .any, .any, .any, .any, .any, .any, .any, .any, .any, .any, .any, .any, .any, .any, .any, .any, .any, .any, .any, .any, .any, .any, .any, .any, .any, .any, .any, .any, .any, .any, .any, .any, .any]

def parrelref26_Check_H2 (l : List (T_parrelref26_Tx)) (bad : Int) (i2 : Int) : Heap := []

def parrelref26_Check_T0 (l : List (T_parrelref26_Tx)) (i : Int) : List LV := [.ds 4 (l).length (rowF c_T_parrelref26_Tx default l), .any, .any, .int .i64 i, .any, .any, .any, .any, .any, .any, .any, .any, .any, .any, .any, .any, .any, .any, .any, .any, .any, .any, .any, .any, .any, .any, .any, .any, .any, .any, .any, .any, .any, .any, .any, .any, .any, .any, .any, .any, .any, .any, .any, .any, .any, .any, .any, .any, .any, .any, .any, .any, .any, .any, .any, .any, .any, .any, .any, .any, .any, .any, .any, .any, .any, .any, .any, .any, .any, .any, .any, .any, .any, .any, .any, .any, .any, .any, .any, .any, .any, .any, .any, .any, .any, .any, .any, .any, .any, .any, .any, .any, .any, .any, .any, .any, .any, .any, .any, .any, .any, .any, .any, .any, .any, .any, .any, .any]

def parrelref26_Check_H0 (l : List (T_parrelref26_Tx)) (i : Int) : Heap := []

def parrelref26_Check_l1 (l : List (T_parrelref26_Tx)) (i : Int) (k0 : (Int) → Option ((Int))) : Nat → (Int) → Option ((Int))
  | 0, _ => none
  | fuel + 1, j =>
    if 0 ≤ i ∧ i < (((l).length : Nat) : Int) then
    if ((decide (j < (((l.getD i.toNat default).f_Writes).length : Int))) : Bool) then
      if 0 ≤ j ∧ j < ((((l.getD i.toNat default).f_Writes).length : Nat) : Int) then
      (parrelref26_writer l ((l.getD i.toNat default).f_Writes.getD j.toNat default).f_Key ((l.getD i.toNat default).f_Writes.getD j.toNat default).f_Version).bind fun yL1_5 =>
      if ((yL1_5.1 != i) : Bool) then
        some 7
      else
        parrelref26_Check_l1 l i k0 fuel (IntKind.wrap .i64 (j + 1))
      else none
    else
      k0 (IntKind.wrap .i64 (i + 1))
    else none

def parrelref26_Check_l3 (l : List (T_parrelref26_Tx)) (i2 : Int) (k2 : (Int) → (Int) → Option ((Int))) : Nat → (Int) → (Int) → Option ((Int))
  | 0, _, _ => none
  | fuel + 1, bad2, j2 =>
    if 0 ≤ i2 ∧ i2 < (((l).length : Nat) : Int) then
    if ((decide (j2 < (((l.getD i2.toNat default).f_Reads).length : Int))) : Bool) then
      if 0 ≤ j2 ∧ j2 < ((((l.getD i2.toNat default).f_Reads).length : Nat) : Int) then
      (parrelref26_writer l ((l.getD i2.toNat default).f_Reads.getD j2.toNat default).f_Key ((l.getD i2.toNat default).f_Reads.getD j2.toNat default).f_Version).bind fun yL3_5 =>
      if ((decide (yL3_5.1 < 0)) : Bool) then
        if ((((l.getD i2.toNat default).f_Reads.getD j2.toNat default).f_Version != 0) : Bool) then
          some 6
        else
          if ((!(yL3_5.2 == ((l.getD i2.toNat default).f_Reads.getD j2.toNat default).f_Value)) : Bool) then
            parrelref26_Check_l3 l i2 k2 fuel 8 (IntKind.wrap .i64 (j2 + 1))
          else
            parrelref26_Check_l3 l i2 k2 fuel bad2 (IntKind.wrap .i64 (j2 + 1))
      else
        if ((!(yL3_5.2 == ((l.getD i2.toNat default).f_Reads.getD j2.toNat default).f_Value)) : Bool) then
          parrelref26_Check_l3 l i2 k2 fuel 8 (IntKind.wrap .i64 (j2 + 1))
        else
          parrelref26_Check_l3 l i2 k2 fuel bad2 (IntKind.wrap .i64 (j2 + 1))
      else none
    else
      k2 bad2 (IntKind.wrap .i64 (i2 + 1))
    else none

def parrelref26_Check_l2 (l : List (T_parrelref26_Tx))  : Nat → (Int) → (Int) → Option ((Int))
  | 0, _, _ => none
  | fuel + 1, bad, i2 =>
    if ((decide (i2 < ((l).length : Int))) : Bool) then
      parrelref26_Check_l3 l i2 (parrelref26_Check_l2 l  fuel) big bad 0
    else
      some bad

def parrelref26_Check_l0 (l : List (T_parrelref26_Tx))  : Nat → (Int) → Option ((Int))
  | 0, _ => none
  | fuel + 1, i =>
    if ((decide (i < ((l).length : Int))) : Bool) then
      parrelref26_Check_l1 l i (parrelref26_Check_l0 l  fuel) big 0
    else
      parrelref26_Check_l2 l  big 0 0

def parrelref26_Check (l : List (T_parrelref26_Tx)) : Option ((Int)) :=
  if ((decide (64 < ((l).length : Int))) : Bool) then
    some 1
  else
    (parrelref26_may l).bind fun y3 =>
    if ((!y3) : Bool) then
      some 1
    else
      parrelref26_Check_l0 l  big 0

theorem parrelref26_Check_l1_ok {w0 : World} {W : Nat → Prop} {μ0 : Emb} (hμ : ∀ c p, μ0 c = some p → c < 0) (l : List (T_parrelref26_Tx)) (i : Int) (k0 : (Int) → Option ((Int))) (hk0 : ∀ (i : Int) (r : (Int)), k0 i = some r → kont Try.prog w0 W μ0 (FnPost Try.prog Try.f14 0 0 (parrelref26_Check_v r) []) (kAt (bodyOf Try.f14) 0) none (parrelref26_Check_T0 l i) (parrelref26_Check_H0 l i)) : ∀ (fuel : Nat) (j : Int) (r : (Int)), parrelref26_Check_l1 l i k0 fuel j = some r → kont Try.prog w0 W μ0 (FnPost Try.prog Try.f14 0 0 (parrelref26_Check_v r) []) (kAt (bodyOf Try.f14) 1) none (parrelref26_Check_T1 l i j) (parrelref26_Check_H1 l i j) := by
  intro fuel
  induction fuel with
  | zero => intro j r h; rw [parrelref26_Check_l1] at h; cases h
  | succ fuel ih =>
    intro j r h
    rw [parrelref26_Check_l1] at h
    obtain ⟨gL1_1, h⟩ := guard_some h
    rcases itb_some h with ⟨cL1_2, h⟩ | ⟨cL1_2, h⟩
    · skip
      obtain ⟨gL1_3, h⟩ := guard_some h
      obtain ⟨yL1_5, eL1_4, h⟩ := bind_some h
      rcases itb_some h with ⟨cL1_6, h⟩ | ⟨cL1_6, h⟩
      · skip
        obtain rfl := Option.some.inj h
        exact run_ret mixed (L := []) (n := 28) (s := [.go, .reg [(7, { v := some (.bool true) })], .reg [(19, { call := some (parrelref26_writer_v yL1_5, [], []) })], .reg [(2, { v := some (.bool true) })], .reg []])
          (a_ (a_ (a_ (a_ tr tr) (a_ (a_ tr tr) (a_ (a_ tr tr) (a_ (a_ (a_ (Eq.refl 4) gL1_1) tr) (a_ (a_ tr tr) (a_ (a_ (lt_ 0 3 rfl) tr) (a_ (a_ tr tr) (a_ (a_ tr (a_ (leB cL1_2) tr)) tr)))))))) (a_ (a_ (a_ tr tr) (a_ (a_ tr tr) (a_ (a_ tr tr) (a_ (a_ (a_ (Eq.refl 4) gL1_1) tr) (a_ (a_ tr tr) (a_ (a_ (lt_ 0 3 rfl) tr) (a_ (a_ tr tr) (a_ (a_ (a_ (Eq.refl 10) gL1_3) tr) (a_ (a_ tr tr) (a_ (a_ (le_ 8 10 rfl) tr) (a_ (a_ tr tr) (a_ (a_ tr tr) (a_ (a_ (a_ (Eq.refl 4) gL1_1) tr) (a_ (a_ tr tr) (a_ (a_ (lt_ 0 3 rfl) tr) (a_ (a_ tr tr) (a_ (a_ (a_ (Eq.refl 10) gL1_3) tr) (a_ (a_ tr tr) (a_ (a_ (lt_ 0 2 rfl) tr) (a_ (a_ (a_ (parrelref26_writer_tri l ((l.getD i.toNat default).f_Writes.getD j.toNat default).f_Key ((l.getD i.toNat default).f_Writes.getD j.toNat default).f_Version yL1_5 eL1_4) tr) tr) (a_ (a_ tr tr) (a_ (a_ tr tr) (a_ (a_ tr tr) (a_ (a_ tr tr) (a_ (a_ tr tr) tr))))))))))))))))))))))))) (a_ (a_ (a_ tr tr) (a_ (a_ tr tr) (a_ (a_ tr (a_ (leB cL1_6) tr)) tr))) (a_ (a_ (a_ tr tr) tr) tr)))) tr) (by kernel_rfl) rfl
      · skip
        exact run_to mixed hμ (L := []) (n := 29) (s := [.go, .reg [(7, { v := some (.bool true) })], .reg [(19, { call := some (parrelref26_writer_v yL1_5, [], []) })], .reg [(2, { v := some (.bool false) })], .reg []])
          (a_ (a_ (a_ tr tr) (a_ (a_ tr tr) (a_ (a_ tr tr) (a_ (a_ (a_ (Eq.refl 4) gL1_1) tr) (a_ (a_ tr tr) (a_ (a_ (lt_ 0 3 rfl) tr) (a_ (a_ tr tr) (a_ (a_ tr (a_ (leB cL1_2) tr)) tr)))))))) (a_ (a_ (a_ tr tr) (a_ (a_ tr tr) (a_ (a_ tr tr) (a_ (a_ (a_ (Eq.refl 4) gL1_1) tr) (a_ (a_ tr tr) (a_ (a_ (lt_ 0 3 rfl) tr) (a_ (a_ tr tr) (a_ (a_ (a_ (Eq.refl 10) gL1_3) tr) (a_ (a_ tr tr) (a_ (a_ (le_ 8 10 rfl) tr) (a_ (a_ tr tr) (a_ (a_ tr tr) (a_ (a_ (a_ (Eq.refl 4) gL1_1) tr) (a_ (a_ tr tr) (a_ (a_ (lt_ 0 3 rfl) tr) (a_ (a_ tr tr) (a_ (a_ (a_ (Eq.refl 10) gL1_3) tr) (a_ (a_ tr tr) (a_ (a_ (lt_ 0 2 rfl) tr) (a_ (a_ (a_ (parrelref26_writer_tri l ((l.getD i.toNat default).f_Writes.getD j.toNat default).f_Key ((l.getD i.toNat default).f_Writes.getD j.toNat default).f_Version yL1_5 eL1_4) tr) tr) (a_ (a_ tr tr) (a_ (a_ tr tr) (a_ (a_ tr tr) (a_ (a_ tr tr) (a_ (a_ tr tr) tr))))))))))))))))))))))))) (a_ (a_ (a_ tr tr) (a_ (a_ tr tr) (a_ (a_ tr (a_ (leB cL1_6) tr)) tr))) (a_ (a_ (a_ tr tr) (a_ (a_ tr tr) (a_ (a_ tr tr) tr))) tr)))) (ih _ r h) (by kernel_rfl) trivial
    · skip
      exact run_to mixed hμ (L := []) (n := 19) (s := [.go, .reg [(7, { v := some (.bool false) })], .reg []])
        (a_ (a_ (a_ tr tr) (a_ (a_ tr tr) (a_ (a_ tr tr) (a_ (a_ (a_ (Eq.refl 4) gL1_1) tr) (a_ (a_ tr tr) (a_ (a_ (lt_ 0 3 rfl) tr) (a_ (a_ tr tr) (a_ (a_ tr (a_ (leB cL1_2) tr)) tr)))))))) (a_ (a_ (a_ tr tr) (a_ (a_ tr tr) (a_ (a_ tr tr) tr))) tr)) (hk0 _ r h) (by kernel_rfl) trivial

theorem parrelref26_Check_l3_ok {w0 : World} {W : Nat → Prop} {μ0 : Emb} (hμ : ∀ c p, μ0 c = some p → c < 0) (l : List (T_parrelref26_Tx)) (i2 : Int) (k2 : (Int) → (Int) → Option ((Int))) (hk2 : ∀ (bad : Int) (i2 : Int) (r : (Int)), k2 bad i2 = some r → kont Try.prog w0 W μ0 (FnPost Try.prog Try.f14 0 0 (parrelref26_Check_v r) []) (kAt (bodyOf Try.f14) 2) none (parrelref26_Check_T2 l bad i2) (parrelref26_Check_H2 l bad i2)) : ∀ (fuel : Nat) (bad2 : Int) (j2 : Int) (r : (Int)), parrelref26_Check_l3 l i2 k2 fuel bad2 j2 = some r → kont Try.prog w0 W μ0 (FnPost Try.prog Try.f14 0 0 (parrelref26_Check_v r) []) (kAt (bodyOf Try.f14) 3) none (parrelref26_Check_T3 l i2 bad2 j2) (parrelref26_Check_H3 l i2 bad2 j2) := by
  intro fuel
  induction fuel with
  | zero => intro bad2 j2 r h; rw [parrelref26_Check_l3] at h; cases h
  | succ fuel ih =>
    intro bad2 j2 r h
    rw [parrelref26_Check_l3] at h
    obtain ⟨gL3_1, h⟩ := guard_some h
    rcases itb_some h with ⟨cL3_2, h⟩ | ⟨cL3_2, h⟩
    · skip
      obtain ⟨gL3_3, h⟩ := guard_some h
      obtain ⟨yL3_5, eL3_4, h⟩ := bind_some h
      rcases itb_some h with ⟨cL3_6, h⟩ | ⟨cL3_6, h⟩
      · skip
        rcases itb_some h with ⟨cL3_7, h⟩ | ⟨cL3_7, h⟩
        · skip
          obtain rfl := Option.some.inj h
          exact run_ret mixed (L := []) (n := 32) (s := [.go, .reg [(7, { v := some (.bool true) })], .reg [], .reg [(5, { call := some (parrelref26_writer_v yL3_5, [], []) })], .reg [(2, { v := some (.bool true) }), (6, { v := some (.bool true) })], .reg []])
            (a_ (a_ (a_ (a_ tr tr) (a_ (a_ tr tr) (a_ (a_ tr tr) (a_ (a_ (a_ (Eq.refl 4) gL3_1) tr) (a_ (a_ tr tr) (a_ (a_ (lt_ 0 4 rfl) tr) (a_ (a_ tr tr) (a_ (a_ tr (a_ (leB cL3_2) tr)) tr)))))))) (a_ (a_ (a_ tr tr) (a_ (a_ tr tr) (a_ (a_ (a_ (Eq.refl 4) gL3_1) tr) (a_ (a_ tr tr) (a_ (a_ (lt_ 0 4 rfl) tr) (a_ (a_ tr tr) (a_ (a_ (a_ (Eq.refl 10) gL3_3) tr) (a_ (a_ (le_ 10 10 rfl) tr) (a_ (a_ tr tr) (a_ (a_ (a_ (Eq.refl 10) (a_ (le_ 10 10 rfl) (Eq.refl 0))) tr) tr)))))))))) (a_ (a_ (a_ tr tr) (a_ (a_ tr tr) (a_ (a_ (a_ tr (le_ 8 10 rfl)) tr) (a_ (a_ tr tr) (a_ (a_ (a_ tr (lt_ 8 10 rfl)) tr) (a_ (a_ (a_ (parrelref26_writer_tri l ((l.getD i2.toNat default).f_Reads.getD j2.toNat default).f_Key ((l.getD i2.toNat default).f_Reads.getD j2.toNat default).f_Version yL3_5 eL3_4) tr) tr) (a_ (a_ tr tr) (a_ (a_ tr tr) (a_ (a_ tr tr) (a_ (a_ tr tr) (a_ (a_ tr tr) tr))))))))))) (a_ (a_ (a_ tr tr) (a_ (a_ tr tr) (a_ (a_ tr (a_ (leB cL3_6) tr)) (a_ (a_ tr tr) (a_ (a_ (a_ tr (lt_ 8 10 rfl)) tr) (a_ (a_ tr tr) (a_ (a_ tr (a_ (leB cL3_7) tr)) tr))))))) (a_ (a_ (a_ tr tr) tr) tr))))) tr) (by kernel_rfl) rfl
        · skip
          rcases itb_some h with ⟨cL3_8, h⟩ | ⟨cL3_8, h⟩
          · skip
            exact run_to mixed hμ (L := []) (n := 39) (s := [.go, .reg [(7, { v := some (.bool true) })], .reg [], .reg [(5, { call := some (parrelref26_writer_v yL3_5, [], []) })], .reg [(2, { v := some (.bool true) }), (6, { v := some (.bool false) })], .reg [(3, { v := some (.bool true) })], .reg [], .reg []])
              (a_ (a_ (a_ tr tr) (a_ (a_ tr tr) (a_ (a_ tr tr) (a_ (a_ (a_ (Eq.refl 4) gL3_1) tr) (a_ (a_ tr tr) (a_ (a_ (lt_ 0 4 rfl) tr) (a_ (a_ tr tr) (a_ (a_ tr (a_ (leB cL3_2) tr)) tr)))))))) (a_ (a_ (a_ tr tr) (a_ (a_ tr tr) (a_ (a_ (a_ (Eq.refl 4) gL3_1) tr) (a_ (a_ tr tr) (a_ (a_ (lt_ 0 4 rfl) tr) (a_ (a_ tr tr) (a_ (a_ (a_ (Eq.refl 10) gL3_3) tr) (a_ (a_ (le_ 10 10 rfl) tr) (a_ (a_ tr tr) (a_ (a_ (a_ (Eq.refl 10) (a_ (le_ 10 10 rfl) (Eq.refl 0))) tr) tr)))))))))) (a_ (a_ (a_ tr tr) (a_ (a_ tr tr) (a_ (a_ (a_ tr (le_ 8 10 rfl)) tr) (a_ (a_ tr tr) (a_ (a_ (a_ tr (lt_ 8 10 rfl)) tr) (a_ (a_ (a_ (parrelref26_writer_tri l ((l.getD i2.toNat default).f_Reads.getD j2.toNat default).f_Key ((l.getD i2.toNat default).f_Reads.getD j2.toNat default).f_Version yL3_5 eL3_4) tr) tr) (a_ (a_ tr tr) (a_ (a_ tr tr) (a_ (a_ tr tr) (a_ (a_ tr tr) (a_ (a_ tr tr) tr))))))))))) (a_ (a_ (a_ tr tr) (a_ (a_ tr tr) (a_ (a_ tr (a_ (leB cL3_6) tr)) (a_ (a_ tr tr) (a_ (a_ (a_ tr (lt_ 8 10 rfl)) tr) (a_ (a_ tr tr) (a_ (a_ tr (a_ (leB cL3_7) tr)) tr))))))) (a_ (a_ (a_ tr tr) (a_ (a_ tr tr) (a_ (a_ (a_ tr (lt_ 9 10 rfl)) tr) (a_ (a_ tr (a_ (leB cL3_8) tr)) tr)))) (a_ (a_ (a_ tr tr) tr) (a_ (a_ (a_ tr tr) (a_ (a_ tr tr) (a_ (a_ tr tr) tr))) tr))))))) (ih _ _ r h) (by kernel_rfl) trivial
          · skip
            exact run_to mixed hμ (L := []) (n := 38) (s := [.go, .reg [(7, { v := some (.bool true) })], .reg [], .reg [(5, { call := some (parrelref26_writer_v yL3_5, [], []) })], .reg [(2, { v := some (.bool true) }), (6, { v := some (.bool false) })], .reg [(3, { v := some (.bool false) })], .reg []])
              (a_ (a_ (a_ tr tr) (a_ (a_ tr tr) (a_ (a_ tr tr) (a_ (a_ (a_ (Eq.refl 4) gL3_1) tr) (a_ (a_ tr tr) (a_ (a_ (lt_ 0 4 rfl) tr) (a_ (a_ tr tr) (a_ (a_ tr (a_ (leB cL3_2) tr)) tr)))))))) (a_ (a_ (a_ tr tr) (a_ (a_ tr tr) (a_ (a_ (a_ (Eq.refl 4) gL3_1) tr) (a_ (a_ tr tr) (a_ (a_ (lt_ 0 4 rfl) tr) (a_ (a_ tr tr) (a_ (a_ (a_ (Eq.refl 10) gL3_3) tr) (a_ (a_ (le_ 10 10 rfl) tr) (a_ (a_ tr tr) (a_ (a_ (a_ (Eq.refl 10) (a_ (le_ 10 10 rfl) (Eq.refl 0))) tr) tr)))))))))) (a_ (a_ (a_ tr tr) (a_ (a_ tr tr) (a_ (a_ (a_ tr (le_ 8 10 rfl)) tr) (a_ (a_ tr tr) (a_ (a_ (a_ tr (lt_ 8 10 rfl)) tr) (a_ (a_ (a_ (parrelref26_writer_tri l ((l.getD i2.toNat default).f_Reads.getD j2.toNat default).f_Key ((l.getD i2.toNat default).f_Reads.getD j2.toNat default).f_Version yL3_5 eL3_4) tr) tr) (a_ (a_ tr tr) (a_ (a_ tr tr) (a_ (a_ tr tr) (a_ (a_ tr tr) (a_ (a_ tr tr) tr))))))))))) (a_ (a_ (a_ tr tr) (a_ (a_ tr tr) (a_ (a_ tr (a_ (leB cL3_6) tr)) (a_ (a_ tr tr) (a_ (a_ (a_ tr (lt_ 8 10 rfl)) tr) (a_ (a_ tr tr) (a_ (a_ tr (a_ (leB cL3_7) tr)) tr))))))) (a_ (a_ (a_ tr tr) (a_ (a_ tr tr) (a_ (a_ (a_ tr (lt_ 9 10 rfl)) tr) (a_ (a_ tr (a_ (leB cL3_8) tr)) tr)))) (a_ (a_ (a_ tr tr) (a_ (a_ tr tr) (a_ (a_ tr tr) tr))) tr)))))) (ih _ _ r h) (by kernel_rfl) trivial
      · skip
        rcases itb_some h with ⟨cL3_7, h⟩ | ⟨cL3_7, h⟩
        · skip
          exact run_to mixed hμ (L := []) (n := 39) (s := [.go, .reg [(7, { v := some (.bool true) })], .reg [], .reg [(5, { call := some (parrelref26_writer_v yL3_5, [], []) })], .reg [(2, { v := some (.bool false) })], .reg [(3, { v := some (.bool true) })], .reg [], .reg []])
            (a_ (a_ (a_ tr tr) (a_ (a_ tr tr) (a_ (a_ tr tr) (a_ (a_ (a_ (Eq.refl 4) gL3_1) tr) (a_ (a_ tr tr) (a_ (a_ (lt_ 0 4 rfl) tr) (a_ (a_ tr tr) (a_ (a_ tr (a_ (leB cL3_2) tr)) tr)))))))) (a_ (a_ (a_ tr tr) (a_ (a_ tr tr) (a_ (a_ (a_ (Eq.refl 4) gL3_1) tr) (a_ (a_ tr tr) (a_ (a_ (lt_ 0 4 rfl) tr) (a_ (a_ tr tr) (a_ (a_ (a_ (Eq.refl 10) gL3_3) tr) (a_ (a_ (le_ 10 10 rfl) tr) (a_ (a_ tr tr) (a_ (a_ (a_ (Eq.refl 10) (a_ (le_ 10 10 rfl) (Eq.refl 0))) tr) tr)))))))))) (a_ (a_ (a_ tr tr) (a_ (a_ tr tr) (a_ (a_ (a_ tr (le_ 8 10 rfl)) tr) (a_ (a_ tr tr) (a_ (a_ (a_ tr (lt_ 8 10 rfl)) tr) (a_ (a_ (a_ (parrelref26_writer_tri l ((l.getD i2.toNat default).f_Reads.getD j2.toNat default).f_Key ((l.getD i2.toNat default).f_Reads.getD j2.toNat default).f_Version yL3_5 eL3_4) tr) tr) (a_ (a_ tr tr) (a_ (a_ tr tr) (a_ (a_ tr tr) (a_ (a_ tr tr) (a_ (a_ tr tr) tr))))))))))) (a_ (a_ (a_ tr tr) (a_ (a_ tr tr) (a_ (a_ tr (a_ (leB cL3_6) tr)) (a_ tr (a_ tr (a_ tr (a_ (a_ tr tr) tr))))))) (a_ (a_ (a_ tr tr) (a_ (a_ tr tr) (a_ (a_ (a_ tr (lt_ 9 10 rfl)) tr) (a_ (a_ tr (a_ (leB cL3_7) tr)) tr)))) (a_ (a_ (a_ tr tr) tr) (a_ (a_ (a_ tr tr) (a_ (a_ tr tr) (a_ (a_ tr tr) tr))) tr))))))) (ih _ _ r h) (by kernel_rfl) trivial
        · skip
          exact run_to mixed hμ (L := []) (n := 38) (s := [.go, .reg [(7, { v := some (.bool true) })], .reg [], .reg [(5, { call := some (parrelref26_writer_v yL3_5, [], []) })], .reg [(2, { v := some (.bool false) })], .reg [(3, { v := some (.bool false) })], .reg []])
            (a_ (a_ (a_ tr tr) (a_ (a_ tr tr) (a_ (a_ tr tr) (a_ (a_ (a_ (Eq.refl 4) gL3_1) tr) (a_ (a_ tr tr) (a_ (a_ (lt_ 0 4 rfl) tr) (a_ (a_ tr tr) (a_ (a_ tr (a_ (leB cL3_2) tr)) tr)))))))) (a_ (a_ (a_ tr tr) (a_ (a_ tr tr) (a_ (a_ (a_ (Eq.refl 4) gL3_1) tr) (a_ (a_ tr tr) (a_ (a_ (lt_ 0 4 rfl) tr) (a_ (a_ tr tr) (a_ (a_ (a_ (Eq.refl 10) gL3_3) tr) (a_ (a_ (le_ 10 10 rfl) tr) (a_ (a_ tr tr) (a_ (a_ (a_ (Eq.refl 10) (a_ (le_ 10 10 rfl) (Eq.refl 0))) tr) tr)))))))))) (a_ (a_ (a_ tr tr) (a_ (a_ tr tr) (a_ (a_ (a_ tr (le_ 8 10 rfl)) tr) (a_ (a_ tr tr) (a_ (a_ (a_ tr (lt_ 8 10 rfl)) tr) (a_ (a_ (a_ (parrelref26_writer_tri l ((l.getD i2.toNat default).f_Reads.getD j2.toNat default).f_Key ((l.getD i2.toNat default).f_Reads.getD j2.toNat default).f_Version yL3_5 eL3_4) tr) tr) (a_ (a_ tr tr) (a_ (a_ tr tr) (a_ (a_ tr tr) (a_ (a_ tr tr) (a_ (a_ tr tr) tr))))))))))) (a_ (a_ (a_ tr tr) (a_ (a_ tr tr) (a_ (a_ tr (a_ (leB cL3_6) tr)) (a_ tr (a_ tr (a_ tr (a_ (a_ tr tr) tr))))))) (a_ (a_ (a_ tr tr) (a_ (a_ tr tr) (a_ (a_ (a_ tr (lt_ 9 10 rfl)) tr) (a_ (a_ tr (a_ (leB cL3_7) tr)) tr)))) (a_ (a_ (a_ tr tr) (a_ (a_ tr tr) (a_ (a_ tr tr) tr))) tr)))))) (ih _ _ r h) (by kernel_rfl) trivial
    · skip
      exact run_to mixed hμ (L := []) (n := 19) (s := [.go, .reg [(7, { v := some (.bool false) })], .reg []])
        (a_ (a_ (a_ tr tr) (a_ (a_ tr tr) (a_ (a_ tr tr) (a_ (a_ (a_ (Eq.refl 4) gL3_1) tr) (a_ (a_ tr tr) (a_ (a_ (lt_ 0 4 rfl) tr) (a_ (a_ tr tr) (a_ (a_ tr (a_ (leB cL3_2) tr)) tr)))))))) (a_ (a_ (a_ tr tr) (a_ (a_ tr tr) (a_ (a_ tr tr) tr))) tr)) (hk2 _ _ r h) (by kernel_rfl) trivial

theorem parrelref26_Check_l2_ok {w0 : World} {W : Nat → Prop} {μ0 : Emb} (hμ : ∀ c p, μ0 c = some p → c < 0) (l : List (T_parrelref26_Tx))  : ∀ (fuel : Nat) (bad : Int) (i2 : Int) (r : (Int)), parrelref26_Check_l2 l  fuel bad i2 = some r → kont Try.prog w0 W μ0 (FnPost Try.prog Try.f14 0 0 (parrelref26_Check_v r) []) (kAt (bodyOf Try.f14) 2) none (parrelref26_Check_T2 l bad i2) (parrelref26_Check_H2 l bad i2) := by
  intro fuel
  induction fuel with
  | zero => intro bad i2 r h; rw [parrelref26_Check_l2] at h; cases h
  | succ fuel ih =>
    intro bad i2 r h
    rw [parrelref26_Check_l2] at h
    rcases itb_some h with ⟨cL2_1, h⟩ | ⟨cL2_1, h⟩
    · skip
      exact run_to mixed hμ (L := []) (n := 23) (s := [.go, .reg [(3, { v := some (.bool true) })], .reg []])
        (a_ (a_ (a_ tr tr) (a_ (a_ tr tr) (a_ (a_ tr tr) (a_ (a_ tr (a_ (leB cL2_1) tr)) tr)))) (a_ (a_ (a_ tr tr) tr) tr)) (parrelref26_Check_l3_ok hμ l i2 (parrelref26_Check_l2 l  fuel) (fun bad i2 r h => ih bad i2 r h) big _ _ r h) (by kernel_rfl) trivial
    · skip
      obtain rfl := Option.some.inj h
      exact run_ret mixed (L := []) (n := 19) (s := [.go, .reg [(3, { v := some (.bool false) })], .reg []])
        (a_ (a_ (a_ (a_ tr tr) (a_ (a_ tr tr) (a_ (a_ tr tr) (a_ (a_ tr (a_ (leB cL2_1) tr)) tr)))) (a_ (a_ (a_ tr tr) (a_ (a_ tr tr) tr)) tr)) tr) (by kernel_rfl) rfl

theorem parrelref26_Check_l0_ok {w0 : World} {W : Nat → Prop} {μ0 : Emb} (hμ : ∀ c p, μ0 c = some p → c < 0) (l : List (T_parrelref26_Tx))  : ∀ (fuel : Nat) (i : Int) (r : (Int)), parrelref26_Check_l0 l  fuel i = some r → kont Try.prog w0 W μ0 (FnPost Try.prog Try.f14 0 0 (parrelref26_Check_v r) []) (kAt (bodyOf Try.f14) 0) none (parrelref26_Check_T0 l i) (parrelref26_Check_H0 l i) := by
  intro fuel
  induction fuel with
  | zero => intro i r h; rw [parrelref26_Check_l0] at h; cases h
  | succ fuel ih =>
    intro i r h
    rw [parrelref26_Check_l0] at h
    rcases itb_some h with ⟨cL0_1, h⟩ | ⟨cL0_1, h⟩
    · skip
      exact run_to mixed hμ (L := []) (n := 23) (s := [.go, .reg [(3, { v := some (.bool true) })], .reg []])
        (a_ (a_ (a_ tr tr) (a_ (a_ tr tr) (a_ (a_ tr tr) (a_ (a_ tr (a_ (leB cL0_1) tr)) tr)))) (a_ (a_ (a_ tr tr) tr) tr)) (parrelref26_Check_l1_ok hμ l i (parrelref26_Check_l0 l  fuel) (fun i r h => ih i r h) big _ r h) (by kernel_rfl) trivial
    · skip
      exact run_to mixed hμ (L := []) (n := 25) (s := [.go, .reg [(3, { v := some (.bool false) })], .reg [], .reg []])
        (a_ (a_ (a_ tr tr) (a_ (a_ tr tr) (a_ (a_ tr tr) (a_ (a_ tr (a_ (leB cL0_1) tr)) tr)))) (a_ (a_ (a_ tr tr) tr) (a_ (a_ (a_ tr tr) tr) tr))) (parrelref26_Check_l2_ok hμ l  big _ _ r h) (by kernel_rfl) trivial

theorem parrelref26_Check_ok (l : List (T_parrelref26_Tx)) (r : (Int)) (h : parrelref26_Check l = some r) : ∀ σ, Inj 0 σ → FnTri Try.prog 14 (renL σ [.ds 4 (l).length (rowF c_T_parrelref26_Tx default l)]) (preOf σ 0 []) ((parrelref26_Check_v r).ren σ) (upOf σ []) := by
  refine fn_of Try.func14 (by kernel_rfl) (by kernel_rfl) (by kernel_rfl) trivial (by kernel_rfl) trivial (by kernel_rfl) ?_
  intro w0 W μ0 hμ
  unfold parrelref26_Check at h
  rcases itb_some h with ⟨c1, h⟩ | ⟨c1, h⟩
  · skip
    obtain rfl := Option.some.inj h
    exact run_ret mixed (L := []) (n := 20) (s := [.reg [], .reg [(3, { v := some (.bool true) })], .reg []])
      (a_ (a_ (a_ (a_ tr tr) tr) (a_ (a_ (a_ tr tr) (a_ (a_ tr tr) (a_ (a_ tr tr) (a_ (a_ tr (a_ (leB c1) tr)) (a_ tr (a_ tr (a_ tr (a_ (a_ tr tr) tr)))))))) (a_ (a_ (a_ tr tr) tr) tr))) tr) (by kernel_rfl) rfl
  · skip
    obtain ⟨y3, e2, h⟩ := bind_some h
    rcases itb_some h with ⟨c4, h⟩ | ⟨c4, h⟩
    · skip
      obtain rfl := Option.some.inj h
      exact run_ret mixed (L := []) (n := 20) (s := [.reg [], .reg [(3, { v := some (.bool false) }), (5, { call := some (parrelref26_may_v y3, [], []) }), (7, { v := some (.bool true) })], .reg []])
        (a_ (a_ (a_ (a_ tr tr) tr) (a_ (a_ (a_ tr tr) (a_ (a_ tr tr) (a_ (a_ tr tr) (a_ (a_ tr (a_ (leB c1) tr)) (a_ (a_ tr tr) (a_ (a_ (a_ (parrelref26_may_tri l y3 e2) tr) tr) (a_ (a_ tr tr) (a_ (a_ tr (a_ (leB c4) tr)) tr)))))))) (a_ (a_ (a_ tr tr) tr) tr))) tr) (by kernel_rfl) rfl
    · skip
      exact run_to mixed hμ (L := []) (n := 24) (s := [.reg [], .reg [(3, { v := some (.bool false) }), (5, { call := some (parrelref26_may_v y3, [], []) }), (7, { v := some (.bool false) })], .reg []])
        (a_ (a_ (a_ tr tr) tr) (a_ (a_ (a_ tr tr) (a_ (a_ tr tr) (a_ (a_ tr tr) (a_ (a_ tr (a_ (leB c1) tr)) (a_ (a_ tr tr) (a_ (a_ (a_ (parrelref26_may_tri l y3 e2) tr) tr) (a_ (a_ tr tr) (a_ (a_ tr (a_ (leB c4) tr)) tr)))))))) (a_ (a_ (a_ tr tr) tr) tr))) (parrelref26_Check_l0_ok hμ l  big _ r h) (by kernel_rfl) trivial

theorem parrelref26_Check_tri (l : List (T_parrelref26_Tx)) (r : (Int)) (h : parrelref26_Check l = some r) : FnTri Try.prog 14 [.ds 4 (l).length (rowF c_T_parrelref26_Tx default l)] [] (parrelref26_Check_v r) [] := FnTri.none (parrelref26_Check_ok l r h) rfl rfl

/-- parrel/parrelref26.has -/

def parrelref26_has_v (r : (Bool)) : LV := .bool r

def parrelref26_has_T0 (l : List (Int)) (x_n : Int) (i : Int) : List LV := [.ds 1 (l).length (rowF (cInt .i64) default l), .int .i64 x_n, .any, .any, .any, .int .i64 i, .any, .any, .any, .any, .any, .any, .any, .any, .any, .any, .any, .any]

def parrelref26_has_H0 (l : List (Int)) (x_n : Int) (i : Int) : Heap := []

def parrelref26_has_l0 (l : List (Int)) (x_n : Int)  : Nat → (Int) → Option ((Bool))
  | 0, _ => none
  | fuel + 1, i =>
    if ((decide (i < ((l).length : Int))) : Bool) then
      if 0 ≤ i ∧ i < (((l).length : Nat) : Int) then
      if (((l.getD i.toNat default) == x_n) : Bool) then
        some true
      else
        parrelref26_has_l0 l x_n  fuel (IntKind.wrap .i64 (i + 1))
      else none
    else
      some false

def parrelref26_has (l : List (Int)) (x_n : Int) : Option ((Bool)) :=
  parrelref26_has_l0 l x_n  big 0

theorem parrelref26_has_l0_ok {w0 : World} {W : Nat → Prop} {μ0 : Emb} (hμ : ∀ c p, μ0 c = some p → c < 0) (l : List (Int)) (x_n : Int)  : ∀ (fuel : Nat) (i : Int) (r : (Bool)), parrelref26_has_l0 l x_n  fuel i = some r → kont Try.prog w0 W μ0 (FnPost Try.prog Try.f24 0 0 (parrelref26_has_v r) []) (kAt (bodyOf Try.f24) 0) none (parrelref26_has_T0 l x_n i) (parrelref26_has_H0 l x_n i) := by
  intro fuel
  induction fuel with
  | zero => intro i r h; rw [parrelref26_has_l0] at h; cases h
  | succ fuel ih =>
    intro i r h
    rw [parrelref26_has_l0] at h
    rcases itb_some h with ⟨cL0_1, h⟩ | ⟨cL0_1, h⟩
    · skip
      obtain ⟨gL0_2, h⟩ := guard_some h
      rcases itb_some h with ⟨cL0_3, h⟩ | ⟨cL0_3, h⟩
      · skip
        obtain rfl := Option.some.inj h
        exact run_ret mixed (L := []) (n := 25) (s := [.go, .reg [(3, { v := some (.bool true) })], .reg [(5, { v := some (.bool true) })], .reg []])
          (a_ (a_ (a_ (a_ tr tr) (a_ (a_ tr tr) (a_ (a_ tr tr) (a_ (a_ tr (a_ (leB cL0_1) tr)) tr)))) (a_ (a_ (a_ tr tr) (a_ (a_ tr tr) (a_ (a_ (a_ (Eq.refl 1) gL0_2) tr) (a_ (a_ (lt_ 0 1 rfl) tr) (a_ (a_ tr tr) (a_ (a_ tr (a_ (leB cL0_3) tr)) tr)))))) (a_ (a_ (a_ tr tr) tr) tr))) tr) (by kernel_rfl) rfl
      · skip
        exact run_to mixed hμ (L := []) (n := 26) (s := [.go, .reg [(3, { v := some (.bool true) })], .reg [(5, { v := some (.bool false) })], .reg []])
          (a_ (a_ (a_ tr tr) (a_ (a_ tr tr) (a_ (a_ tr tr) (a_ (a_ tr (a_ (leB cL0_1) tr)) tr)))) (a_ (a_ (a_ tr tr) (a_ (a_ tr tr) (a_ (a_ (a_ (Eq.refl 1) gL0_2) tr) (a_ (a_ (lt_ 0 1 rfl) tr) (a_ (a_ tr tr) (a_ (a_ tr (a_ (leB cL0_3) tr)) tr)))))) (a_ (a_ (a_ tr tr) (a_ (a_ tr tr) (a_ (a_ tr tr) tr))) tr))) (ih _ r h) (by kernel_rfl) trivial
    · skip
      obtain rfl := Option.some.inj h
      exact run_ret mixed (L := []) (n := 19) (s := [.go, .reg [(3, { v := some (.bool false) })], .reg []])
        (a_ (a_ (a_ (a_ tr tr) (a_ (a_ tr tr) (a_ (a_ tr tr) (a_ (a_ tr (a_ (leB cL0_1) tr)) tr)))) (a_ (a_ (a_ tr tr) tr) tr)) tr) (by kernel_rfl) rfl

theorem parrelref26_has_ok (l : List (Int)) (x_n : Int) (r : (Bool)) (h : parrelref26_has l x_n = some r) : ∀ σ, Inj 0 σ → FnTri Try.prog 24 (renL σ [.ds 1 (l).length (rowF (cInt .i64) default l), .int .i64 x_n]) (preOf σ 0 []) ((parrelref26_has_v r).ren σ) (upOf σ []) := by
  refine fn_of Try.func24 (by kernel_rfl) (by kernel_rfl) (by kernel_rfl) trivial (by kernel_rfl) trivial (by kernel_rfl) ?_
  intro w0 W μ0 hμ
  unfold parrelref26_has at h
  exact run_to mixed hμ (L := []) (n := 18) (s := [.reg [], .reg []])
    (a_ (a_ (a_ tr tr) tr) (a_ (a_ (a_ tr tr) tr) tr)) (parrelref26_has_l0_ok hμ l x_n  big _ r h) (by kernel_rfl) trivial

theorem parrelref26_has_tri (l : List (Int)) (x_n : Int) (r : (Bool)) (h : parrelref26_has l x_n = some r) : FnTri Try.prog 24 [.ds 1 (l).length (rowF (cInt .i64) default l), .int .i64 x_n] [] (parrelref26_has_v r) [] := FnTri.none (parrelref26_has_ok l x_n r h) rfl rfl

/-- parrel/parrelref26.has -/

def parrelref26_has_2_v (r : (Bool)) : LV := .bool r

def parrelref26_has_2_up (l : List (Int)) (x_n : Int) (r : (Bool)) : Upd := [(0, some (.gr 1 (l).length (rowF (cInt .i64) default l)))]

def parrelref26_has_2_objs (l : List (Int)) (x_n : Int) : List LO := [.gr 1 (l).length (rowF (cInt .i64) default l)]

def parrelref26_has_2_T0 (l : List (Int)) (x_n : Int) (i : Int) : List LV := [.gs 0 (l).length, .int .i64 x_n, .any, .any, .any, .int .i64 i, .any, .any, .any, .any, .any, .any, .any, .any, .any, .any, .any, .any]

def parrelref26_has_2_H0 (l : List (Int)) (x_n : Int) (i : Int) : Heap := [some (.gr 1 (l).length (rowF (cInt .i64) default l))]

def parrelref26_has_2_l0 (l : List (Int)) (x_n : Int)  : Nat → (Int) → Option ((Bool))
  | 0, _ => none
  | fuel + 1, i =>
    if ((decide (i < ((l).length : Int))) : Bool) then
      if 0 ≤ i ∧ i < (((l).length : Nat) : Int) then
      if (((l.getD i.toNat default) == x_n) : Bool) then
        some true
      else
        parrelref26_has_2_l0 l x_n  fuel (IntKind.wrap .i64 (i + 1))
      else none
    else
      some false

def parrelref26_has_2 (l : List (Int)) (x_n : Int) : Option ((Bool)) :=
  parrelref26_has_2_l0 l x_n  big 0

theorem parrelref26_has_2_l0_ok {w0 : World} {W : Nat → Prop} {μ0 : Emb} (hμ : ∀ c p, μ0 c = some p → c < 1) (l : List (Int)) (x_n : Int)  : ∀ (fuel : Nat) (i : Int) (r : (Bool)), parrelref26_has_2_l0 l x_n  fuel i = some r → kont Try.prog w0 W μ0 (FnPost Try.prog Try.f24 1 1 (parrelref26_has_2_v r) (parrelref26_has_2_up l x_n r)) (kAt (bodyOf Try.f24) 0) none (parrelref26_has_2_T0 l x_n i) (parrelref26_has_2_H0 l x_n i) := by
  intro fuel
  induction fuel with
  | zero => intro i r h; rw [parrelref26_has_2_l0] at h; cases h
  | succ fuel ih =>
    intro i r h
    rw [parrelref26_has_2_l0] at h
    rcases itb_some h with ⟨cL0_1, h⟩ | ⟨cL0_1, h⟩
    · skip
      obtain ⟨gL0_2, h⟩ := guard_some h
      rcases itb_some h with ⟨cL0_3, h⟩ | ⟨cL0_3, h⟩
      · skip
        obtain rfl := Option.some.inj h
        exact run_ret mixed (L := []) (n := 25) (s := [.go, .reg [(3, { v := some (.bool true) })], .reg [(5, { v := some (.bool true) })], .reg []])
          (a_ (a_ (a_ (a_ tr tr) (a_ (a_ tr tr) (a_ (a_ tr tr) (a_ (a_ tr (a_ (leB cL0_1) tr)) tr)))) (a_ (a_ (a_ tr tr) (a_ (a_ tr tr) (a_ (a_ (a_ (Eq.refl 1) gL0_2) tr) (a_ (a_ (a_ (ltN gL0_2) (lt_ 0 1 rfl)) tr) (a_ (a_ tr tr) (a_ (a_ tr (a_ (leB cL0_3) tr)) tr)))))) (a_ (a_ (a_ tr tr) tr) tr))) tr) (by kernel_rfl) rfl
      · skip
        exact run_to mixed hμ (L := []) (n := 26) (s := [.go, .reg [(3, { v := some (.bool true) })], .reg [(5, { v := some (.bool false) })], .reg []])
          (a_ (a_ (a_ tr tr) (a_ (a_ tr tr) (a_ (a_ tr tr) (a_ (a_ tr (a_ (leB cL0_1) tr)) tr)))) (a_ (a_ (a_ tr tr) (a_ (a_ tr tr) (a_ (a_ (a_ (Eq.refl 1) gL0_2) tr) (a_ (a_ (a_ (ltN gL0_2) (lt_ 0 1 rfl)) tr) (a_ (a_ tr tr) (a_ (a_ tr (a_ (leB cL0_3) tr)) tr)))))) (a_ (a_ (a_ tr tr) (a_ (a_ tr tr) (a_ (a_ tr tr) tr))) tr))) (ih _ r h) (by kernel_rfl) ⟨fun _ _ => rfl, trivial⟩
    · skip
      obtain rfl := Option.some.inj h
      exact run_ret mixed (L := []) (n := 19) (s := [.go, .reg [(3, { v := some (.bool false) })], .reg []])
        (a_ (a_ (a_ (a_ tr tr) (a_ (a_ tr tr) (a_ (a_ tr tr) (a_ (a_ tr (a_ (leB cL0_1) tr)) tr)))) (a_ (a_ (a_ tr tr) tr) tr)) tr) (by kernel_rfl) rfl

theorem parrelref26_has_2_ok (l : List (Int)) (x_n : Int) (r : (Bool)) (h : parrelref26_has_2 l x_n = some r) : ∀ σ, Inj 1 σ → FnTri Try.prog 24 (renL σ [.gs 0 (l).length, .int .i64 x_n]) (preOf σ 0 (parrelref26_has_2_objs l x_n)) ((parrelref26_has_2_v r).ren σ) (upOf σ (parrelref26_has_2_up l x_n r)) := by
  refine fn_of Try.func24 (by kernel_rfl) (by kernel_rfl) (by kernel_rfl) ⟨fun _ _ => rfl, trivial⟩ (by kernel_rfl) ⟨fun _ _ => rfl, trivial⟩ (by kernel_rfl) ?_
  intro w0 W μ0 hμ
  unfold parrelref26_has_2 at h
  exact run_to mixed hμ (L := []) (n := 18) (s := [.reg [], .reg []])
    (a_ (a_ (a_ tr tr) tr) (a_ (a_ (a_ tr tr) tr) tr)) (parrelref26_has_2_l0_ok hμ l x_n  big _ r h) (by kernel_rfl) ⟨fun _ _ => rfl, trivial⟩

/-- parrel/parrelref26.ahead -/

def parrelref26_ahead_v (r : (Bool)) : LV := .bool r

def parrelref26_ahead_T2 (a : T_parrelref26_Tx) (b : T_parrelref26_Tx) (i : Int) (j2 : Int) : List LV := [.any, .any, .ptr 0 0 0, .ptr 1 0 0, .any, .int .i64 i, .ptr 2 0 0, .any, .int .i64 j2, .any, .any, .any, .any, .any, .any, .any, .any, .any, .any, .any, .any, .any, .any, .any, .any, .any, .any, .any, .any, .any, .any, .any, .any, .any, .any, .any, .any, .any, .any, .any, .any, .any, .any, .any, .any, .any, .any, .any, .any, .any, .any, .any, .any, .any, .any, .any, .any, .any, .any, .any, .any, .any, .any, .any, .any, .any, .any, .any, .any, .any, .any, .any, .any, .any, .any, .any, .any, .any, .any, .any, .any, .any, .any, .any, .any, .any, .any, .any, .any, .any, .any, .any, .any, .any, .any, .any, .any, .any, .any, .any, .any, .any, .any, .any, .any, .any, .any, .any, .any, .any, .any, .any, .any, .any, .any, .any, .any, .any, .any, .any, .any, .any, .any, .any, .any, .any, .any]

def parrelref26_ahead_H2 (a : T_parrelref26_Tx) (b : T_parrelref26_Tx) (i : Int) (j2 : Int) : Heap := [some (.var (c_T_parrelref26_Tx a)), some (.var (c_T_parrelref26_Tx b)), some (.var (c_T_parrelref26_Item (a.f_Writes.getD i.toNat default)))]

def parrelref26_ahead_T1 (a : T_parrelref26_Tx) (b : T_parrelref26_Tx) (i : Int) (j : Int) : List LV := [.any, .any, .ptr 0 0 0, .ptr 1 0 0, .any, .int .i64 i, .ptr 2 0 0, .int .i64 j, .any, .any, .any, .any, .any, .any, .any, .any, .any, .any, .any, .any, .any, .any, .any, .any, .any, .any, .any, .any, .any, .any, .any, .any, .any, .any, .any, .any, .any, .any, .any, .any, .any, .any, .any, .any, .any, .any, .any, .any, .any, .any, .any, .any, .any, .any, .any, .any, .any, .any, .any, .any, .any, .any, .any, .any, .any, .any, .any, .any, .any, .any, .any, .any, .any, .any, .any, .any, .any, .any, .any, .any, .any, .any, .any, .any, .any, .any, .any, .any, .any, .any, .any, .any, .any, .any, .any, .any, .any, .any, .any, .any, .any, .any, .any, .any, .any, .any, .any, .any, .any, .any, .any, .any, .any, .any, .any, .any, .any, .any, .any, .any, .any, .any, .any, .any, .any, .any, .any]

def parrelref26_ahead_H1 (a : T_parrelref26_Tx) (b : T_parrelref26_Tx) (i : Int) (j : Int) : Heap := [some (.var (c_T_parrelref26_Tx a)), some (.var (c_T_parrelref26_Tx b)), some (.var (c_T_parrelref26_Item (a.f_Writes.getD i.toNat default)))]

def parrelref26_ahead_T4 (a : T_parrelref26_Tx) (b : T_parrelref26_Tx) (i2 : Int) (j3 : Int) : List LV := [.any, .any, .ptr 0 0 0, .ptr 1 0 0, .any, .any, .any, .any, .any, .int .i64 i2, .ptr 2 0 0, .int .i64 j3, .any, .any, .any, .any, .any, .any, .any, .any, .any, .any, .any, .any, .any, .any, .any, .any, .any, .any, .any, .any, .any, .any, .any, .any, .any, .any, .any, .any, .any, .any, .any, .any, .any, .any, .any, .any, .any, .any, .any, .any, .any, .any, .any, .any, .any, .any, .any, .any, .any, .any, .any, .any, .any, .any, .any, .any, .any, .any, .any, .any, .any, .any, .any, .any, .any, .any, .any, .any, .any, .any, .any, .any, .any, .any, .any, .any, .any, .any, .any, .any, .any, .any, .any, .any, .any, .any, .any, .any, .any, .any, .any, .any, .any, .any, .any, .any, .any, .any, .any, .any, .any, .any, .any, .any, .any, .any, .any, .any, .any, .any, .any, .any, .any, .any, .any]

def parrelref26_ahead_H4 (a : T_parrelref26_Tx) (b : T_parrelref26_Tx) (i2 : Int) (j3 : Int) : Heap := [some (.var (c_T_parrelref26_Tx a)), some (.var (c_T_parrelref26_Tx b)), some (.var (c_T_parrelref26_Item (a.f_Reads.getD i2.toNat default)))]

def parrelref26_ahead_T3 (a : T_parrelref26_Tx) (b : T_parrelref26_Tx) (i2 : Int) : List LV := [.any, .any, .ptr 0 0 0, .ptr 1 0 0, .any, .any, .any, .any, .any, .int .i64 i2, .any, .any, .any, .any, .any, .any, .any, .any, .any, .any, .any, .any, .any, .any, .any, .any, .any, .any, .any, .any, .any, .any, .any, .any, .any, .any, .any, .any, .any, .any, .any, .any, .any, .any, .any, .any, .any, .any, .any, .any, .any, .any, .any, .any, .any, .any, .any, .any, .any, .any, .any, .any, .any, .any, .any, .any, .any, .any, .any, .any, .any, .any, .any, .any, .any, .any, .any, .any, .any, .any, .any, .any, .any, .any, .any, .any, .any, .any, .any, .any, .any, .any, .any, .any, .any, .any, .any, .any, .any, .any, .any, .any, .any, .any, .any, .any, .any, .any, .any, .any, .any, .any, .any, .any, .any, .any, .any, .any, .any, .any, .any, .any, .any, .any, .any, .any, .any]

def parrelref26_ahead_H3 (a : T_parrelref26_Tx) (b : T_parrelref26_Tx) (i2 : Int) : Heap := [some (.var (c_T_parrelref26_Tx a)), some (.var (c_T_parrelref26_Tx b))]

def parrelref26_ahead_T0 (a : T_parrelref26_Tx) (b : T_parrelref26_Tx) (i : Int) : List LV := [.any, .any, .ptr 0 0 0, .ptr 1 0 0, .any, .int .i64 i, .any, .any, .any, .any, .any, .any, .any, .any, .any, .any, .any, .any, .any, .any, .any, .any, .any, .any, .any, .any, .any, .any, .any, .any, .any, .any, .any, .any, .any, .any, .any, .any, .any, .any, .any, .any, .any, .any, .any, .any, .any, .any, .any, .any, .any, .any, .any, .any, .any, .any, .any, .any, .any, .any, .any, .any, .any, .any, .any, .any, .any, .any, .any, .any, .any, .any, .any, .any, .any, .any, .any, .any, .any, .any, .any, .any, .any, .any, .any, .any, .any, .any, .any, .any, .any, .any, .any, .any, .any, .any, .any, .any, .any, .any, .any, .any, .any, .any, .any, .any, .any, .any, .any, .any, .any, .any, .any, .any, .any, .any, .any, .any, .any, .any, .any, .any, .any, .any, .any, .any, .any]

def parrelref26_ahead_H0 (a : T_parrelref26_Tx) (b : T_parrelref26_Tx) (i : Int) : Heap := [some (.var (c_T_parrelref26_Tx a)), some (.var (c_T_parrelref26_Tx b))]

def parrelref26_ahead_l2 (a : T_parrelref26_Tx) (b : T_parrelref26_Tx) (i : Int) (k0 : (Int) → Option ((Bool))) : Nat → (Int) → Option ((Bool))
  | 0, _ => none
  | fuel + 1, j2 =>
    if ((decide (j2 < ((b.f_Reads).length : Int))) : Bool) then
      if 0 ≤ j2 ∧ j2 < (((b.f_Reads).length : Nat) : Int) then
      if ((decide ((b.f_Reads.getD j2.toNat default).f_Key = (a.f_Writes.getD i.toNat default).f_Key)) : Bool) then
        if ((decide ((a.f_Writes.getD i.toNat default).f_Version ≤ (b.f_Reads.getD j2.toNat default).f_Version)) : Bool) then
          some true
        else
          parrelref26_ahead_l2 a b i k0 fuel (IntKind.wrap .i64 (j2 + 1))
      else
        parrelref26_ahead_l2 a b i k0 fuel (IntKind.wrap .i64 (j2 + 1))
      else none
    else
      k0 (IntKind.wrap .i64 (i + 1))

def parrelref26_ahead_l1 (a : T_parrelref26_Tx) (b : T_parrelref26_Tx) (i : Int) (k0 : (Int) → Option ((Bool))) : Nat → (Int) → Option ((Bool))
  | 0, _ => none
  | fuel + 1, j =>
    if ((decide (j < ((b.f_Writes).length : Int))) : Bool) then
      if 0 ≤ j ∧ j < (((b.f_Writes).length : Nat) : Int) then
      if ((decide ((b.f_Writes.getD j.toNat default).f_Key = (a.f_Writes.getD i.toNat default).f_Key)) : Bool) then
        if ((decide ((a.f_Writes.getD i.toNat default).f_Version < (b.f_Writes.getD j.toNat default).f_Version)) : Bool) then
          some true
        else
          parrelref26_ahead_l1 a b i k0 fuel (IntKind.wrap .i64 (j + 1))
      else
        parrelref26_ahead_l1 a b i k0 fuel (IntKind.wrap .i64 (j + 1))
      else none
    else
      parrelref26_ahead_l2 a b i k0 big 0

def parrelref26_ahead_l4 (a : T_parrelref26_Tx) (b : T_parrelref26_Tx) (i2 : Int) (k3 : (Int) → Option ((Bool))) : Nat → (Int) → Option ((Bool))
  | 0, _ => none
  | fuel + 1, j3 =>
    if ((decide (j3 < ((b.f_Writes).length : Int))) : Bool) then
      if 0 ≤ j3 ∧ j3 < (((b.f_Writes).length : Nat) : Int) then
      if ((decide ((b.f_Writes.getD j3.toNat default).f_Key = (a.f_Reads.getD i2.toNat default).f_Key)) : Bool) then
        if ((decide ((a.f_Reads.getD i2.toNat default).f_Version < (b.f_Writes.getD j3.toNat default).f_Version)) : Bool) then
          some true
        else
          parrelref26_ahead_l4 a b i2 k3 fuel (IntKind.wrap .i64 (j3 + 1))
      else
        parrelref26_ahead_l4 a b i2 k3 fuel (IntKind.wrap .i64 (j3 + 1))
      else none
    else
      k3 (IntKind.wrap .i64 (i2 + 1))

def parrelref26_ahead_l3 (a : T_parrelref26_Tx) (b : T_parrelref26_Tx)  : Nat → (Int) → Option ((Bool))
  | 0, _ => none
  | fuel + 1, i2 =>
    if ((decide (i2 < ((a.f_Reads).length : Int))) : Bool) then
      if 0 ≤ i2 ∧ i2 < (((a.f_Reads).length : Nat) : Int) then
      parrelref26_ahead_l4 a b i2 (parrelref26_ahead_l3 a b  fuel) big 0
      else none
    else
      some false

def parrelref26_ahead_l0 (a : T_parrelref26_Tx) (b : T_parrelref26_Tx)  : Nat → (Int) → Option ((Bool))
  | 0, _ => none
  | fuel + 1, i =>
    if ((decide (i < ((a.f_Writes).length : Int))) : Bool) then
      if 0 ≤ i ∧ i < (((a.f_Writes).length : Nat) : Int) then
      parrelref26_ahead_l1 a b i (parrelref26_ahead_l0 a b  fuel) big 0
      else none
    else
      parrelref26_ahead_l3 a b  big 0

def parrelref26_ahead (a : T_parrelref26_Tx) (b : T_parrelref26_Tx) : Option ((Bool)) :=
  if ((a.f_End != 0) : Bool) then
    if ((decide (a.f_End < b.f_Begin)) : Bool) then
      some true
    else
      parrelref26_ahead_l0 a b  big 0
  else
    parrelref26_ahead_l0 a b  big 0

theorem parrelref26_ahead_l2_ok {w0 : World} {W : Nat → Prop} {μ0 : Emb} (hμ : ∀ c p, μ0 c = some p → c < 0) (a : T_parrelref26_Tx) (b : T_parrelref26_Tx) (i : Int) (k0 : (Int) → Option ((Bool))) (hk0 : ∀ (i : Int) (r : (Bool)), k0 i = some r → kont Try.prog w0 W μ0 (FnPost Try.prog Try.f25 0 0 (parrelref26_ahead_v r) []) (kAt (bodyOf Try.f25) 0) none (parrelref26_ahead_T0 a b i) (parrelref26_ahead_H0 a b i)) : ∀ (fuel : Nat) (j2 : Int) (r : (Bool)), parrelref26_ahead_l2 a b i k0 fuel j2 = some r → kont Try.prog w0 W μ0 (FnPost Try.prog Try.f25 0 0 (parrelref26_ahead_v r) []) (kAt (bodyOf Try.f25) 2) none (parrelref26_ahead_T2 a b i j2) (parrelref26_ahead_H2 a b i j2) := by
  intro fuel
  induction fuel with
  | zero => intro j2 r h; rw [parrelref26_ahead_l2] at h; cases h
  | succ fuel ih =>
    intro j2 r h
    rw [parrelref26_ahead_l2] at h
    rcases itb_some h with ⟨cL2_1, h⟩ | ⟨cL2_1, h⟩
    · skip
      obtain ⟨gL2_2, h⟩ := guard_some h
      rcases itb_some h with ⟨cL2_3, h⟩ | ⟨cL2_3, h⟩
      · skip
        rcases itb_some h with ⟨cL2_4, h⟩ | ⟨cL2_4, h⟩
        · skip
          obtain rfl := Option.some.inj h
          exact run_ret mixed (L := []) (n := 25) (s := [.go, .reg [(4, { v := some (.bool true) })], .reg [(8, { v := some (.bool (decide ((b.f_Reads.getD j2.toNat default).f_Key = (a.f_Writes.getD i.toNat default).f_Key))) }), (9, { v := some (.bool true) }), (19, { v := some (.bool true) })], .reg []])
            (a_ (a_ (a_ (a_ tr tr) (a_ (a_ tr tr) (a_ (a_ (a_ tr (lt_ 0 4 rfl)) tr) (a_ (a_ tr tr) (a_ (a_ tr (a_ (leB cL2_1) tr)) tr))))) (a_ (a_ (a_ tr tr) (a_ (a_ (a_ tr (lt_ 0 4 rfl)) tr) (a_ (a_ tr tr) (a_ (a_ (a_ (Eq.refl 10) gL2_2) tr) (a_ (a_ tr tr) (a_ (a_ (le_ 8 10 rfl) tr) (a_ (a_ tr tr) (a_ (a_ (a_ tr (le_ 8 10 rfl)) tr) (a_ (a_ tr (a_ (leB ((k_arr8 .u8) (b.f_Reads.getD j2.toNat default).f_Key (a.f_Writes.getD i.toNat default).f_Key)) tr)) (a_ (a_ tr (a_ (leB cL2_3) tr)) (a_ (a_ tr tr) (a_ (a_ (a_ tr (lt_ 0 4 rfl)) tr) (a_ (a_ tr tr) (a_ (a_ (a_ (Eq.refl 10) gL2_2) tr) (a_ (a_ tr tr) (a_ (a_ (lt_ 0 2 rfl) tr) (a_ (a_ tr tr) (a_ (a_ (a_ tr (lt_ 8 10 rfl)) tr) (a_ (a_ tr tr) (a_ (a_ tr (a_ (leB cL2_4) tr)) tr)))))))))))))))))))) (a_ (a_ (a_ tr tr) tr) tr))) tr) (by kernel_rfl) rfl
        · skip
          exact run_to mixed hμ (L := [0, 1, 2]) (n := 26) (s := [.go, .reg [(4, { v := some (.bool true) })], .reg [(8, { v := some (.bool (decide ((b.f_Reads.getD j2.toNat default).f_Key = (a.f_Writes.getD i.toNat default).f_Key))) }), (9, { v := some (.bool true) }), (19, { v := some (.bool false) })], .reg []])
            (a_ (a_ (a_ tr tr) (a_ (a_ tr tr) (a_ (a_ (a_ tr (lt_ 0 4 rfl)) tr) (a_ (a_ tr tr) (a_ (a_ tr (a_ (leB cL2_1) tr)) tr))))) (a_ (a_ (a_ tr tr) (a_ (a_ (a_ tr (lt_ 0 4 rfl)) tr) (a_ (a_ tr tr) (a_ (a_ (a_ (Eq.refl 10) gL2_2) tr) (a_ (a_ tr tr) (a_ (a_ (le_ 8 10 rfl) tr) (a_ (a_ tr tr) (a_ (a_ (a_ tr (le_ 8 10 rfl)) tr) (a_ (a_ tr (a_ (leB ((k_arr8 .u8) (b.f_Reads.getD j2.toNat default).f_Key (a.f_Writes.getD i.toNat default).f_Key)) tr)) (a_ (a_ tr (a_ (leB cL2_3) tr)) (a_ (a_ tr tr) (a_ (a_ (a_ tr (lt_ 0 4 rfl)) tr) (a_ (a_ tr tr) (a_ (a_ (a_ (Eq.refl 10) gL2_2) tr) (a_ (a_ tr tr) (a_ (a_ (lt_ 0 2 rfl) tr) (a_ (a_ tr tr) (a_ (a_ (a_ tr (lt_ 8 10 rfl)) tr) (a_ (a_ tr tr) (a_ (a_ tr (a_ (leB cL2_4) tr)) tr)))))))))))))))))))) (a_ (a_ (a_ tr tr) (a_ (a_ tr tr) (a_ (a_ tr tr) tr))) tr))) (ih _ r h) (by kernel_rfl) ⟨rfl, rfl, rfl, trivial⟩
      · skip
        exact run_to mixed hμ (L := [0, 1, 2]) (n := 26) (s := [.go, .reg [(4, { v := some (.bool true) })], .reg [(8, { v := some (.bool (decide ((b.f_Reads.getD j2.toNat default).f_Key = (a.f_Writes.getD i.toNat default).f_Key))) }), (9, { v := some (.bool false) })], .reg []])
          (a_ (a_ (a_ tr tr) (a_ (a_ tr tr) (a_ (a_ (a_ tr (lt_ 0 4 rfl)) tr) (a_ (a_ tr tr) (a_ (a_ tr (a_ (leB cL2_1) tr)) tr))))) (a_ (a_ (a_ tr tr) (a_ (a_ (a_ tr (lt_ 0 4 rfl)) tr) (a_ (a_ tr tr) (a_ (a_ (a_ (Eq.refl 10) gL2_2) tr) (a_ (a_ tr tr) (a_ (a_ (le_ 8 10 rfl) tr) (a_ (a_ tr tr) (a_ (a_ (a_ tr (le_ 8 10 rfl)) tr) (a_ (a_ tr (a_ (leB ((k_arr8 .u8) (b.f_Reads.getD j2.toNat default).f_Key (a.f_Writes.getD i.toNat default).f_Key)) tr)) (a_ (a_ tr (a_ (leB cL2_3) tr)) (a_ tr (a_ tr (a_ tr (a_ tr (a_ tr (a_ tr (a_ tr (a_ tr (a_ tr (a_ (a_ tr tr) tr)))))))))))))))))))) (a_ (a_ (a_ tr tr) (a_ (a_ tr tr) (a_ (a_ tr tr) tr))) tr))) (ih _ r h) (by kernel_rfl) ⟨rfl, rfl, rfl, trivial⟩
    · skip
      exact run_to mixed hμ (L := [0, 1]) (n := 19) (s := [.go, .reg [(4, { v := some (.bool false) })], .reg []])
        (a_ (a_ (a_ tr tr) (a_ (a_ tr tr) (a_ (a_ (a_ tr (lt_ 0 4 rfl)) tr) (a_ (a_ tr tr) (a_ (a_ tr (a_ (leB cL2_1) tr)) tr))))) (a_ (a_ (a_ tr tr) (a_ (a_ tr tr) (a_ (a_ tr tr) tr))) tr)) (hk0 _ r h) (by kernel_rfl) ⟨rfl, rfl, trivial⟩

theorem parrelref26_ahead_l1_ok {w0 : World} {W : Nat → Prop} {μ0 : Emb} (hμ : ∀ c p, μ0 c = some p → c < 0) (a : T_parrelref26_Tx) (b : T_parrelref26_Tx) (i : Int) (k0 : (Int) → Option ((Bool))) (hk0 : ∀ (i : Int) (r : (Bool)), k0 i = some r → kont Try.prog w0 W μ0 (FnPost Try.prog Try.f25 0 0 (parrelref26_ahead_v r) []) (kAt (bodyOf Try.f25) 0) none (parrelref26_ahead_T0 a b i) (parrelref26_ahead_H0 a b i)) : ∀ (fuel : Nat) (j : Int) (r : (Bool)), parrelref26_ahead_l1 a b i k0 fuel j = some r → kont Try.prog w0 W μ0 (FnPost Try.prog Try.f25 0 0 (parrelref26_ahead_v r) []) (kAt (bodyOf Try.f25) 1) none (parrelref26_ahead_T1 a b i j) (parrelref26_ahead_H1 a b i j) := by
  intro fuel
  induction fuel with
  | zero => intro j r h; rw [parrelref26_ahead_l1] at h; cases h
  | succ fuel ih =>
    intro j r h
    rw [parrelref26_ahead_l1] at h
    rcases itb_some h with ⟨cL1_1, h⟩ | ⟨cL1_1, h⟩
    · skip
      obtain ⟨gL1_2, h⟩ := guard_some h
      rcases itb_some h with ⟨cL1_3, h⟩ | ⟨cL1_3, h⟩
      · skip
        rcases itb_some h with ⟨cL1_4, h⟩ | ⟨cL1_4, h⟩
        · skip
          obtain rfl := Option.some.inj h
          exact run_ret mixed (L := []) (n := 25) (s := [.go, .reg [(4, { v := some (.bool true) })], .reg [(8, { v := some (.bool (decide ((b.f_Writes.getD j.toNat default).f_Key = (a.f_Writes.getD i.toNat default).f_Key))) }), (9, { v := some (.bool true) }), (19, { v := some (.bool true) })], .reg []])
            (a_ (a_ (a_ (a_ tr tr) (a_ (a_ tr tr) (a_ (a_ (a_ tr (lt_ 1 4 rfl)) tr) (a_ (a_ tr tr) (a_ (a_ tr (a_ (leB cL1_1) tr)) tr))))) (a_ (a_ (a_ tr tr) (a_ (a_ (a_ tr (lt_ 1 4 rfl)) tr) (a_ (a_ tr tr) (a_ (a_ (a_ (Eq.refl 10) gL1_2) tr) (a_ (a_ tr tr) (a_ (a_ (le_ 8 10 rfl) tr) (a_ (a_ tr tr) (a_ (a_ (a_ tr (le_ 8 10 rfl)) tr) (a_ (a_ tr (a_ (leB ((k_arr8 .u8) (b.f_Writes.getD j.toNat default).f_Key (a.f_Writes.getD i.toNat default).f_Key)) tr)) (a_ (a_ tr (a_ (leB cL1_3) tr)) (a_ (a_ tr tr) (a_ (a_ (a_ tr (lt_ 1 4 rfl)) tr) (a_ (a_ tr tr) (a_ (a_ (a_ (Eq.refl 10) gL1_2) tr) (a_ (a_ tr tr) (a_ (a_ (lt_ 0 2 rfl) tr) (a_ (a_ tr tr) (a_ (a_ (a_ tr (lt_ 8 10 rfl)) tr) (a_ (a_ tr tr) (a_ (a_ tr (a_ (leB cL1_4) tr)) tr)))))))))))))))))))) (a_ (a_ (a_ tr tr) tr) tr))) tr) (by kernel_rfl) rfl
        · skip
          exact run_to mixed hμ (L := [0, 1, 2]) (n := 26) (s := [.go, .reg [(4, { v := some (.bool true) })], .reg [(8, { v := some (.bool (decide ((b.f_Writes.getD j.toNat default).f_Key = (a.f_Writes.getD i.toNat default).f_Key))) }), (9, { v := some (.bool true) }), (19, { v := some (.bool false) })], .reg []])
            (a_ (a_ (a_ tr tr) (a_ (a_ tr tr) (a_ (a_ (a_ tr (lt_ 1 4 rfl)) tr) (a_ (a_ tr tr) (a_ (a_ tr (a_ (leB cL1_1) tr)) tr))))) (a_ (a_ (a_ tr tr) (a_ (a_ (a_ tr (lt_ 1 4 rfl)) tr) (a_ (a_ tr tr) (a_ (a_ (a_ (Eq.refl 10) gL1_2) tr) (a_ (a_ tr tr) (a_ (a_ (le_ 8 10 rfl) tr) (a_ (a_ tr tr) (a_ (a_ (a_ tr (le_ 8 10 rfl)) tr) (a_ (a_ tr (a_ (leB ((k_arr8 .u8) (b.f_Writes.getD j.toNat default).f_Key (a.f_Writes.getD i.toNat default).f_Key)) tr)) (a_ (a_ tr (a_ (leB cL1_3) tr)) (a_ (a_ tr tr) (a_ (a_ (a_ tr (lt_ 1 4 rfl)) tr) (a_ (a_ tr tr) (a_ (a_ (a_ (Eq.refl 10) gL1_2) tr) (a_ (a_ tr tr) (a_ (a_ (lt_ 0 2 rfl) tr) (a_ (a_ tr tr) (a_ (a_ (a_ tr (lt_ 8 10 rfl)) tr) (a_ (a_ tr tr) (a_ (a_ tr (a_ (leB cL1_4) tr)) tr)))))))))))))))))))) (a_ (a_ (a_ tr tr) (a_ (a_ tr tr) (a_ (a_ tr tr) tr))) tr))) (ih _ r h) (by kernel_rfl) ⟨rfl, rfl, rfl, trivial⟩
      · skip
        exact run_to mixed hμ (L := [0, 1, 2]) (n := 26) (s := [.go, .reg [(4, { v := some (.bool true) })], .reg [(8, { v := some (.bool (decide ((b.f_Writes.getD j.toNat default).f_Key = (a.f_Writes.getD i.toNat default).f_Key))) }), (9, { v := some (.bool false) })], .reg []])
          (a_ (a_ (a_ tr tr) (a_ (a_ tr tr) (a_ (a_ (a_ tr (lt_ 1 4 rfl)) tr) (a_ (a_ tr tr) (a_ (a_ tr (a_ (leB cL1_1) tr)) tr))))) (a_ (a_ (a_ tr tr) (a_ (a_ (a_ tr (lt_ 1 4 rfl)) tr) (a_ (a_ tr tr) (a_ (a_ (a_ (Eq.refl 10) gL1_2) tr) (a_ (a_ tr tr) (a_ (a_ (le_ 8 10 rfl) tr) (a_ (a_ tr tr) (a_ (a_ (a_ tr (le_ 8 10 rfl)) tr) (a_ (a_ tr (a_ (leB ((k_arr8 .u8) (b.f_Writes.getD j.toNat default).f_Key (a.f_Writes.getD i.toNat default).f_Key)) tr)) (a_ (a_ tr (a_ (leB cL1_3) tr)) (a_ tr (a_ tr (a_ tr (a_ tr (a_ tr (a_ tr (a_ tr (a_ tr (a_ tr (a_ (a_ tr tr) tr)))))))))))))))))))) (a_ (a_ (a_ tr tr) (a_ (a_ tr tr) (a_ (a_ tr tr) tr))) tr))) (ih _ r h) (by kernel_rfl) ⟨rfl, rfl, rfl, trivial⟩
    · skip
      exact run_to mixed hμ (L := [0, 1, 2]) (n := 21) (s := [.go, .reg [(4, { v := some (.bool false) })], .reg []])
        (a_ (a_ (a_ tr tr) (a_ (a_ tr tr) (a_ (a_ (a_ tr (lt_ 1 4 rfl)) tr) (a_ (a_ tr tr) (a_ (a_ tr (a_ (leB cL1_1) tr)) tr))))) (a_ (a_ (a_ tr tr) tr) tr)) (parrelref26_ahead_l2_ok hμ a b i k0 hk0 big _ r h) (by kernel_rfl) ⟨rfl, rfl, rfl, trivial⟩

theorem parrelref26_ahead_l4_ok {w0 : World} {W : Nat → Prop} {μ0 : Emb} (hμ : ∀ c p, μ0 c = some p → c < 0) (a : T_parrelref26_Tx) (b : T_parrelref26_Tx) (i2 : Int) (k3 : (Int) → Option ((Bool))) (hk3 : ∀ (i2 : Int) (r : (Bool)), k3 i2 = some r → kont Try.prog w0 W μ0 (FnPost Try.prog Try.f25 0 0 (parrelref26_ahead_v r) []) (kAt (bodyOf Try.f25) 3) none (parrelref26_ahead_T3 a b i2) (parrelref26_ahead_H3 a b i2)) : ∀ (fuel : Nat) (j3 : Int) (r : (Bool)), parrelref26_ahead_l4 a b i2 k3 fuel j3 = some r → kont Try.prog w0 W μ0 (FnPost Try.prog Try.f25 0 0 (parrelref26_ahead_v r) []) (kAt (bodyOf Try.f25) 4) none (parrelref26_ahead_T4 a b i2 j3) (parrelref26_ahead_H4 a b i2 j3) := by
  intro fuel
  induction fuel with
  | zero => intro j3 r h; rw [parrelref26_ahead_l4] at h; cases h
  | succ fuel ih =>
    intro j3 r h
    rw [parrelref26_ahead_l4] at h
    rcases itb_some h with ⟨cL4_1, h⟩ | ⟨cL4_1, h⟩
    · skip
      obtain ⟨gL4_2, h⟩ := guard_some h
      rcases itb_some h with ⟨cL4_3, h⟩ | ⟨cL4_3, h⟩
      · skip
        rcases itb_some h with ⟨cL4_4, h⟩ | ⟨cL4_4, h⟩
        · skip
          obtain rfl := Option.some.inj h
          exact run_ret mixed (L := []) (n := 25) (s := [.go, .reg [(4, { v := some (.bool true) })], .reg [(8, { v := some (.bool (decide ((b.f_Writes.getD j3.toNat default).f_Key = (a.f_Reads.getD i2.toNat default).f_Key))) }), (9, { v := some (.bool true) }), (19, { v := some (.bool true) })], .reg []])
            (a_ (a_ (a_ (a_ tr tr) (a_ (a_ tr tr) (a_ (a_ (a_ tr (lt_ 1 4 rfl)) tr) (a_ (a_ tr tr) (a_ (a_ tr (a_ (leB cL4_1) tr)) tr))))) (a_ (a_ (a_ tr tr) (a_ (a_ (a_ tr (lt_ 1 4 rfl)) tr) (a_ (a_ tr tr) (a_ (a_ (a_ (Eq.refl 10) gL4_2) tr) (a_ (a_ tr tr) (a_ (a_ (le_ 8 10 rfl) tr) (a_ (a_ tr tr) (a_ (a_ (a_ tr (le_ 8 10 rfl)) tr) (a_ (a_ tr (a_ (leB ((k_arr8 .u8) (b.f_Writes.getD j3.toNat default).f_Key (a.f_Reads.getD i2.toNat default).f_Key)) tr)) (a_ (a_ tr (a_ (leB cL4_3) tr)) (a_ (a_ tr tr) (a_ (a_ (a_ tr (lt_ 1 4 rfl)) tr) (a_ (a_ tr tr) (a_ (a_ (a_ (Eq.refl 10) gL4_2) tr) (a_ (a_ tr tr) (a_ (a_ (lt_ 0 2 rfl) tr) (a_ (a_ tr tr) (a_ (a_ (a_ tr (lt_ 8 10 rfl)) tr) (a_ (a_ tr tr) (a_ (a_ tr (a_ (leB cL4_4) tr)) tr)))))))))))))))))))) (a_ (a_ (a_ tr tr) tr) tr))) tr) (by kernel_rfl) rfl
        · skip
          exact run_to mixed hμ (L := [0, 1, 2]) (n := 26) (s := [.go, .reg [(4, { v := some (.bool true) })], .reg [(8, { v := some (.bool (decide ((b.f_Writes.getD j3.toNat default).f_Key = (a.f_Reads.getD i2.toNat default).f_Key))) }), (9, { v := some (.bool true) }), (19, { v := some (.bool false) })], .reg []])
            (a_ (a_ (a_ tr tr) (a_ (a_ tr tr) (a_ (a_ (a_ tr (lt_ 1 4 rfl)) tr) (a_ (a_ tr tr) (a_ (a_ tr (a_ (leB cL4_1) tr)) tr))))) (a_ (a_ (a_ tr tr) (a_ (a_ (a_ tr (lt_ 1 4 rfl)) tr) (a_ (a_ tr tr) (a_ (a_ (a_ (Eq.refl 10) gL4_2) tr) (a_ (a_ tr tr) (a_ (a_ (le_ 8 10 rfl) tr) (a_ (a_ tr tr) (a_ (a_ (a_ tr (le_ 8 10 rfl)) tr) (a_ (a_ tr (a_ (leB ((k_arr8 .u8) (b.f_Writes.getD j3.toNat default).f_Key (a.f_Reads.getD i2.toNat default).f_Key)) tr)) (a_ (a_ tr (a_ (leB cL4_3) tr)) (a_ (a_ tr tr) (a_ (a_ (a_ tr (lt_ 1 4 rfl)) tr) (a_ (a_ tr tr) (a_ (a_ (a_ (Eq.refl 10) gL4_2) tr) (a_ (a_ tr tr) (a_ (a_ (lt_ 0 2 rfl) tr) (a_ (a_ tr tr) (a_ (a_ (a_ tr (lt_ 8 10 rfl)) tr) (a_ (a_ tr tr) (a_ (a_ tr (a_ (leB cL4_4) tr)) tr)))))))))))))))))))) (a_ (a_ (a_ tr tr) (a_ (a_ tr tr) (a_ (a_ tr tr) tr))) tr))) (ih _ r h) (by kernel_rfl) ⟨rfl, rfl, rfl, trivial⟩
      · skip
        exact run_to mixed hμ (L := [0, 1, 2]) (n := 26) (s := [.go, .reg [(4, { v := some (.bool true) })], .reg [(8, { v := some (.bool (decide ((b.f_Writes.getD j3.toNat default).f_Key = (a.f_Reads.getD i2.toNat default).f_Key))) }), (9, { v := some (.bool false) })], .reg []])
          (a_ (a_ (a_ tr tr) (a_ (a_ tr tr) (a_ (a_ (a_ tr (lt_ 1 4 rfl)) tr) (a_ (a_ tr tr) (a_ (a_ tr (a_ (leB cL4_1) tr)) tr))))) (a_ (a_ (a_ tr tr) (a_ (a_ (a_ tr (lt_ 1 4 rfl)) tr) (a_ (a_ tr tr) (a_ (a_ (a_ (Eq.refl 10) gL4_2) tr) (a_ (a_ tr tr) (a_ (a_ (le_ 8 10 rfl) tr) (a_ (a_ tr tr) (a_ (a_ (a_ tr (le_ 8 10 rfl)) tr) (a_ (a_ tr (a_ (leB ((k_arr8 .u8) (b.f_Writes.getD j3.toNat default).f_Key (a.f_Reads.getD i2.toNat default).f_Key)) tr)) (a_ (a_ tr (a_ (leB cL4_3) tr)) (a_ tr (a_ tr (a_ tr (a_ tr (a_ tr (a_ tr (a_ tr (a_ tr (a_ tr (a_ (a_ tr tr) tr)))))))))))))))))))) (a_ (a_ (a_ tr tr) (a_ (a_ tr tr) (a_ (a_ tr tr) tr))) tr))) (ih _ r h) (by kernel_rfl) ⟨rfl, rfl, rfl, trivial⟩
    · skip
      exact run_to mixed hμ (L := [0, 1]) (n := 19) (s := [.go, .reg [(4, { v := some (.bool false) })], .reg []])
        (a_ (a_ (a_ tr tr) (a_ (a_ tr tr) (a_ (a_ (a_ tr (lt_ 1 4 rfl)) tr) (a_ (a_ tr tr) (a_ (a_ tr (a_ (leB cL4_1) tr)) tr))))) (a_ (a_ (a_ tr tr) (a_ (a_ tr tr) (a_ (a_ tr tr) tr))) tr)) (hk3 _ r h) (by kernel_rfl) ⟨rfl, rfl, trivial⟩

theorem parrelref26_ahead_l3_ok {w0 : World} {W : Nat → Prop} {μ0 : Emb} (hμ : ∀ c p, μ0 c = some p → c < 0) (a : T_parrelref26_Tx) (b : T_parrelref26_Tx)  : ∀ (fuel : Nat) (i2 : Int) (r : (Bool)), parrelref26_ahead_l3 a b  fuel i2 = some r → kont Try.prog w0 W μ0 (FnPost Try.prog Try.f25 0 0 (parrelref26_ahead_v r) []) (kAt (bodyOf Try.f25) 3) none (parrelref26_ahead_T3 a b i2) (parrelref26_ahead_H3 a b i2) := by
  intro fuel
  induction fuel with
  | zero => intro i2 r h; rw [parrelref26_ahead_l3] at h; cases h
  | succ fuel ih =>
    intro i2 r h
    rw [parrelref26_ahead_l3] at h
    rcases itb_some h with ⟨cL3_1, h⟩ | ⟨cL3_1, h⟩
    · skip
      obtain ⟨gL3_2, h⟩ := guard_some h
      exact run_to mixed hμ (L := [0, 1, 2]) (n := 26) (s := [.go, .reg [(4, { v := some (.bool true) })], .reg [], .reg []])
        (a_ (a_ (a_ tr tr) (a_ (a_ tr tr) (a_ (a_ (a_ tr (lt_ 0 4 rfl)) tr) (a_ (a_ tr tr) (a_ (a_ tr (a_ (leB cL3_1) tr)) tr))))) (a_ (a_ (a_ tr tr) (a_ (a_ (a_ tr (lt_ 0 4 rfl)) tr) (a_ (a_ tr tr) (a_ (a_ (a_ (Eq.refl 10) gL3_2) tr) (a_ (a_ (le_ 10 10 rfl) tr) (a_ (a_ tr tr) (a_ (a_ (a_ (Eq.refl 10) (a_ (le_ 10 10 rfl) (Eq.refl 0))) tr) tr))))))) (a_ (a_ (a_ tr tr) tr) tr))) (parrelref26_ahead_l4_ok hμ a b i2 (parrelref26_ahead_l3 a b  fuel) (fun i2 r h => ih i2 r h) big _ r h) (by kernel_rfl) ⟨rfl, rfl, rfl, trivial⟩
    · skip
      obtain rfl := Option.some.inj h
      exact run_ret mixed (L := []) (n := 19) (s := [.go, .reg [(4, { v := some (.bool false) })], .reg []])
        (a_ (a_ (a_ (a_ tr tr) (a_ (a_ tr tr) (a_ (a_ (a_ tr (lt_ 0 4 rfl)) tr) (a_ (a_ tr tr) (a_ (a_ tr (a_ (leB cL3_1) tr)) tr))))) (a_ (a_ (a_ tr tr) tr) tr)) tr) (by kernel_rfl) rfl

theorem parrelref26_ahead_l0_ok {w0 : World} {W : Nat → Prop} {μ0 : Emb} (hμ : ∀ c p, μ0 c = some p → c < 0) (a : T_parrelref26_Tx) (b : T_parrelref26_Tx)  : ∀ (fuel : Nat) (i : Int) (r : (Bool)), parrelref26_ahead_l0 a b  fuel i = some r → kont Try.prog w0 W μ0 (FnPost Try.prog Try.f25 0 0 (parrelref26_ahead_v r) []) (kAt (bodyOf Try.f25) 0) none (parrelref26_ahead_T0 a b i) (parrelref26_ahead_H0 a b i) := by
  intro fuel
  induction fuel with
  | zero => intro i r h; rw [parrelref26_ahead_l0] at h; cases h
  | succ fuel ih =>
    intro i r h
    rw [parrelref26_ahead_l0] at h
    rcases itb_some h with ⟨cL0_1, h⟩ | ⟨cL0_1, h⟩
    · skip
      obtain ⟨gL0_2, h⟩ := guard_some h
      exact run_to mixed hμ (L := [0, 1, 2]) (n := 27) (s := [.go, .reg [(4, { v := some (.bool true) })], .reg [], .reg []])
        (a_ (a_ (a_ tr tr) (a_ (a_ tr tr) (a_ (a_ (a_ tr (lt_ 1 4 rfl)) tr) (a_ (a_ tr tr) (a_ (a_ tr (a_ (leB cL0_1) tr)) tr))))) (a_ (a_ (a_ tr tr) (a_ (a_ (a_ tr (lt_ 1 4 rfl)) tr) (a_ (a_ tr tr) (a_ (a_ (a_ (Eq.refl 10) gL0_2) tr) (a_ (a_ (le_ 10 10 rfl) tr) (a_ (a_ tr tr) (a_ (a_ (a_ (Eq.refl 10) (a_ (le_ 10 10 rfl) (Eq.refl 0))) tr) tr))))))) (a_ (a_ (a_ tr tr) tr) tr))) (parrelref26_ahead_l1_ok hμ a b i (parrelref26_ahead_l0 a b  fuel) (fun i r h => ih i r h) big _ r h) (by kernel_rfl) ⟨rfl, rfl, rfl, trivial⟩
    · skip
      exact run_to mixed hμ (L := [0, 1]) (n := 22) (s := [.go, .reg [(4, { v := some (.bool false) })], .reg []])
        (a_ (a_ (a_ tr tr) (a_ (a_ tr tr) (a_ (a_ (a_ tr (lt_ 1 4 rfl)) tr) (a_ (a_ tr tr) (a_ (a_ tr (a_ (leB cL0_1) tr)) tr))))) (a_ (a_ (a_ tr tr) tr) tr)) (parrelref26_ahead_l3_ok hμ a b  big _ r h) (by kernel_rfl) ⟨rfl, rfl, trivial⟩

theorem parrelref26_ahead_ok (a : T_parrelref26_Tx) (b : T_parrelref26_Tx) (r : (Bool)) (h : parrelref26_ahead a b = some r) : ∀ σ, Inj 0 σ → FnTri Try.prog 25 (renL σ [v_T_parrelref26_Tx a, v_T_parrelref26_Tx b]) (preOf σ 0 []) ((parrelref26_ahead_v r).ren σ) (upOf σ []) := by
  refine fn_of Try.func25 (by kernel_rfl) (by kernel_rfl) (by kernel_rfl) trivial (by kernel_rfl) trivial (by kernel_rfl) ?_
  intro w0 W μ0 hμ
  unfold parrelref26_ahead at h
  rcases itb_some h with ⟨c1, h⟩ | ⟨c1, h⟩
  · skip
    rcases itb_some h with ⟨c2, h⟩ | ⟨c2, h⟩
    · skip
      obtain rfl := Option.some.inj h
      exact run_ret mixed (L := []) (n := 20) (s := [.reg [], .reg [(3, { v := some (.bool true) }), (9, { v := some (.bool true) })], .reg []])
        (a_ (a_ (a_ (a_ tr tr) (a_ (a_ tr tr) (a_ (a_ tr tr) tr))) (a_ (a_ (a_ tr tr) (a_ (a_ (a_ tr (lt_ 3 4 rfl)) tr) (a_ (a_ tr tr) (a_ (a_ tr (a_ (leB c1) tr)) (a_ (a_ tr tr) (a_ (a_ (a_ tr (lt_ 3 4 rfl)) tr) (a_ (a_ tr tr) (a_ (a_ (a_ tr (lt_ 2 4 rfl)) tr) (a_ (a_ tr tr) (a_ (a_ tr (a_ (leB c2) tr)) tr)))))))))) (a_ (a_ (a_ tr tr) tr) tr))) tr) (by kernel_rfl) rfl
    · skip
      exact run_to mixed hμ (L := [0, 1]) (n := 24) (s := [.reg [], .reg [(3, { v := some (.bool true) }), (9, { v := some (.bool false) })], .reg []])
        (a_ (a_ (a_ tr tr) (a_ (a_ tr tr) (a_ (a_ tr tr) tr))) (a_ (a_ (a_ tr tr) (a_ (a_ (a_ tr (lt_ 3 4 rfl)) tr) (a_ (a_ tr tr) (a_ (a_ tr (a_ (leB c1) tr)) (a_ (a_ tr tr) (a_ (a_ (a_ tr (lt_ 3 4 rfl)) tr) (a_ (a_ tr tr) (a_ (a_ (a_ tr (lt_ 2 4 rfl)) tr) (a_ (a_ tr tr) (a_ (a_ tr (a_ (leB c2) tr)) tr)))))))))) (a_ (a_ (a_ tr tr) tr) tr))) (parrelref26_ahead_l0_ok hμ a b  big _ r h) (by kernel_rfl) ⟨rfl, rfl, trivial⟩
  · skip
    exact run_to mixed hμ (L := [0, 1]) (n := 24) (s := [.reg [], .reg [(3, { v := some (.bool false) })], .reg []])
      (a_ (a_ (a_ tr tr) (a_ (a_ tr tr) (a_ (a_ tr tr) tr))) (a_ (a_ (a_ tr tr) (a_ (a_ (a_ tr (lt_ 3 4 rfl)) tr) (a_ (a_ tr tr) (a_ (a_ tr (a_ (leB c1) tr)) (a_ tr (a_ tr (a_ tr (a_ tr (a_ tr (a_ (a_ tr tr) tr)))))))))) (a_ (a_ (a_ tr tr) tr) tr))) (parrelref26_ahead_l0_ok hμ a b  big _ r h) (by kernel_rfl) ⟨rfl, rfl, trivial⟩

theorem parrelref26_ahead_tri (a : T_parrelref26_Tx) (b : T_parrelref26_Tx) (r : (Bool)) (h : parrelref26_ahead a b = some r) : FnTri Try.prog 25 [v_T_parrelref26_Tx a, v_T_parrelref26_Tx b] [] (parrelref26_ahead_v r) [] := FnTri.none (parrelref26_ahead_ok a b r h) rfl rfl

/-- parrel/parrelref26.Order -/

def parrelref26_Order_v (r : (List (Int)) × (Int)) : LV := .tup [.ds 1 (r.1).length (rowF (cInt .i64) default r.1), .int .i64 r.2]

def parrelref26_Order_T2 (l : List (T_parrelref26_Tx)) (l2 : List (Int)) (next : Int) (i : Int) (free : Bool) (x_k : Int) : List LV := [.ds 4 (l).length (rowF c_T_parrelref26_Tx default l), .any, .any, .any, .any, .gs 0 (l2).length, .int .i64 next, .int .i64 i, .bool free, .int .i64 x_k, .any, .any, .any, .any, .any, .any, .any, .any, .any, .any, .any, .any, .any, .any, .any, .any, .any, .any, .any, .any, .any, .any, .any, .any, .any, .any, .any, .any, .any, .any, .any, .any, .any, .any, .any, .any, .any, .any, .any, .any, .any, .any, .any, .any, .any, .any, .any, .any, .any, .any, .any, .any, .any, .any, .any, .any, .any, .any, .any, .any, .any, .any]

def parrelref26_Order_H2 (l : List (T_parrelref26_Tx)) (l2 : List (Int)) (next : Int) (i : Int) (free : Bool) (x_k : Int) : Heap := [some (.gr 1 (l2).length (rowF (cInt .i64) default l2))]

def parrelref26_Order_T1 (l : List (T_parrelref26_Tx)) (l2 : List (Int)) (next : Int) (i : Int) : List LV := [.ds 4 (l).length (rowF c_T_parrelref26_Tx default l), .any, .any, .any, .any, .gs 0 (l2).length, .int .i64 next, .int .i64 i, .any, .any, .any, .any, .any, .any, .any, .any, .any, .any, .any, .any, .any, .any, .any, .any, .any, .any, .any, .any, .any, .any, .any, .any, .any, .any, .any, .any, .any, .any, .any, .any, .any, .any, .any, .any, .any, .any, .any, .any, .any, .any, .any, .any, .any, .any, .any, .any, .any, .any, .any, .any, .any, .any, .any, .any, .any, .any, .any, .any, .any, .any, .any, .any]

def parrelref26_Order_H1 (l : List (T_parrelref26_Tx)) (l2 : List (Int)) (next : Int) (i : Int) : Heap := [some (.gr 1 (l2).length (rowF (cInt .i64) default l2))]

def parrelref26_Order_T0 (l : List (T_parrelref26_Tx)) (l2 : List (Int)) : List LV := [.ds 4 (l).length (rowF c_T_parrelref26_Tx default l), .any, .any, .any, .any, .gs 0 (l2).length, .any, .any, .any, .any, .any, .any, .any, .any, .any, .any, .any, .any, .any, .any, .any, .any, .any, .any, .any, .any, .any, .any, .any, .any, .any, .any, .any, .any, .any, .any, .any, .any, .any, .any, .any, .any, .any, .any, .any, .any, .any, .any, .any, .any, .any, .any, .any, .any, .any, .any, .any, .any, .any, .any, .any, .any, .any, .any, .any, .any, .any, .any, .any, .any, .any, .any]

def parrelref26_Order_H0 (l : List (T_parrelref26_Tx)) (l2 : List (Int)) : Heap := [some (.gr 1 (l2).length (rowF (cInt .i64) default l2))]

def parrelref26_Order_l2 (l : List (T_parrelref26_Tx)) (l2 : List (Int)) (next : Int) (i : Int) (k1 : (Int) → (Int) → Option ((List (Int)) × (Int))) : Nat → (Bool) → (Int) → Option ((List (Int)) × (Int))
  | 0, _, _ => none
  | fuel + 1, free, x_k =>
    if ((decide (x_k < ((l).length : Int))) : Bool) then
      if (free : Bool) then
        if ((x_k == i) : Bool) then
          parrelref26_Order_l2 l l2 next i k1 fuel true (IntKind.wrap .i64 (x_k + 1))
        else
          (parrelref26_has_2 l2 x_k).bind fun yL2_5 =>
          if (yL2_5 : Bool) then
            parrelref26_Order_l2 l l2 next i k1 fuel true (IntKind.wrap .i64 (x_k + 1))
          else
            if 0 ≤ x_k ∧ x_k < (((l).length : Nat) : Int) then
            if 0 ≤ i ∧ i < (((l).length : Nat) : Int) then
            (parrelref26_ahead (l.getD x_k.toNat default) (l.getD i.toNat default)).bind fun yL2_10 =>
            parrelref26_Order_l2 l l2 next i k1 fuel (!yL2_10) (IntKind.wrap .i64 (x_k + 1))
            else none
            else none
      else
        if (free : Bool) then
          k1 i (IntKind.wrap .i64 (i + 1))
        else
          k1 next (IntKind.wrap .i64 (i + 1))
    else
      if (free : Bool) then
        k1 i (IntKind.wrap .i64 (i + 1))
      else
        k1 next (IntKind.wrap .i64 (i + 1))

def parrelref26_Order_l1 (l : List (T_parrelref26_Tx)) (l2 : List (Int)) (k0 : (List (Int)) → Option ((List (Int)) × (Int))) : Nat → (Int) → (Int) → Option ((List (Int)) × (Int))
  | 0, _, _ => none
  | fuel + 1, next, i =>
    if ((decide (i < ((l).length : Int))) : Bool) then
      if ((decide (next < 0)) : Bool) then
        (parrelref26_has_2 l2 i).bind fun yL1_4 =>
        parrelref26_Order_l2 l l2 next i (parrelref26_Order_l1 l l2 k0 fuel) big (!yL1_4) 0
      else
        if ((decide (next < 0)) : Bool) then
          some (([] : List (Int)), 11)
        else
          if ((l2).length + ([next]).length) * 8 ≤ 140737488351232 then
          k0 (l2 ++ [next])
          else none
    else
      if ((decide (next < 0)) : Bool) then
        some (([] : List (Int)), 11)
      else
        if ((l2).length + ([next]).length) * 8 ≤ 140737488351232 then
        k0 (l2 ++ [next])
        else none

def parrelref26_Order_l0 (l : List (T_parrelref26_Tx))  : Nat → (List (Int)) → Option ((List (Int)) × (Int))
  | 0, _ => none
  | fuel + 1, l2 =>
    if ((decide (((l2).length : Int) < ((l).length : Int))) : Bool) then
      parrelref26_Order_l1 l l2 (parrelref26_Order_l0 l  fuel) big (-1) 0
    else
      some (l2, 0)

def parrelref26_Order (l : List (T_parrelref26_Tx)) : Option ((List (Int)) × (Int)) :=
  (parrelref26_Check l).bind fun y2 =>
  if ((y2 != 0) : Bool) then
    some (([] : List (Int)), y2)
  else
    parrelref26_Order_l0 l  big ([] : List (Int))

theorem parrelref26_Order_l2_ok {w0 : World} {W : Nat → Prop} {μ0 : Emb} (hμ : ∀ c p, μ0 c = some p → c < 0) (l : List (T_parrelref26_Tx)) (l2 : List (Int)) (next : Int) (i : Int) (k1 : (Int) → (Int) → Option ((List (Int)) × (Int))) (hk1 : ∀ (next : Int) (i : Int) (r : (List (Int)) × (Int)), k1 next i = some r → kont Try.prog w0 W μ0 (FnPost Try.prog Try.f12 0 0 (parrelref26_Order_v r) []) (kAt (bodyOf Try.f12) 1) none (parrelref26_Order_T1 l l2 next i) (parrelref26_Order_H1 l l2 next i)) : ∀ (fuel : Nat) (free : Bool) (x_k : Int) (r : (List (Int)) × (Int)), parrelref26_Order_l2 l l2 next i k1 fuel free x_k = some r → kont Try.prog w0 W μ0 (FnPost Try.prog Try.f12 0 0 (parrelref26_Order_v r) []) (kAt (bodyOf Try.f12) 2) none (parrelref26_Order_T2 l l2 next i free x_k) (parrelref26_Order_H2 l l2 next i free x_k) := by
  intro fuel
  induction fuel with
  | zero => intro free x_k r h; rw [parrelref26_Order_l2] at h; cases h
  | succ fuel ih =>
    intro free x_k r h
    rw [parrelref26_Order_l2] at h
    rcases itb_some h with ⟨cL2_1, h⟩ | ⟨cL2_1, h⟩
    · skip
      rcases itb_some h with ⟨cL2_2, h⟩ | ⟨cL2_2, h⟩
      · skip
        rcases itb_some h with ⟨cL2_3, h⟩ | ⟨cL2_3, h⟩
        · skip
          exact run_to mixed hμ (L := [0]) (n := 23) (s := [.go, .reg [(4, { v := some (.bool true) }), (6, { v := some (.bool true) })], .reg [(3, { v := some (.bool true) })], .reg []])
            (a_ (a_ (a_ tr tr) (a_ (a_ tr tr) (a_ (a_ tr tr) (a_ (a_ tr tr) (a_ (a_ tr (a_ (leB cL2_1) tr)) (a_ (a_ tr tr) (a_ (a_ tr (a_ (leB cL2_2) tr)) tr))))))) (a_ (a_ (a_ tr tr) (a_ (a_ tr tr) (a_ (a_ tr tr) (a_ (a_ tr (a_ (leB cL2_3) tr)) (a_ tr (a_ tr (a_ tr (a_ (a_ tr tr) (a_ (a_ tr tr) (a_ tr (a_ tr (a_ tr (a_ tr (a_ tr (a_ tr (a_ tr (a_ tr (a_ tr (a_ tr (a_ (a_ tr tr) (a_ (a_ tr tr) tr))))))))))))))))))))) (a_ (a_ (a_ tr tr) (a_ (a_ tr tr) (a_ (a_ tr tr) tr))) tr))) (ih _ _ r h) (by kernel_rfl) ⟨fun _ _ => rfl, trivial⟩
        · skip
          obtain ⟨yL2_5, eL2_4, h⟩ := bind_some h
          rcases itb_some h with ⟨cL2_6, h⟩ | ⟨cL2_6, h⟩
          · skip
            exact run_to mixed hμ (L := [0]) (n := 23) (s := [.go, .reg [(4, { v := some (.bool true) }), (6, { v := some (.bool true) })], .reg [(3, { v := some (.bool false) }), (6, { call := some ((parrelref26_has_2_v yL2_5).ren (sel [0]), preOf (sel [0]) 0 (parrelref26_has_2_objs l2 x_k), upOf (sel [0]) (parrelref26_has_2_up l2 x_k yL2_5)) }), (8, { v := some (.bool true) })], .reg []])
              (a_ (a_ (a_ tr tr) (a_ (a_ tr tr) (a_ (a_ tr tr) (a_ (a_ tr tr) (a_ (a_ tr (a_ (leB cL2_1) tr)) (a_ (a_ tr tr) (a_ (a_ tr (a_ (leB cL2_2) tr)) tr))))))) (a_ (a_ (a_ tr tr) (a_ (a_ tr tr) (a_ (a_ tr tr) (a_ (a_ tr (a_ (leB cL2_3) tr)) (a_ (a_ tr tr) (a_ (a_ tr tr) (a_ (a_ (a_ (parrelref26_has_2_ok l2 x_k yL2_5 eL2_4 (sel [0]) (sel_inj rfl rfl)) (a_ (LO.Le.refl (.gr 1 (l2).length (rowF (cInt .i64) default l2))) tr)) tr) (a_ (a_ tr tr) (a_ (a_ tr (a_ (leB cL2_6) tr)) (a_ tr (a_ tr (a_ tr (a_ tr (a_ tr (a_ tr (a_ tr (a_ tr (a_ tr (a_ tr (a_ (a_ tr tr) (a_ (a_ tr tr) tr))))))))))))))))))))) (a_ (a_ (a_ tr tr) (a_ (a_ tr tr) (a_ (a_ tr tr) tr))) tr))) (ih _ _ r h) (by kernel_rfl) ⟨fun _ _ => rfl, trivial⟩
          · skip
            obtain ⟨gL2_7, h⟩ := guard_some h
            obtain ⟨gL2_8, h⟩ := guard_some h
            obtain ⟨yL2_10, eL2_9, h⟩ := bind_some h
            exact run_to mixed hμ (L := [0]) (n := 23) (s := [.go, .reg [(4, { v := some (.bool true) }), (6, { v := some (.bool true) })], .reg [(3, { v := some (.bool false) }), (6, { call := some ((parrelref26_has_2_v yL2_5).ren (sel [0]), preOf (sel [0]) 0 (parrelref26_has_2_objs l2 x_k), upOf (sel [0]) (parrelref26_has_2_up l2 x_k yL2_5)) }), (8, { v := some (.bool false) }), (17, { call := some (parrelref26_ahead_v yL2_10, [], []) })], .reg []])
              (a_ (a_ (a_ tr tr) (a_ (a_ tr tr) (a_ (a_ tr tr) (a_ (a_ tr tr) (a_ (a_ tr (a_ (leB cL2_1) tr)) (a_ (a_ tr tr) (a_ (a_ tr (a_ (leB cL2_2) tr)) tr))))))) (a_ (a_ (a_ tr tr) (a_ (a_ tr tr) (a_ (a_ tr tr) (a_ (a_ tr (a_ (leB cL2_3) tr)) (a_ (a_ tr tr) (a_ (a_ tr tr) (a_ (a_ (a_ (parrelref26_has_2_ok l2 x_k yL2_5 eL2_4 (sel [0]) (sel_inj rfl rfl)) (a_ (LO.Le.refl (.gr 1 (l2).length (rowF (cInt .i64) default l2))) tr)) tr) (a_ (a_ tr tr) (a_ (a_ tr (a_ (leB cL2_6) tr)) (a_ (a_ tr tr) (a_ (a_ tr tr) (a_ (a_ (a_ (Eq.refl 4) gL2_7) tr) (a_ (a_ (le_ 4 4 rfl) tr) (a_ (a_ tr tr) (a_ (a_ tr tr) (a_ (a_ (a_ (Eq.refl 4) gL2_8) tr) (a_ (a_ (le_ 4 4 rfl) tr) (a_ (a_ (a_ (parrelref26_ahead_tri (l.getD x_k.toNat default) (l.getD i.toNat default) yL2_10 eL2_9) tr) tr) (a_ (a_ tr tr) (a_ (a_ tr tr) (a_ (a_ tr tr) tr))))))))))))))))))))) (a_ (a_ (a_ tr tr) (a_ (a_ tr tr) (a_ (a_ tr tr) tr))) tr))) (ih _ _ r h) (by kernel_rfl) ⟨fun _ _ => rfl, trivial⟩
      · skip
        rcases itb_some h with ⟨cL2_3, h⟩ | ⟨cL2_3, h⟩
        · skip
          exact run_to mixed hμ (L := [0]) (n := 25) (s := [.go, .reg [(4, { v := some (.bool true) }), (6, { v := some (.bool false) })], .reg [(0, { v := some (.bool true) })], .reg [], .reg []])
            (a_ (a_ (a_ tr tr) (a_ (a_ tr tr) (a_ (a_ tr tr) (a_ (a_ tr tr) (a_ (a_ tr (a_ (leB cL2_1) tr)) (a_ (a_ tr tr) (a_ (a_ tr (a_ (leB cL2_2) tr)) tr))))))) (a_ (a_ (a_ tr (a_ (leB cL2_3) tr)) tr) (a_ (a_ (a_ tr tr) (a_ (a_ tr tr) tr)) (a_ (a_ (a_ tr tr) (a_ (a_ tr tr) (a_ (a_ tr tr) tr))) tr)))) (hk1 _ _ r h) (by kernel_rfl) ⟨fun _ _ => rfl, trivial⟩
        · skip
          exact run_to mixed hμ (L := [0]) (n := 24) (s := [.go, .reg [(4, { v := some (.bool true) }), (6, { v := some (.bool false) })], .reg [(0, { v := some (.bool false) })], .reg []])
            (a_ (a_ (a_ tr tr) (a_ (a_ tr tr) (a_ (a_ tr tr) (a_ (a_ tr tr) (a_ (a_ tr (a_ (leB cL2_1) tr)) (a_ (a_ tr tr) (a_ (a_ tr (a_ (leB cL2_2) tr)) tr))))))) (a_ (a_ (a_ tr (a_ (leB cL2_3) tr)) tr) (a_ (a_ (a_ tr tr) (a_ (a_ tr tr) (a_ (a_ tr tr) tr))) tr))) (hk1 _ _ r h) (by kernel_rfl) ⟨fun _ _ => rfl, trivial⟩
    · skip
      rcases itb_some h with ⟨cL2_2, h⟩ | ⟨cL2_2, h⟩
      · skip
        exact run_to mixed hμ (L := [0]) (n := 25) (s := [.go, .reg [(4, { v := some (.bool false) })], .reg [(0, { v := some (.bool true) })], .reg [], .reg []])
          (a_ (a_ (a_ tr tr) (a_ (a_ tr tr) (a_ (a_ tr tr) (a_ (a_ tr tr) (a_ (a_ tr (a_ (leB cL2_1) tr)) (a_ tr (a_ (a_ tr tr) tr))))))) (a_ (a_ (a_ tr (a_ (leB cL2_2) tr)) tr) (a_ (a_ (a_ tr tr) (a_ (a_ tr tr) tr)) (a_ (a_ (a_ tr tr) (a_ (a_ tr tr) (a_ (a_ tr tr) tr))) tr)))) (hk1 _ _ r h) (by kernel_rfl) ⟨fun _ _ => rfl, trivial⟩
      · skip
        exact run_to mixed hμ (L := [0]) (n := 24) (s := [.go, .reg [(4, { v := some (.bool false) })], .reg [(0, { v := some (.bool false) })], .reg []])
          (a_ (a_ (a_ tr tr) (a_ (a_ tr tr) (a_ (a_ tr tr) (a_ (a_ tr tr) (a_ (a_ tr (a_ (leB cL2_1) tr)) (a_ tr (a_ (a_ tr tr) tr))))))) (a_ (a_ (a_ tr (a_ (leB cL2_2) tr)) tr) (a_ (a_ (a_ tr tr) (a_ (a_ tr tr) (a_ (a_ tr tr) tr))) tr))) (hk1 _ _ r h) (by kernel_rfl) ⟨fun _ _ => rfl, trivial⟩

theorem parrelref26_Order_l1_ok {w0 : World} {W : Nat → Prop} {μ0 : Emb} (hμ : ∀ c p, μ0 c = some p → c < 0) (l : List (T_parrelref26_Tx)) (l2 : List (Int)) (k0 : (List (Int)) → Option ((List (Int)) × (Int))) (hk0 : ∀ (l2 : List (Int)) (r : (List (Int)) × (Int)), k0 l2 = some r → kont Try.prog w0 W μ0 (FnPost Try.prog Try.f12 0 0 (parrelref26_Order_v r) []) (kAt (bodyOf Try.f12) 0) none (parrelref26_Order_T0 l l2) (parrelref26_Order_H0 l l2)) : ∀ (fuel : Nat) (next : Int) (i : Int) (r : (List (Int)) × (Int)), parrelref26_Order_l1 l l2 k0 fuel next i = some r → kont Try.prog w0 W μ0 (FnPost Try.prog Try.f12 0 0 (parrelref26_Order_v r) []) (kAt (bodyOf Try.f12) 1) none (parrelref26_Order_T1 l l2 next i) (parrelref26_Order_H1 l l2 next i) := by
  intro fuel
  induction fuel with
  | zero => intro next i r h; rw [parrelref26_Order_l1] at h; cases h
  | succ fuel ih =>
    intro next i r h
    rw [parrelref26_Order_l1] at h
    rcases itb_some h with ⟨cL1_1, h⟩ | ⟨cL1_1, h⟩
    · skip
      rcases itb_some h with ⟨cL1_2, h⟩ | ⟨cL1_2, h⟩
      · skip
        obtain ⟨yL1_4, eL1_3, h⟩ := bind_some h
        exact run_to mixed hμ (L := [0]) (n := 27) (s := [.go, .reg [(4, { v := some (.bool true) }), (7, { v := some (.bool true) })], .reg [(2, { call := some ((parrelref26_has_2_v yL1_4).ren (sel [0]), preOf (sel [0]) 0 (parrelref26_has_2_objs l2 i), upOf (sel [0]) (parrelref26_has_2_up l2 i yL1_4)) })], .reg []])
          (a_ (a_ (a_ tr tr) (a_ (a_ tr tr) (a_ (a_ tr tr) (a_ (a_ tr tr) (a_ (a_ tr (a_ (leB cL1_1) tr)) (a_ (a_ tr tr) (a_ (a_ tr tr) (a_ (a_ tr (a_ (leB cL1_2) tr)) tr)))))))) (a_ (a_ (a_ tr tr) (a_ (a_ tr tr) (a_ (a_ (a_ (parrelref26_has_2_ok l2 i yL1_4 eL1_3 (sel [0]) (sel_inj rfl rfl)) (a_ (LO.Le.refl (.gr 1 (l2).length (rowF (cInt .i64) default l2))) tr)) tr) (a_ (a_ tr tr) (a_ (a_ tr tr) tr))))) (a_ (a_ (a_ tr tr) tr) tr))) (parrelref26_Order_l2_ok hμ l l2 next i (parrelref26_Order_l1 l l2 k0 fuel) (fun next i r h => ih next i r h) big _ _ r h) (by kernel_rfl) ⟨fun _ _ => rfl, trivial⟩
      · skip
        rcases itb_some h with ⟨cL1_3, h⟩ | ⟨cL1_3, h⟩
        · skip
          obtain rfl := Option.some.inj h
          exact run_ret mixed (L := []) (n := 24) (s := [.go, .reg [(4, { v := some (.bool true) }), (7, { v := some (.bool false) })], .reg [(1, { v := some (.bool true) })], .reg [(0, { v := some (.ds 1 (([] : List (Int))).length (rowF (cInt .i64) default ([] : List (Int)))) })]])
            (a_ (a_ (a_ (a_ tr tr) (a_ (a_ tr tr) (a_ (a_ tr tr) (a_ (a_ tr tr) (a_ (a_ tr (a_ (leB cL1_1) tr)) (a_ (a_ tr tr) (a_ (a_ tr tr) (a_ (a_ tr (a_ (leB cL1_2) tr)) tr)))))))) (a_ (a_ (a_ tr tr) (a_ (a_ tr (a_ (leB cL1_3) tr)) tr)) (a_ (a_ (a_ tr (a_ (le_nil_ds 1 (rowF (cInt .i64) default [])) tr)) (a_ (a_ tr tr) tr)) tr))) tr) (by kernel_rfl) rfl
        · skip
          obtain ⟨gL1_4, h⟩ := guard_some h
          exact run_to mixed hμ (L := [2]) (n := 25) (s := [.go, .reg [(4, { v := some (.bool true) }), (7, { v := some (.bool false) })], .reg [(1, { v := some (.bool false) })], .reg [(2, { os := [(1, .gr 1 ([next]).length (rowF (cInt .i64) default [next]))], v := some (.gs 1 ([next]).length) }), (3, { app := 3, os := [(2, .gr 1 ((l2 ++ [next])).length (rowF (cInt .i64) default (l2 ++ [next])))], v := some (.gs 2 ((l2 ++ [next])).length) })]])
            (a_ (a_ (a_ tr tr) (a_ (a_ tr tr) (a_ (a_ tr tr) (a_ (a_ tr tr) (a_ (a_ tr (a_ (leB cL1_1) tr)) (a_ (a_ tr tr) (a_ (a_ tr tr) (a_ (a_ tr (a_ (leB cL1_2) tr)) tr)))))))) (a_ (a_ (a_ tr tr) (a_ (a_ tr (a_ (leB cL1_3) tr)) tr)) (a_ (a_ (a_ tr tr) (a_ (a_ tr tr) (a_ (a_ (a_ (Eq.refl true) (a_ (Eq.refl 1) (a_ (lt_ 0 1 rfl) (le_ 1 16777216 rfl)))) (a_ (le_sl_gs 1 1 (some 1) rfl) (a_ (sub_lit (cInt .i64) default 1 (fun _ => rfl) [next]) tr))) (a_ (a_ (a_ (a_ (Eq.refl 1) (Nat.le_refl ([next]).length)) (a_ (a_ (lt_ 0 1 rfl) (a_ (lt_ 0 8 rfl) (a_ gL1_4 (a_ (Eq.refl 1) (Eq.refl true))))) (a_ (Eq.refl 1) (Nat.le_refl (l2).length)))) (a_ (le_gs_app 2 l2 [next]) (a_ (sub_app (cInt .i64) default 1 l2 [next]) tr))) (a_ (a_ tr tr) tr))))) tr))) (hk0 _ r h) (by kernel_rfl) ⟨fun _ _ => rfl, trivial⟩
    · skip
      rcases itb_some h with ⟨cL1_2, h⟩ | ⟨cL1_2, h⟩
      · skip
        obtain rfl := Option.some.inj h
        exact run_ret mixed (L := []) (n := 24) (s := [.go, .reg [(4, { v := some (.bool false) })], .reg [(1, { v := some (.bool true) })], .reg [(0, { v := some (.ds 1 (([] : List (Int))).length (rowF (cInt .i64) default ([] : List (Int)))) })]])
          (a_ (a_ (a_ (a_ tr tr) (a_ (a_ tr tr) (a_ (a_ tr tr) (a_ (a_ tr tr) (a_ (a_ tr (a_ (leB cL1_1) tr)) (a_ tr (a_ tr (a_ (a_ tr tr) tr)))))))) (a_ (a_ (a_ tr tr) (a_ (a_ tr (a_ (leB cL1_2) tr)) tr)) (a_ (a_ (a_ tr (a_ (le_nil_ds 1 (rowF (cInt .i64) default [])) tr)) (a_ (a_ tr tr) tr)) tr))) tr) (by kernel_rfl) rfl
      · skip
        obtain ⟨gL1_3, h⟩ := guard_some h
        exact run_to mixed hμ (L := [2]) (n := 25) (s := [.go, .reg [(4, { v := some (.bool false) })], .reg [(1, { v := some (.bool false) })], .reg [(2, { os := [(1, .gr 1 ([next]).length (rowF (cInt .i64) default [next]))], v := some (.gs 1 ([next]).length) }), (3, { app := 3, os := [(2, .gr 1 ((l2 ++ [next])).length (rowF (cInt .i64) default (l2 ++ [next])))], v := some (.gs 2 ((l2 ++ [next])).length) })]])
          (a_ (a_ (a_ tr tr) (a_ (a_ tr tr) (a_ (a_ tr tr) (a_ (a_ tr tr) (a_ (a_ tr (a_ (leB cL1_1) tr)) (a_ tr (a_ tr (a_ (a_ tr tr) tr)))))))) (a_ (a_ (a_ tr tr) (a_ (a_ tr (a_ (leB cL1_2) tr)) tr)) (a_ (a_ (a_ tr tr) (a_ (a_ tr tr) (a_ (a_ (a_ (Eq.refl true) (a_ (Eq.refl 1) (a_ (lt_ 0 1 rfl) (le_ 1 16777216 rfl)))) (a_ (le_sl_gs 1 1 (some 1) rfl) (a_ (sub_lit (cInt .i64) default 1 (fun _ => rfl) [next]) tr))) (a_ (a_ (a_ (a_ (Eq.refl 1) (Nat.le_refl ([next]).length)) (a_ (a_ (lt_ 0 1 rfl) (a_ (lt_ 0 8 rfl) (a_ gL1_3 (a_ (Eq.refl 1) (Eq.refl true))))) (a_ (Eq.refl 1) (Nat.le_refl (l2).length)))) (a_ (le_gs_app 2 l2 [next]) (a_ (sub_app (cInt .i64) default 1 l2 [next]) tr))) (a_ (a_ tr tr) tr))))) tr))) (hk0 _ r h) (by kernel_rfl) ⟨fun _ _ => rfl, trivial⟩

theorem parrelref26_Order_l0_ok {w0 : World} {W : Nat → Prop} {μ0 : Emb} (hμ : ∀ c p, μ0 c = some p → c < 0) (l : List (T_parrelref26_Tx))  : ∀ (fuel : Nat) (l2 : List (Int)) (r : (List (Int)) × (Int)), parrelref26_Order_l0 l  fuel l2 = some r → kont Try.prog w0 W μ0 (FnPost Try.prog Try.f12 0 0 (parrelref26_Order_v r) []) (kAt (bodyOf Try.f12) 0) none (parrelref26_Order_T0 l l2) (parrelref26_Order_H0 l l2) := by
  intro fuel
  induction fuel with
  | zero => intro l2 r h; rw [parrelref26_Order_l0] at h; cases h
  | succ fuel ih =>
    intro l2 r h
    rw [parrelref26_Order_l0] at h
    rcases itb_some h with ⟨cL0_1, h⟩ | ⟨cL0_1, h⟩
    · skip
      exact run_to mixed hμ (L := [0]) (n := 26) (s := [.go, .reg [(4, { v := some (.bool true) })], .reg [], .reg []])
        (a_ (a_ (a_ tr tr) (a_ (a_ tr tr) (a_ (a_ tr tr) (a_ (a_ tr tr) (a_ (a_ tr (a_ (leB cL0_1) tr)) tr))))) (a_ (a_ (a_ tr tr) tr) (a_ (a_ (a_ tr tr) tr) tr))) (parrelref26_Order_l1_ok hμ l l2 (parrelref26_Order_l0 l  fuel) (fun l2 r h => ih l2 r h) big _ _ r h) (by kernel_rfl) ⟨fun _ _ => rfl, trivial⟩
    · skip
      obtain rfl := Option.some.inj h
      exact run_ret mixed (L := []) (n := 20) (s := [.go, .reg [(4, { v := some (.bool false) })], .reg [], .frz 0])
        (a_ (a_ (a_ (a_ tr tr) (a_ (a_ tr tr) (a_ (a_ tr tr) (a_ (a_ tr tr) (a_ (a_ tr (a_ (leB cL0_1) tr)) tr))))) (a_ (a_ (a_ tr tr) (a_ (a_ tr tr) (a_ (a_ tr tr) tr))) (a_ (a_ (fz_row (enc := (cInt .i64)) (d := default) (fun _ => rfl) l2) (a_ (Nat.le_refl (l2).length) (a_ (Nat.le_refl (l2).length) (a_ (Nat.le_refl (l2).length) (a_ (Nat.le_refl (l2).length) tr))))) tr))) tr) (by kernel_rfl) rfl

theorem parrelref26_Order_ok (l : List (T_parrelref26_Tx)) (r : (List (Int)) × (Int)) (h : parrelref26_Order l = some r) : ∀ σ, Inj 0 σ → FnTri Try.prog 12 (renL σ [.ds 4 (l).length (rowF c_T_parrelref26_Tx default l)]) (preOf σ 0 []) ((parrelref26_Order_v r).ren σ) (upOf σ []) := by
  refine fn_of Try.func12 (by kernel_rfl) (by kernel_rfl) (by kernel_rfl) trivial (by kernel_rfl) trivial (by kernel_rfl) ?_
  intro w0 W μ0 hμ
  unfold parrelref26_Order at h
  obtain ⟨y2, e1, h⟩ := bind_some h
  rcases itb_some h with ⟨c3, h⟩ | ⟨c3, h⟩
  · skip
    obtain rfl := Option.some.inj h
    exact run_ret mixed (L := []) (n := 23) (s := [.reg [(0, { v := some (.ds 1 (([] : List (Int))).length (rowF (cInt .i64) default ([] : List (Int)))) })], .reg [(1, { call := some (parrelref26_Check_v y2, [], []) })], .reg [(1, { v := some (.bool true) })], .reg [(1, { v := some (.ds 1 (([] : List (Int))).length (rowF (cInt .i64) default ([] : List (Int)))) })]])
      (a_ (a_ (a_ (a_ tr (a_ (le_nil_ds 1 (rowF (cInt .i64) default [])) tr)) (a_ (a_ tr tr) tr)) (a_ (a_ (a_ tr tr) (a_ (a_ (a_ (parrelref26_Check_tri l y2 e1) tr) tr) (a_ (a_ tr tr) tr))) (a_ (a_ (a_ tr tr) (a_ (a_ tr (a_ (leB c3) tr)) tr)) (a_ (a_ (a_ tr tr) (a_ (a_ tr (a_ (le_nil_ds 1 (rowF (cInt .i64) default [])) tr)) (a_ (a_ tr tr) tr))) tr)))) tr) (by kernel_rfl) rfl
  · skip
    exact run_to mixed hμ (L := [0]) (n := 28) (s := [.reg [(0, { v := some (.ds 1 (([] : List (Int))).length (rowF (cInt .i64) default ([] : List (Int)))) })], .reg [(1, { call := some (parrelref26_Check_v y2, [], []) })], .reg [(1, { v := some (.bool false) })], .void (.gr 1 (([] : List (Int))).length (rowF (cInt .i64) default ([] : List (Int)))), .reg [(0, { v := some (.gs 0 (([] : List (Int))).length) })]])
      (a_ (a_ (a_ tr (a_ (le_nil_ds 1 (rowF (cInt .i64) default [])) tr)) (a_ (a_ tr tr) tr)) (a_ (a_ (a_ tr tr) (a_ (a_ (a_ (parrelref26_Check_tri l y2 e1) tr) tr) (a_ (a_ tr tr) tr))) (a_ (a_ (a_ tr tr) (a_ (a_ tr (a_ (leB c3) tr)) tr)) (a_ (Eq.refl 0) (a_ (a_ (a_ tr (a_ (le_nil_gs 0) tr)) tr) tr))))) (parrelref26_Order_l0_ok hμ l  big _ r h) (by kernel_rfl) ⟨fun _ _ => rfl, trivial⟩

theorem parrelref26_Order_tri (l : List (T_parrelref26_Tx)) (r : (List (Int)) × (Int)) (h : parrelref26_Order l = some r) : FnTri Try.prog 12 [.ds 4 (l).length (rowF c_T_parrelref26_Tx default l)] [] (parrelref26_Order_v r) [] := FnTri.none (parrelref26_Order_ok l r h) rfl rfl

/-- parrel/parrelref01.Ints -/

def parrelref01_Ints_2_v (r : (Bool)) : LV := .bool r

def parrelref01_Ints_2_T0 (a : List (Int)) (b : List (Int)) (i : Int) : List LV := [.ds 1 (a).length (rowF (cInt .i64) default a), .ds 1 (b).length (rowF (cInt .i64) default b), .any, .any, .any, .int .i64 i, .any, .any, .any, .any, .any, .any, .any, .any, .any, .any, .any, .any, .any, .any, .any, .any, .any, .any, .any, .any]

def parrelref01_Ints_2_H0 (a : List (Int)) (b : List (Int)) (i : Int) : Heap := []

def parrelref01_Ints_2_l0 (a : List (Int)) (b : List (Int))  : Nat → (Int) → Option ((Bool))
  | 0, _ => none
  | fuel + 1, i =>
    if ((decide (i < ((a).length : Int))) : Bool) then
      if 0 ≤ i ∧ i < (((a).length : Nat) : Int) then
      if 0 ≤ i ∧ i < (((b).length : Nat) : Int) then
      if (((a.getD i.toNat default) != (b.getD i.toNat default)) : Bool) then
        some false
      else
        parrelref01_Ints_2_l0 a b  fuel (IntKind.wrap .i64 (i + 1))
      else none
      else none
    else
      some true

def parrelref01_Ints_2 (a : List (Int)) (b : List (Int)) : Option ((Bool)) :=
  if ((((a).length : Int) != ((b).length : Int)) : Bool) then
    some false
  else
    parrelref01_Ints_2_l0 a b  big 0

theorem parrelref01_Ints_2_l0_ok {w0 : World} {W : Nat → Prop} {μ0 : Emb} (hμ : ∀ c p, μ0 c = some p → c < 0) (a : List (Int)) (b : List (Int))  : ∀ (fuel : Nat) (i : Int) (r : (Bool)), parrelref01_Ints_2_l0 a b  fuel i = some r → kont Try.prog w0 W μ0 (FnPost Try.prog Try.f15 0 0 (parrelref01_Ints_2_v r) []) (kAt (bodyOf Try.f15) 0) none (parrelref01_Ints_2_T0 a b i) (parrelref01_Ints_2_H0 a b i) := by
  intro fuel
  induction fuel with
  | zero => intro i r h; rw [parrelref01_Ints_2_l0] at h; cases h
  | succ fuel ih =>
    intro i r h
    rw [parrelref01_Ints_2_l0] at h
    rcases itb_some h with ⟨cL0_1, h⟩ | ⟨cL0_1, h⟩
    · skip
      obtain ⟨gL0_2, h⟩ := guard_some h
      obtain ⟨gL0_3, h⟩ := guard_some h
      rcases itb_some h with ⟨cL0_4, h⟩ | ⟨cL0_4, h⟩
      · skip
        obtain rfl := Option.some.inj h
        exact run_ret mixed (L := []) (n := 25) (s := [.go, .reg [(3, { v := some (.bool true) })], .reg [(8, { v := some (.bool true) })], .reg []])
          (a_ (a_ (a_ (a_ tr tr) (a_ (a_ tr tr) (a_ (a_ tr tr) (a_ (a_ tr (a_ (leB cL0_1) tr)) tr)))) (a_ (a_ (a_ tr tr) (a_ (a_ tr tr) (a_ (a_ (a_ (Eq.refl 1) gL0_2) tr) (a_ (a_ (lt_ 0 1 rfl) tr) (a_ (a_ tr tr) (a_ (a_ tr tr) (a_ (a_ (a_ (Eq.refl 1) gL0_3) tr) (a_ (a_ (lt_ 0 1 rfl) tr) (a_ (a_ tr (a_ (leB cL0_4) tr)) tr))))))))) (a_ (a_ (a_ tr tr) tr) tr))) tr) (by kernel_rfl) rfl
      · skip
        exact run_to mixed hμ (L := []) (n := 26) (s := [.go, .reg [(3, { v := some (.bool true) })], .reg [(8, { v := some (.bool false) })], .reg []])
          (a_ (a_ (a_ tr tr) (a_ (a_ tr tr) (a_ (a_ tr tr) (a_ (a_ tr (a_ (leB cL0_1) tr)) tr)))) (a_ (a_ (a_ tr tr) (a_ (a_ tr tr) (a_ (a_ (a_ (Eq.refl 1) gL0_2) tr) (a_ (a_ (lt_ 0 1 rfl) tr) (a_ (a_ tr tr) (a_ (a_ tr tr) (a_ (a_ (a_ (Eq.refl 1) gL0_3) tr) (a_ (a_ (lt_ 0 1 rfl) tr) (a_ (a_ tr (a_ (leB cL0_4) tr)) tr))))))))) (a_ (a_ (a_ tr tr) (a_ (a_ tr tr) (a_ (a_ tr tr) tr))) tr))) (ih _ r h) (by kernel_rfl) trivial
    · skip
      obtain rfl := Option.some.inj h
      exact run_ret mixed (L := []) (n := 19) (s := [.go, .reg [(3, { v := some (.bool false) })], .reg []])
        (a_ (a_ (a_ (a_ tr tr) (a_ (a_ tr tr) (a_ (a_ tr tr) (a_ (a_ tr (a_ (leB cL0_1) tr)) tr)))) (a_ (a_ (a_ tr tr) tr) tr)) tr) (by kernel_rfl) rfl

theorem parrelref01_Ints_2_ok (a : List (Int)) (b : List (Int)) (r : (Bool)) (h : parrelref01_Ints_2 a b = some r) : ∀ σ, Inj 0 σ → FnTri Try.prog 15 (renL σ [.ds 1 (a).length (rowF (cInt .i64) default a), .ds 1 (b).length (rowF (cInt .i64) default b)]) (preOf σ 0 []) ((parrelref01_Ints_2_v r).ren σ) (upOf σ []) := by
  refine fn_of Try.func15 (by kernel_rfl) (by kernel_rfl) (by kernel_rfl) trivial (by kernel_rfl) trivial (by kernel_rfl) ?_
  intro w0 W μ0 hμ
  unfold parrelref01_Ints_2 at h
  rcases itb_some h with ⟨c1, h⟩ | ⟨c1, h⟩
  · skip
    obtain rfl := Option.some.inj h
    exact run_ret mixed (L := []) (n := 20) (s := [.reg [], .reg [(4, { v := some (.bool true) })], .reg []])
      (a_ (a_ (a_ (a_ tr tr) tr) (a_ (a_ (a_ tr tr) (a_ (a_ tr tr) (a_ (a_ tr tr) (a_ (a_ tr tr) (a_ (a_ tr (a_ (leB c1) tr)) tr))))) (a_ (a_ (a_ tr tr) tr) tr))) tr) (by kernel_rfl) rfl
  · skip
    exact run_to mixed hμ (L := []) (n := 24) (s := [.reg [], .reg [(4, { v := some (.bool false) })], .reg []])
      (a_ (a_ (a_ tr tr) tr) (a_ (a_ (a_ tr tr) (a_ (a_ tr tr) (a_ (a_ tr tr) (a_ (a_ tr tr) (a_ (a_ tr (a_ (leB c1) tr)) tr))))) (a_ (a_ (a_ tr tr) tr) tr))) (parrelref01_Ints_2_l0_ok hμ a b  big _ r h) (by kernel_rfl) trivial

theorem parrelref01_Ints_2_tri (a : List (Int)) (b : List (Int)) (r : (Bool)) (h : parrelref01_Ints_2 a b = some r) : FnTri Try.prog 15 [.ds 1 (a).length (rowF (cInt .i64) default a), .ds 1 (b).length (rowF (cInt .i64) default b)] [] (parrelref01_Ints_2_v r) [] := FnTri.none (parrelref01_Ints_2_ok a b r h) rfl rfl

/-- parrel/parrelref26.far -/

def parrelref26_far_v (r : (Int)) : LV := .int .i64 r

def parrelref26_far_T2 (l : List (T_parrelref26_Tx)) (to : Int) (low : Int) (x_n : Int) (l2 : List (Int)) (i : Int) (x_k : Int) (l6 : List (Int)) (l7 : List (Int)) : List LV := [.ds 4 (l).length (rowF c_T_parrelref26_Tx default l), .any, .int .i64 to, .int .i64 low, .any, .any, .any, .any, .any, .gs 0 (l2).length, .gs 1 (l6).length, .int .i64 x_n, .gs 2 (l7).length, .int .i64 i, .int .i64 x_k, .any, .any, .any, .any, .any, .any, .any, .any, .any, .any, .any, .any, .any, .any, .any, .any, .any, .any, .any, .any, .any, .any, .any, .any, .any, .any, .any, .any, .any, .any, .any, .any, .any, .any, .any, .any, .any, .any, .any, .any, .any, .any, .any, .any, .any, .any, .any, .any, .any, .any, .any, .any, .any, .any, .any, .any, .any, .any, .any, .any]

def parrelref26_far_H2 (l : List (T_parrelref26_Tx)) (to : Int) (low : Int) (x_n : Int) (l2 : List (Int)) (i : Int) (x_k : Int) (l6 : List (Int)) (l7 : List (Int)) : Heap := [some (.gr 1 (l2).length (rowF (cInt .i64) default l2)), some (.gr 1 (l6).length (rowF (cInt .i64) default l6)), some (.gr 1 (l7).length (rowF (cInt .i64) default l7))]

def parrelref26_far_T1 (l : List (T_parrelref26_Tx)) (to : Int) (low : Int) (x_n : Int) (l2 : List (Int)) (i : Int) (l4 : List (Int)) (l5 : List (Int)) : List LV := [.ds 4 (l).length (rowF c_T_parrelref26_Tx default l), .any, .int .i64 to, .int .i64 low, .any, .any, .any, .any, .any, .gs 0 (l2).length, .gs 1 (l4).length, .int .i64 x_n, .gs 2 (l5).length, .int .i64 i, .any, .any, .any, .any, .any, .any, .any, .any, .any, .any, .any, .any, .any, .any, .any, .any, .any, .any, .any, .any, .any, .any, .any, .any, .any, .any, .any, .any, .any, .any, .any, .any, .any, .any, .any, .any, .any, .any, .any, .any, .any, .any, .any, .any, .any, .any, .any, .any, .any, .any, .any, .any, .any, .any, .any, .any, .any, .any, .any, .any, .any]

def parrelref26_far_H1 (l : List (T_parrelref26_Tx)) (to : Int) (low : Int) (x_n : Int) (l2 : List (Int)) (i : Int) (l4 : List (Int)) (l5 : List (Int)) : Heap := [some (.gr 1 (l2).length (rowF (cInt .i64) default l2)), some (.gr 1 (l4).length (rowF (cInt .i64) default l4)), some (.gr 1 (l5).length (rowF (cInt .i64) default l5))]

def parrelref26_far_T0 (l : List (T_parrelref26_Tx)) (to : Int) (low : Int) (x_n : Int) (l2 : List (Int)) (l3 : List (Int)) : List LV := [.ds 4 (l).length (rowF c_T_parrelref26_Tx default l), .any, .int .i64 to, .int .i64 low, .any, .any, .any, .any, .any, .gs 0 (l2).length, .gs 1 (l3).length, .int .i64 x_n, .any, .any, .any, .any, .any, .any, .any, .any, .any, .any, .any, .any, .any, .any, .any, .any, .any, .any, .any, .any, .any, .any, .any, .any, .any, .any, .any, .any, .any, .any, .any, .any, .any, .any, .any, .any, .any, .any, .any, .any, .any, .any, .any, .any, .any, .any, .any, .any, .any, .any, .any, .any, .any, .any, .any, .any, .any, .any, .any, .any, .any, .any, .any]

def parrelref26_far_H0 (l : List (T_parrelref26_Tx)) (to : Int) (low : Int) (x_n : Int) (l2 : List (Int)) (l3 : List (Int)) : Heap := [some (.gr 1 (l2).length (rowF (cInt .i64) default l2)), some (.gr 1 (l3).length (rowF (cInt .i64) default l3))]

def parrelref26_far_l2 (l : List (T_parrelref26_Tx)) (to : Int) (low : Int) (x_n : Int) (l2 : List (Int)) (i : Int) (k1 : (Int) → (List (Int)) → (List (Int)) → Option ((Int))) : Nat → (Int) → (List (Int)) → (List (Int)) → Option ((Int))
  | 0, _, _, _ => none
  | fuel + 1, x_k, l6, l7 =>
    if ((decide (x_k < ((l).length : Int))) : Bool) then
      if 0 ≤ i ∧ i < (((l2).length : Nat) : Int) then
      if ((x_k == (l2.getD i.toNat default)) : Bool) then
        parrelref26_far_l2 l to low x_n l2 i k1 fuel (IntKind.wrap .i64 (x_k + 1)) l6 l7
      else
        if 0 ≤ (l2.getD i.toNat default) ∧ (l2.getD i.toNat default) < (((l).length : Nat) : Int) then
        if 0 ≤ x_k ∧ x_k < (((l).length : Nat) : Int) then
        (parrelref26_ahead (l.getD ((l2.getD i.toNat default)).toNat default) (l.getD x_k.toNat default)).bind fun yL2_7 =>
        if ((!yL2_7) : Bool) then
          parrelref26_far_l2 l to low x_n l2 i k1 fuel (IntKind.wrap .i64 (x_k + 1)) l6 l7
        else
          if ((x_k == to) : Bool) then
            some x_n
          else
            (parrelref26_has_2 l6 x_k).bind fun yL2_11 =>
            if ((!yL2_11) : Bool) then
              if ((l6).length + ([x_k]).length) * 8 ≤ 140737488351232 then
              if ((l7).length + ([x_k]).length) * 8 ≤ 140737488351232 then
              parrelref26_far_l2 l to low x_n l2 i k1 fuel (IntKind.wrap .i64 (x_k + 1)) (l6 ++ [x_k]) (l7 ++ [x_k])
              else none
              else none
            else
              parrelref26_far_l2 l to low x_n l2 i k1 fuel (IntKind.wrap .i64 (x_k + 1)) l6 l7
        else none
        else none
      else none
    else
      k1 (IntKind.wrap .i64 (i + 1)) l6 l7

def parrelref26_far_l1 (l : List (T_parrelref26_Tx)) (to : Int) (low : Int) (x_n : Int) (l2 : List (Int)) (k0 : (Int) → (List (Int)) → (List (Int)) → Option ((Int))) : Nat → (Int) → (List (Int)) → (List (Int)) → Option ((Int))
  | 0, _, _, _ => none
  | fuel + 1, i, l4, l5 =>
    if ((decide (i < ((l2).length : Int))) : Bool) then
      parrelref26_far_l2 l to low x_n l2 i (parrelref26_far_l1 l to low x_n l2 k0 fuel) big low l4 l5
    else
      k0 (IntKind.wrap .i64 (x_n + 1)) l5 l4

def parrelref26_far_l0 (l : List (T_parrelref26_Tx)) (to : Int) (low : Int)  : Nat → (Int) → (List (Int)) → (List (Int)) → Option ((Int))
  | 0, _, _, _ => none
  | fuel + 1, x_n, l2, l3 =>
    if ((decide (0 < ((l2).length : Int))) : Bool) then
      parrelref26_far_l1 l to low x_n l2 (parrelref26_far_l0 l to low  fuel) big 0 l3 ([] : List (Int))
    else
      some 0

def parrelref26_far (l : List (T_parrelref26_Tx)) (x_from : Int) (to : Int) (low : Int) : Option ((Int)) :=
  parrelref26_far_l0 l to low  big 1 ([x_from]) ([x_from])

theorem parrelref26_far_l2_ok {w0 : World} {W : Nat → Prop} {μ0 : Emb} (hμ : ∀ c p, μ0 c = some p → c < 0) (l : List (T_parrelref26_Tx)) (to : Int) (low : Int) (x_n : Int) (l2 : List (Int)) (i : Int) (k1 : (Int) → (List (Int)) → (List (Int)) → Option ((Int))) (hk1 : ∀ (i : Int) (l4 : List (Int)) (l5 : List (Int)) (r : (Int)), k1 i l4 l5 = some r → kont Try.prog w0 W μ0 (FnPost Try.prog Try.f34 0 0 (parrelref26_far_v r) []) (kAt (bodyOf Try.f34) 1) none (parrelref26_far_T1 l to low x_n l2 i l4 l5) (parrelref26_far_H1 l to low x_n l2 i l4 l5)) : ∀ (fuel : Nat) (x_k : Int) (l6 : List (Int)) (l7 : List (Int)) (r : (Int)), parrelref26_far_l2 l to low x_n l2 i k1 fuel x_k l6 l7 = some r → kont Try.prog w0 W μ0 (FnPost Try.prog Try.f34 0 0 (parrelref26_far_v r) []) (kAt (bodyOf Try.f34) 2) none (parrelref26_far_T2 l to low x_n l2 i x_k l6 l7) (parrelref26_far_H2 l to low x_n l2 i x_k l6 l7) := by
  intro fuel
  induction fuel with
  | zero => intro x_k l6 l7 r h; rw [parrelref26_far_l2] at h; cases h
  | succ fuel ih =>
    intro x_k l6 l7 r h
    rw [parrelref26_far_l2] at h
    rcases itb_some h with ⟨cL2_1, h⟩ | ⟨cL2_1, h⟩
    · skip
      obtain ⟨gL2_2, h⟩ := guard_some h
      rcases itb_some h with ⟨cL2_3, h⟩ | ⟨cL2_3, h⟩
      · skip
        exact run_to mixed hμ (L := [0, 1, 2]) (n := 26) (s := [.go, .reg [(3, { v := some (.bool true) })], .reg [(6, { v := some (.bool true) })], .reg []])
          (a_ (a_ (a_ tr tr) (a_ (a_ tr tr) (a_ (a_ tr tr) (a_ (a_ tr (a_ (leB cL2_1) tr)) tr)))) (a_ (a_ (a_ tr tr) (a_ (a_ tr tr) (a_ (a_ tr tr) (a_ (a_ (a_ (Eq.refl 1) gL2_2) tr) (a_ (a_ (a_ (ltN gL2_2) (lt_ 0 1 rfl)) tr) (a_ (a_ tr tr) (a_ (a_ tr (a_ (leB cL2_3) tr)) (a_ tr (a_ tr (a_ tr (a_ tr (a_ tr (a_ tr (a_ tr (a_ tr (a_ tr (a_ tr (a_ tr (a_ tr (a_ tr (a_ (a_ tr tr) tr))))))))))))))))))))) (a_ (a_ (a_ tr tr) (a_ (a_ tr tr) (a_ (a_ tr tr) tr))) tr))) (ih _ _ _ r h) (by kernel_rfl) ⟨fun _ _ => rfl, fun _ _ => rfl, fun _ _ => rfl, trivial⟩
      · skip
        obtain ⟨gL2_4, h⟩ := guard_some h
        obtain ⟨gL2_5, h⟩ := guard_some h
        obtain ⟨yL2_7, eL2_6, h⟩ := bind_some h
        rcases itb_some h with ⟨cL2_8, h⟩ | ⟨cL2_8, h⟩
        · skip
          exact run_to mixed hμ (L := [0, 1, 2]) (n := 26) (s := [.go, .reg [(3, { v := some (.bool true) })], .reg [(6, { v := some (.bool false) }), (18, { call := some (parrelref26_ahead_v yL2_7, [], []) }), (20, { v := some (.bool true) })], .reg []])
            (a_ (a_ (a_ tr tr) (a_ (a_ tr tr) (a_ (a_ tr tr) (a_ (a_ tr (a_ (leB cL2_1) tr)) tr)))) (a_ (a_ (a_ tr tr) (a_ (a_ tr tr) (a_ (a_ tr tr) (a_ (a_ (a_ (Eq.refl 1) gL2_2) tr) (a_ (a_ (a_ (ltN gL2_2) (lt_ 0 1 rfl)) tr) (a_ (a_ tr tr) (a_ (a_ tr (a_ (leB cL2_3) tr)) (a_ (a_ tr tr) (a_ (a_ tr tr) (a_ (a_ tr tr) (a_ (a_ (a_ (Eq.refl 1) gL2_2) tr) (a_ (a_ (a_ (ltN gL2_2) (lt_ 0 1 rfl)) tr) (a_ (a_ (a_ (Eq.refl 4) gL2_4) tr) (a_ (a_ (le_ 4 4 rfl) tr) (a_ (a_ tr tr) (a_ (a_ tr tr) (a_ (a_ (a_ (Eq.refl 4) gL2_5) tr) (a_ (a_ (le_ 4 4 rfl) tr) (a_ (a_ (a_ (parrelref26_ahead_tri (l.getD ((l2.getD i.toNat default)).toNat default) (l.getD x_k.toNat default) yL2_7 eL2_6) tr) tr) (a_ (a_ tr tr) (a_ (a_ tr (a_ (leB cL2_8) tr)) tr))))))))))))))))))))) (a_ (a_ (a_ tr tr) (a_ (a_ tr tr) (a_ (a_ tr tr) tr))) tr))) (ih _ _ _ r h) (by kernel_rfl) ⟨fun _ _ => rfl, fun _ _ => rfl, fun _ _ => rfl, trivial⟩
        · skip
          rcases itb_some h with ⟨cL2_9, h⟩ | ⟨cL2_9, h⟩
          · skip
            obtain rfl := Option.some.inj h
            exact run_ret mixed (L := []) (n := 32) (s := [.go, .reg [(3, { v := some (.bool true) })], .reg [(6, { v := some (.bool false) }), (18, { call := some (parrelref26_ahead_v yL2_7, [], []) }), (20, { v := some (.bool false) })], .reg [(2, { v := some (.bool true) })], .reg []])
              (a_ (a_ (a_ (a_ tr tr) (a_ (a_ tr tr) (a_ (a_ tr tr) (a_ (a_ tr (a_ (leB cL2_1) tr)) tr)))) (a_ (a_ (a_ tr tr) (a_ (a_ tr tr) (a_ (a_ tr tr) (a_ (a_ (a_ (Eq.refl 1) gL2_2) tr) (a_ (a_ (a_ (ltN gL2_2) (lt_ 0 1 rfl)) tr) (a_ (a_ tr tr) (a_ (a_ tr (a_ (leB cL2_3) tr)) (a_ (a_ tr tr) (a_ (a_ tr tr) (a_ (a_ tr tr) (a_ (a_ (a_ (Eq.refl 1) gL2_2) tr) (a_ (a_ (a_ (ltN gL2_2) (lt_ 0 1 rfl)) tr) (a_ (a_ (a_ (Eq.refl 4) gL2_4) tr) (a_ (a_ (le_ 4 4 rfl) tr) (a_ (a_ tr tr) (a_ (a_ tr tr) (a_ (a_ (a_ (Eq.refl 4) gL2_5) tr) (a_ (a_ (le_ 4 4 rfl) tr) (a_ (a_ (a_ (parrelref26_ahead_tri (l.getD ((l2.getD i.toNat default)).toNat default) (l.getD x_k.toNat default) yL2_7 eL2_6) tr) tr) (a_ (a_ tr tr) (a_ (a_ tr (a_ (leB cL2_8) tr)) tr))))))))))))))))))))) (a_ (a_ (a_ tr tr) (a_ (a_ tr tr) (a_ (a_ tr (a_ (leB cL2_9) tr)) tr))) (a_ (a_ (a_ tr tr) (a_ (a_ tr tr) tr)) tr)))) tr) (by kernel_rfl) rfl
          · skip
            obtain ⟨yL2_11, eL2_10, h⟩ := bind_some h
            rcases itb_some h with ⟨cL2_12, h⟩ | ⟨cL2_12, h⟩
            · skip
              obtain ⟨gL2_13, h⟩ := guard_some h
              obtain ⟨gL2_14, h⟩ := guard_some h
              exact run_to mixed hμ (L := [0, 4, 6]) (n := 42) (s := [.go, .reg [(3, { v := some (.bool true) })], .reg [(6, { v := some (.bool false) }), (18, { call := some (parrelref26_ahead_v yL2_7, [], []) }), (20, { v := some (.bool false) })], .reg [(2, { v := some (.bool false) })], .reg [(2, { call := some ((parrelref26_has_2_v yL2_11).ren (sel [1]), preOf (sel [1]) 0 (parrelref26_has_2_objs l6 x_k), upOf (sel [1]) (parrelref26_has_2_up l6 x_k yL2_11)) }), (3, { v := some (.bool true) })], .reg [(2, { os := [(3, .gr 1 ([x_k]).length (rowF (cInt .i64) default [x_k]))], v := some (.gs 3 ([x_k]).length) }), (3, { app := 3, os := [(4, .gr 1 ((l6 ++ [x_k])).length (rowF (cInt .i64) default (l6 ++ [x_k])))], v := some (.gs 4 ((l6 ++ [x_k])).length) })], .reg [(2, { os := [(5, .gr 1 ([x_k]).length (rowF (cInt .i64) default [x_k]))], v := some (.gs 5 ([x_k]).length) }), (3, { app := 3, os := [(6, .gr 1 ((l7 ++ [x_k])).length (rowF (cInt .i64) default (l7 ++ [x_k])))], v := some (.gs 6 ((l7 ++ [x_k])).length) })], .reg []])
                (a_ (a_ (a_ tr tr) (a_ (a_ tr tr) (a_ (a_ tr tr) (a_ (a_ tr (a_ (leB cL2_1) tr)) tr)))) (a_ (a_ (a_ tr tr) (a_ (a_ tr tr) (a_ (a_ tr tr) (a_ (a_ (a_ (Eq.refl 1) gL2_2) tr) (a_ (a_ (a_ (ltN gL2_2) (lt_ 0 1 rfl)) tr) (a_ (a_ tr tr) (a_ (a_ tr (a_ (leB cL2_3) tr)) (a_ (a_ tr tr) (a_ (a_ tr tr) (a_ (a_ tr tr) (a_ (a_ (a_ (Eq.refl 1) gL2_2) tr) (a_ (a_ (a_ (ltN gL2_2) (lt_ 0 1 rfl)) tr) (a_ (a_ (a_ (Eq.refl 4) gL2_4) tr) (a_ (a_ (le_ 4 4 rfl) tr) (a_ (a_ tr tr) (a_ (a_ tr tr) (a_ (a_ (a_ (Eq.refl 4) gL2_5) tr) (a_ (a_ (le_ 4 4 rfl) tr) (a_ (a_ (a_ (parrelref26_ahead_tri (l.getD ((l2.getD i.toNat default)).toNat default) (l.getD x_k.toNat default) yL2_7 eL2_6) tr) tr) (a_ (a_ tr tr) (a_ (a_ tr (a_ (leB cL2_8) tr)) tr))))))))))))))))))))) (a_ (a_ (a_ tr tr) (a_ (a_ tr tr) (a_ (a_ tr (a_ (leB cL2_9) tr)) tr))) (a_ (a_ (a_ tr tr) (a_ (a_ tr tr) (a_ (a_ (a_ (parrelref26_has_2_ok l6 x_k yL2_11 eL2_10 (sel [1]) (sel_inj rfl rfl)) (a_ (LO.Le.refl (.gr 1 (l6).length (rowF (cInt .i64) default l6))) tr)) tr) (a_ (a_ tr (a_ (leB cL2_12) tr)) tr)))) (a_ (a_ (a_ tr tr) (a_ (a_ tr tr) (a_ (a_ (a_ (Eq.refl true) (a_ (Eq.refl 1) (a_ (lt_ 0 1 rfl) (le_ 1 16777216 rfl)))) (a_ (le_sl_gs 3 1 (some 1) rfl) (a_ (sub_lit (cInt .i64) default 1 (fun _ => rfl) [x_k]) tr))) (a_ (a_ (a_ (a_ (Eq.refl 1) (Nat.le_refl ([x_k]).length)) (a_ (a_ (lt_ 0 1 rfl) (a_ (lt_ 0 8 rfl) (a_ gL2_13 (a_ (Eq.refl 1) (Eq.refl true))))) (a_ (Eq.refl 1) (Nat.le_refl (l6).length)))) (a_ (le_gs_app 4 l6 [x_k]) (a_ (sub_app (cInt .i64) default 1 l6 [x_k]) tr))) (a_ (a_ tr tr) tr))))) (a_ (a_ (a_ tr tr) (a_ (a_ tr tr) (a_ (a_ (a_ (Eq.refl true) (a_ (Eq.refl 1) (a_ (lt_ 0 1 rfl) (le_ 1 16777216 rfl)))) (a_ (le_sl_gs 5 1 (some 1) rfl) (a_ (sub_lit (cInt .i64) default 1 (fun _ => rfl) [x_k]) tr))) (a_ (a_ (a_ (a_ (Eq.refl 1) (Nat.le_refl ([x_k]).length)) (a_ (a_ (lt_ 0 1 rfl) (a_ (lt_ 0 8 rfl) (a_ gL2_14 (a_ (Eq.refl 1) (Eq.refl true))))) (a_ (Eq.refl 1) (Nat.le_refl (l7).length)))) (a_ (le_gs_app 6 l7 [x_k]) (a_ (sub_app (cInt .i64) default 1 l7 [x_k]) tr))) (a_ (a_ tr tr) tr))))) (a_ (a_ (a_ tr tr) (a_ (a_ tr tr) (a_ (a_ tr tr) tr))) tr))))))) (ih _ _ _ r h) (by kernel_rfl) ⟨fun _ _ => rfl, fun _ _ => rfl, fun _ _ => rfl, trivial⟩
            · skip
              exact run_to mixed hμ (L := [0, 1, 2]) (n := 38) (s := [.go, .reg [(3, { v := some (.bool true) })], .reg [(6, { v := some (.bool false) }), (18, { call := some (parrelref26_ahead_v yL2_7, [], []) }), (20, { v := some (.bool false) })], .reg [(2, { v := some (.bool false) })], .reg [(2, { call := some ((parrelref26_has_2_v yL2_11).ren (sel [1]), preOf (sel [1]) 0 (parrelref26_has_2_objs l6 x_k), upOf (sel [1]) (parrelref26_has_2_up l6 x_k yL2_11)) }), (3, { v := some (.bool false) })], .reg []])
                (a_ (a_ (a_ tr tr) (a_ (a_ tr tr) (a_ (a_ tr tr) (a_ (a_ tr (a_ (leB cL2_1) tr)) tr)))) (a_ (a_ (a_ tr tr) (a_ (a_ tr tr) (a_ (a_ tr tr) (a_ (a_ (a_ (Eq.refl 1) gL2_2) tr) (a_ (a_ (a_ (ltN gL2_2) (lt_ 0 1 rfl)) tr) (a_ (a_ tr tr) (a_ (a_ tr (a_ (leB cL2_3) tr)) (a_ (a_ tr tr) (a_ (a_ tr tr) (a_ (a_ tr tr) (a_ (a_ (a_ (Eq.refl 1) gL2_2) tr) (a_ (a_ (a_ (ltN gL2_2) (lt_ 0 1 rfl)) tr) (a_ (a_ (a_ (Eq.refl 4) gL2_4) tr) (a_ (a_ (le_ 4 4 rfl) tr) (a_ (a_ tr tr) (a_ (a_ tr tr) (a_ (a_ (a_ (Eq.refl 4) gL2_5) tr) (a_ (a_ (le_ 4 4 rfl) tr) (a_ (a_ (a_ (parrelref26_ahead_tri (l.getD ((l2.getD i.toNat default)).toNat default) (l.getD x_k.toNat default) yL2_7 eL2_6) tr) tr) (a_ (a_ tr tr) (a_ (a_ tr (a_ (leB cL2_8) tr)) tr))))))))))))))))))))) (a_ (a_ (a_ tr tr) (a_ (a_ tr tr) (a_ (a_ tr (a_ (leB cL2_9) tr)) tr))) (a_ (a_ (a_ tr tr) (a_ (a_ tr tr) (a_ (a_ (a_ (parrelref26_has_2_ok l6 x_k yL2_11 eL2_10 (sel [1]) (sel_inj rfl rfl)) (a_ (LO.Le.refl (.gr 1 (l6).length (rowF (cInt .i64) default l6))) tr)) tr) (a_ (a_ tr (a_ (leB cL2_12) tr)) tr)))) (a_ (a_ (a_ tr tr) (a_ (a_ tr tr) (a_ (a_ tr tr) tr))) tr))))) (ih _ _ _ r h) (by kernel_rfl) ⟨fun _ _ => rfl, fun _ _ => rfl, fun _ _ => rfl, trivial⟩
    · skip
      exact run_to mixed hμ (L := [0, 1, 2]) (n := 19) (s := [.go, .reg [(3, { v := some (.bool false) })], .reg []])
        (a_ (a_ (a_ tr tr) (a_ (a_ tr tr) (a_ (a_ tr tr) (a_ (a_ tr (a_ (leB cL2_1) tr)) tr)))) (a_ (a_ (a_ tr tr) (a_ (a_ tr tr) (a_ (a_ tr tr) tr))) tr)) (hk1 _ _ _ r h) (by kernel_rfl) ⟨fun _ _ => rfl, fun _ _ => rfl, fun _ _ => rfl, trivial⟩

theorem parrelref26_far_l1_ok {w0 : World} {W : Nat → Prop} {μ0 : Emb} (hμ : ∀ c p, μ0 c = some p → c < 0) (l : List (T_parrelref26_Tx)) (to : Int) (low : Int) (x_n : Int) (l2 : List (Int)) (k0 : (Int) → (List (Int)) → (List (Int)) → Option ((Int))) (hk0 : ∀ (x_n : Int) (l2 : List (Int)) (l3 : List (Int)) (r : (Int)), k0 x_n l2 l3 = some r → kont Try.prog w0 W μ0 (FnPost Try.prog Try.f34 0 0 (parrelref26_far_v r) []) (kAt (bodyOf Try.f34) 0) none (parrelref26_far_T0 l to low x_n l2 l3) (parrelref26_far_H0 l to low x_n l2 l3)) : ∀ (fuel : Nat) (i : Int) (l4 : List (Int)) (l5 : List (Int)) (r : (Int)), parrelref26_far_l1 l to low x_n l2 k0 fuel i l4 l5 = some r → kont Try.prog w0 W μ0 (FnPost Try.prog Try.f34 0 0 (parrelref26_far_v r) []) (kAt (bodyOf Try.f34) 1) none (parrelref26_far_T1 l to low x_n l2 i l4 l5) (parrelref26_far_H1 l to low x_n l2 i l4 l5) := by
  intro fuel
  induction fuel with
  | zero => intro i l4 l5 r h; rw [parrelref26_far_l1] at h; cases h
  | succ fuel ih =>
    intro i l4 l5 r h
    rw [parrelref26_far_l1] at h
    rcases itb_some h with ⟨cL1_1, h⟩ | ⟨cL1_1, h⟩
    · skip
      exact run_to mixed hμ (L := [0, 1, 2]) (n := 23) (s := [.go, .reg [(3, { v := some (.bool true) })], .reg []])
        (a_ (a_ (a_ tr tr) (a_ (a_ tr tr) (a_ (a_ tr tr) (a_ (a_ tr (a_ (leB cL1_1) tr)) tr)))) (a_ (a_ (a_ tr tr) (a_ (a_ tr tr) tr)) tr)) (parrelref26_far_l2_ok hμ l to low x_n l2 i (parrelref26_far_l1 l to low x_n l2 k0 fuel) (fun i l4 l5 r h => ih i l4 l5 r h) big _ _ _ r h) (by kernel_rfl) ⟨fun _ _ => rfl, fun _ _ => rfl, fun _ _ => rfl, trivial⟩
    · skip
      exact run_to mixed hμ (L := [2, 1]) (n := 21) (s := [.go, .reg [(3, { v := some (.bool false) })], .reg [], .reg []])
        (a_ (a_ (a_ tr tr) (a_ (a_ tr tr) (a_ (a_ tr tr) (a_ (a_ tr (a_ (leB cL1_1) tr)) tr)))) (a_ (a_ (a_ tr tr) (a_ (a_ tr tr) tr)) (a_ (a_ (a_ tr tr) (a_ (a_ tr tr) (a_ (a_ tr tr) tr))) tr))) (hk0 _ _ _ r h) (by kernel_rfl) ⟨fun _ _ => rfl, fun _ _ => rfl, trivial⟩

theorem parrelref26_far_l0_ok {w0 : World} {W : Nat → Prop} {μ0 : Emb} (hμ : ∀ c p, μ0 c = some p → c < 0) (l : List (T_parrelref26_Tx)) (to : Int) (low : Int)  : ∀ (fuel : Nat) (x_n : Int) (l2 : List (Int)) (l3 : List (Int)) (r : (Int)), parrelref26_far_l0 l to low  fuel x_n l2 l3 = some r → kont Try.prog w0 W μ0 (FnPost Try.prog Try.f34 0 0 (parrelref26_far_v r) []) (kAt (bodyOf Try.f34) 0) none (parrelref26_far_T0 l to low x_n l2 l3) (parrelref26_far_H0 l to low x_n l2 l3) := by
  intro fuel
  induction fuel with
  | zero => intro x_n l2 l3 r h; rw [parrelref26_far_l0] at h; cases h
  | succ fuel ih =>
    intro x_n l2 l3 r h
    rw [parrelref26_far_l0] at h
    rcases itb_some h with ⟨cL0_1, h⟩ | ⟨cL0_1, h⟩
    · skip
      exact run_to mixed hμ (L := [0, 1, 2]) (n := 28) (s := [.go, .reg [(2, { v := some (.bool true) })], .void (.gr 1 (([] : List (Int))).length (rowF (cInt .i64) default ([] : List (Int)))), .reg [(0, { v := some (.gs 2 (([] : List (Int))).length) })], .reg []])
        (a_ (a_ (a_ tr tr) (a_ (a_ tr tr) (a_ (a_ tr (a_ (leB cL0_1) tr)) tr))) (a_ (Eq.refl 0) (a_ (a_ (a_ tr (a_ (le_nil_gs 2) tr)) tr) (a_ (a_ (a_ tr tr) tr) tr)))) (parrelref26_far_l1_ok hμ l to low x_n l2 (parrelref26_far_l0 l to low  fuel) (fun x_n l2 l3 r h => ih x_n l2 l3 r h) big _ _ _ r h) (by kernel_rfl) ⟨fun _ _ => rfl, fun _ _ => rfl, fun _ _ => rfl, trivial⟩
    · skip
      obtain rfl := Option.some.inj h
      exact run_ret mixed (L := []) (n := 19) (s := [.go, .reg [(2, { v := some (.bool false) })], .reg []])
        (a_ (a_ (a_ (a_ tr tr) (a_ (a_ tr tr) (a_ (a_ tr (a_ (leB cL0_1) tr)) tr))) (a_ (a_ (a_ tr tr) tr) tr)) tr) (by kernel_rfl) rfl

theorem parrelref26_far_ok (l : List (T_parrelref26_Tx)) (x_from : Int) (to : Int) (low : Int) (r : (Int)) (h : parrelref26_far l x_from to low = some r) : ∀ σ, Inj 0 σ → FnTri Try.prog 34 (renL σ [.ds 4 (l).length (rowF c_T_parrelref26_Tx default l), .int .i64 x_from, .int .i64 to, .int .i64 low]) (preOf σ 0 []) ((parrelref26_far_v r).ren σ) (upOf σ []) := by
  refine fn_of Try.func34 (by kernel_rfl) (by kernel_rfl) (by kernel_rfl) trivial (by kernel_rfl) trivial (by kernel_rfl) ?_
  intro w0 W μ0 hμ
  unfold parrelref26_far at h
  exact run_to mixed hμ (L := [0, 1]) (n := 24) (s := [.reg [], .reg [(1, { os := [(0, .gr 1 ([x_from]).length (rowF (cInt .i64) default [x_from]))], v := some (.gs 0 ([x_from]).length) })], .reg [(1, { os := [(1, .gr 1 ([x_from]).length (rowF (cInt .i64) default [x_from]))], v := some (.gs 1 ([x_from]).length) })], .reg []])
    (a_ (a_ (a_ tr tr) tr) (a_ (a_ (a_ tr tr) (a_ (a_ (a_ (Eq.refl true) (a_ (Eq.refl 1) (a_ (lt_ 0 1 rfl) (le_ 1 16777216 rfl)))) (a_ (le_sl_gs 0 1 (some 1) rfl) (a_ (sub_lit (cInt .i64) default 1 (fun _ => rfl) [x_from]) tr))) (a_ (a_ tr tr) tr))) (a_ (a_ (a_ tr tr) (a_ (a_ (a_ (Eq.refl true) (a_ (Eq.refl 1) (a_ (lt_ 0 1 rfl) (le_ 1 16777216 rfl)))) (a_ (le_sl_gs 1 1 (some 1) rfl) (a_ (sub_lit (cInt .i64) default 1 (fun _ => rfl) [x_from]) tr))) (a_ (a_ tr tr) tr))) (a_ (a_ (a_ tr tr) tr) tr)))) (parrelref26_far_l0_ok hμ l to low  big _ _ _ r h) (by kernel_rfl) ⟨fun _ _ => rfl, fun _ _ => rfl, trivial⟩

theorem parrelref26_far_tri (l : List (T_parrelref26_Tx)) (x_from : Int) (to : Int) (low : Int) (r : (Int)) (h : parrelref26_far l x_from to low = some r) : FnTri Try.prog 34 [.ds 4 (l).length (rowF c_T_parrelref26_Tx default l), .int .i64 x_from, .int .i64 to, .int .i64 low] [] (parrelref26_far_v r) [] := FnTri.none (parrelref26_far_ok l x_from to low r h) rfl rfl

/-- parrel/parrelref26.Circle -/

def parrelref26_Circle_v (r : (List (Int))) : LV := .ds 1 (r).length (rowF (cInt .i64) default r)

def parrelref26_Circle_T2 (l : List (T_parrelref26_Tx)) (first : Int) (left : Int) (l2 : List (Int)) (x_k : Int) : List LV := [.ds 4 (l).length (rowF c_T_parrelref26_Tx default l), .any, .any, .any, .any, .any, .int .i64 first, .any, .any, .gs 0 (l2).length, .int .i64 left, .int .i64 (l2.getD ((IntKind.wrap .i64 (((l2).length : Int) - 1))).toNat default), .int .i64 x_k, .any, .any, .any, .any, .any, .any, .any, .any, .any, .any, .any, .any, .any, .any, .any, .any, .any, .any, .any, .any, .any, .any, .any, .any, .any, .any, .any, .any, .any, .any, .any, .any, .any, .any, .any, .any, .any, .any, .any, .any, .any, .any, .any, .any, .any, .any, .any, .any, .any, .any, .any, .any, .any, .any, .any, .any, .any, .any, .any, .any, .any, .any, .any, .any, .any, .any, .any, .any, .any, .any, .any, .any, .any, .any, .any, .any, .any, .any, .any, .any, .any]

def parrelref26_Circle_H2 (l : List (T_parrelref26_Tx)) (first : Int) (left : Int) (l2 : List (Int)) (x_k : Int) : Heap := [some (.gr 1 (l2).length (rowF (cInt .i64) default l2))]

def parrelref26_Circle_T1 (l : List (T_parrelref26_Tx)) (first : Int) (left : Int) (l2 : List (Int)) : List LV := [.ds 4 (l).length (rowF c_T_parrelref26_Tx default l), .any, .any, .any, .any, .any, .int .i64 first, .any, .any, .gs 0 (l2).length, .int .i64 left, .any, .any, .any, .any, .any, .any, .any, .any, .any, .any, .any, .any, .any, .any, .any, .any, .any, .any, .any, .any, .any, .any, .any, .any, .any, .any, .any, .any, .any, .any, .any, .any, .any, .any, .any, .any, .any, .any, .any, .any, .any, .any, .any, .any, .any, .any, .any, .any, .any, .any, .any, .any, .any, .any, .any, .any, .any, .any, .any, .any, .any, .any, .any, .any, .any, .any, .any, .any, .any, .any, .any, .any, .any, .any, .any, .any, .any, .any, .any, .any, .any, .any, .any]

def parrelref26_Circle_H1 (l : List (T_parrelref26_Tx)) (first : Int) (left : Int) (l2 : List (Int)) : Heap := [some (.gr 1 (l2).length (rowF (cInt .i64) default l2))]

def parrelref26_Circle_T0 (l : List (T_parrelref26_Tx)) (least : Int) (first : Int) (i : Int) : List LV := [.ds 4 (l).length (rowF c_T_parrelref26_Tx default l), .any, .any, .any, .any, .int .i64 least, .int .i64 first, .int .i64 i, .any, .any, .any, .any, .any, .any, .any, .any, .any, .any, .any, .any, .any, .any, .any, .any, .any, .any, .any, .any, .any, .any, .any, .any, .any, .any, .any, .any, .any, .any, .any, .any, .any, .any, .any, .any, .any, .any, .any, .any, .any, .any, .any, .any, .any, .any, .any, .any, .any, .any, .any, .any, .any, .any, .any, .any, .any, .any, .any, .any, .any, .any, .any, .any, .any, .any, .any, .any, .any, .any, .any, .any, .any, .any, .any, .any, .any, .any, .any, .any, .any, .any, .any, .any, .any, .any]

def parrelref26_Circle_H0 (l : List (T_parrelref26_Tx)) (least : Int) (first : Int) (i : Int) : Heap := []

def parrelref26_Circle_l2 (l : List (T_parrelref26_Tx)) (first : Int) (left : Int) (l2 : List (Int)) (k1 : (Int) → (List (Int)) → Option ((List (Int)))) : Nat → (Int) → Option ((List (Int)))
  | 0, _ => none
  | fuel + 1, x_k =>
    if ((decide (x_k < ((l).length : Int))) : Bool) then
      if ((x_k != (l2.getD ((IntKind.wrap .i64 (((l2).length : Int) - 1))).toNat default)) : Bool) then
        if 0 ≤ (l2.getD ((IntKind.wrap .i64 (((l2).length : Int) - 1))).toNat default) ∧ (l2.getD ((IntKind.wrap .i64 (((l2).length : Int) - 1))).toNat default) < (((l).length : Nat) : Int) then
        if 0 ≤ x_k ∧ x_k < (((l).length : Nat) : Int) then
        (parrelref26_ahead (l.getD ((l2.getD ((IntKind.wrap .i64 (((l2).length : Int) - 1))).toNat default)).toNat default) (l.getD x_k.toNat default)).bind fun yL2_6 =>
        if (yL2_6 : Bool) then
          (parrelref26_far l x_k first first).bind fun yL2_9 =>
          if ((yL2_9 == left) : Bool) then
            if ((l2).length + ([x_k]).length) * 8 ≤ 140737488351232 then
            k1 (IntKind.wrap .i64 (left - 1)) (l2 ++ [x_k])
            else none
          else
            parrelref26_Circle_l2 l first left l2 k1 fuel (IntKind.wrap .i64 (x_k + 1))
        else
          parrelref26_Circle_l2 l first left l2 k1 fuel (IntKind.wrap .i64 (x_k + 1))
        else none
        else none
      else
        parrelref26_Circle_l2 l first left l2 k1 fuel (IntKind.wrap .i64 (x_k + 1))
    else
      k1 (IntKind.wrap .i64 (left - 1)) l2

def parrelref26_Circle_l1 (l : List (T_parrelref26_Tx)) (first : Int)  : Nat → (Int) → (List (Int)) → Option ((List (Int)))
  | 0, _, _ => none
  | fuel + 1, left, l2 =>
    if ((decide (0 < left)) : Bool) then
      if 0 ≤ (IntKind.wrap .i64 (((l2).length : Int) - 1)) ∧ (IntKind.wrap .i64 (((l2).length : Int) - 1)) < (((l2).length : Nat) : Int) then
      parrelref26_Circle_l2 l first left l2 (parrelref26_Circle_l1 l first  fuel) big (IntKind.wrap .i64 (first + 1))
      else none
    else
      some l2

def parrelref26_Circle_l0 (l : List (T_parrelref26_Tx))  : Nat → (Int) → (Int) → (Int) → Option ((List (Int)))
  | 0, _, _, _ => none
  | fuel + 1, least, first, i =>
    if ((decide (i < ((l).length : Int))) : Bool) then
      (parrelref26_far l i i i).bind fun yL0_3 =>
      if ((decide (0 < yL0_3)) : Bool) then
        if ((least == 0) : Bool) then
          parrelref26_Circle_l0 l  fuel yL0_3 i (IntKind.wrap .i64 (i + 1))
        else
          if ((decide (yL0_3 < least)) : Bool) then
            parrelref26_Circle_l0 l  fuel yL0_3 i (IntKind.wrap .i64 (i + 1))
          else
            parrelref26_Circle_l0 l  fuel least first (IntKind.wrap .i64 (i + 1))
      else
        parrelref26_Circle_l0 l  fuel least first (IntKind.wrap .i64 (i + 1))
    else
      parrelref26_Circle_l1 l first  big (IntKind.wrap .i64 (least - 1)) ([first])

def parrelref26_Circle (l : List (T_parrelref26_Tx)) : Option ((List (Int))) :=
  (parrelref26_Order l).bind fun y2 =>
  if ((y2.2 != 11) : Bool) then
    some ([] : List (Int))
  else
    parrelref26_Circle_l0 l  big 0 0 0

theorem parrelref26_Circle_l2_ok {w0 : World} {W : Nat → Prop} {μ0 : Emb} (hμ : ∀ c p, μ0 c = some p → c < 0) (l : List (T_parrelref26_Tx)) (first : Int) (left : Int) (l2 : List (Int)) (k1 : (Int) → (List (Int)) → Option ((List (Int)))) (hk1 : ∀ (left : Int) (l2 : List (Int)) (r : (List (Int))), k1 left l2 = some r → kont Try.prog w0 W μ0 (FnPost Try.prog Try.f17 0 0 (parrelref26_Circle_v r) []) (kAt (bodyOf Try.f17) 1) none (parrelref26_Circle_T1 l first left l2) (parrelref26_Circle_H1 l first left l2)) : ∀ (fuel : Nat) (x_k : Int) (r : (List (Int))), parrelref26_Circle_l2 l first left l2 k1 fuel x_k = some r → kont Try.prog w0 W μ0 (FnPost Try.prog Try.f17 0 0 (parrelref26_Circle_v r) []) (kAt (bodyOf Try.f17) 2) none (parrelref26_Circle_T2 l first left l2 x_k) (parrelref26_Circle_H2 l first left l2 x_k) := by
  intro fuel
  induction fuel with
  | zero => intro x_k r h; rw [parrelref26_Circle_l2] at h; cases h
  | succ fuel ih =>
    intro x_k r h
    rw [parrelref26_Circle_l2] at h
    rcases itb_some h with ⟨cL2_1, h⟩ | ⟨cL2_1, h⟩
    · skip
      rcases itb_some h with ⟨cL2_2, h⟩ | ⟨cL2_2, h⟩
      · skip
        obtain ⟨gL2_3, h⟩ := guard_some h
        obtain ⟨gL2_4, h⟩ := guard_some h
        obtain ⟨yL2_6, eL2_5, h⟩ := bind_some h
        rcases itb_some h with ⟨cL2_7, h⟩ | ⟨cL2_7, h⟩
        · skip
          obtain ⟨yL2_9, eL2_8, h⟩ := bind_some h
          rcases itb_some h with ⟨cL2_10, h⟩ | ⟨cL2_10, h⟩
          · skip
            obtain ⟨gL2_11, h⟩ := guard_some h
            exact run_to mixed hμ (L := [2]) (n := 29) (s := [.go, .reg [(3, { v := some (.bool true) })], .reg [(3, { v := some (.bool true) }), (12, { call := some (parrelref26_ahead_v yL2_6, [], []) }), (14, { v := some (.bool true) }), (19, { call := some (parrelref26_far_v yL2_9, [], []) }), (22, { v := some (.bool true) })], .reg [(2, { os := [(1, .gr 1 ([x_k]).length (rowF (cInt .i64) default [x_k]))], v := some (.gs 1 ([x_k]).length) }), (3, { app := 3, os := [(2, .gr 1 ((l2 ++ [x_k])).length (rowF (cInt .i64) default (l2 ++ [x_k])))], v := some (.gs 2 ((l2 ++ [x_k])).length) })], .reg []])
              (a_ (a_ (a_ tr tr) (a_ (a_ tr tr) (a_ (a_ tr tr) (a_ (a_ tr (a_ (leB cL2_1) tr)) tr)))) (a_ (a_ (a_ tr tr) (a_ (a_ tr tr) (a_ (a_ tr tr) (a_ (a_ tr (a_ (leB cL2_2) tr)) (a_ (a_ tr tr) (a_ (a_ tr tr) (a_ (a_ (a_ (Eq.refl 4) gL2_3) tr) (a_ (a_ (le_ 4 4 rfl) tr) (a_ (a_ tr tr) (a_ (a_ tr tr) (a_ (a_ (a_ (Eq.refl 4) gL2_4) tr) (a_ (a_ (le_ 4 4 rfl) tr) (a_ (a_ (a_ (parrelref26_ahead_tri (l.getD ((l2.getD ((IntKind.wrap .i64 (((l2).length : Int) - 1))).toNat default)).toNat default) (l.getD x_k.toNat default) yL2_6 eL2_5) tr) tr) (a_ (a_ tr tr) (a_ (a_ tr (a_ (leB cL2_7) tr)) (a_ (a_ tr tr) (a_ (a_ tr tr) (a_ (a_ tr tr) (a_ (a_ tr tr) (a_ (a_ (a_ (parrelref26_far_tri l x_k first first yL2_9 eL2_8) tr) tr) (a_ (a_ tr tr) (a_ (a_ tr tr) (a_ (a_ tr (a_ (leB cL2_10) tr)) tr))))))))))))))))))))))) (a_ (a_ (a_ tr tr) (a_ (a_ tr tr) (a_ (a_ (a_ (Eq.refl true) (a_ (Eq.refl 1) (a_ (lt_ 0 1 rfl) (le_ 1 16777216 rfl)))) (a_ (le_sl_gs 1 1 (some 1) rfl) (a_ (sub_lit (cInt .i64) default 1 (fun _ => rfl) [x_k]) tr))) (a_ (a_ (a_ (a_ (Eq.refl 1) (Nat.le_refl ([x_k]).length)) (a_ (a_ (lt_ 0 1 rfl) (a_ (lt_ 0 8 rfl) (a_ gL2_11 (a_ (Eq.refl 1) (Eq.refl true))))) (a_ (Eq.refl 1) (Nat.le_refl (l2).length)))) (a_ (le_gs_app 2 l2 [x_k]) (a_ (sub_app (cInt .i64) default 1 l2 [x_k]) tr))) (a_ (a_ tr tr) tr))))) (a_ (a_ (a_ tr tr) (a_ (a_ tr tr) (a_ (a_ tr tr) tr))) tr)))) (hk1 _ _ r h) (by kernel_rfl) ⟨fun _ _ => rfl, trivial⟩
          · skip
            exact run_to mixed hμ (L := [0]) (n := 26) (s := [.go, .reg [(3, { v := some (.bool true) })], .reg [(3, { v := some (.bool true) }), (12, { call := some (parrelref26_ahead_v yL2_6, [], []) }), (14, { v := some (.bool true) }), (19, { call := some (parrelref26_far_v yL2_9, [], []) }), (22, { v := some (.bool false) })], .reg []])
              (a_ (a_ (a_ tr tr) (a_ (a_ tr tr) (a_ (a_ tr tr) (a_ (a_ tr (a_ (leB cL2_1) tr)) tr)))) (a_ (a_ (a_ tr tr) (a_ (a_ tr tr) (a_ (a_ tr tr) (a_ (a_ tr (a_ (leB cL2_2) tr)) (a_ (a_ tr tr) (a_ (a_ tr tr) (a_ (a_ (a_ (Eq.refl 4) gL2_3) tr) (a_ (a_ (le_ 4 4 rfl) tr) (a_ (a_ tr tr) (a_ (a_ tr tr) (a_ (a_ (a_ (Eq.refl 4) gL2_4) tr) (a_ (a_ (le_ 4 4 rfl) tr) (a_ (a_ (a_ (parrelref26_ahead_tri (l.getD ((l2.getD ((IntKind.wrap .i64 (((l2).length : Int) - 1))).toNat default)).toNat default) (l.getD x_k.toNat default) yL2_6 eL2_5) tr) tr) (a_ (a_ tr tr) (a_ (a_ tr (a_ (leB cL2_7) tr)) (a_ (a_ tr tr) (a_ (a_ tr tr) (a_ (a_ tr tr) (a_ (a_ tr tr) (a_ (a_ (a_ (parrelref26_far_tri l x_k first first yL2_9 eL2_8) tr) tr) (a_ (a_ tr tr) (a_ (a_ tr tr) (a_ (a_ tr (a_ (leB cL2_10) tr)) tr))))))))))))))))))))))) (a_ (a_ (a_ tr tr) (a_ (a_ tr tr) (a_ (a_ tr tr) tr))) tr))) (ih _ r h) (by kernel_rfl) ⟨fun _ _ => rfl, trivial⟩
        · skip
          exact run_to mixed hμ (L := [0]) (n := 26) (s := [.go, .reg [(3, { v := some (.bool true) })], .reg [(3, { v := some (.bool true) }), (12, { call := some (parrelref26_ahead_v yL2_6, [], []) }), (14, { v := some (.bool false) })], .reg []])
            (a_ (a_ (a_ tr tr) (a_ (a_ tr tr) (a_ (a_ tr tr) (a_ (a_ tr (a_ (leB cL2_1) tr)) tr)))) (a_ (a_ (a_ tr tr) (a_ (a_ tr tr) (a_ (a_ tr tr) (a_ (a_ tr (a_ (leB cL2_2) tr)) (a_ (a_ tr tr) (a_ (a_ tr tr) (a_ (a_ (a_ (Eq.refl 4) gL2_3) tr) (a_ (a_ (le_ 4 4 rfl) tr) (a_ (a_ tr tr) (a_ (a_ tr tr) (a_ (a_ (a_ (Eq.refl 4) gL2_4) tr) (a_ (a_ (le_ 4 4 rfl) tr) (a_ (a_ (a_ (parrelref26_ahead_tri (l.getD ((l2.getD ((IntKind.wrap .i64 (((l2).length : Int) - 1))).toNat default)).toNat default) (l.getD x_k.toNat default) yL2_6 eL2_5) tr) tr) (a_ (a_ tr tr) (a_ (a_ tr (a_ (leB cL2_7) tr)) (a_ tr (a_ tr (a_ tr (a_ tr (a_ tr (a_ tr (a_ tr (a_ (a_ tr tr) tr))))))))))))))))))))))) (a_ (a_ (a_ tr tr) (a_ (a_ tr tr) (a_ (a_ tr tr) tr))) tr))) (ih _ r h) (by kernel_rfl) ⟨fun _ _ => rfl, trivial⟩
      · skip
        exact run_to mixed hμ (L := [0]) (n := 26) (s := [.go, .reg [(3, { v := some (.bool true) })], .reg [(3, { v := some (.bool false) })], .reg []])
          (a_ (a_ (a_ tr tr) (a_ (a_ tr tr) (a_ (a_ tr tr) (a_ (a_ tr (a_ (leB cL2_1) tr)) tr)))) (a_ (a_ (a_ tr tr) (a_ (a_ tr tr) (a_ (a_ tr tr) (a_ (a_ tr (a_ (leB cL2_2) tr)) (a_ tr (a_ tr (a_ tr (a_ tr (a_ tr (a_ tr (a_ tr (a_ tr (a_ tr (a_ (a_ tr tr) (a_ (a_ tr tr) (a_ tr (a_ tr (a_ tr (a_ tr (a_ tr (a_ tr (a_ tr (a_ (a_ tr tr) tr))))))))))))))))))))))) (a_ (a_ (a_ tr tr) (a_ (a_ tr tr) (a_ (a_ tr tr) tr))) tr))) (ih _ r h) (by kernel_rfl) ⟨fun _ _ => rfl, trivial⟩
    · skip
      exact run_to mixed hμ (L := [0]) (n := 19) (s := [.go, .reg [(3, { v := some (.bool false) })], .reg []])
        (a_ (a_ (a_ tr tr) (a_ (a_ tr tr) (a_ (a_ tr tr) (a_ (a_ tr (a_ (leB cL2_1) tr)) tr)))) (a_ (a_ (a_ tr tr) (a_ (a_ tr tr) (a_ (a_ tr tr) tr))) tr)) (hk1 _ _ r h) (by kernel_rfl) ⟨fun _ _ => rfl, trivial⟩

theorem parrelref26_Circle_l1_ok {w0 : World} {W : Nat → Prop} {μ0 : Emb} (hμ : ∀ c p, μ0 c = some p → c < 0) (l : List (T_parrelref26_Tx)) (first : Int)  : ∀ (fuel : Nat) (left : Int) (l2 : List (Int)) (r : (List (Int))), parrelref26_Circle_l1 l first  fuel left l2 = some r → kont Try.prog w0 W μ0 (FnPost Try.prog Try.f17 0 0 (parrelref26_Circle_v r) []) (kAt (bodyOf Try.f17) 1) none (parrelref26_Circle_T1 l first left l2) (parrelref26_Circle_H1 l first left l2) := by
  intro fuel
  induction fuel with
  | zero => intro left l2 r h; rw [parrelref26_Circle_l1] at h; cases h
  | succ fuel ih =>
    intro left l2 r h
    rw [parrelref26_Circle_l1] at h
    rcases itb_some h with ⟨cL1_1, h⟩ | ⟨cL1_1, h⟩
    · skip
      obtain ⟨gL1_2, h⟩ := guard_some h
      exact run_to mixed hμ (L := [0]) (n := 26) (s := [.go, .reg [(1, { v := some (.bool true) })], .reg [], .reg []])
        (a_ (a_ (a_ tr tr) (a_ (a_ tr (a_ (leB cL1_1) tr)) tr)) (a_ (a_ (a_ tr tr) (a_ (a_ tr tr) (a_ (a_ tr tr) (a_ (a_ tr tr) (a_ (a_ (a_ (Eq.refl 1) gL1_2) tr) (a_ (a_ (a_ (ltN gL1_2) (lt_ 0 1 rfl)) tr) (a_ (a_ tr tr) tr))))))) (a_ (a_ (a_ tr tr) (a_ (a_ tr tr) (a_ (a_ tr tr) tr))) tr))) (parrelref26_Circle_l2_ok hμ l first left l2 (parrelref26_Circle_l1 l first  fuel) (fun left l2 r h => ih left l2 r h) big _ r h) (by kernel_rfl) ⟨fun _ _ => rfl, trivial⟩
    · skip
      obtain rfl := Option.some.inj h
      exact run_ret mixed (L := []) (n := 20) (s := [.go, .reg [(1, { v := some (.bool false) })], .reg [], .frz 0])
        (a_ (a_ (a_ (a_ tr tr) (a_ (a_ tr (a_ (leB cL1_1) tr)) tr)) (a_ (a_ (a_ tr tr) (a_ (a_ tr tr) tr)) (a_ (a_ (fz_row (enc := (cInt .i64)) (d := default) (fun _ => rfl) l2) (a_ (Nat.le_refl (l2).length) (a_ (Nat.le_refl (l2).length) (a_ (Nat.le_refl (l2).length) tr)))) tr))) tr) (by kernel_rfl) rfl

theorem parrelref26_Circle_l0_ok {w0 : World} {W : Nat → Prop} {μ0 : Emb} (hμ : ∀ c p, μ0 c = some p → c < 0) (l : List (T_parrelref26_Tx))  : ∀ (fuel : Nat) (least : Int) (first : Int) (i : Int) (r : (List (Int))), parrelref26_Circle_l0 l  fuel least first i = some r → kont Try.prog w0 W μ0 (FnPost Try.prog Try.f17 0 0 (parrelref26_Circle_v r) []) (kAt (bodyOf Try.f17) 0) none (parrelref26_Circle_T0 l least first i) (parrelref26_Circle_H0 l least first i) := by
  intro fuel
  induction fuel with
  | zero => intro least first i r h; rw [parrelref26_Circle_l0] at h; cases h
  | succ fuel ih =>
    intro least first i r h
    rw [parrelref26_Circle_l0] at h
    rcases itb_some h with ⟨cL0_1, h⟩ | ⟨cL0_1, h⟩
    · skip
      obtain ⟨yL0_3, eL0_2, h⟩ := bind_some h
      rcases itb_some h with ⟨cL0_4, h⟩ | ⟨cL0_4, h⟩
      · skip
        rcases itb_some h with ⟨cL0_5, h⟩ | ⟨cL0_5, h⟩
        · skip
          exact run_to mixed hμ (L := []) (n := 30) (s := [.go, .reg [(3, { v := some (.bool true) })], .reg [(4, { call := some (parrelref26_far_v yL0_3, [], []) })], .reg [(2, { v := some (.bool true) }), (5, { v := some (.bool true) })], .reg [], .reg []])
            (a_ (a_ (a_ tr tr) (a_ (a_ tr tr) (a_ (a_ tr tr) (a_ (a_ tr (a_ (leB cL0_1) tr)) tr)))) (a_ (a_ (a_ tr tr) (a_ (a_ tr tr) (a_ (a_ tr tr) (a_ (a_ tr tr) (a_ (a_ (a_ (parrelref26_far_tri l i i i yL0_3 eL0_2) tr) tr) (a_ (a_ tr tr) tr)))))) (a_ (a_ (a_ tr tr) (a_ (a_ tr tr) (a_ (a_ tr (a_ (leB cL0_4) tr)) (a_ (a_ tr tr) (a_ (a_ tr tr) (a_ (a_ tr (a_ (leB cL0_5) tr)) (a_ tr (a_ tr (a_ tr (a_ (a_ tr tr) (a_ (a_ tr tr) tr))))))))))) (a_ (a_ (a_ tr tr) (a_ (a_ tr tr) (a_ (a_ tr tr) (a_ (a_ tr tr) tr)))) (a_ (a_ (a_ tr tr) (a_ (a_ tr tr) (a_ (a_ tr tr) tr))) tr))))) (ih _ _ _ r h) (by kernel_rfl) trivial
        · skip
          rcases itb_some h with ⟨cL0_6, h⟩ | ⟨cL0_6, h⟩
          · skip
            exact run_to mixed hμ (L := []) (n := 30) (s := [.go, .reg [(3, { v := some (.bool true) })], .reg [(4, { call := some (parrelref26_far_v yL0_3, [], []) })], .reg [(2, { v := some (.bool true) }), (5, { v := some (.bool false) }), (10, { v := some (.bool true) })], .reg [], .reg []])
              (a_ (a_ (a_ tr tr) (a_ (a_ tr tr) (a_ (a_ tr tr) (a_ (a_ tr (a_ (leB cL0_1) tr)) tr)))) (a_ (a_ (a_ tr tr) (a_ (a_ tr tr) (a_ (a_ tr tr) (a_ (a_ tr tr) (a_ (a_ (a_ (parrelref26_far_tri l i i i yL0_3 eL0_2) tr) tr) (a_ (a_ tr tr) tr)))))) (a_ (a_ (a_ tr tr) (a_ (a_ tr tr) (a_ (a_ tr (a_ (leB cL0_4) tr)) (a_ (a_ tr tr) (a_ (a_ tr tr) (a_ (a_ tr (a_ (leB cL0_5) tr)) (a_ (a_ tr tr) (a_ (a_ tr tr) (a_ (a_ tr tr) (a_ (a_ tr tr) (a_ (a_ tr (a_ (leB cL0_6) tr)) tr))))))))))) (a_ (a_ (a_ tr tr) (a_ (a_ tr tr) (a_ (a_ tr tr) (a_ (a_ tr tr) tr)))) (a_ (a_ (a_ tr tr) (a_ (a_ tr tr) (a_ (a_ tr tr) tr))) tr))))) (ih _ _ _ r h) (by kernel_rfl) trivial
          · skip
            exact run_to mixed hμ (L := []) (n := 29) (s := [.go, .reg [(3, { v := some (.bool true) })], .reg [(4, { call := some (parrelref26_far_v yL0_3, [], []) })], .reg [(2, { v := some (.bool true) }), (5, { v := some (.bool false) }), (10, { v := some (.bool false) })], .reg []])
              (a_ (a_ (a_ tr tr) (a_ (a_ tr tr) (a_ (a_ tr tr) (a_ (a_ tr (a_ (leB cL0_1) tr)) tr)))) (a_ (a_ (a_ tr tr) (a_ (a_ tr tr) (a_ (a_ tr tr) (a_ (a_ tr tr) (a_ (a_ (a_ (parrelref26_far_tri l i i i yL0_3 eL0_2) tr) tr) (a_ (a_ tr tr) tr)))))) (a_ (a_ (a_ tr tr) (a_ (a_ tr tr) (a_ (a_ tr (a_ (leB cL0_4) tr)) (a_ (a_ tr tr) (a_ (a_ tr tr) (a_ (a_ tr (a_ (leB cL0_5) tr)) (a_ (a_ tr tr) (a_ (a_ tr tr) (a_ (a_ tr tr) (a_ (a_ tr tr) (a_ (a_ tr (a_ (leB cL0_6) tr)) tr))))))))))) (a_ (a_ (a_ tr tr) (a_ (a_ tr tr) (a_ (a_ tr tr) tr))) tr)))) (ih _ _ _ r h) (by kernel_rfl) trivial
      · skip
        exact run_to mixed hμ (L := []) (n := 29) (s := [.go, .reg [(3, { v := some (.bool true) })], .reg [(4, { call := some (parrelref26_far_v yL0_3, [], []) })], .reg [(2, { v := some (.bool false) })], .reg []])
          (a_ (a_ (a_ tr tr) (a_ (a_ tr tr) (a_ (a_ tr tr) (a_ (a_ tr (a_ (leB cL0_1) tr)) tr)))) (a_ (a_ (a_ tr tr) (a_ (a_ tr tr) (a_ (a_ tr tr) (a_ (a_ tr tr) (a_ (a_ (a_ (parrelref26_far_tri l i i i yL0_3 eL0_2) tr) tr) (a_ (a_ tr tr) tr)))))) (a_ (a_ (a_ tr tr) (a_ (a_ tr tr) (a_ (a_ tr (a_ (leB cL0_4) tr)) (a_ tr (a_ tr (a_ tr (a_ tr (a_ tr (a_ tr (a_ tr (a_ (a_ tr tr) tr))))))))))) (a_ (a_ (a_ tr tr) (a_ (a_ tr tr) (a_ (a_ tr tr) tr))) tr)))) (ih _ _ _ r h) (by kernel_rfl) trivial
    · skip
      exact run_to mixed hμ (L := [0]) (n := 25) (s := [.go, .reg [(3, { v := some (.bool false) })], .reg [(1, { os := [(0, .gr 1 ([first]).length (rowF (cInt .i64) default [first]))], v := some (.gs 0 ([first]).length) })], .reg []])
        (a_ (a_ (a_ tr tr) (a_ (a_ tr tr) (a_ (a_ tr tr) (a_ (a_ tr (a_ (leB cL0_1) tr)) tr)))) (a_ (a_ (a_ tr tr) (a_ (a_ (a_ (Eq.refl true) (a_ (Eq.refl 1) (a_ (lt_ 0 1 rfl) (le_ 1 16777216 rfl)))) (a_ (le_sl_gs 0 1 (some 1) rfl) (a_ (sub_lit (cInt .i64) default 1 (fun _ => rfl) [first]) tr))) (a_ (a_ tr tr) tr))) (a_ (a_ (a_ tr tr) (a_ (a_ tr tr) (a_ (a_ tr tr) tr))) tr))) (parrelref26_Circle_l1_ok hμ l first  big _ _ r h) (by kernel_rfl) ⟨fun _ _ => rfl, trivial⟩

theorem parrelref26_Circle_ok (l : List (T_parrelref26_Tx)) (r : (List (Int))) (h : parrelref26_Circle l = some r) : ∀ σ, Inj 0 σ → FnTri Try.prog 17 (renL σ [.ds 4 (l).length (rowF c_T_parrelref26_Tx default l)]) (preOf σ 0 []) ((parrelref26_Circle_v r).ren σ) (upOf σ []) := by
  refine fn_of Try.func17 (by kernel_rfl) (by kernel_rfl) (by kernel_rfl) trivial (by kernel_rfl) trivial (by kernel_rfl) ?_
  intro w0 W μ0 hμ
  unfold parrelref26_Circle at h
  obtain ⟨y2, e1, h⟩ := bind_some h
  rcases itb_some h with ⟨c3, h⟩ | ⟨c3, h⟩
  · skip
    obtain rfl := Option.some.inj h
    exact run_ret mixed (L := []) (n := 23) (s := [.reg [(0, { v := some (.ds 1 (([] : List (Int))).length (rowF (cInt .i64) default ([] : List (Int)))) })], .reg [(1, { call := some (parrelref26_Order_v y2, [], []) })], .reg [(1, { v := some (.bool true) })], .reg [(0, { v := some (.ds 1 (([] : List (Int))).length (rowF (cInt .i64) default ([] : List (Int)))) })]])
      (a_ (a_ (a_ (a_ tr (a_ (le_nil_ds 1 (rowF (cInt .i64) default [])) tr)) tr) (a_ (a_ (a_ tr tr) (a_ (a_ (a_ (parrelref26_Order_tri l y2 e1) tr) tr) (a_ (a_ tr tr) (a_ (a_ tr tr) (a_ (a_ tr tr) (a_ (a_ tr tr) (a_ (a_ tr tr) tr))))))) (a_ (a_ (a_ tr tr) (a_ (a_ tr (a_ (leB c3) tr)) tr)) (a_ (a_ (a_ tr (a_ (le_nil_ds 1 (rowF (cInt .i64) default [])) tr)) tr) tr)))) tr) (by kernel_rfl) rfl
  · skip
    exact run_to mixed hμ (L := []) (n := 30) (s := [.reg [(0, { v := some (.ds 1 (([] : List (Int))).length (rowF (cInt .i64) default ([] : List (Int)))) })], .reg [(1, { call := some (parrelref26_Order_v y2, [], []) })], .reg [(1, { v := some (.bool false) })], .reg [], .reg []])
      (a_ (a_ (a_ tr (a_ (le_nil_ds 1 (rowF (cInt .i64) default [])) tr)) tr) (a_ (a_ (a_ tr tr) (a_ (a_ (a_ (parrelref26_Order_tri l y2 e1) tr) tr) (a_ (a_ tr tr) (a_ (a_ tr tr) (a_ (a_ tr tr) (a_ (a_ tr tr) (a_ (a_ tr tr) tr))))))) (a_ (a_ (a_ tr tr) (a_ (a_ tr (a_ (leB c3) tr)) tr)) (a_ (a_ (a_ tr tr) (a_ (a_ tr tr) tr)) (a_ (a_ (a_ tr tr) tr) tr))))) (parrelref26_Circle_l0_ok hμ l  big _ _ _ r h) (by kernel_rfl) trivial

theorem parrelref26_Circle_tri (l : List (T_parrelref26_Tx)) (r : (List (Int))) (h : parrelref26_Circle l = some r) : FnTri Try.prog 17 [.ds 4 (l).length (rowF c_T_parrelref26_Tx default l)] [] (parrelref26_Circle_v r) [] := FnTri.none (parrelref26_Circle_ok l r h) rfl rfl

/-- parrel/parrellaw26.HistOrders -/

def parrellaw26_HistOrders_v (r : (Bool)) : LV := .bool r

def parrellaw26_HistOrders (l : List (T_parrelref26_Tx)) : Option ((Bool)) :=
  (parrellaw26_far l).bind fun y2 =>
  if (y2 : Bool) then
    (parrellaw26_alive).bind fun y5 =>
    some y5
  else
    (parrellaw26_theirs l).bind fun y5 =>
    (hist_Order y5).bind fun y7 =>
    (parrelref26_Order l).bind fun y9 =>
    (parrellaw26_theirs l).bind fun y11 =>
    (hist_Check y11).bind fun y13 =>
    (parrelref26_Check l).bind fun y15 =>
    if ((y13 == y15) : Bool) then
      (parrelref01_Ints_2 y7.1 y9.1).bind fun y18 =>
      if (y18 : Bool) then
        if ((y7.2 == y9.2) : Bool) then
          (parrellaw26_theirs l).bind fun y22 =>
          (hist_Circle y22).bind fun y24 =>
          (parrelref26_Circle l).bind fun y26 =>
          (parrelref01_Ints_2 y24 y26).bind fun y28 =>
          if (y28 : Bool) then
            (parrellaw26_alive).bind fun y31 =>
            some y31
          else
            some false
        else
          some false
      else
        some false
    else
      some false

theorem parrellaw26_HistOrders_ok (l : List (T_parrelref26_Tx)) (r : (Bool)) (h : parrellaw26_HistOrders l = some r) : ∀ σ, Inj 0 σ → FnTri Try.prog 3 (renL σ [.ds 4 (l).length (rowF c_T_parrelref26_Tx default l)]) (preOf σ 0 []) ((parrellaw26_HistOrders_v r).ren σ) (upOf σ []) := by
  refine fn_of Try.func3 (by kernel_rfl) (by kernel_rfl) (by kernel_rfl) trivial (by kernel_rfl) trivial (by kernel_rfl) ?_
  intro w0 W μ0 hμ
  unfold parrellaw26_HistOrders at h
  obtain ⟨y2, e1, h⟩ := bind_some h
  rcases itb_some h with ⟨c3, h⟩ | ⟨c3, h⟩
  · skip
    obtain ⟨y5, e4, h⟩ := bind_some h
    obtain rfl := Option.some.inj h
    exact run_ret mixed (L := []) (n := 20) (s := [.reg [], .reg [(1, { call := some (parrellaw26_far_v y2, [], []), v := some (.bool true) })], .reg [(0, { call := some (parrellaw26_alive_v y5, [], []) })]])
      (a_ (a_ (a_ (a_ tr tr) tr) (a_ (a_ (a_ tr tr) (a_ (a_ (a_ (parrellaw26_far_tri l y2 e1) tr) (a_ (leB c3) tr)) tr)) (a_ (a_ (a_ (a_ (parrellaw26_alive_tri  y5 e4) tr) tr) (a_ (a_ tr tr) tr)) tr))) tr) (by kernel_rfl) rfl
  · skip
    obtain ⟨y5, e4, h⟩ := bind_some h
    obtain ⟨y7, e6, h⟩ := bind_some h
    obtain ⟨y9, e8, h⟩ := bind_some h
    obtain ⟨y11, e10, h⟩ := bind_some h
    obtain ⟨y13, e12, h⟩ := bind_some h
    obtain ⟨y15, e14, h⟩ := bind_some h
    rcases itb_some h with ⟨c16, h⟩ | ⟨c16, h⟩
    · skip
      obtain ⟨y18, e17, h⟩ := bind_some h
      rcases itb_some h with ⟨c19, h⟩ | ⟨c19, h⟩
      · skip
        rcases itb_some h with ⟨c20, h⟩ | ⟨c20, h⟩
        · skip
          obtain ⟨y22, e21, h⟩ := bind_some h
          obtain ⟨y24, e23, h⟩ := bind_some h
          obtain ⟨y26, e25, h⟩ := bind_some h
          obtain ⟨y28, e27, h⟩ := bind_some h
          rcases itb_some h with ⟨c29, h⟩ | ⟨c29, h⟩
          · skip
            obtain ⟨y31, e30, h⟩ := bind_some h
            obtain rfl := Option.some.inj h
            exact run_ret mixed (L := []) (n := 27) (s := [.reg [], .reg [(1, { call := some (parrellaw26_far_v y2, [], []), v := some (.bool false) })], .reg [(1, { call := some (parrellaw26_theirs_v y5, [], []) }), (2, { call := some (hist_Order_v y7, [], []) })], .reg [(1, { call := some (parrelref26_Order_v y9, [], []) })], .reg [(1, { call := some (parrellaw26_theirs_v y11, [], []) }), (2, { call := some (hist_Check_v y13, [], []) }), (4, { call := some (parrelref26_Check_v y15, [], []) }), (6, { v := some (.bool true) }), (9, { call := some (parrelref01_Ints_2_v y18, [], []) }), (11, { v := some (.bool true) }), (16, { v := some (.bool true) }), (18, { call := some (parrellaw26_theirs_v y22, [], []) }), (19, { call := some (hist_Circle_v y24, [], []) }), (21, { call := some (parrelref26_Circle_v y26, [], []) }), (22, { call := some (parrelref01_Ints_2_v y28, [], []) }), (24, { v := some (.bool true) }), (25, { call := some (parrellaw26_alive_v y31, [], []) })]])
              (a_ (a_ (a_ (a_ tr tr) tr) (a_ (a_ (a_ tr tr) (a_ (a_ (a_ (parrellaw26_far_tri l y2 e1) tr) (a_ (leB c3) tr)) tr)) (a_ (a_ (a_ tr tr) (a_ (a_ (a_ (parrellaw26_theirs_tri l y5 e4) tr) tr) (a_ (a_ (a_ (hist_Order_tri y5 y7 e6) tr) tr) (a_ (a_ tr tr) (a_ (a_ tr tr) (a_ (a_ tr tr) (a_ (a_ tr tr) (a_ (a_ tr tr) tr)))))))) (a_ (a_ (a_ tr tr) (a_ (a_ (a_ (parrelref26_Order_tri l y9 e8) tr) tr) (a_ (a_ tr tr) (a_ (a_ tr tr) (a_ (a_ tr tr) (a_ (a_ tr tr) (a_ (a_ tr tr) tr))))))) (a_ (a_ (a_ tr tr) (a_ (a_ (a_ (parrellaw26_theirs_tri l y11 e10) tr) tr) (a_ (a_ (a_ (hist_Check_tri y11 y13 e12) tr) tr) (a_ (a_ tr tr) (a_ (a_ (a_ (parrelref26_Check_tri l y15 e14) tr) tr) (a_ (a_ tr tr) (a_ (a_ tr (a_ (leB c16) tr)) (a_ (a_ tr tr) (a_ (a_ tr tr) (a_ (a_ (a_ (parrelref01_Ints_2_tri y7.1 y9.1 y18 e17) tr) tr) (a_ (a_ tr tr) (a_ (a_ tr (a_ (leB c19) tr)) (a_ (a_ tr tr) (a_ (a_ tr tr) (a_ (a_ tr tr) (a_ (a_ tr tr) (a_ (a_ tr (a_ (leB c20) tr)) (a_ (a_ tr tr) (a_ (a_ (a_ (parrellaw26_theirs_tri l y22 e21) tr) tr) (a_ (a_ (a_ (hist_Circle_tri y22 y24 e23) tr) tr) (a_ (a_ tr tr) (a_ (a_ (a_ (parrelref26_Circle_tri l y26 e25) tr) tr) (a_ (a_ (a_ (parrelref01_Ints_2_tri y24 y26 y28 e27) tr) tr) (a_ (a_ tr tr) (a_ (a_ tr (a_ (leB c29) tr)) (a_ (a_ (a_ (parrellaw26_alive_tri  y31 e30) tr) tr) (a_ (a_ tr tr) (a_ (a_ tr tr) tr)))))))))))))))))))))))))))) tr))))) tr) (by kernel_rfl) rfl
          · skip
            obtain rfl := Option.some.inj h
            exact run_ret mixed (L := []) (n := 27) (s := [.reg [], .reg [(1, { call := some (parrellaw26_far_v y2, [], []), v := some (.bool false) })], .reg [(1, { call := some (parrellaw26_theirs_v y5, [], []) }), (2, { call := some (hist_Order_v y7, [], []) })], .reg [(1, { call := some (parrelref26_Order_v y9, [], []) })], .reg [(1, { call := some (parrellaw26_theirs_v y11, [], []) }), (2, { call := some (hist_Check_v y13, [], []) }), (4, { call := some (parrelref26_Check_v y15, [], []) }), (6, { v := some (.bool true) }), (9, { call := some (parrelref01_Ints_2_v y18, [], []) }), (11, { v := some (.bool true) }), (16, { v := some (.bool true) }), (18, { call := some (parrellaw26_theirs_v y22, [], []) }), (19, { call := some (hist_Circle_v y24, [], []) }), (21, { call := some (parrelref26_Circle_v y26, [], []) }), (22, { call := some (parrelref01_Ints_2_v y28, [], []) }), (24, { v := some (.bool false) })]])
              (a_ (a_ (a_ (a_ tr tr) tr) (a_ (a_ (a_ tr tr) (a_ (a_ (a_ (parrellaw26_far_tri l y2 e1) tr) (a_ (leB c3) tr)) tr)) (a_ (a_ (a_ tr tr) (a_ (a_ (a_ (parrellaw26_theirs_tri l y5 e4) tr) tr) (a_ (a_ (a_ (hist_Order_tri y5 y7 e6) tr) tr) (a_ (a_ tr tr) (a_ (a_ tr tr) (a_ (a_ tr tr) (a_ (a_ tr tr) (a_ (a_ tr tr) tr)))))))) (a_ (a_ (a_ tr tr) (a_ (a_ (a_ (parrelref26_Order_tri l y9 e8) tr) tr) (a_ (a_ tr tr) (a_ (a_ tr tr) (a_ (a_ tr tr) (a_ (a_ tr tr) (a_ (a_ tr tr) tr))))))) (a_ (a_ (a_ tr tr) (a_ (a_ (a_ (parrellaw26_theirs_tri l y11 e10) tr) tr) (a_ (a_ (a_ (hist_Check_tri y11 y13 e12) tr) tr) (a_ (a_ tr tr) (a_ (a_ (a_ (parrelref26_Check_tri l y15 e14) tr) tr) (a_ (a_ tr tr) (a_ (a_ tr (a_ (leB c16) tr)) (a_ (a_ tr tr) (a_ (a_ tr tr) (a_ (a_ (a_ (parrelref01_Ints_2_tri y7.1 y9.1 y18 e17) tr) tr) (a_ (a_ tr tr) (a_ (a_ tr (a_ (leB c19) tr)) (a_ (a_ tr tr) (a_ (a_ tr tr) (a_ (a_ tr tr) (a_ (a_ tr tr) (a_ (a_ tr (a_ (leB c20) tr)) (a_ (a_ tr tr) (a_ (a_ (a_ (parrellaw26_theirs_tri l y22 e21) tr) tr) (a_ (a_ (a_ (hist_Circle_tri y22 y24 e23) tr) tr) (a_ (a_ tr tr) (a_ (a_ (a_ (parrelref26_Circle_tri l y26 e25) tr) tr) (a_ (a_ (a_ (parrelref01_Ints_2_tri y24 y26 y28 e27) tr) tr) (a_ (a_ tr tr) (a_ (a_ tr (a_ (leB c29) tr)) (a_ tr (a_ (a_ tr tr) (a_ (a_ tr tr) tr)))))))))))))))))))))))))))) tr))))) tr) (by kernel_rfl) rfl
        · skip
          obtain rfl := Option.some.inj h
          exact run_ret mixed (L := []) (n := 27) (s := [.reg [], .reg [(1, { call := some (parrellaw26_far_v y2, [], []), v := some (.bool false) })], .reg [(1, { call := some (parrellaw26_theirs_v y5, [], []) }), (2, { call := some (hist_Order_v y7, [], []) })], .reg [(1, { call := some (parrelref26_Order_v y9, [], []) })], .reg [(1, { call := some (parrellaw26_theirs_v y11, [], []) }), (2, { call := some (hist_Check_v y13, [], []) }), (4, { call := some (parrelref26_Check_v y15, [], []) }), (6, { v := some (.bool true) }), (9, { call := some (parrelref01_Ints_2_v y18, [], []) }), (11, { v := some (.bool true) }), (16, { v := some (.bool false) })]])
            (a_ (a_ (a_ (a_ tr tr) tr) (a_ (a_ (a_ tr tr) (a_ (a_ (a_ (parrellaw26_far_tri l y2 e1) tr) (a_ (leB c3) tr)) tr)) (a_ (a_ (a_ tr tr) (a_ (a_ (a_ (parrellaw26_theirs_tri l y5 e4) tr) tr) (a_ (a_ (a_ (hist_Order_tri y5 y7 e6) tr) tr) (a_ (a_ tr tr) (a_ (a_ tr tr) (a_ (a_ tr tr) (a_ (a_ tr tr) (a_ (a_ tr tr) tr)))))))) (a_ (a_ (a_ tr tr) (a_ (a_ (a_ (parrelref26_Order_tri l y9 e8) tr) tr) (a_ (a_ tr tr) (a_ (a_ tr tr) (a_ (a_ tr tr) (a_ (a_ tr tr) (a_ (a_ tr tr) tr))))))) (a_ (a_ (a_ tr tr) (a_ (a_ (a_ (parrellaw26_theirs_tri l y11 e10) tr) tr) (a_ (a_ (a_ (hist_Check_tri y11 y13 e12) tr) tr) (a_ (a_ tr tr) (a_ (a_ (a_ (parrelref26_Check_tri l y15 e14) tr) tr) (a_ (a_ tr tr) (a_ (a_ tr (a_ (leB c16) tr)) (a_ (a_ tr tr) (a_ (a_ tr tr) (a_ (a_ (a_ (parrelref01_Ints_2_tri y7.1 y9.1 y18 e17) tr) tr) (a_ (a_ tr tr) (a_ (a_ tr (a_ (leB c19) tr)) (a_ (a_ tr tr) (a_ (a_ tr tr) (a_ (a_ tr tr) (a_ (a_ tr tr) (a_ (a_ tr (a_ (leB c20) tr)) (a_ tr (a_ tr (a_ tr (a_ tr (a_ tr (a_ tr (a_ (a_ tr tr) (a_ (a_ tr tr) (a_ tr (a_ (a_ tr tr) (a_ (a_ tr tr) tr)))))))))))))))))))))))))))) tr))))) tr) (by kernel_rfl) rfl
      · skip
        obtain rfl := Option.some.inj h
        exact run_ret mixed (L := []) (n := 27) (s := [.reg [], .reg [(1, { call := some (parrellaw26_far_v y2, [], []), v := some (.bool false) })], .reg [(1, { call := some (parrellaw26_theirs_v y5, [], []) }), (2, { call := some (hist_Order_v y7, [], []) })], .reg [(1, { call := some (parrelref26_Order_v y9, [], []) })], .reg [(1, { call := some (parrellaw26_theirs_v y11, [], []) }), (2, { call := some (hist_Check_v y13, [], []) }), (4, { call := some (parrelref26_Check_v y15, [], []) }), (6, { v := some (.bool true) }), (9, { call := some (parrelref01_Ints_2_v y18, [], []) }), (11, { v := some (.bool false) })]])
          (a_ (a_ (a_ (a_ tr tr) tr) (a_ (a_ (a_ tr tr) (a_ (a_ (a_ (parrellaw26_far_tri l y2 e1) tr) (a_ (leB c3) tr)) tr)) (a_ (a_ (a_ tr tr) (a_ (a_ (a_ (parrellaw26_theirs_tri l y5 e4) tr) tr) (a_ (a_ (a_ (hist_Order_tri y5 y7 e6) tr) tr) (a_ (a_ tr tr) (a_ (a_ tr tr) (a_ (a_ tr tr) (a_ (a_ tr tr) (a_ (a_ tr tr) tr)))))))) (a_ (a_ (a_ tr tr) (a_ (a_ (a_ (parrelref26_Order_tri l y9 e8) tr) tr) (a_ (a_ tr tr) (a_ (a_ tr tr) (a_ (a_ tr tr) (a_ (a_ tr tr) (a_ (a_ tr tr) tr))))))) (a_ (a_ (a_ tr tr) (a_ (a_ (a_ (parrellaw26_theirs_tri l y11 e10) tr) tr) (a_ (a_ (a_ (hist_Check_tri y11 y13 e12) tr) tr) (a_ (a_ tr tr) (a_ (a_ (a_ (parrelref26_Check_tri l y15 e14) tr) tr) (a_ (a_ tr tr) (a_ (a_ tr (a_ (leB c16) tr)) (a_ (a_ tr tr) (a_ (a_ tr tr) (a_ (a_ (a_ (parrelref01_Ints_2_tri y7.1 y9.1 y18 e17) tr) tr) (a_ (a_ tr tr) (a_ (a_ tr (a_ (leB c19) tr)) (a_ tr (a_ tr (a_ tr (a_ (a_ tr tr) (a_ (a_ tr tr) (a_ tr (a_ tr (a_ tr (a_ tr (a_ tr (a_ tr (a_ (a_ tr tr) (a_ (a_ tr tr) (a_ tr (a_ (a_ tr tr) (a_ (a_ tr tr) tr)))))))))))))))))))))))))))) tr))))) tr) (by kernel_rfl) rfl
    · skip
      obtain rfl := Option.some.inj h
      exact run_ret mixed (L := []) (n := 27) (s := [.reg [], .reg [(1, { call := some (parrellaw26_far_v y2, [], []), v := some (.bool false) })], .reg [(1, { call := some (parrellaw26_theirs_v y5, [], []) }), (2, { call := some (hist_Order_v y7, [], []) })], .reg [(1, { call := some (parrelref26_Order_v y9, [], []) })], .reg [(1, { call := some (parrellaw26_theirs_v y11, [], []) }), (2, { call := some (hist_Check_v y13, [], []) }), (4, { call := some (parrelref26_Check_v y15, [], []) }), (6, { v := some (.bool false) })]])
        (a_ (a_ (a_ (a_ tr tr) tr) (a_ (a_ (a_ tr tr) (a_ (a_ (a_ (parrellaw26_far_tri l y2 e1) tr) (a_ (leB c3) tr)) tr)) (a_ (a_ (a_ tr tr) (a_ (a_ (a_ (parrellaw26_theirs_tri l y5 e4) tr) tr) (a_ (a_ (a_ (hist_Order_tri y5 y7 e6) tr) tr) (a_ (a_ tr tr) (a_ (a_ tr tr) (a_ (a_ tr tr) (a_ (a_ tr tr) (a_ (a_ tr tr) tr)))))))) (a_ (a_ (a_ tr tr) (a_ (a_ (a_ (parrelref26_Order_tri l y9 e8) tr) tr) (a_ (a_ tr tr) (a_ (a_ tr tr) (a_ (a_ tr tr) (a_ (a_ tr tr) (a_ (a_ tr tr) tr))))))) (a_ (a_ (a_ tr tr) (a_ (a_ (a_ (parrellaw26_theirs_tri l y11 e10) tr) tr) (a_ (a_ (a_ (hist_Check_tri y11 y13 e12) tr) tr) (a_ (a_ tr tr) (a_ (a_ (a_ (parrelref26_Check_tri l y15 e14) tr) tr) (a_ (a_ tr tr) (a_ (a_ tr (a_ (leB c16) tr)) (a_ tr (a_ tr (a_ tr (a_ (a_ tr tr) (a_ (a_ tr tr) (a_ tr (a_ tr (a_ tr (a_ (a_ tr tr) (a_ (a_ tr tr) (a_ tr (a_ tr (a_ tr (a_ tr (a_ tr (a_ tr (a_ (a_ tr tr) (a_ (a_ tr tr) (a_ tr (a_ (a_ tr tr) (a_ (a_ tr tr) tr)))))))))))))))))))))))))))) tr))))) tr) (by kernel_rfl) rfl

theorem parrellaw26_HistOrders_tri (l : List (T_parrelref26_Tx)) (r : (Bool)) (h : parrellaw26_HistOrders l = some r) : FnTri Try.prog 3 [.ds 4 (l).length (rowF c_T_parrelref26_Tx default l)] [] (parrellaw26_HistOrders_v r) [] := FnTri.none (parrellaw26_HistOrders_ok l r h) rfl rfl

/-- parrel/parrelref26.value -/

def parrelref26_value_v (r : (List UInt8)) : LV := .str r

def parrelref26_value_T0 (l : List (T_parrelref26_Item)) (x_k : A8 (Int)) (s : List UInt8) (i : Int) : List LV := [.ds 10 (l).length (rowF c_T_parrelref26_Item default l), .any, .any, .ptr 0 0 0, .any, .str s, .int .i64 i, .any, .any, .any, .any, .any, .any, .any, .any, .any, .any, .any, .any, .any, .any, .any, .any, .any, .any, .any]

def parrelref26_value_H0 (l : List (T_parrelref26_Item)) (x_k : A8 (Int)) (s : List UInt8) (i : Int) : Heap := [some (.var [.int .u8 x_k.a0, .int .u8 x_k.a1, .int .u8 x_k.a2, .int .u8 x_k.a3, .int .u8 x_k.a4, .int .u8 x_k.a5, .int .u8 x_k.a6, .int .u8 x_k.a7])]

def parrelref26_value_l0 (l : List (T_parrelref26_Item)) (x_k : A8 (Int))  : Nat → (List UInt8) → (Int) → Option ((List UInt8))
  | 0, _, _ => none
  | fuel + 1, s, i =>
    if ((decide (i < ((l).length : Int))) : Bool) then
      if 0 ≤ i ∧ i < (((l).length : Nat) : Int) then
      if ((decide ((l.getD i.toNat default).f_Key = x_k)) : Bool) then
        parrelref26_value_l0 l x_k  fuel (l.getD i.toNat default).f_Value (IntKind.wrap .i64 (i + 1))
      else
        parrelref26_value_l0 l x_k  fuel s (IntKind.wrap .i64 (i + 1))
      else none
    else
      some s

def parrelref26_value (l : List (T_parrelref26_Item)) (x_k : A8 (Int)) : Option ((List UInt8)) :=
  parrelref26_value_l0 l x_k  big ([]) 0

theorem parrelref26_value_l0_ok {w0 : World} {W : Nat → Prop} {μ0 : Emb} (hμ : ∀ c p, μ0 c = some p → c < 0) (l : List (T_parrelref26_Item)) (x_k : A8 (Int))  : ∀ (fuel : Nat) (s : List UInt8) (i : Int) (r : (List UInt8)), parrelref26_value_l0 l x_k  fuel s i = some r → kont Try.prog w0 W μ0 (FnPost Try.prog Try.f35 0 0 (parrelref26_value_v r) []) (kAt (bodyOf Try.f35) 0) none (parrelref26_value_T0 l x_k s i) (parrelref26_value_H0 l x_k s i) := by
  intro fuel
  induction fuel with
  | zero => intro s i r h; rw [parrelref26_value_l0] at h; cases h
  | succ fuel ih =>
    intro s i r h
    rw [parrelref26_value_l0] at h
    rcases itb_some h with ⟨cL0_1, h⟩ | ⟨cL0_1, h⟩
    · skip
      obtain ⟨gL0_2, h⟩ := guard_some h
      rcases itb_some h with ⟨cL0_3, h⟩ | ⟨cL0_3, h⟩
      · skip
        exact run_to mixed hμ (L := [0]) (n := 27) (s := [.go, .reg [(3, { v := some (.bool true) })], .reg [(6, { v := some (.bool true) })], .reg [], .reg []])
          (a_ (a_ (a_ tr tr) (a_ (a_ tr tr) (a_ (a_ tr tr) (a_ (a_ tr (a_ (leB cL0_1) tr)) tr)))) (a_ (a_ (a_ tr tr) (a_ (a_ tr tr) (a_ (a_ (a_ (Eq.refl 10) gL0_2) tr) (a_ (a_ tr tr) (a_ (a_ (le_ 8 10 rfl) tr) (a_ (a_ (a_ tr (le_ 8 8 rfl)) tr) (a_ (a_ tr (a_ (LV.Le.trans (leB ((k_arr8 .u8) (l.getD i.toNat default).f_Key x_k)) (leB cL0_3)) tr)) tr))))))) (a_ (a_ (a_ tr tr) (a_ (a_ tr tr) (a_ (a_ (a_ (Eq.refl 10) gL0_2) tr) (a_ (a_ tr tr) (a_ (a_ (lt_ 0 1 rfl) tr) (a_ (a_ tr tr) tr)))))) (a_ (a_ (a_ tr tr) (a_ (a_ tr tr) (a_ (a_ tr tr) tr))) tr)))) (ih _ _ r h) (by kernel_rfl) ⟨rfl, trivial⟩
      · skip
        exact run_to mixed hμ (L := [0]) (n := 26) (s := [.go, .reg [(3, { v := some (.bool true) })], .reg [(6, { v := some (.bool false) })], .reg []])
          (a_ (a_ (a_ tr tr) (a_ (a_ tr tr) (a_ (a_ tr tr) (a_ (a_ tr (a_ (leB cL0_1) tr)) tr)))) (a_ (a_ (a_ tr tr) (a_ (a_ tr tr) (a_ (a_ (a_ (Eq.refl 10) gL0_2) tr) (a_ (a_ tr tr) (a_ (a_ (le_ 8 10 rfl) tr) (a_ (a_ (a_ tr (le_ 8 8 rfl)) tr) (a_ (a_ tr (a_ (LV.Le.trans (leB ((k_arr8 .u8) (l.getD i.toNat default).f_Key x_k)) (leB cL0_3)) tr)) tr))))))) (a_ (a_ (a_ tr tr) (a_ (a_ tr tr) (a_ (a_ tr tr) tr))) tr))) (ih _ _ r h) (by kernel_rfl) ⟨rfl, trivial⟩
    · skip
      obtain rfl := Option.some.inj h
      exact run_ret mixed (L := []) (n := 19) (s := [.go, .reg [(3, { v := some (.bool false) })], .reg []])
        (a_ (a_ (a_ (a_ tr tr) (a_ (a_ tr tr) (a_ (a_ tr tr) (a_ (a_ tr (a_ (leB cL0_1) tr)) tr)))) (a_ (a_ (a_ tr tr) (a_ (a_ tr tr) tr)) tr)) tr) (by kernel_rfl) rfl

theorem parrelref26_value_ok (l : List (T_parrelref26_Item)) (x_k : A8 (Int)) (r : (List UInt8)) (h : parrelref26_value l x_k = some r) : ∀ σ, Inj 0 σ → FnTri Try.prog 35 (renL σ [.ds 10 (l).length (rowF c_T_parrelref26_Item default l), .agg [.int .u8 x_k.a0, .int .u8 x_k.a1, .int .u8 x_k.a2, .int .u8 x_k.a3, .int .u8 x_k.a4, .int .u8 x_k.a5, .int .u8 x_k.a6, .int .u8 x_k.a7]]) (preOf σ 0 []) ((parrelref26_value_v r).ren σ) (upOf σ []) := by
  refine fn_of Try.func35 (by kernel_rfl) (by kernel_rfl) (by kernel_rfl) trivial (by kernel_rfl) trivial (by kernel_rfl) ?_
  intro w0 W μ0 hμ
  unfold parrelref26_value at h
  exact run_to mixed hμ (L := [0]) (n := 21) (s := [.reg [], .reg [], .reg []])
    (a_ (a_ (a_ tr tr) (a_ (a_ tr tr) tr)) (a_ (a_ (a_ tr tr) tr) (a_ (a_ (a_ tr tr) tr) tr))) (parrelref26_value_l0_ok hμ l x_k  big _ _ r h) (by kernel_rfl) ⟨rfl, trivial⟩

theorem parrelref26_value_tri (l : List (T_parrelref26_Item)) (x_k : A8 (Int)) (r : (List UInt8)) (h : parrelref26_value l x_k = some r) : FnTri Try.prog 35 [.ds 10 (l).length (rowF c_T_parrelref26_Item default l), .agg [.int .u8 x_k.a0, .int .u8 x_k.a1, .int .u8 x_k.a2, .int .u8 x_k.a3, .int .u8 x_k.a4, .int .u8 x_k.a5, .int .u8 x_k.a6, .int .u8 x_k.a7]] [] (parrelref26_value_v r) [] := FnTri.none (parrelref26_value_ok l x_k r h) rfl rfl

/-- parrel/parrelref26.own -/

def parrelref26_own_v (r : (Bool)) : LV := .bool r

def parrelref26_own_T0 (t : T_parrelref26_Tx) (x_r : T_parrelref26_Item) (i : Int) : List LV := [.any, .any, .ptr 0 0 0, .ptr 1 0 0, .any, .int .i64 i, .any, .any, .any, .any, .any, .any, .any, .any, .any, .any, .any, .any, .any, .any, .any, .any, .any, .any, .any, .any, .any, .any, .any, .any, .any, .any, .any]

def parrelref26_own_H0 (t : T_parrelref26_Tx) (x_r : T_parrelref26_Item) (i : Int) : Heap := [some (.var (c_T_parrelref26_Tx t)), some (.var (c_T_parrelref26_Item x_r))]

def parrelref26_own_l0 (t : T_parrelref26_Tx) (x_r : T_parrelref26_Item)  : Nat → (Int) → Option ((Bool))
  | 0, _ => none
  | fuel + 1, i =>
    if ((decide (i < ((t.f_Writes).length : Int))) : Bool) then
      if 0 ≤ i ∧ i < (((t.f_Writes).length : Nat) : Int) then
      if ((decide ((t.f_Writes.getD i.toNat default).f_Key = x_r.f_Key)) : Bool) then
        if (((t.f_Writes.getD i.toNat default).f_Version == x_r.f_Version) : Bool) then
          some true
        else
          parrelref26_own_l0 t x_r  fuel (IntKind.wrap .i64 (i + 1))
      else
        parrelref26_own_l0 t x_r  fuel (IntKind.wrap .i64 (i + 1))
      else none
    else
      some false

def parrelref26_own (t : T_parrelref26_Tx) (x_r : T_parrelref26_Item) : Option ((Bool)) :=
  parrelref26_own_l0 t x_r  big 0

theorem parrelref26_own_l0_ok {w0 : World} {W : Nat → Prop} {μ0 : Emb} (hμ : ∀ c p, μ0 c = some p → c < 0) (t : T_parrelref26_Tx) (x_r : T_parrelref26_Item)  : ∀ (fuel : Nat) (i : Int) (r : (Bool)), parrelref26_own_l0 t x_r  fuel i = some r → kont Try.prog w0 W μ0 (FnPost Try.prog Try.f36 0 0 (parrelref26_own_v r) []) (kAt (bodyOf Try.f36) 0) none (parrelref26_own_T0 t x_r i) (parrelref26_own_H0 t x_r i) := by
  intro fuel
  induction fuel with
  | zero => intro i r h; rw [parrelref26_own_l0] at h; cases h
  | succ fuel ih =>
    intro i r h
    rw [parrelref26_own_l0] at h
    rcases itb_some h with ⟨cL0_1, h⟩ | ⟨cL0_1, h⟩
    · skip
      obtain ⟨gL0_2, h⟩ := guard_some h
      rcases itb_some h with ⟨cL0_3, h⟩ | ⟨cL0_3, h⟩
      · skip
        rcases itb_some h with ⟨cL0_4, h⟩ | ⟨cL0_4, h⟩
        · skip
          obtain rfl := Option.some.inj h
          exact run_ret mixed (L := []) (n := 25) (s := [.go, .reg [(4, { v := some (.bool true) })], .reg [(8, { v := some (.bool (decide ((t.f_Writes.getD i.toNat default).f_Key = x_r.f_Key))) }), (9, { v := some (.bool true) }), (19, { v := some (.bool true) })], .reg []])
            (a_ (a_ (a_ (a_ tr tr) (a_ (a_ tr tr) (a_ (a_ (a_ tr (lt_ 1 4 rfl)) tr) (a_ (a_ tr tr) (a_ (a_ tr (a_ (leB cL0_1) tr)) tr))))) (a_ (a_ (a_ tr tr) (a_ (a_ (a_ tr (lt_ 1 4 rfl)) tr) (a_ (a_ tr tr) (a_ (a_ (a_ (Eq.refl 10) gL0_2) tr) (a_ (a_ tr tr) (a_ (a_ (le_ 8 10 rfl) tr) (a_ (a_ tr tr) (a_ (a_ (a_ tr (le_ 8 10 rfl)) tr) (a_ (a_ tr (a_ (leB ((k_arr8 .u8) (t.f_Writes.getD i.toNat default).f_Key x_r.f_Key)) tr)) (a_ (a_ tr (a_ (leB cL0_3) tr)) (a_ (a_ tr tr) (a_ (a_ (a_ tr (lt_ 1 4 rfl)) tr) (a_ (a_ tr tr) (a_ (a_ (a_ (Eq.refl 10) gL0_2) tr) (a_ (a_ tr tr) (a_ (a_ (lt_ 0 2 rfl) tr) (a_ (a_ tr tr) (a_ (a_ (a_ tr (lt_ 8 10 rfl)) tr) (a_ (a_ tr tr) (a_ (a_ tr (a_ (leB cL0_4) tr)) tr)))))))))))))))))))) (a_ (a_ (a_ tr tr) tr) tr))) tr) (by kernel_rfl) rfl
        · skip
          exact run_to mixed hμ (L := [0, 1]) (n := 26) (s := [.go, .reg [(4, { v := some (.bool true) })], .reg [(8, { v := some (.bool (decide ((t.f_Writes.getD i.toNat default).f_Key = x_r.f_Key))) }), (9, { v := some (.bool true) }), (19, { v := some (.bool false) })], .reg []])
            (a_ (a_ (a_ tr tr) (a_ (a_ tr tr) (a_ (a_ (a_ tr (lt_ 1 4 rfl)) tr) (a_ (a_ tr tr) (a_ (a_ tr (a_ (leB cL0_1) tr)) tr))))) (a_ (a_ (a_ tr tr) (a_ (a_ (a_ tr (lt_ 1 4 rfl)) tr) (a_ (a_ tr tr) (a_ (a_ (a_ (Eq.refl 10) gL0_2) tr) (a_ (a_ tr tr) (a_ (a_ (le_ 8 10 rfl) tr) (a_ (a_ tr tr) (a_ (a_ (a_ tr (le_ 8 10 rfl)) tr) (a_ (a_ tr (a_ (leB ((k_arr8 .u8) (t.f_Writes.getD i.toNat default).f_Key x_r.f_Key)) tr)) (a_ (a_ tr (a_ (leB cL0_3) tr)) (a_ (a_ tr tr) (a_ (a_ (a_ tr (lt_ 1 4 rfl)) tr) (a_ (a_ tr tr) (a_ (a_ (a_ (Eq.refl 10) gL0_2) tr) (a_ (a_ tr tr) (a_ (a_ (lt_ 0 2 rfl) tr) (a_ (a_ tr tr) (a_ (a_ (a_ tr (lt_ 8 10 rfl)) tr) (a_ (a_ tr tr) (a_ (a_ tr (a_ (leB cL0_4) tr)) tr)))))))))))))))))))) (a_ (a_ (a_ tr tr) (a_ (a_ tr tr) (a_ (a_ tr tr) tr))) tr))) (ih _ r h) (by kernel_rfl) ⟨rfl, rfl, trivial⟩
      · skip
        exact run_to mixed hμ (L := [0, 1]) (n := 26) (s := [.go, .reg [(4, { v := some (.bool true) })], .reg [(8, { v := some (.bool (decide ((t.f_Writes.getD i.toNat default).f_Key = x_r.f_Key))) }), (9, { v := some (.bool false) })], .reg []])
          (a_ (a_ (a_ tr tr) (a_ (a_ tr tr) (a_ (a_ (a_ tr (lt_ 1 4 rfl)) tr) (a_ (a_ tr tr) (a_ (a_ tr (a_ (leB cL0_1) tr)) tr))))) (a_ (a_ (a_ tr tr) (a_ (a_ (a_ tr (lt_ 1 4 rfl)) tr) (a_ (a_ tr tr) (a_ (a_ (a_ (Eq.refl 10) gL0_2) tr) (a_ (a_ tr tr) (a_ (a_ (le_ 8 10 rfl) tr) (a_ (a_ tr tr) (a_ (a_ (a_ tr (le_ 8 10 rfl)) tr) (a_ (a_ tr (a_ (leB ((k_arr8 .u8) (t.f_Writes.getD i.toNat default).f_Key x_r.f_Key)) tr)) (a_ (a_ tr (a_ (leB cL0_3) tr)) (a_ tr (a_ tr (a_ tr (a_ tr (a_ tr (a_ tr (a_ tr (a_ tr (a_ tr (a_ (a_ tr tr) tr)))))))))))))))))))) (a_ (a_ (a_ tr tr) (a_ (a_ tr tr) (a_ (a_ tr tr) tr))) tr))) (ih _ r h) (by kernel_rfl) ⟨rfl, rfl, trivial⟩
    · skip
      obtain rfl := Option.some.inj h
      exact run_ret mixed (L := []) (n := 19) (s := [.go, .reg [(4, { v := some (.bool false) })], .reg []])
        (a_ (a_ (a_ (a_ tr tr) (a_ (a_ tr tr) (a_ (a_ (a_ tr (lt_ 1 4 rfl)) tr) (a_ (a_ tr tr) (a_ (a_ tr (a_ (leB cL0_1) tr)) tr))))) (a_ (a_ (a_ tr tr) tr) tr)) tr) (by kernel_rfl) rfl

theorem parrelref26_own_ok (t : T_parrelref26_Tx) (x_r : T_parrelref26_Item) (r : (Bool)) (h : parrelref26_own t x_r = some r) : ∀ σ, Inj 0 σ → FnTri Try.prog 36 (renL σ [v_T_parrelref26_Tx t, v_T_parrelref26_Item x_r]) (preOf σ 0 []) ((parrelref26_own_v r).ren σ) (upOf σ []) := by
  refine fn_of Try.func36 (by kernel_rfl) (by kernel_rfl) (by kernel_rfl) trivial (by kernel_rfl) trivial (by kernel_rfl) ?_
  intro w0 W μ0 hμ
  unfold parrelref26_own at h
  exact run_to mixed hμ (L := [0, 1]) (n := 18) (s := [.reg [], .reg []])
    (a_ (a_ (a_ tr tr) (a_ (a_ tr tr) (a_ (a_ tr tr) tr))) (a_ (a_ (a_ tr tr) tr) tr)) (parrelref26_own_l0_ok hμ t x_r  big _ r h) (by kernel_rfl) ⟨rfl, rfl, trivial⟩

theorem parrelref26_own_tri (t : T_parrelref26_Tx) (x_r : T_parrelref26_Item) (r : (Bool)) (h : parrelref26_own t x_r = some r) : FnTri Try.prog 36 [v_T_parrelref26_Tx t, v_T_parrelref26_Item x_r] [] (parrelref26_own_v r) [] := FnTri.none (parrelref26_own_ok t x_r r h) rfl rfl

/-- parrel/parrelref26.Play -/

def parrelref26_Play_v (r : (Bool)) : LV := .bool r

def parrelref26_Play_T1 (l : List (T_parrelref26_Tx)) (order : List (Int)) (state : List (T_parrelref26_Item)) (i : Int) (j : Int) : List LV := [.ds 4 (l).length (rowF c_T_parrelref26_Tx default l), .ds 1 (order).length (rowF (cInt .i64) default order), .any, .any, .any, .ds 10 (state).length (rowF c_T_parrelref26_Item default state), .int .i64 i, .any, .ptr 0 0 0, .int .i64 j, .any, .any, .any, .any, .any, .any, .any, .any, .any, .any, .any, .any, .any, .any, .any, .any, .any, .any, .any, .any, .any, .any, .any, .any, .any, .any, .any, .any, .any, .any, .any, .any, .any, .any, .any, .any, .any, .any, .any, .any, .any, .any, .any, .any, .any, .any, .any, .any, .any, .any, .any, .any, .any, .any, .any, .any, .any, .any, .any, .any, .any, .any, .any, .any, .any, .any, .any, .any, .any, .any, .any, .any, .any, .any]

def parrelref26_Play_H1 (l : List (T_parrelref26_Tx)) (order : List (Int)) (state : List (T_parrelref26_Item)) (i : Int) (j : Int) : Heap := [some (.var (c_T_parrelref26_Tx (l.getD ((order.getD i.toNat default)).toNat default)))]

def parrelref26_Play_T0 (l : List (T_parrelref26_Tx)) (order : List (Int)) (state : List (T_parrelref26_Item)) (i : Int) : List LV := [.ds 4 (l).length (rowF c_T_parrelref26_Tx default l), .ds 1 (order).length (rowF (cInt .i64) default order), .any, .any, .any, .ds 10 (state).length (rowF c_T_parrelref26_Item default state), .int .i64 i, .any, .any, .any, .any, .any, .any, .any, .any, .any, .any, .any, .any, .any, .any, .any, .any, .any, .any, .any, .any, .any, .any, .any, .any, .any, .any, .any, .any, .any, .any, .any, .any, .any, .any, .any, .any, .any, .any, .any, .any, .any, .any, .any, .any, .any, .any, .any, .any, .any, .any, .any, .any, .any, .any, .any, .any, .any, .any, .any, .any, .any, .any, .any, .any, .any, .any, .any, .any, .any, .any, .any, .any, .any, .any, .any, .any, .any]

def parrelref26_Play_H0 (l : List (T_parrelref26_Tx)) (order : List (Int)) (state : List (T_parrelref26_Item)) (i : Int) : Heap := []

def parrelref26_Play_l1 (l : List (T_parrelref26_Tx)) (order : List (Int)) (state : List (T_parrelref26_Item)) (i : Int) (k0 : (List (T_parrelref26_Item)) → (Int) → Option ((Bool))) : Nat → (Int) → Option ((Bool))
  | 0, _ => none
  | fuel + 1, j =>
    if ((decide (j < (((l.getD ((order.getD i.toNat default)).toNat default).f_Reads).length : Int))) : Bool) then
      if 0 ≤ j ∧ j < ((((l.getD ((order.getD i.toNat default)).toNat default).f_Reads).length : Nat) : Int) then
      (parrelref26_value state ((l.getD ((order.getD i.toNat default)).toNat default).f_Reads.getD j.toNat default).f_Key).bind fun yL1_4 =>
      (parrelref26_own (l.getD ((order.getD i.toNat default)).toNat default) ((l.getD ((order.getD i.toNat default)).toNat default).f_Reads.getD j.toNat default)).bind fun yL1_6 =>
      if (yL1_6 : Bool) then
        (parrelref26_value (l.getD ((order.getD i.toNat default)).toNat default).f_Writes ((l.getD ((order.getD i.toNat default)).toNat default).f_Reads.getD j.toNat default).f_Key).bind fun yL1_9 =>
        if ((!(((l.getD ((order.getD i.toNat default)).toNat default).f_Reads.getD j.toNat default).f_Value == yL1_9)) : Bool) then
          some false
        else
          parrelref26_Play_l1 l order state i k0 fuel (IntKind.wrap .i64 (j + 1))
      else
        if ((!(((l.getD ((order.getD i.toNat default)).toNat default).f_Reads.getD j.toNat default).f_Value == yL1_4)) : Bool) then
          some false
        else
          parrelref26_Play_l1 l order state i k0 fuel (IntKind.wrap .i64 (j + 1))
      else none
    else
      if (0 + (state).length) * 32 ≤ 140737488351232 then
      if ((state).length + ((l.getD ((order.getD i.toNat default)).toNat default).f_Writes).length) * 32 ≤ 140737488351232 then
      k0 (state ++ (l.getD ((order.getD i.toNat default)).toNat default).f_Writes) (IntKind.wrap .i64 (i + 1))
      else none
      else none

def parrelref26_Play_l0 (l : List (T_parrelref26_Tx)) (order : List (Int))  : Nat → (List (T_parrelref26_Item)) → (Int) → Option ((Bool))
  | 0, _, _ => none
  | fuel + 1, state, i =>
    if ((decide (i < ((order).length : Int))) : Bool) then
      if 0 ≤ i ∧ i < (((order).length : Nat) : Int) then
      if ((decide ((order.getD i.toNat default) < 0)) : Bool) then
        some false
      else
        if ((decide (((l).length : Int) ≤ (order.getD i.toNat default))) : Bool) then
          some false
        else
          if 0 ≤ (0 : Int) ∧ 0 ≤ i ∧ i ≤ (((order).length : Nat) : Int) then
          (parrelref26_has (order.take i.toNat) (order.getD i.toNat default)).bind fun yL0_7 =>
          if (yL0_7 : Bool) then
            some false
          else
            if 0 ≤ (order.getD i.toNat default) ∧ (order.getD i.toNat default) < (((l).length : Nat) : Int) then
            parrelref26_Play_l1 l order state i (parrelref26_Play_l0 l order  fuel) big 0
            else none
          else none
      else none
    else
      some true

def parrelref26_Play (l : List (T_parrelref26_Tx)) (order : List (Int)) : Option ((Bool)) :=
  if ((((order).length : Int) != ((l).length : Int)) : Bool) then
    some false
  else
    (parrelref26_may l).bind fun y3 =>
    if ((!y3) : Bool) then
      some false
    else
      parrelref26_Play_l0 l order  big ([] : List (T_parrelref26_Item)) 0

theorem parrelref26_Play_l1_ok {w0 : World} {W : Nat → Prop} {μ0 : Emb} (hμ : ∀ c p, μ0 c = some p → c < 0) (l : List (T_parrelref26_Tx)) (order : List (Int)) (state : List (T_parrelref26_Item)) (i : Int) (k0 : (List (T_parrelref26_Item)) → (Int) → Option ((Bool))) (hk0 : ∀ (state : List (T_parrelref26_Item)) (i : Int) (r : (Bool)), k0 state i = some r → kont Try.prog w0 W μ0 (FnPost Try.prog Try.f19 0 0 (parrelref26_Play_v r) []) (kAt (bodyOf Try.f19) 0) none (parrelref26_Play_T0 l order state i) (parrelref26_Play_H0 l order state i)) : ∀ (fuel : Nat) (j : Int) (r : (Bool)), parrelref26_Play_l1 l order state i k0 fuel j = some r → kont Try.prog w0 W μ0 (FnPost Try.prog Try.f19 0 0 (parrelref26_Play_v r) []) (kAt (bodyOf Try.f19) 1) none (parrelref26_Play_T1 l order state i j) (parrelref26_Play_H1 l order state i j) := by
  intro fuel
  induction fuel with
  | zero => intro j r h; rw [parrelref26_Play_l1] at h; cases h
  | succ fuel ih =>
    intro j r h
    rw [parrelref26_Play_l1] at h
    rcases itb_some h with ⟨cL1_1, h⟩ | ⟨cL1_1, h⟩
    · skip
      obtain ⟨gL1_2, h⟩ := guard_some h
      obtain ⟨yL1_4, eL1_3, h⟩ := bind_some h
      obtain ⟨yL1_6, eL1_5, h⟩ := bind_some h
      rcases itb_some h with ⟨cL1_7, h⟩ | ⟨cL1_7, h⟩
      · skip
        obtain ⟨yL1_9, eL1_8, h⟩ := bind_some h
        rcases itb_some h with ⟨cL1_10, h⟩ | ⟨cL1_10, h⟩
        · skip
          obtain rfl := Option.some.inj h
          exact run_ret mixed (L := []) (n := 38) (s := [.go, .reg [(4, { v := some (.bool true) })], .reg [], .reg [(3, { call := some (parrelref26_value_v yL1_4, [], []) })], .reg [(2, { call := some (parrelref26_own_v yL1_6, [], []), v := some (.bool true) })], .reg [(4, { call := some (parrelref26_value_v yL1_9, [], []) })], .reg [(3, { v := some (.bool true) })], .reg []])
            (a_ (a_ (a_ (a_ tr tr) (a_ (a_ tr tr) (a_ (a_ (a_ tr (lt_ 0 4 rfl)) tr) (a_ (a_ tr tr) (a_ (a_ tr (a_ (leB cL1_1) tr)) tr))))) (a_ (a_ (a_ tr tr) (a_ (a_ (a_ tr (lt_ 0 4 rfl)) tr) (a_ (a_ tr tr) (a_ (a_ (a_ (Eq.refl 10) gL1_2) tr) (a_ (a_ (le_ 10 10 rfl) tr) (a_ (a_ tr tr) (a_ (a_ (a_ (Eq.refl 10) (a_ (le_ 10 10 rfl) (Eq.refl 0))) tr) tr))))))) (a_ (a_ (a_ tr tr) (a_ (a_ tr tr) (a_ (a_ (a_ tr (le_ 8 10 rfl)) tr) (a_ (a_ (a_ (parrelref26_value_tri state ((l.getD ((order.getD i.toNat default)).toNat default).f_Reads.getD j.toNat default).f_Key yL1_4 eL1_3) tr) tr) (a_ (a_ tr tr) tr))))) (a_ (a_ (a_ (a_ tr (le_ 4 4 rfl)) tr) (a_ (a_ (a_ tr (le_ 10 10 rfl)) tr) (a_ (a_ (a_ (parrelref26_own_tri (l.getD ((order.getD i.toNat default)).toNat default) ((l.getD ((order.getD i.toNat default)).toNat default).f_Reads.getD j.toNat default) yL1_6 eL1_5) tr) (a_ (leB cL1_7) tr)) tr))) (a_ (a_ (a_ tr tr) (a_ (a_ (a_ tr (lt_ 1 4 rfl)) tr) (a_ (a_ tr tr) (a_ (a_ (a_ tr (le_ 8 10 rfl)) tr) (a_ (a_ (a_ (parrelref26_value_tri (l.getD ((order.getD i.toNat default)).toNat default).f_Writes ((l.getD ((order.getD i.toNat default)).toNat default).f_Reads.getD j.toNat default).f_Key yL1_9 eL1_8) tr) tr) (a_ (a_ tr tr) tr)))))) (a_ (a_ (a_ tr tr) (a_ (a_ (a_ tr (lt_ 9 10 rfl)) tr) (a_ (a_ tr tr) (a_ (a_ tr (a_ (leB cL1_10) tr)) tr)))) (a_ (a_ (a_ tr tr) tr) tr))))))) tr) (by kernel_rfl) rfl
        · skip
          exact run_to mixed hμ (L := [0]) (n := 39) (s := [.go, .reg [(4, { v := some (.bool true) })], .reg [], .reg [(3, { call := some (parrelref26_value_v yL1_4, [], []) })], .reg [(2, { call := some (parrelref26_own_v yL1_6, [], []), v := some (.bool true) })], .reg [(4, { call := some (parrelref26_value_v yL1_9, [], []) })], .reg [(3, { v := some (.bool false) })], .reg []])
            (a_ (a_ (a_ tr tr) (a_ (a_ tr tr) (a_ (a_ (a_ tr (lt_ 0 4 rfl)) tr) (a_ (a_ tr tr) (a_ (a_ tr (a_ (leB cL1_1) tr)) tr))))) (a_ (a_ (a_ tr tr) (a_ (a_ (a_ tr (lt_ 0 4 rfl)) tr) (a_ (a_ tr tr) (a_ (a_ (a_ (Eq.refl 10) gL1_2) tr) (a_ (a_ (le_ 10 10 rfl) tr) (a_ (a_ tr tr) (a_ (a_ (a_ (Eq.refl 10) (a_ (le_ 10 10 rfl) (Eq.refl 0))) tr) tr))))))) (a_ (a_ (a_ tr tr) (a_ (a_ tr tr) (a_ (a_ (a_ tr (le_ 8 10 rfl)) tr) (a_ (a_ (a_ (parrelref26_value_tri state ((l.getD ((order.getD i.toNat default)).toNat default).f_Reads.getD j.toNat default).f_Key yL1_4 eL1_3) tr) tr) (a_ (a_ tr tr) tr))))) (a_ (a_ (a_ (a_ tr (le_ 4 4 rfl)) tr) (a_ (a_ (a_ tr (le_ 10 10 rfl)) tr) (a_ (a_ (a_ (parrelref26_own_tri (l.getD ((order.getD i.toNat default)).toNat default) ((l.getD ((order.getD i.toNat default)).toNat default).f_Reads.getD j.toNat default) yL1_6 eL1_5) tr) (a_ (leB cL1_7) tr)) tr))) (a_ (a_ (a_ tr tr) (a_ (a_ (a_ tr (lt_ 1 4 rfl)) tr) (a_ (a_ tr tr) (a_ (a_ (a_ tr (le_ 8 10 rfl)) tr) (a_ (a_ (a_ (parrelref26_value_tri (l.getD ((order.getD i.toNat default)).toNat default).f_Writes ((l.getD ((order.getD i.toNat default)).toNat default).f_Reads.getD j.toNat default).f_Key yL1_9 eL1_8) tr) tr) (a_ (a_ tr tr) tr)))))) (a_ (a_ (a_ tr tr) (a_ (a_ (a_ tr (lt_ 9 10 rfl)) tr) (a_ (a_ tr tr) (a_ (a_ tr (a_ (leB cL1_10) tr)) tr)))) (a_ (a_ (a_ tr tr) (a_ (a_ tr tr) (a_ (a_ tr tr) tr))) tr))))))) (ih _ r h) (by kernel_rfl) ⟨rfl, trivial⟩
      · skip
        rcases itb_some h with ⟨cL1_8, h⟩ | ⟨cL1_8, h⟩
        · skip
          obtain rfl := Option.some.inj h
          exact run_ret mixed (L := []) (n := 37) (s := [.go, .reg [(4, { v := some (.bool true) })], .reg [], .reg [(3, { call := some (parrelref26_value_v yL1_4, [], []) })], .reg [(2, { call := some (parrelref26_own_v yL1_6, [], []), v := some (.bool false) })], .reg [(3, { v := some (.bool true) })], .reg []])
            (a_ (a_ (a_ (a_ tr tr) (a_ (a_ tr tr) (a_ (a_ (a_ tr (lt_ 0 4 rfl)) tr) (a_ (a_ tr tr) (a_ (a_ tr (a_ (leB cL1_1) tr)) tr))))) (a_ (a_ (a_ tr tr) (a_ (a_ (a_ tr (lt_ 0 4 rfl)) tr) (a_ (a_ tr tr) (a_ (a_ (a_ (Eq.refl 10) gL1_2) tr) (a_ (a_ (le_ 10 10 rfl) tr) (a_ (a_ tr tr) (a_ (a_ (a_ (Eq.refl 10) (a_ (le_ 10 10 rfl) (Eq.refl 0))) tr) tr))))))) (a_ (a_ (a_ tr tr) (a_ (a_ tr tr) (a_ (a_ (a_ tr (le_ 8 10 rfl)) tr) (a_ (a_ (a_ (parrelref26_value_tri state ((l.getD ((order.getD i.toNat default)).toNat default).f_Reads.getD j.toNat default).f_Key yL1_4 eL1_3) tr) tr) (a_ (a_ tr tr) tr))))) (a_ (a_ (a_ (a_ tr (le_ 4 4 rfl)) tr) (a_ (a_ (a_ tr (le_ 10 10 rfl)) tr) (a_ (a_ (a_ (parrelref26_own_tri (l.getD ((order.getD i.toNat default)).toNat default) ((l.getD ((order.getD i.toNat default)).toNat default).f_Reads.getD j.toNat default) yL1_6 eL1_5) tr) (a_ (leB cL1_7) tr)) tr))) (a_ (a_ (a_ tr tr) (a_ (a_ (a_ tr (lt_ 9 10 rfl)) tr) (a_ (a_ tr tr) (a_ (a_ tr (a_ (leB cL1_8) tr)) tr)))) (a_ (a_ (a_ tr tr) tr) tr)))))) tr) (by kernel_rfl) rfl
        · skip
          exact run_to mixed hμ (L := [0]) (n := 38) (s := [.go, .reg [(4, { v := some (.bool true) })], .reg [], .reg [(3, { call := some (parrelref26_value_v yL1_4, [], []) })], .reg [(2, { call := some (parrelref26_own_v yL1_6, [], []), v := some (.bool false) })], .reg [(3, { v := some (.bool false) })], .reg []])
            (a_ (a_ (a_ tr tr) (a_ (a_ tr tr) (a_ (a_ (a_ tr (lt_ 0 4 rfl)) tr) (a_ (a_ tr tr) (a_ (a_ tr (a_ (leB cL1_1) tr)) tr))))) (a_ (a_ (a_ tr tr) (a_ (a_ (a_ tr (lt_ 0 4 rfl)) tr) (a_ (a_ tr tr) (a_ (a_ (a_ (Eq.refl 10) gL1_2) tr) (a_ (a_ (le_ 10 10 rfl) tr) (a_ (a_ tr tr) (a_ (a_ (a_ (Eq.refl 10) (a_ (le_ 10 10 rfl) (Eq.refl 0))) tr) tr))))))) (a_ (a_ (a_ tr tr) (a_ (a_ tr tr) (a_ (a_ (a_ tr (le_ 8 10 rfl)) tr) (a_ (a_ (a_ (parrelref26_value_tri state ((l.getD ((order.getD i.toNat default)).toNat default).f_Reads.getD j.toNat default).f_Key yL1_4 eL1_3) tr) tr) (a_ (a_ tr tr) tr))))) (a_ (a_ (a_ (a_ tr (le_ 4 4 rfl)) tr) (a_ (a_ (a_ tr (le_ 10 10 rfl)) tr) (a_ (a_ (a_ (parrelref26_own_tri (l.getD ((order.getD i.toNat default)).toNat default) ((l.getD ((order.getD i.toNat default)).toNat default).f_Reads.getD j.toNat default) yL1_6 eL1_5) tr) (a_ (leB cL1_7) tr)) tr))) (a_ (a_ (a_ tr tr) (a_ (a_ (a_ tr (lt_ 9 10 rfl)) tr) (a_ (a_ tr tr) (a_ (a_ tr (a_ (leB cL1_8) tr)) tr)))) (a_ (a_ (a_ tr tr) (a_ (a_ tr tr) (a_ (a_ tr tr) tr))) tr)))))) (ih _ r h) (by kernel_rfl) ⟨rfl, trivial⟩
    · skip
      obtain ⟨gL1_2, h⟩ := guard_some h
      obtain ⟨gL1_3, h⟩ := guard_some h
      exact run_to mixed hμ (L := []) (n := 22) (s := [.go, .reg [(4, { v := some (.bool false) })], .reg [(1, { app := 3 }), (4, { app := 3, os := [(2, .gr 10 ((state ++ (l.getD ((order.getD i.toNat default)).toNat default).f_Writes)).length (rowF c_T_parrelref26_Item default (state ++ (l.getD ((order.getD i.toNat default)).toNat default).f_Writes)))], v := some (.gs 2 ((state ++ (l.getD ((order.getD i.toNat default)).toNat default).f_Writes)).length) })], .reg [], .frz 2])
        (a_ (a_ (a_ tr tr) (a_ (a_ tr tr) (a_ (a_ (a_ tr (lt_ 0 4 rfl)) tr) (a_ (a_ tr tr) (a_ (a_ tr (a_ (leB cL1_1) tr)) tr))))) (a_ (a_ (a_ tr tr) (a_ (a_ (a_ (Eq.refl 10) (a_ (lt_ 0 10 rfl) (a_ (lt_ 0 32 rfl) (a_ gL1_2 (a_ (Eq.refl 10) (Eq.refl true)))))) tr) (a_ (a_ tr tr) (a_ (a_ (a_ tr (lt_ 1 4 rfl)) tr) (a_ (a_ (a_ (Eq.refl 10) (a_ (a_ (lt_ 0 10 rfl) (a_ (lt_ 0 32 rfl) (a_ gL1_3 (a_ (Eq.refl 10) (Eq.refl true))))) (a_ (Eq.refl 10) (Nat.le_refl (state).length)))) (a_ (le_gs_app 2 state (l.getD ((order.getD i.toNat default)).toNat default).f_Writes) (a_ (sub_app c_T_parrelref26_Item default 10 state (l.getD ((order.getD i.toNat default)).toNat default).f_Writes) tr))) (a_ (a_ tr tr) tr)))))) (a_ (a_ (a_ tr tr) (a_ (a_ tr tr) (a_ (a_ tr tr) tr))) (a_ (a_ (fz_row (enc := c_T_parrelref26_Item) (d := default) (fun _ => rfl) (state ++ (l.getD ((order.getD i.toNat default)).toNat default).f_Writes)) (a_ (Nat.le_refl ((state ++ (l.getD ((order.getD i.toNat default)).toNat default).f_Writes)).length) (a_ (Nat.le_refl ((state ++ (l.getD ((order.getD i.toNat default)).toNat default).f_Writes)).length) tr))) tr)))) (hk0 _ _ r h) (by kernel_rfl) trivial

theorem parrelref26_Play_l0_ok {w0 : World} {W : Nat → Prop} {μ0 : Emb} (hμ : ∀ c p, μ0 c = some p → c < 0) (l : List (T_parrelref26_Tx)) (order : List (Int))  : ∀ (fuel : Nat) (state : List (T_parrelref26_Item)) (i : Int) (r : (Bool)), parrelref26_Play_l0 l order  fuel state i = some r → kont Try.prog w0 W μ0 (FnPost Try.prog Try.f19 0 0 (parrelref26_Play_v r) []) (kAt (bodyOf Try.f19) 0) none (parrelref26_Play_T0 l order state i) (parrelref26_Play_H0 l order state i) := by
  intro fuel
  induction fuel with
  | zero => intro state i r h; rw [parrelref26_Play_l0] at h; cases h
  | succ fuel ih =>
    intro state i r h
    rw [parrelref26_Play_l0] at h
    rcases itb_some h with ⟨cL0_1, h⟩ | ⟨cL0_1, h⟩
    · skip
      obtain ⟨gL0_2, h⟩ := guard_some h
      rcases itb_some h with ⟨cL0_3, h⟩ | ⟨cL0_3, h⟩
      · skip
        obtain rfl := Option.some.inj h
        exact run_ret mixed (L := []) (n := 29) (s := [.go, .reg [(3, { v := some (.bool true) })], .reg [], .reg [(2, { v := some (.bool true) })], .reg []])
          (a_ (a_ (a_ (a_ tr tr) (a_ (a_ tr tr) (a_ (a_ tr tr) (a_ (a_ tr (a_ (leB cL0_1) tr)) tr)))) (a_ (a_ (a_ tr tr) (a_ (a_ tr tr) (a_ (a_ (a_ (Eq.refl 1) gL0_2) tr) (a_ (a_ (lt_ 0 1 rfl) tr) (a_ (a_ tr tr) tr))))) (a_ (a_ (a_ tr tr) (a_ (a_ tr tr) (a_ (a_ tr (a_ (leB cL0_3) tr)) (a_ tr (a_ tr (a_ tr (a_ tr (a_ (a_ tr tr) (a_ (a_ tr tr) (a_ tr (a_ tr (a_ tr (a_ tr (a_ tr (a_ (a_ tr tr) tr))))))))))))))) (a_ (a_ (a_ tr tr) tr) tr)))) tr) (by kernel_rfl) rfl
      · skip
        rcases itb_some h with ⟨cL0_4, h⟩ | ⟨cL0_4, h⟩
        · skip
          obtain rfl := Option.some.inj h
          exact run_ret mixed (L := []) (n := 29) (s := [.go, .reg [(3, { v := some (.bool true) })], .reg [], .reg [(2, { v := some (.bool false) }), (8, { v := some (.bool true) })], .reg []])
            (a_ (a_ (a_ (a_ tr tr) (a_ (a_ tr tr) (a_ (a_ tr tr) (a_ (a_ tr (a_ (leB cL0_1) tr)) tr)))) (a_ (a_ (a_ tr tr) (a_ (a_ tr tr) (a_ (a_ (a_ (Eq.refl 1) gL0_2) tr) (a_ (a_ (lt_ 0 1 rfl) tr) (a_ (a_ tr tr) tr))))) (a_ (a_ (a_ tr tr) (a_ (a_ tr tr) (a_ (a_ tr (a_ (leB cL0_3) tr)) (a_ (a_ tr tr) (a_ (a_ tr tr) (a_ (a_ tr tr) (a_ (a_ tr tr) (a_ (a_ tr tr) (a_ (a_ tr (a_ (leB cL0_4) tr)) (a_ tr (a_ tr (a_ tr (a_ tr (a_ tr (a_ (a_ tr tr) tr))))))))))))))) (a_ (a_ (a_ tr tr) tr) tr)))) tr) (by kernel_rfl) rfl
        · skip
          obtain ⟨gL0_5, h⟩ := guard_some h
          obtain ⟨yL0_7, eL0_6, h⟩ := bind_some h
          rcases itb_some h with ⟨cL0_8, h⟩ | ⟨cL0_8, h⟩
          · skip
            obtain rfl := Option.some.inj h
            exact run_ret mixed (L := []) (n := 29) (s := [.go, .reg [(3, { v := some (.bool true) })], .reg [], .reg [(2, { v := some (.bool false) }), (8, { v := some (.bool false) }), (11, { v := some (.ds 1 ((order.take i.toNat)).length (rowF (cInt .i64) default (order.take i.toNat))) }), (13, { call := some (parrelref26_has_v yL0_7, [], []) }), (14, { v := some (.bool true) })], .reg []])
              (a_ (a_ (a_ (a_ tr tr) (a_ (a_ tr tr) (a_ (a_ tr tr) (a_ (a_ tr (a_ (leB cL0_1) tr)) tr)))) (a_ (a_ (a_ tr tr) (a_ (a_ tr tr) (a_ (a_ (a_ (Eq.refl 1) gL0_2) tr) (a_ (a_ (lt_ 0 1 rfl) tr) (a_ (a_ tr tr) tr))))) (a_ (a_ (a_ tr tr) (a_ (a_ tr tr) (a_ (a_ tr (a_ (leB cL0_3) tr)) (a_ (a_ tr tr) (a_ (a_ tr tr) (a_ (a_ tr tr) (a_ (a_ tr tr) (a_ (a_ tr tr) (a_ (a_ tr (a_ (leB cL0_4) tr)) (a_ (a_ tr tr) (a_ (a_ tr tr) (a_ (a_ (a_ (Eq.refl 1) gL0_5) (a_ (le_take (cInt .i64) default 1 order i.toNat (toN_le gL0_5.2.2)) tr)) (a_ (a_ tr tr) (a_ (a_ (a_ (parrelref26_has_tri (order.take i.toNat) (order.getD i.toNat default) yL0_7 eL0_6) tr) tr) (a_ (a_ tr (a_ (leB cL0_8) tr)) tr))))))))))))))) (a_ (a_ (a_ tr tr) tr) tr)))) tr) (by kernel_rfl) rfl
          · skip
            obtain ⟨gL0_9, h⟩ := guard_some h
            exact run_to mixed hμ (L := [0]) (n := 36) (s := [.go, .reg [(3, { v := some (.bool true) })], .reg [], .reg [(2, { v := some (.bool false) }), (8, { v := some (.bool false) }), (11, { v := some (.ds 1 ((order.take i.toNat)).length (rowF (cInt .i64) default (order.take i.toNat))) }), (13, { call := some (parrelref26_has_v yL0_7, [], []) }), (14, { v := some (.bool false) })], .reg [], .reg []])
              (a_ (a_ (a_ tr tr) (a_ (a_ tr tr) (a_ (a_ tr tr) (a_ (a_ tr (a_ (leB cL0_1) tr)) tr)))) (a_ (a_ (a_ tr tr) (a_ (a_ tr tr) (a_ (a_ (a_ (Eq.refl 1) gL0_2) tr) (a_ (a_ (lt_ 0 1 rfl) tr) (a_ (a_ tr tr) tr))))) (a_ (a_ (a_ tr tr) (a_ (a_ tr tr) (a_ (a_ tr (a_ (leB cL0_3) tr)) (a_ (a_ tr tr) (a_ (a_ tr tr) (a_ (a_ tr tr) (a_ (a_ tr tr) (a_ (a_ tr tr) (a_ (a_ tr (a_ (leB cL0_4) tr)) (a_ (a_ tr tr) (a_ (a_ tr tr) (a_ (a_ (a_ (Eq.refl 1) gL0_5) (a_ (le_take (cInt .i64) default 1 order i.toNat (toN_le gL0_5.2.2)) tr)) (a_ (a_ tr tr) (a_ (a_ (a_ (parrelref26_has_tri (order.take i.toNat) (order.getD i.toNat default) yL0_7 eL0_6) tr) tr) (a_ (a_ tr (a_ (leB cL0_8) tr)) tr))))))))))))))) (a_ (a_ (a_ tr tr) (a_ (a_ tr tr) (a_ (a_ (a_ (Eq.refl 4) gL0_9) tr) (a_ (a_ (le_ 4 4 rfl) tr) (a_ (a_ tr tr) (a_ (a_ (a_ (Eq.refl 4) (a_ (le_ 4 4 rfl) (Eq.refl 0))) tr) tr)))))) (a_ (a_ (a_ tr tr) tr) tr))))) (parrelref26_Play_l1_ok hμ l order state i (parrelref26_Play_l0 l order  fuel) (fun state i r h => ih state i r h) big _ r h) (by kernel_rfl) ⟨rfl, trivial⟩
    · skip
      obtain rfl := Option.some.inj h
      exact run_ret mixed (L := []) (n := 19) (s := [.go, .reg [(3, { v := some (.bool false) })], .reg []])
        (a_ (a_ (a_ (a_ tr tr) (a_ (a_ tr tr) (a_ (a_ tr tr) (a_ (a_ tr (a_ (leB cL0_1) tr)) tr)))) (a_ (a_ (a_ tr tr) tr) tr)) tr) (by kernel_rfl) rfl

theorem parrelref26_Play_ok (l : List (T_parrelref26_Tx)) (order : List (Int)) (r : (Bool)) (h : parrelref26_Play l order = some r) : ∀ σ, Inj 0 σ → FnTri Try.prog 19 (renL σ [.ds 4 (l).length (rowF c_T_parrelref26_Tx default l), .ds 1 (order).length (rowF (cInt .i64) default order)]) (preOf σ 0 []) ((parrelref26_Play_v r).ren σ) (upOf σ []) := by
  refine fn_of Try.func19 (by kernel_rfl) (by kernel_rfl) (by kernel_rfl) trivial (by kernel_rfl) trivial (by kernel_rfl) ?_
  intro w0 W μ0 hμ
  unfold parrelref26_Play at h
  rcases itb_some h with ⟨c1, h⟩ | ⟨c1, h⟩
  · skip
    obtain rfl := Option.some.inj h
    exact run_ret mixed (L := []) (n := 20) (s := [.reg [], .reg [(5, { v := some (.bool true) })], .reg []])
      (a_ (a_ (a_ (a_ tr tr) tr) (a_ (a_ (a_ tr tr) (a_ (a_ tr tr) (a_ (a_ tr tr) (a_ (a_ tr tr) (a_ (a_ tr tr) (a_ (a_ tr (a_ (leB c1) tr)) (a_ tr (a_ tr (a_ tr (a_ (a_ tr tr) tr)))))))))) (a_ (a_ (a_ tr tr) tr) tr))) tr) (by kernel_rfl) rfl
  · skip
    obtain ⟨y3, e2, h⟩ := bind_some h
    rcases itb_some h with ⟨c4, h⟩ | ⟨c4, h⟩
    · skip
      obtain rfl := Option.some.inj h
      exact run_ret mixed (L := []) (n := 20) (s := [.reg [], .reg [(5, { v := some (.bool false) }), (7, { call := some (parrelref26_may_v y3, [], []) }), (9, { v := some (.bool true) })], .reg []])
        (a_ (a_ (a_ (a_ tr tr) tr) (a_ (a_ (a_ tr tr) (a_ (a_ tr tr) (a_ (a_ tr tr) (a_ (a_ tr tr) (a_ (a_ tr tr) (a_ (a_ tr (a_ (leB c1) tr)) (a_ (a_ tr tr) (a_ (a_ (a_ (parrelref26_may_tri l y3 e2) tr) tr) (a_ (a_ tr tr) (a_ (a_ tr (a_ (leB c4) tr)) tr)))))))))) (a_ (a_ (a_ tr tr) tr) tr))) tr) (by kernel_rfl) rfl
    · skip
      exact run_to mixed hμ (L := []) (n := 29) (s := [.reg [], .reg [(5, { v := some (.bool false) }), (7, { call := some (parrelref26_may_v y3, [], []) }), (9, { v := some (.bool false) })], .void (.gr 10 (([] : List (T_parrelref26_Item))).length (rowF c_T_parrelref26_Item default ([] : List (T_parrelref26_Item)))), .reg [(0, { v := some (.gs 0 (([] : List (T_parrelref26_Item))).length) })], .reg [], .frz 0])
        (a_ (a_ (a_ tr tr) tr) (a_ (a_ (a_ tr tr) (a_ (a_ tr tr) (a_ (a_ tr tr) (a_ (a_ tr tr) (a_ (a_ tr tr) (a_ (a_ tr (a_ (leB c1) tr)) (a_ (a_ tr tr) (a_ (a_ (a_ (parrelref26_may_tri l y3 e2) tr) tr) (a_ (a_ tr tr) (a_ (a_ tr (a_ (leB c4) tr)) tr)))))))))) (a_ (Eq.refl 0) (a_ (a_ (a_ tr (a_ (le_nil_gs 0) tr)) tr) (a_ (a_ (a_ tr tr) tr) (a_ (a_ (fz_row (enc := c_T_parrelref26_Item) (d := default) (fun _ => rfl) ([] : List (T_parrelref26_Item))) (a_ (Nat.le_refl (([] : List (T_parrelref26_Item))).length) tr)) tr)))))) (parrelref26_Play_l0_ok hμ l order  big _ _ r h) (by kernel_rfl) trivial

theorem parrelref26_Play_tri (l : List (T_parrelref26_Tx)) (order : List (Int)) (r : (Bool)) (h : parrelref26_Play l order = some r) : FnTri Try.prog 19 [.ds 4 (l).length (rowF c_T_parrelref26_Tx default l), .ds 1 (order).length (rowF (cInt .i64) default order)] [] (parrelref26_Play_v r) [] := FnTri.none (parrelref26_Play_ok l order r h) rfl rfl

/-- parrel/parrellaw26.HistPlays -/

def parrellaw26_HistPlays_v (r : (Bool)) : LV := .bool r

def parrellaw26_HistPlays (l : List (T_parrelref26_Tx)) (order : List (Int)) : Option ((Bool)) :=
  (parrellaw26_far l).bind fun y2 =>
  if (y2 : Bool) then
    (parrellaw26_alive).bind fun y5 =>
    some y5
  else
    if ((decide (100 < ((order).length : Int))) : Bool) then
      (parrellaw26_alive).bind fun y6 =>
      some y6
    else
      (parrellaw26_theirs l).bind fun y6 =>
      (hist_Play y6 order).bind fun y8 =>
      (parrelref26_Play l order).bind fun y10 =>
      if ((y8 == y10) : Bool) then
        (parrellaw26_alive).bind fun y13 =>
        some y13
      else
        some false

theorem parrellaw26_HistPlays_ok (l : List (T_parrelref26_Tx)) (order : List (Int)) (r : (Bool)) (h : parrellaw26_HistPlays l order = some r) : ∀ σ, Inj 0 σ → FnTri Try.prog 4 (renL σ [.ds 4 (l).length (rowF c_T_parrelref26_Tx default l), .ds 1 (order).length (rowF (cInt .i64) default order)]) (preOf σ 0 []) ((parrellaw26_HistPlays_v r).ren σ) (upOf σ []) := by
  refine fn_of Try.func4 (by kernel_rfl) (by kernel_rfl) (by kernel_rfl) trivial (by kernel_rfl) trivial (by kernel_rfl) ?_
  intro w0 W μ0 hμ
  unfold parrellaw26_HistPlays at h
  obtain ⟨y2, e1, h⟩ := bind_some h
  rcases itb_some h with ⟨c3, h⟩ | ⟨c3, h⟩
  · skip
    obtain ⟨y5, e4, h⟩ := bind_some h
    obtain rfl := Option.some.inj h
    exact run_ret mixed (L := []) (n := 20) (s := [.reg [], .reg [(1, { call := some (parrellaw26_far_v y2, [], []) }), (2, { v := some (.bool true) })], .reg [(0, { call := some (parrellaw26_alive_v y5, [], []) })]])
      (a_ (a_ (a_ (a_ tr tr) tr) (a_ (a_ (a_ tr tr) (a_ (a_ (a_ (parrellaw26_far_tri l y2 e1) tr) tr) (a_ (a_ tr (a_ (leB c3) tr)) (a_ tr (a_ tr (a_ tr (a_ (a_ tr tr) tr))))))) (a_ (a_ (a_ (a_ (parrellaw26_alive_tri  y5 e4) tr) tr) (a_ (a_ tr tr) tr)) tr))) tr) (by kernel_rfl) rfl
  · skip
    rcases itb_some h with ⟨c4, h⟩ | ⟨c4, h⟩
    · skip
      obtain ⟨y6, e5, h⟩ := bind_some h
      obtain rfl := Option.some.inj h
      exact run_ret mixed (L := []) (n := 20) (s := [.reg [], .reg [(1, { call := some (parrellaw26_far_v y2, [], []) }), (2, { v := some (.bool false) }), (6, { v := some (.bool true) })], .reg [(0, { call := some (parrellaw26_alive_v y6, [], []) })]])
        (a_ (a_ (a_ (a_ tr tr) tr) (a_ (a_ (a_ tr tr) (a_ (a_ (a_ (parrellaw26_far_tri l y2 e1) tr) tr) (a_ (a_ tr (a_ (leB c3) tr)) (a_ (a_ tr tr) (a_ (a_ tr tr) (a_ (a_ tr tr) (a_ (a_ tr (a_ (leB c4) tr)) tr))))))) (a_ (a_ (a_ (a_ (parrellaw26_alive_tri  y6 e5) tr) tr) (a_ (a_ tr tr) tr)) tr))) tr) (by kernel_rfl) rfl
    · skip
      obtain ⟨y6, e5, h⟩ := bind_some h
      obtain ⟨y8, e7, h⟩ := bind_some h
      obtain ⟨y10, e9, h⟩ := bind_some h
      rcases itb_some h with ⟨c11, h⟩ | ⟨c11, h⟩
      · skip
        obtain ⟨y13, e12, h⟩ := bind_some h
        obtain rfl := Option.some.inj h
        exact run_ret mixed (L := []) (n := 21) (s := [.reg [], .reg [(1, { call := some (parrellaw26_far_v y2, [], []) }), (2, { v := some (.bool false) }), (6, { v := some (.bool false) })], .reg [(1, { call := some (parrellaw26_theirs_v y6, [], []) }), (3, { call := some (hist_Play_v y8, [], []) }), (6, { call := some (parrelref26_Play_v y10, [], []) }), (8, { v := some (.bool true) }), (9, { call := some (parrellaw26_alive_v y13, [], []) })]])
          (a_ (a_ (a_ (a_ tr tr) tr) (a_ (a_ (a_ tr tr) (a_ (a_ (a_ (parrellaw26_far_tri l y2 e1) tr) tr) (a_ (a_ tr (a_ (leB c3) tr)) (a_ (a_ tr tr) (a_ (a_ tr tr) (a_ (a_ tr tr) (a_ (a_ tr (a_ (leB c4) tr)) tr))))))) (a_ (a_ (a_ tr tr) (a_ (a_ (a_ (parrellaw26_theirs_tri l y6 e5) tr) tr) (a_ (a_ tr tr) (a_ (a_ (a_ (hist_Play_tri y6 order y8 e7) tr) tr) (a_ (a_ tr tr) (a_ (a_ tr tr) (a_ (a_ (a_ (parrelref26_Play_tri l order y10 e9) tr) tr) (a_ (a_ tr tr) (a_ (a_ tr (a_ (leB c11) tr)) (a_ (a_ (a_ (parrellaw26_alive_tri  y13 e12) tr) tr) (a_ (a_ tr tr) (a_ (a_ tr tr) tr)))))))))))) tr))) tr) (by kernel_rfl) rfl
      · skip
        obtain rfl := Option.some.inj h
        exact run_ret mixed (L := []) (n := 21) (s := [.reg [], .reg [(1, { call := some (parrellaw26_far_v y2, [], []) }), (2, { v := some (.bool false) }), (6, { v := some (.bool false) })], .reg [(1, { call := some (parrellaw26_theirs_v y6, [], []) }), (3, { call := some (hist_Play_v y8, [], []) }), (6, { call := some (parrelref26_Play_v y10, [], []) }), (8, { v := some (.bool false) })]])
          (a_ (a_ (a_ (a_ tr tr) tr) (a_ (a_ (a_ tr tr) (a_ (a_ (a_ (parrellaw26_far_tri l y2 e1) tr) tr) (a_ (a_ tr (a_ (leB c3) tr)) (a_ (a_ tr tr) (a_ (a_ tr tr) (a_ (a_ tr tr) (a_ (a_ tr (a_ (leB c4) tr)) tr))))))) (a_ (a_ (a_ tr tr) (a_ (a_ (a_ (parrellaw26_theirs_tri l y6 e5) tr) tr) (a_ (a_ tr tr) (a_ (a_ (a_ (hist_Play_tri y6 order y8 e7) tr) tr) (a_ (a_ tr tr) (a_ (a_ tr tr) (a_ (a_ (a_ (parrelref26_Play_tri l order y10 e9) tr) tr) (a_ (a_ tr tr) (a_ (a_ tr (a_ (leB c11) tr)) (a_ tr (a_ (a_ tr tr) (a_ (a_ tr tr) tr)))))))))))) tr))) tr) (by kernel_rfl) rfl

theorem parrellaw26_HistPlays_tri (l : List (T_parrelref26_Tx)) (order : List (Int)) (r : (Bool)) (h : parrellaw26_HistPlays l order = some r) : FnTri Try.prog 4 [.ds 4 (l).length (rowF c_T_parrelref26_Tx default l), .ds 1 (order).length (rowF (cInt .i64) default order)] [] (parrellaw26_HistPlays_v r) [] := FnTri.none (parrellaw26_HistPlays_ok l order r h) rfl rfl

end Go.Proofs.Ytofkaccoofafmaa.Wk
