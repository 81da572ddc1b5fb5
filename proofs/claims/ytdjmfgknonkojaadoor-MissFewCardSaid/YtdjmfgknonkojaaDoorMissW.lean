/- Printed by tr.py: Go functions as Lean functions, with the proofs that they walk so. -/
import Derived.Test.YtdjmfgknonkojaaDoorMissWb
namespace Go.Proofs.YtdjmfgknonkojaaDoor.Wk
open Go Go.Cn Go.RowKit
set_option maxRecDepth 100000
set_option maxHeartbeats 4000000
set_option linter.unusedVariables false
set_option linter.unusedSimpArgs false
noncomputable section
/-- parrel/parrellaw20.MissFew -/

def parrellaw20_MissFew_v (r : (Bool)) : LV := .bool r

def parrellaw20_MissFew_T0 (nodes : Int) (x_w : List (T_api_Write)) (mode : Int) (t25 : Int) (l : List (T_gather_Got)) : List LV := [.int .u64 nodes, .ds 21 (x_w).length (rowF c_T_api_Write default x_w), .int .u8 mode, .any, .any, .any, .any, .gs 0 (l).length, .any, .any, .any, .any, .any, .any, .any, .any, .any, .any, .any, .any, .any, .any, .any, .any, .any, .int .u8 t25, .any, .any, .any, .any, .any, .any, .any, .any, .any, .any, .any, .any, .any, .any, .any, .any, .any, .any, .any, .any, .any, .any, .any, .any, .any, .any, .any, .any, .any, .any, .any, .any, .any, .any, .any, .any, .any, .any, .any, .any, .any, .any, .any, .any, .any, .any, .any, .any, .any, .any, .any, .any, .any, .any, .any, .any, .any, .any, .any, .any, .any, .any, .any]

def parrellaw20_MissFew_H0 (nodes : Int) (x_w : List (T_api_Write)) (mode : Int) (t25 : Int) (l : List (T_gather_Got)) : Heap := [some (.gr 16 (l).length (rowF c_T_gather_Got default l))]

def parrellaw20_MissFew_l0 (nodes : Int) (x_w : List (T_api_Write)) (mode : Int)  : Nat → (Int) → (List (T_gather_Got)) → Option ((Bool))
  | 0, _, _ => none
  | fuel + 1, t25, l =>
    if ((decide (t25 < 8)) : Bool) then
      if 0 ≤ t25 then
      if (((IntKind.wrap .u64 ((BitVec.ofInt (IntKind.bits .u64) (Int.fdiv nodes (2 ^ (min (Int.toNat t25) (IntKind.bits .u64)))) &&& BitVec.ofInt (IntKind.bits .u64) 1).toNat : Int)) == 1) : Bool) then
        if ((l).length + (([(T_gather_Got.mk t25 (T_api_Reg.mk 1 1) (T_api_Item.mk 0 [] (T_api_Config.mk 0 0 0 (A8.mk 0 0 0 0 0 0 0 0))))] : List (T_gather_Got))).length) * 56 ≤ 140737488351232 then
        parrellaw20_MissFew_l0 nodes x_w mode  fuel (IntKind.wrap .u8 (t25 + 1)) (l ++ ([(T_gather_Got.mk t25 (T_api_Reg.mk 1 1) (T_api_Item.mk 0 [] (T_api_Config.mk 0 0 0 (A8.mk 0 0 0 0 0 0 0 0))))] : List (T_gather_Got)))
        else none
      else
        parrellaw20_MissFew_l0 nodes x_w mode  fuel (IntKind.wrap .u8 (t25 + 1)) l
      else none
    else
      if 0 ≤ (0 : Int) ∧ (0 : Int) < (((x_w).length : Nat) : Int) then
      (miss_Plan ([(T_miss_Lock.mk (x_w.getD 0 default).f_Key (IntKind.wrap .u8 ((Int.tmod mode 2) + 1)) l)] : List (T_miss_Lock)) x_w).bind fun yL0_4 =>
      if (((Int.tmod mode 2) == 0) : Bool) then
        if ((yL0_4.2.2 == 6) : Bool) then
          (parrellaw20_alive).bind fun yL0_8 =>
          some yL0_8
        else
          some false
      else
        if ((((l).length : Int) == 0) : Bool) then
          if ((yL0_4.2.2 == 6) : Bool) then
            (parrellaw20_alive).bind fun yL0_9 =>
            some yL0_9
          else
            some false
        else
          (votes_Writes (x_w.getD 0 default).f_Item.f_Conf nodes).bind fun yL0_8 =>
          if ((!yL0_8) : Bool) then
            if ((yL0_4.2.2 == 16) : Bool) then
              (parrellaw20_alive).bind fun yL0_12 =>
              some yL0_12
            else
              some false
          else
            if ((yL0_4.2.2 == 0) : Bool) then
              (parrellaw20_alive).bind fun yL0_12 =>
              some yL0_12
            else
              some false
      else none

def parrellaw20_MissFew (nodes : Int) (x_w : List (T_api_Write)) (mode : Int) : Option ((Bool)) :=
  (parrellaw20_far ([] : List (T_parrelref20_Lock)) x_w).bind fun y2 =>
  if (y2 : Bool) then
    (parrellaw20_alive).bind fun y5 =>
    some y5
  else
    if ((((x_w).length : Int) != 1) : Bool) then
      (parrellaw20_alive).bind fun y6 =>
      some y6
    else
      (parrelref10_WritesMay x_w).bind fun y6 =>
      if ((!y6) : Bool) then
        (parrellaw20_alive).bind fun y9 =>
        some y9
      else
        parrellaw20_MissFew_l0 nodes x_w mode  big 0 ([] : List (T_gather_Got))

theorem parrellaw20_MissFew_l0_ok {w0 : World} {W : Nat → Prop} {μ0 : Emb} (hμ : ∀ c p, μ0 c = some p → c < 0) (nodes : Int) (x_w : List (T_api_Write)) (mode : Int)  : ∀ (fuel : Nat) (t25 : Int) (l : List (T_gather_Got)) (r : (Bool)), parrellaw20_MissFew_l0 nodes x_w mode  fuel t25 l = some r → kont Tryd.prog w0 W μ0 (FnPost Tryd.prog Tryd.f6 0 0 (parrellaw20_MissFew_v r) []) (kAt (bodyOf Tryd.f6) 0) none (parrellaw20_MissFew_T0 nodes x_w mode t25 l) (parrellaw20_MissFew_H0 nodes x_w mode t25 l) := by
  intro fuel
  induction fuel with
  | zero => intro t25 l r h; rw [parrellaw20_MissFew_l0] at h; cases h
  | succ fuel ih =>
    intro t25 l r h
    rw [parrellaw20_MissFew_l0] at h
    rcases itb_some h with ⟨cL0_1, h⟩ | ⟨cL0_1, h⟩
    · skip
      obtain ⟨gL0_2, h⟩ := guard_some h
      rcases itb_some h with ⟨cL0_3, h⟩ | ⟨cL0_3, h⟩
      · skip
        obtain ⟨gL0_4, h⟩ := guard_some h
        exact run_to mixed hμ (L := [2]) (n := 30) (s := [.go, .reg [(0, { v := some (.bool true) })], .reg [], .reg [(4, { v := some (.bool true) })], .reg [(4, { os := [(1, .gr 16 (([(T_gather_Got.mk t25 (T_api_Reg.mk 1 1) (T_api_Item.mk 0 [] (T_api_Config.mk 0 0 0 (A8.mk 0 0 0 0 0 0 0 0))))] : List (T_gather_Got))).length (rowF c_T_gather_Got default ([(T_gather_Got.mk t25 (T_api_Reg.mk 1 1) (T_api_Item.mk 0 [] (T_api_Config.mk 0 0 0 (A8.mk 0 0 0 0 0 0 0 0))))] : List (T_gather_Got))))], v := some (.gs 1 (([(T_gather_Got.mk t25 (T_api_Reg.mk 1 1) (T_api_Item.mk 0 [] (T_api_Config.mk 0 0 0 (A8.mk 0 0 0 0 0 0 0 0))))] : List (T_gather_Got))).length) }), (5, { app := 3, os := [(2, .gr 16 ((l ++ ([(T_gather_Got.mk t25 (T_api_Reg.mk 1 1) (T_api_Item.mk 0 [] (T_api_Config.mk 0 0 0 (A8.mk 0 0 0 0 0 0 0 0))))] : List (T_gather_Got)))).length (rowF c_T_gather_Got default (l ++ ([(T_gather_Got.mk t25 (T_api_Reg.mk 1 1) (T_api_Item.mk 0 [] (T_api_Config.mk 0 0 0 (A8.mk 0 0 0 0 0 0 0 0))))] : List (T_gather_Got)))))], v := some (.gs 2 ((l ++ ([(T_gather_Got.mk t25 (T_api_Reg.mk 1 1) (T_api_Item.mk 0 [] (T_api_Config.mk 0 0 0 (A8.mk 0 0 0 0 0 0 0 0))))] : List (T_gather_Got)))).length) })], .reg []])
          (a_ (a_ (a_ tr (a_ (leB cL0_1) tr)) tr) (a_ (a_ (a_ tr tr) (a_ (a_ tr tr) tr)) (a_ (a_ (a_ tr tr) (a_ (a_ tr tr) (a_ (a_ gL0_2 tr) (a_ (a_ tr tr) (a_ (a_ tr (a_ (leB cL0_3) tr)) tr))))) (a_ (a_ (a_ tr tr) (a_ (a_ tr tr) (a_ (a_ (Eq.refl true) tr) (a_ (a_ (Eq.refl true) tr) (a_ (a_ (a_ (Eq.refl true) (a_ (Eq.refl 16) (a_ (lt_ 0 16 rfl) (le_ 16 16777216 rfl)))) (a_ (le_sl_gs 1 1 (some 1) rfl) (a_ (sub_lit c_T_gather_Got default 16 (fun _ => rfl) ([(T_gather_Got.mk t25 (T_api_Reg.mk 1 1) (T_api_Item.mk 0 [] (T_api_Config.mk 0 0 0 (A8.mk 0 0 0 0 0 0 0 0))))] : List (T_gather_Got))) tr))) (a_ (a_ (a_ (a_ (Eq.refl 16) (Nat.le_refl (([(T_gather_Got.mk t25 (T_api_Reg.mk 1 1) (T_api_Item.mk 0 [] (T_api_Config.mk 0 0 0 (A8.mk 0 0 0 0 0 0 0 0))))] : List (T_gather_Got))).length)) (a_ (a_ (lt_ 0 16 rfl) (a_ (lt_ 0 56 rfl) (a_ gL0_4 (a_ (Eq.refl 16) (Eq.refl true))))) (a_ (Eq.refl 16) (Nat.le_refl (l).length)))) (a_ (le_gs_app 2 l ([(T_gather_Got.mk t25 (T_api_Reg.mk 1 1) (T_api_Item.mk 0 [] (T_api_Config.mk 0 0 0 (A8.mk 0 0 0 0 0 0 0 0))))] : List (T_gather_Got))) (a_ (sub_app c_T_gather_Got default 16 l ([(T_gather_Got.mk t25 (T_api_Reg.mk 1 1) (T_api_Item.mk 0 [] (T_api_Config.mk 0 0 0 (A8.mk 0 0 0 0 0 0 0 0))))] : List (T_gather_Got))) tr))) (a_ (a_ tr tr) tr))))))) (a_ (a_ (a_ tr tr) (a_ (a_ tr tr) tr)) tr))))) (ih _ _ r h) (by kernel_rfl) ⟨fun _ _ => rfl, trivial⟩
      · skip
        exact run_to mixed hμ (L := [0]) (n := 29) (s := [.go, .reg [(0, { v := some (.bool true) })], .reg [], .reg [(4, { v := some (.bool false) })], .reg []])
          (a_ (a_ (a_ tr (a_ (leB cL0_1) tr)) tr) (a_ (a_ (a_ tr tr) (a_ (a_ tr tr) tr)) (a_ (a_ (a_ tr tr) (a_ (a_ tr tr) (a_ (a_ gL0_2 tr) (a_ (a_ tr tr) (a_ (a_ tr (a_ (leB cL0_3) tr)) tr))))) (a_ (a_ (a_ tr tr) (a_ (a_ tr tr) tr)) tr)))) (ih _ _ r h) (by kernel_rfl) ⟨fun _ _ => rfl, trivial⟩
    · skip
      obtain ⟨gL0_2, h⟩ := guard_some h
      obtain ⟨yL0_4, eL0_3, h⟩ := bind_some h
      rcases itb_some h with ⟨cL0_5, h⟩ | ⟨cL0_5, h⟩
      · skip
        rcases itb_some h with ⟨cL0_6, h⟩ | ⟨cL0_6, h⟩
        · skip
          obtain ⟨yL0_8, eL0_7, h⟩ := bind_some h
          obtain rfl := Option.some.inj h
          exact run_ret mixed (L := []) (n := 29) (s := [.go, .reg [(0, { v := some (.bool false) })], .frz 0, .reg [(9, { os := [(1, .gr 10 (([(T_miss_Lock.mk (x_w.getD 0 default).f_Key (IntKind.wrap .u8 ((Int.tmod mode 2) + 1)) l)] : List (T_miss_Lock))).length (rowF c_T_miss_Lock default ([(T_miss_Lock.mk (x_w.getD 0 default).f_Key (IntKind.wrap .u8 ((Int.tmod mode 2) + 1)) l)] : List (T_miss_Lock))))], v := some (.gs 1 (([(T_miss_Lock.mk (x_w.getD 0 default).f_Key (IntKind.wrap .u8 ((Int.tmod mode 2) + 1)) l)] : List (T_miss_Lock))).length), fz := true }), (11, { call := some (miss_Plan_v yL0_4, [], []) })], .reg [(3, { v := some (.bool true) })], .reg [(2, { v := some (.bool true) }), (3, { call := some (parrellaw20_alive_v yL0_8, [], []) })]])
            (a_ (a_ (a_ (a_ tr (a_ (leB cL0_1) tr)) tr) (a_ (a_ (fz_row (enc := c_T_gather_Got) (d := default) (fun _ => rfl) l) (a_ (Nat.le_refl (l).length) tr)) (a_ (a_ (a_ tr tr) (a_ (a_ (a_ (Eq.refl 21) gL0_2) tr) (a_ (a_ tr tr) (a_ (a_ (le_ 8 21 rfl) tr) (a_ (a_ tr tr) (a_ (a_ (ne0 2 rfl) tr) (a_ (a_ tr tr) (a_ (a_ tr tr) (a_ (a_ (Eq.refl true) tr) (a_ (a_ (a_ (a_ (Eq.refl true) (a_ (Eq.refl 10) (a_ (lt_ 0 10 rfl) (le_ 10 16777216 rfl)))) (a_ (le_sl_gs 1 1 (some 1) rfl) (a_ (sub_lit c_T_miss_Lock default 10 (fun _ => rfl) ([(T_miss_Lock.mk (x_w.getD 0 default).f_Key (IntKind.wrap .u8 ((Int.tmod mode 2) + 1)) l)] : List (T_miss_Lock))) tr))) (a_ (Nat.le_refl (([(T_miss_Lock.mk (x_w.getD 0 default).f_Key (IntKind.wrap .u8 ((Int.tmod mode 2) + 1)) l)] : List (T_miss_Lock))).length) (fz_row (enc := c_T_miss_Lock) (d := default) (fun _ => rfl) ([(T_miss_Lock.mk (x_w.getD 0 default).f_Key (IntKind.wrap .u8 ((Int.tmod mode 2) + 1)) l)] : List (T_miss_Lock))))) (a_ (a_ tr tr) (a_ (a_ (a_ (miss_Plan_tri ([(T_miss_Lock.mk (x_w.getD 0 default).f_Key (IntKind.wrap .u8 ((Int.tmod mode 2) + 1)) l)] : List (T_miss_Lock)) x_w yL0_4 eL0_3) tr) tr) (a_ (a_ tr tr) (a_ (a_ tr tr) (a_ (a_ tr tr) (a_ (a_ tr tr) (a_ (a_ tr tr) (a_ (a_ tr tr) (a_ (a_ tr tr) tr))))))))))))))))))) (a_ (a_ (a_ tr tr) (a_ (a_ (ne0 2 rfl) tr) (a_ (a_ tr tr) (a_ (a_ tr (a_ (leB cL0_5) tr)) (a_ tr (a_ tr (a_ tr (a_ (a_ tr tr) (a_ (a_ tr tr) tr))))))))) (a_ (a_ (a_ tr tr) (a_ (a_ tr tr) (a_ (a_ tr (a_ (leB cL0_6) tr)) (a_ (a_ (a_ (parrellaw20_alive_tri  yL0_8 eL0_7) tr) tr) (a_ (a_ tr tr) (a_ (a_ tr tr) tr)))))) tr))))) tr) (by kernel_rfl) rfl
        · skip
          obtain rfl := Option.some.inj h
          exact run_ret mixed (L := []) (n := 29) (s := [.go, .reg [(0, { v := some (.bool false) })], .frz 0, .reg [(9, { os := [(1, .gr 10 (([(T_miss_Lock.mk (x_w.getD 0 default).f_Key (IntKind.wrap .u8 ((Int.tmod mode 2) + 1)) l)] : List (T_miss_Lock))).length (rowF c_T_miss_Lock default ([(T_miss_Lock.mk (x_w.getD 0 default).f_Key (IntKind.wrap .u8 ((Int.tmod mode 2) + 1)) l)] : List (T_miss_Lock))))], v := some (.gs 1 (([(T_miss_Lock.mk (x_w.getD 0 default).f_Key (IntKind.wrap .u8 ((Int.tmod mode 2) + 1)) l)] : List (T_miss_Lock))).length), fz := true }), (11, { call := some (miss_Plan_v yL0_4, [], []) })], .reg [(3, { v := some (.bool true) })], .reg [(2, { v := some (.bool false) })]])
            (a_ (a_ (a_ (a_ tr (a_ (leB cL0_1) tr)) tr) (a_ (a_ (fz_row (enc := c_T_gather_Got) (d := default) (fun _ => rfl) l) (a_ (Nat.le_refl (l).length) tr)) (a_ (a_ (a_ tr tr) (a_ (a_ (a_ (Eq.refl 21) gL0_2) tr) (a_ (a_ tr tr) (a_ (a_ (le_ 8 21 rfl) tr) (a_ (a_ tr tr) (a_ (a_ (ne0 2 rfl) tr) (a_ (a_ tr tr) (a_ (a_ tr tr) (a_ (a_ (Eq.refl true) tr) (a_ (a_ (a_ (a_ (Eq.refl true) (a_ (Eq.refl 10) (a_ (lt_ 0 10 rfl) (le_ 10 16777216 rfl)))) (a_ (le_sl_gs 1 1 (some 1) rfl) (a_ (sub_lit c_T_miss_Lock default 10 (fun _ => rfl) ([(T_miss_Lock.mk (x_w.getD 0 default).f_Key (IntKind.wrap .u8 ((Int.tmod mode 2) + 1)) l)] : List (T_miss_Lock))) tr))) (a_ (Nat.le_refl (([(T_miss_Lock.mk (x_w.getD 0 default).f_Key (IntKind.wrap .u8 ((Int.tmod mode 2) + 1)) l)] : List (T_miss_Lock))).length) (fz_row (enc := c_T_miss_Lock) (d := default) (fun _ => rfl) ([(T_miss_Lock.mk (x_w.getD 0 default).f_Key (IntKind.wrap .u8 ((Int.tmod mode 2) + 1)) l)] : List (T_miss_Lock))))) (a_ (a_ tr tr) (a_ (a_ (a_ (miss_Plan_tri ([(T_miss_Lock.mk (x_w.getD 0 default).f_Key (IntKind.wrap .u8 ((Int.tmod mode 2) + 1)) l)] : List (T_miss_Lock)) x_w yL0_4 eL0_3) tr) tr) (a_ (a_ tr tr) (a_ (a_ tr tr) (a_ (a_ tr tr) (a_ (a_ tr tr) (a_ (a_ tr tr) (a_ (a_ tr tr) (a_ (a_ tr tr) tr))))))))))))))))))) (a_ (a_ (a_ tr tr) (a_ (a_ (ne0 2 rfl) tr) (a_ (a_ tr tr) (a_ (a_ tr (a_ (leB cL0_5) tr)) (a_ tr (a_ tr (a_ tr (a_ (a_ tr tr) (a_ (a_ tr tr) tr))))))))) (a_ (a_ (a_ tr tr) (a_ (a_ tr tr) (a_ (a_ tr (a_ (leB cL0_6) tr)) (a_ tr (a_ (a_ tr tr) (a_ (a_ tr tr) tr)))))) tr))))) tr) (by kernel_rfl) rfl
      · skip
        rcases itb_some h with ⟨cL0_6, h⟩ | ⟨cL0_6, h⟩
        · skip
          rcases itb_some h with ⟨cL0_7, h⟩ | ⟨cL0_7, h⟩
          · skip
            obtain ⟨yL0_9, eL0_8, h⟩ := bind_some h
            obtain rfl := Option.some.inj h
            exact run_ret mixed (L := []) (n := 29) (s := [.go, .reg [(0, { v := some (.bool false) })], .frz 0, .reg [(9, { os := [(1, .gr 10 (([(T_miss_Lock.mk (x_w.getD 0 default).f_Key (IntKind.wrap .u8 ((Int.tmod mode 2) + 1)) l)] : List (T_miss_Lock))).length (rowF c_T_miss_Lock default ([(T_miss_Lock.mk (x_w.getD 0 default).f_Key (IntKind.wrap .u8 ((Int.tmod mode 2) + 1)) l)] : List (T_miss_Lock))))], v := some (.gs 1 (([(T_miss_Lock.mk (x_w.getD 0 default).f_Key (IntKind.wrap .u8 ((Int.tmod mode 2) + 1)) l)] : List (T_miss_Lock))).length), fz := true }), (11, { call := some (miss_Plan_v yL0_4, [], []) })], .reg [(3, { v := some (.bool false) }), (8, { v := some (.bool true) })], .reg [(2, { v := some (.bool true) }), (3, { call := some (parrellaw20_alive_v yL0_9, [], []) })]])
              (a_ (a_ (a_ (a_ tr (a_ (leB cL0_1) tr)) tr) (a_ (a_ (fz_row (enc := c_T_gather_Got) (d := default) (fun _ => rfl) l) (a_ (Nat.le_refl (l).length) tr)) (a_ (a_ (a_ tr tr) (a_ (a_ (a_ (Eq.refl 21) gL0_2) tr) (a_ (a_ tr tr) (a_ (a_ (le_ 8 21 rfl) tr) (a_ (a_ tr tr) (a_ (a_ (ne0 2 rfl) tr) (a_ (a_ tr tr) (a_ (a_ tr tr) (a_ (a_ (Eq.refl true) tr) (a_ (a_ (a_ (a_ (Eq.refl true) (a_ (Eq.refl 10) (a_ (lt_ 0 10 rfl) (le_ 10 16777216 rfl)))) (a_ (le_sl_gs 1 1 (some 1) rfl) (a_ (sub_lit c_T_miss_Lock default 10 (fun _ => rfl) ([(T_miss_Lock.mk (x_w.getD 0 default).f_Key (IntKind.wrap .u8 ((Int.tmod mode 2) + 1)) l)] : List (T_miss_Lock))) tr))) (a_ (Nat.le_refl (([(T_miss_Lock.mk (x_w.getD 0 default).f_Key (IntKind.wrap .u8 ((Int.tmod mode 2) + 1)) l)] : List (T_miss_Lock))).length) (fz_row (enc := c_T_miss_Lock) (d := default) (fun _ => rfl) ([(T_miss_Lock.mk (x_w.getD 0 default).f_Key (IntKind.wrap .u8 ((Int.tmod mode 2) + 1)) l)] : List (T_miss_Lock))))) (a_ (a_ tr tr) (a_ (a_ (a_ (miss_Plan_tri ([(T_miss_Lock.mk (x_w.getD 0 default).f_Key (IntKind.wrap .u8 ((Int.tmod mode 2) + 1)) l)] : List (T_miss_Lock)) x_w yL0_4 eL0_3) tr) tr) (a_ (a_ tr tr) (a_ (a_ tr tr) (a_ (a_ tr tr) (a_ (a_ tr tr) (a_ (a_ tr tr) (a_ (a_ tr tr) (a_ (a_ tr tr) tr))))))))))))))))))) (a_ (a_ (a_ tr tr) (a_ (a_ (ne0 2 rfl) tr) (a_ (a_ tr tr) (a_ (a_ tr (a_ (leB cL0_5) tr)) (a_ (a_ tr tr) (a_ (a_ tr tr) (a_ (a_ tr tr) (a_ (a_ tr tr) (a_ (a_ tr (a_ (leB cL0_6) tr)) tr))))))))) (a_ (a_ (a_ tr tr) (a_ (a_ tr tr) (a_ (a_ tr (a_ (leB cL0_7) tr)) (a_ (a_ (a_ (parrellaw20_alive_tri  yL0_9 eL0_8) tr) tr) (a_ (a_ tr tr) (a_ (a_ tr tr) tr)))))) tr))))) tr) (by kernel_rfl) rfl
          · skip
            obtain rfl := Option.some.inj h
            exact run_ret mixed (L := []) (n := 29) (s := [.go, .reg [(0, { v := some (.bool false) })], .frz 0, .reg [(9, { os := [(1, .gr 10 (([(T_miss_Lock.mk (x_w.getD 0 default).f_Key (IntKind.wrap .u8 ((Int.tmod mode 2) + 1)) l)] : List (T_miss_Lock))).length (rowF c_T_miss_Lock default ([(T_miss_Lock.mk (x_w.getD 0 default).f_Key (IntKind.wrap .u8 ((Int.tmod mode 2) + 1)) l)] : List (T_miss_Lock))))], v := some (.gs 1 (([(T_miss_Lock.mk (x_w.getD 0 default).f_Key (IntKind.wrap .u8 ((Int.tmod mode 2) + 1)) l)] : List (T_miss_Lock))).length), fz := true }), (11, { call := some (miss_Plan_v yL0_4, [], []) })], .reg [(3, { v := some (.bool false) }), (8, { v := some (.bool true) })], .reg [(2, { v := some (.bool false) })]])
              (a_ (a_ (a_ (a_ tr (a_ (leB cL0_1) tr)) tr) (a_ (a_ (fz_row (enc := c_T_gather_Got) (d := default) (fun _ => rfl) l) (a_ (Nat.le_refl (l).length) tr)) (a_ (a_ (a_ tr tr) (a_ (a_ (a_ (Eq.refl 21) gL0_2) tr) (a_ (a_ tr tr) (a_ (a_ (le_ 8 21 rfl) tr) (a_ (a_ tr tr) (a_ (a_ (ne0 2 rfl) tr) (a_ (a_ tr tr) (a_ (a_ tr tr) (a_ (a_ (Eq.refl true) tr) (a_ (a_ (a_ (a_ (Eq.refl true) (a_ (Eq.refl 10) (a_ (lt_ 0 10 rfl) (le_ 10 16777216 rfl)))) (a_ (le_sl_gs 1 1 (some 1) rfl) (a_ (sub_lit c_T_miss_Lock default 10 (fun _ => rfl) ([(T_miss_Lock.mk (x_w.getD 0 default).f_Key (IntKind.wrap .u8 ((Int.tmod mode 2) + 1)) l)] : List (T_miss_Lock))) tr))) (a_ (Nat.le_refl (([(T_miss_Lock.mk (x_w.getD 0 default).f_Key (IntKind.wrap .u8 ((Int.tmod mode 2) + 1)) l)] : List (T_miss_Lock))).length) (fz_row (enc := c_T_miss_Lock) (d := default) (fun _ => rfl) ([(T_miss_Lock.mk (x_w.getD 0 default).f_Key (IntKind.wrap .u8 ((Int.tmod mode 2) + 1)) l)] : List (T_miss_Lock))))) (a_ (a_ tr tr) (a_ (a_ (a_ (miss_Plan_tri ([(T_miss_Lock.mk (x_w.getD 0 default).f_Key (IntKind.wrap .u8 ((Int.tmod mode 2) + 1)) l)] : List (T_miss_Lock)) x_w yL0_4 eL0_3) tr) tr) (a_ (a_ tr tr) (a_ (a_ tr tr) (a_ (a_ tr tr) (a_ (a_ tr tr) (a_ (a_ tr tr) (a_ (a_ tr tr) (a_ (a_ tr tr) tr))))))))))))))))))) (a_ (a_ (a_ tr tr) (a_ (a_ (ne0 2 rfl) tr) (a_ (a_ tr tr) (a_ (a_ tr (a_ (leB cL0_5) tr)) (a_ (a_ tr tr) (a_ (a_ tr tr) (a_ (a_ tr tr) (a_ (a_ tr tr) (a_ (a_ tr (a_ (leB cL0_6) tr)) tr))))))))) (a_ (a_ (a_ tr tr) (a_ (a_ tr tr) (a_ (a_ tr (a_ (leB cL0_7) tr)) (a_ tr (a_ (a_ tr tr) (a_ (a_ tr tr) tr)))))) tr))))) tr) (by kernel_rfl) rfl
        · skip
          obtain ⟨yL0_8, eL0_7, h⟩ := bind_some h
          rcases itb_some h with ⟨cL0_9, h⟩ | ⟨cL0_9, h⟩
          · skip
            rcases itb_some h with ⟨cL0_10, h⟩ | ⟨cL0_10, h⟩
            · skip
              obtain ⟨yL0_12, eL0_11, h⟩ := bind_some h
              obtain rfl := Option.some.inj h
              exact run_ret mixed (L := []) (n := 33) (s := [.go, .reg [(0, { v := some (.bool false) })], .frz 0, .reg [(9, { os := [(1, .gr 10 (([(T_miss_Lock.mk (x_w.getD 0 default).f_Key (IntKind.wrap .u8 ((Int.tmod mode 2) + 1)) l)] : List (T_miss_Lock))).length (rowF c_T_miss_Lock default ([(T_miss_Lock.mk (x_w.getD 0 default).f_Key (IntKind.wrap .u8 ((Int.tmod mode 2) + 1)) l)] : List (T_miss_Lock))))], v := some (.gs 1 (([(T_miss_Lock.mk (x_w.getD 0 default).f_Key (IntKind.wrap .u8 ((Int.tmod mode 2) + 1)) l)] : List (T_miss_Lock))).length), fz := true }), (11, { call := some (miss_Plan_v yL0_4, [], []) })], .reg [(3, { v := some (.bool false) }), (8, { v := some (.bool false) })], .reg [(6, { call := some (votes_Writes_v yL0_8, [], []) }), (8, { v := some (.bool true) })], .reg [(2, { v := some (.bool true) }), (3, { call := some (parrellaw20_alive_v yL0_12, [], []) })]])
                (a_ (a_ (a_ (a_ tr (a_ (leB cL0_1) tr)) tr) (a_ (a_ (fz_row (enc := c_T_gather_Got) (d := default) (fun _ => rfl) l) (a_ (Nat.le_refl (l).length) tr)) (a_ (a_ (a_ tr tr) (a_ (a_ (a_ (Eq.refl 21) gL0_2) tr) (a_ (a_ tr tr) (a_ (a_ (le_ 8 21 rfl) tr) (a_ (a_ tr tr) (a_ (a_ (ne0 2 rfl) tr) (a_ (a_ tr tr) (a_ (a_ tr tr) (a_ (a_ (Eq.refl true) tr) (a_ (a_ (a_ (a_ (Eq.refl true) (a_ (Eq.refl 10) (a_ (lt_ 0 10 rfl) (le_ 10 16777216 rfl)))) (a_ (le_sl_gs 1 1 (some 1) rfl) (a_ (sub_lit c_T_miss_Lock default 10 (fun _ => rfl) ([(T_miss_Lock.mk (x_w.getD 0 default).f_Key (IntKind.wrap .u8 ((Int.tmod mode 2) + 1)) l)] : List (T_miss_Lock))) tr))) (a_ (Nat.le_refl (([(T_miss_Lock.mk (x_w.getD 0 default).f_Key (IntKind.wrap .u8 ((Int.tmod mode 2) + 1)) l)] : List (T_miss_Lock))).length) (fz_row (enc := c_T_miss_Lock) (d := default) (fun _ => rfl) ([(T_miss_Lock.mk (x_w.getD 0 default).f_Key (IntKind.wrap .u8 ((Int.tmod mode 2) + 1)) l)] : List (T_miss_Lock))))) (a_ (a_ tr tr) (a_ (a_ (a_ (miss_Plan_tri ([(T_miss_Lock.mk (x_w.getD 0 default).f_Key (IntKind.wrap .u8 ((Int.tmod mode 2) + 1)) l)] : List (T_miss_Lock)) x_w yL0_4 eL0_3) tr) tr) (a_ (a_ tr tr) (a_ (a_ tr tr) (a_ (a_ tr tr) (a_ (a_ tr tr) (a_ (a_ tr tr) (a_ (a_ tr tr) (a_ (a_ tr tr) tr))))))))))))))))))) (a_ (a_ (a_ tr tr) (a_ (a_ (ne0 2 rfl) tr) (a_ (a_ tr tr) (a_ (a_ tr (a_ (leB cL0_5) tr)) (a_ (a_ tr tr) (a_ (a_ tr tr) (a_ (a_ tr tr) (a_ (a_ tr tr) (a_ (a_ tr (a_ (leB cL0_6) tr)) tr))))))))) (a_ (a_ (a_ tr tr) (a_ (a_ (a_ (Eq.refl 21) gL0_2) tr) (a_ (a_ tr tr) (a_ (a_ tr tr) (a_ (a_ (le_ 11 11 rfl) tr) (a_ (a_ tr tr) (a_ (a_ (a_ (votes_Writes_tri (x_w.getD 0 default).f_Item.f_Conf nodes yL0_8 eL0_7) tr) tr) (a_ (a_ tr tr) (a_ (a_ tr (a_ (leB cL0_9) tr)) tr))))))))) (a_ (a_ (a_ tr tr) (a_ (a_ tr tr) (a_ (a_ tr (a_ (leB cL0_10) tr)) (a_ (a_ (a_ (parrellaw20_alive_tri  yL0_12 eL0_11) tr) tr) (a_ (a_ tr tr) (a_ (a_ tr tr) tr)))))) tr)))))) tr) (by kernel_rfl) rfl
            · skip
              obtain rfl := Option.some.inj h
              exact run_ret mixed (L := []) (n := 33) (s := [.go, .reg [(0, { v := some (.bool false) })], .frz 0, .reg [(9, { os := [(1, .gr 10 (([(T_miss_Lock.mk (x_w.getD 0 default).f_Key (IntKind.wrap .u8 ((Int.tmod mode 2) + 1)) l)] : List (T_miss_Lock))).length (rowF c_T_miss_Lock default ([(T_miss_Lock.mk (x_w.getD 0 default).f_Key (IntKind.wrap .u8 ((Int.tmod mode 2) + 1)) l)] : List (T_miss_Lock))))], v := some (.gs 1 (([(T_miss_Lock.mk (x_w.getD 0 default).f_Key (IntKind.wrap .u8 ((Int.tmod mode 2) + 1)) l)] : List (T_miss_Lock))).length), fz := true }), (11, { call := some (miss_Plan_v yL0_4, [], []) })], .reg [(3, { v := some (.bool false) }), (8, { v := some (.bool false) })], .reg [(6, { call := some (votes_Writes_v yL0_8, [], []) }), (8, { v := some (.bool true) })], .reg [(2, { v := some (.bool false) })]])
                (a_ (a_ (a_ (a_ tr (a_ (leB cL0_1) tr)) tr) (a_ (a_ (fz_row (enc := c_T_gather_Got) (d := default) (fun _ => rfl) l) (a_ (Nat.le_refl (l).length) tr)) (a_ (a_ (a_ tr tr) (a_ (a_ (a_ (Eq.refl 21) gL0_2) tr) (a_ (a_ tr tr) (a_ (a_ (le_ 8 21 rfl) tr) (a_ (a_ tr tr) (a_ (a_ (ne0 2 rfl) tr) (a_ (a_ tr tr) (a_ (a_ tr tr) (a_ (a_ (Eq.refl true) tr) (a_ (a_ (a_ (a_ (Eq.refl true) (a_ (Eq.refl 10) (a_ (lt_ 0 10 rfl) (le_ 10 16777216 rfl)))) (a_ (le_sl_gs 1 1 (some 1) rfl) (a_ (sub_lit c_T_miss_Lock default 10 (fun _ => rfl) ([(T_miss_Lock.mk (x_w.getD 0 default).f_Key (IntKind.wrap .u8 ((Int.tmod mode 2) + 1)) l)] : List (T_miss_Lock))) tr))) (a_ (Nat.le_refl (([(T_miss_Lock.mk (x_w.getD 0 default).f_Key (IntKind.wrap .u8 ((Int.tmod mode 2) + 1)) l)] : List (T_miss_Lock))).length) (fz_row (enc := c_T_miss_Lock) (d := default) (fun _ => rfl) ([(T_miss_Lock.mk (x_w.getD 0 default).f_Key (IntKind.wrap .u8 ((Int.tmod mode 2) + 1)) l)] : List (T_miss_Lock))))) (a_ (a_ tr tr) (a_ (a_ (a_ (miss_Plan_tri ([(T_miss_Lock.mk (x_w.getD 0 default).f_Key (IntKind.wrap .u8 ((Int.tmod mode 2) + 1)) l)] : List (T_miss_Lock)) x_w yL0_4 eL0_3) tr) tr) (a_ (a_ tr tr) (a_ (a_ tr tr) (a_ (a_ tr tr) (a_ (a_ tr tr) (a_ (a_ tr tr) (a_ (a_ tr tr) (a_ (a_ tr tr) tr))))))))))))))))))) (a_ (a_ (a_ tr tr) (a_ (a_ (ne0 2 rfl) tr) (a_ (a_ tr tr) (a_ (a_ tr (a_ (leB cL0_5) tr)) (a_ (a_ tr tr) (a_ (a_ tr tr) (a_ (a_ tr tr) (a_ (a_ tr tr) (a_ (a_ tr (a_ (leB cL0_6) tr)) tr))))))))) (a_ (a_ (a_ tr tr) (a_ (a_ (a_ (Eq.refl 21) gL0_2) tr) (a_ (a_ tr tr) (a_ (a_ tr tr) (a_ (a_ (le_ 11 11 rfl) tr) (a_ (a_ tr tr) (a_ (a_ (a_ (votes_Writes_tri (x_w.getD 0 default).f_Item.f_Conf nodes yL0_8 eL0_7) tr) tr) (a_ (a_ tr tr) (a_ (a_ tr (a_ (leB cL0_9) tr)) tr))))))))) (a_ (a_ (a_ tr tr) (a_ (a_ tr tr) (a_ (a_ tr (a_ (leB cL0_10) tr)) (a_ tr (a_ (a_ tr tr) (a_ (a_ tr tr) tr)))))) tr)))))) tr) (by kernel_rfl) rfl
          · skip
            rcases itb_some h with ⟨cL0_10, h⟩ | ⟨cL0_10, h⟩
            · skip
              obtain ⟨yL0_12, eL0_11, h⟩ := bind_some h
              obtain rfl := Option.some.inj h
              exact run_ret mixed (L := []) (n := 35) (s := [.go, .reg [(0, { v := some (.bool false) })], .frz 0, .reg [(9, { os := [(1, .gr 10 (([(T_miss_Lock.mk (x_w.getD 0 default).f_Key (IntKind.wrap .u8 ((Int.tmod mode 2) + 1)) l)] : List (T_miss_Lock))).length (rowF c_T_miss_Lock default ([(T_miss_Lock.mk (x_w.getD 0 default).f_Key (IntKind.wrap .u8 ((Int.tmod mode 2) + 1)) l)] : List (T_miss_Lock))))], v := some (.gs 1 (([(T_miss_Lock.mk (x_w.getD 0 default).f_Key (IntKind.wrap .u8 ((Int.tmod mode 2) + 1)) l)] : List (T_miss_Lock))).length), fz := true }), (11, { call := some (miss_Plan_v yL0_4, [], []) })], .reg [(3, { v := some (.bool false) }), (8, { v := some (.bool false) })], .reg [(6, { call := some (votes_Writes_v yL0_8, [], []) }), (8, { v := some (.bool false) })], .reg [(2, { v := some (.bool true) }), (3, { call := some (parrellaw20_alive_v yL0_12, [], []) })]])
                (a_ (a_ (a_ (a_ tr (a_ (leB cL0_1) tr)) tr) (a_ (a_ (fz_row (enc := c_T_gather_Got) (d := default) (fun _ => rfl) l) (a_ (Nat.le_refl (l).length) tr)) (a_ (a_ (a_ tr tr) (a_ (a_ (a_ (Eq.refl 21) gL0_2) tr) (a_ (a_ tr tr) (a_ (a_ (le_ 8 21 rfl) tr) (a_ (a_ tr tr) (a_ (a_ (ne0 2 rfl) tr) (a_ (a_ tr tr) (a_ (a_ tr tr) (a_ (a_ (Eq.refl true) tr) (a_ (a_ (a_ (a_ (Eq.refl true) (a_ (Eq.refl 10) (a_ (lt_ 0 10 rfl) (le_ 10 16777216 rfl)))) (a_ (le_sl_gs 1 1 (some 1) rfl) (a_ (sub_lit c_T_miss_Lock default 10 (fun _ => rfl) ([(T_miss_Lock.mk (x_w.getD 0 default).f_Key (IntKind.wrap .u8 ((Int.tmod mode 2) + 1)) l)] : List (T_miss_Lock))) tr))) (a_ (Nat.le_refl (([(T_miss_Lock.mk (x_w.getD 0 default).f_Key (IntKind.wrap .u8 ((Int.tmod mode 2) + 1)) l)] : List (T_miss_Lock))).length) (fz_row (enc := c_T_miss_Lock) (d := default) (fun _ => rfl) ([(T_miss_Lock.mk (x_w.getD 0 default).f_Key (IntKind.wrap .u8 ((Int.tmod mode 2) + 1)) l)] : List (T_miss_Lock))))) (a_ (a_ tr tr) (a_ (a_ (a_ (miss_Plan_tri ([(T_miss_Lock.mk (x_w.getD 0 default).f_Key (IntKind.wrap .u8 ((Int.tmod mode 2) + 1)) l)] : List (T_miss_Lock)) x_w yL0_4 eL0_3) tr) tr) (a_ (a_ tr tr) (a_ (a_ tr tr) (a_ (a_ tr tr) (a_ (a_ tr tr) (a_ (a_ tr tr) (a_ (a_ tr tr) (a_ (a_ tr tr) tr))))))))))))))))))) (a_ (a_ (a_ tr tr) (a_ (a_ (ne0 2 rfl) tr) (a_ (a_ tr tr) (a_ (a_ tr (a_ (leB cL0_5) tr)) (a_ (a_ tr tr) (a_ (a_ tr tr) (a_ (a_ tr tr) (a_ (a_ tr tr) (a_ (a_ tr (a_ (leB cL0_6) tr)) tr))))))))) (a_ (a_ (a_ tr tr) (a_ (a_ (a_ (Eq.refl 21) gL0_2) tr) (a_ (a_ tr tr) (a_ (a_ tr tr) (a_ (a_ (le_ 11 11 rfl) tr) (a_ (a_ tr tr) (a_ (a_ (a_ (votes_Writes_tri (x_w.getD 0 default).f_Item.f_Conf nodes yL0_8 eL0_7) tr) tr) (a_ (a_ tr tr) (a_ (a_ tr (a_ (leB cL0_9) tr)) tr))))))))) (a_ (a_ (a_ tr tr) (a_ (a_ tr tr) (a_ (a_ tr (a_ (leB cL0_10) tr)) (a_ (a_ (a_ (parrellaw20_alive_tri  yL0_12 eL0_11) tr) tr) (a_ (a_ tr tr) (a_ (a_ tr tr) tr)))))) tr)))))) tr) (by kernel_rfl) rfl
            · skip
              obtain rfl := Option.some.inj h
              exact run_ret mixed (L := []) (n := 35) (s := [.go, .reg [(0, { v := some (.bool false) })], .frz 0, .reg [(9, { os := [(1, .gr 10 (([(T_miss_Lock.mk (x_w.getD 0 default).f_Key (IntKind.wrap .u8 ((Int.tmod mode 2) + 1)) l)] : List (T_miss_Lock))).length (rowF c_T_miss_Lock default ([(T_miss_Lock.mk (x_w.getD 0 default).f_Key (IntKind.wrap .u8 ((Int.tmod mode 2) + 1)) l)] : List (T_miss_Lock))))], v := some (.gs 1 (([(T_miss_Lock.mk (x_w.getD 0 default).f_Key (IntKind.wrap .u8 ((Int.tmod mode 2) + 1)) l)] : List (T_miss_Lock))).length), fz := true }), (11, { call := some (miss_Plan_v yL0_4, [], []) })], .reg [(3, { v := some (.bool false) }), (8, { v := some (.bool false) })], .reg [(6, { call := some (votes_Writes_v yL0_8, [], []) }), (8, { v := some (.bool false) })], .reg [(2, { v := some (.bool false) })]])
                (a_ (a_ (a_ (a_ tr (a_ (leB cL0_1) tr)) tr) (a_ (a_ (fz_row (enc := c_T_gather_Got) (d := default) (fun _ => rfl) l) (a_ (Nat.le_refl (l).length) tr)) (a_ (a_ (a_ tr tr) (a_ (a_ (a_ (Eq.refl 21) gL0_2) tr) (a_ (a_ tr tr) (a_ (a_ (le_ 8 21 rfl) tr) (a_ (a_ tr tr) (a_ (a_ (ne0 2 rfl) tr) (a_ (a_ tr tr) (a_ (a_ tr tr) (a_ (a_ (Eq.refl true) tr) (a_ (a_ (a_ (a_ (Eq.refl true) (a_ (Eq.refl 10) (a_ (lt_ 0 10 rfl) (le_ 10 16777216 rfl)))) (a_ (le_sl_gs 1 1 (some 1) rfl) (a_ (sub_lit c_T_miss_Lock default 10 (fun _ => rfl) ([(T_miss_Lock.mk (x_w.getD 0 default).f_Key (IntKind.wrap .u8 ((Int.tmod mode 2) + 1)) l)] : List (T_miss_Lock))) tr))) (a_ (Nat.le_refl (([(T_miss_Lock.mk (x_w.getD 0 default).f_Key (IntKind.wrap .u8 ((Int.tmod mode 2) + 1)) l)] : List (T_miss_Lock))).length) (fz_row (enc := c_T_miss_Lock) (d := default) (fun _ => rfl) ([(T_miss_Lock.mk (x_w.getD 0 default).f_Key (IntKind.wrap .u8 ((Int.tmod mode 2) + 1)) l)] : List (T_miss_Lock))))) (a_ (a_ tr tr) (a_ (a_ (a_ (miss_Plan_tri ([(T_miss_Lock.mk (x_w.getD 0 default).f_Key (IntKind.wrap .u8 ((Int.tmod mode 2) + 1)) l)] : List (T_miss_Lock)) x_w yL0_4 eL0_3) tr) tr) (a_ (a_ tr tr) (a_ (a_ tr tr) (a_ (a_ tr tr) (a_ (a_ tr tr) (a_ (a_ tr tr) (a_ (a_ tr tr) (a_ (a_ tr tr) tr))))))))))))))))))) (a_ (a_ (a_ tr tr) (a_ (a_ (ne0 2 rfl) tr) (a_ (a_ tr tr) (a_ (a_ tr (a_ (leB cL0_5) tr)) (a_ (a_ tr tr) (a_ (a_ tr tr) (a_ (a_ tr tr) (a_ (a_ tr tr) (a_ (a_ tr (a_ (leB cL0_6) tr)) tr))))))))) (a_ (a_ (a_ tr tr) (a_ (a_ (a_ (Eq.refl 21) gL0_2) tr) (a_ (a_ tr tr) (a_ (a_ tr tr) (a_ (a_ (le_ 11 11 rfl) tr) (a_ (a_ tr tr) (a_ (a_ (a_ (votes_Writes_tri (x_w.getD 0 default).f_Item.f_Conf nodes yL0_8 eL0_7) tr) tr) (a_ (a_ tr tr) (a_ (a_ tr (a_ (leB cL0_9) tr)) tr))))))))) (a_ (a_ (a_ tr tr) (a_ (a_ tr tr) (a_ (a_ tr (a_ (leB cL0_10) tr)) (a_ tr (a_ (a_ tr tr) (a_ (a_ tr tr) tr)))))) tr)))))) tr) (by kernel_rfl) rfl

theorem parrellaw20_MissFew_ok (nodes : Int) (x_w : List (T_api_Write)) (mode : Int) (r : (Bool)) (h : parrellaw20_MissFew nodes x_w mode = some r) : ∀ σ, Inj 0 σ → FnTri Tryd.prog 6 (renL σ [.int .u64 nodes, .ds 21 (x_w).length (rowF c_T_api_Write default x_w), .int .u8 mode]) (preOf σ 0 []) ((parrellaw20_MissFew_v r).ren σ) (upOf σ []) := by
  refine fn_of Tryd.func6 (by kernel_rfl) (by kernel_rfl) (by kernel_rfl) trivial (by kernel_rfl) trivial (by kernel_rfl) ?_
  intro w0 W μ0 hμ
  unfold parrellaw20_MissFew at h
  obtain ⟨y2, e1, h⟩ := bind_some h
  rcases itb_some h with ⟨c3, h⟩ | ⟨c3, h⟩
  · skip
    obtain ⟨y5, e4, h⟩ := bind_some h
    obtain rfl := Option.some.inj h
    exact run_ret mixed (L := []) (n := 20) (s := [.reg [], .reg [(1, { call := some (parrellaw20_far_v y2, [], []), cargs := some [.ds 10 (([] : List (T_parrelref20_Lock))).length (rowF c_T_parrelref20_Lock default ([] : List (T_parrelref20_Lock))), .ds 21 (x_w).length (rowF c_T_api_Write default x_w)] }), (2, { v := some (.bool true) })], .reg [(0, { call := some (parrellaw20_alive_v y5, [], []) })]])
      (a_ (a_ (a_ (a_ tr tr) tr) (a_ (a_ (a_ tr tr) (a_ (a_ (a_ (parrellaw20_far_tri ([] : List (T_parrelref20_Lock)) x_w y2 e1) (a_ (a_ (le_nil_ds 10 (rowF c_T_parrelref20_Lock default [])) (a_ (LV.Le.refl (.ds 21 (x_w).length (rowF c_T_api_Write default x_w))) tr)) tr)) tr) (a_ (a_ tr (a_ (leB c3) tr)) (a_ tr (a_ tr (a_ tr (a_ (a_ tr tr) (a_ (a_ tr tr) (a_ tr (a_ tr (a_ tr (a_ (a_ tr tr) tr)))))))))))) (a_ (a_ (a_ (a_ (parrellaw20_alive_tri  y5 e4) tr) tr) (a_ (a_ tr tr) tr)) tr))) tr) (by kernel_rfl) rfl
  · skip
    rcases itb_some h with ⟨c4, h⟩ | ⟨c4, h⟩
    · skip
      obtain ⟨y6, e5, h⟩ := bind_some h
      obtain rfl := Option.some.inj h
      exact run_ret mixed (L := []) (n := 20) (s := [.reg [], .reg [(1, { call := some (parrellaw20_far_v y2, [], []), cargs := some [.ds 10 (([] : List (T_parrelref20_Lock))).length (rowF c_T_parrelref20_Lock default ([] : List (T_parrelref20_Lock))), .ds 21 (x_w).length (rowF c_T_api_Write default x_w)] }), (2, { v := some (.bool false) }), (7, { v := some (.bool true) })], .reg [(0, { call := some (parrellaw20_alive_v y6, [], []) })]])
        (a_ (a_ (a_ (a_ tr tr) tr) (a_ (a_ (a_ tr tr) (a_ (a_ (a_ (parrellaw20_far_tri ([] : List (T_parrelref20_Lock)) x_w y2 e1) (a_ (a_ (le_nil_ds 10 (rowF c_T_parrelref20_Lock default [])) (a_ (LV.Le.refl (.ds 21 (x_w).length (rowF c_T_api_Write default x_w))) tr)) tr)) tr) (a_ (a_ tr (a_ (leB c3) tr)) (a_ (a_ tr tr) (a_ (a_ tr tr) (a_ (a_ tr tr) (a_ (a_ tr tr) (a_ (a_ tr (a_ (leB c4) tr)) (a_ tr (a_ tr (a_ tr (a_ (a_ tr tr) tr)))))))))))) (a_ (a_ (a_ (a_ (parrellaw20_alive_tri  y6 e5) tr) tr) (a_ (a_ tr tr) tr)) tr))) tr) (by kernel_rfl) rfl
    · skip
      obtain ⟨y6, e5, h⟩ := bind_some h
      rcases itb_some h with ⟨c7, h⟩ | ⟨c7, h⟩
      · skip
        obtain ⟨y9, e8, h⟩ := bind_some h
        obtain rfl := Option.some.inj h
        exact run_ret mixed (L := []) (n := 20) (s := [.reg [], .reg [(1, { call := some (parrellaw20_far_v y2, [], []), cargs := some [.ds 10 (([] : List (T_parrelref20_Lock))).length (rowF c_T_parrelref20_Lock default ([] : List (T_parrelref20_Lock))), .ds 21 (x_w).length (rowF c_T_api_Write default x_w)] }), (2, { v := some (.bool false) }), (7, { v := some (.bool false) }), (9, { call := some (parrelref10_WritesMay_v y6, [], []) }), (11, { v := some (.bool true) })], .reg [(0, { call := some (parrellaw20_alive_v y9, [], []) })]])
          (a_ (a_ (a_ (a_ tr tr) tr) (a_ (a_ (a_ tr tr) (a_ (a_ (a_ (parrellaw20_far_tri ([] : List (T_parrelref20_Lock)) x_w y2 e1) (a_ (a_ (le_nil_ds 10 (rowF c_T_parrelref20_Lock default [])) (a_ (LV.Le.refl (.ds 21 (x_w).length (rowF c_T_api_Write default x_w))) tr)) tr)) tr) (a_ (a_ tr (a_ (leB c3) tr)) (a_ (a_ tr tr) (a_ (a_ tr tr) (a_ (a_ tr tr) (a_ (a_ tr tr) (a_ (a_ tr (a_ (leB c4) tr)) (a_ (a_ tr tr) (a_ (a_ (a_ (parrelref10_WritesMay_tri x_w y6 e5) tr) tr) (a_ (a_ tr tr) (a_ (a_ tr (a_ (leB c7) tr)) tr)))))))))))) (a_ (a_ (a_ (a_ (parrellaw20_alive_tri  y9 e8) tr) tr) (a_ (a_ tr tr) tr)) tr))) tr) (by kernel_rfl) rfl
      · skip
        exact run_to mixed hμ (L := [0]) (n := 28) (s := [.reg [], .reg [(1, { call := some (parrellaw20_far_v y2, [], []), cargs := some [.ds 10 (([] : List (T_parrelref20_Lock))).length (rowF c_T_parrelref20_Lock default ([] : List (T_parrelref20_Lock))), .ds 21 (x_w).length (rowF c_T_api_Write default x_w)] }), (2, { v := some (.bool false) }), (7, { v := some (.bool false) }), (9, { call := some (parrelref10_WritesMay_v y6, [], []) }), (11, { v := some (.bool false) })], .void (.gr 16 (([] : List (T_gather_Got))).length (rowF c_T_gather_Got default ([] : List (T_gather_Got)))), .reg [(0, { v := some (.gs 0 (([] : List (T_gather_Got))).length) })], .reg []])
          (a_ (a_ (a_ tr tr) tr) (a_ (a_ (a_ tr tr) (a_ (a_ (a_ (parrellaw20_far_tri ([] : List (T_parrelref20_Lock)) x_w y2 e1) (a_ (a_ (le_nil_ds 10 (rowF c_T_parrelref20_Lock default [])) (a_ (LV.Le.refl (.ds 21 (x_w).length (rowF c_T_api_Write default x_w))) tr)) tr)) tr) (a_ (a_ tr (a_ (leB c3) tr)) (a_ (a_ tr tr) (a_ (a_ tr tr) (a_ (a_ tr tr) (a_ (a_ tr tr) (a_ (a_ tr (a_ (leB c4) tr)) (a_ (a_ tr tr) (a_ (a_ (a_ (parrelref10_WritesMay_tri x_w y6 e5) tr) tr) (a_ (a_ tr tr) (a_ (a_ tr (a_ (leB c7) tr)) tr)))))))))))) (a_ (Eq.refl 0) (a_ (a_ (a_ tr (a_ (le_nil_gs 0) tr)) tr) (a_ (a_ (a_ tr tr) tr) tr))))) (parrellaw20_MissFew_l0_ok hμ nodes x_w mode  big _ _ r h) (by kernel_rfl) ⟨fun _ _ => rfl, trivial⟩

theorem parrellaw20_MissFew_tri (nodes : Int) (x_w : List (T_api_Write)) (mode : Int) (r : (Bool)) (h : parrellaw20_MissFew nodes x_w mode = some r) : FnTri Tryd.prog 6 [.int .u64 nodes, .ds 21 (x_w).length (rowF c_T_api_Write default x_w), .int .u8 mode] [] (parrellaw20_MissFew_v r) [] := FnTri.none (parrellaw20_MissFew_ok nodes x_w mode r h) rfl rfl

end
end Go.Proofs.YtdjmfgknonkojaaDoor.Wk
