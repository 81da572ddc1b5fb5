/- Printed by tr.py: Go functions as Lean functions, with the proofs that they walk so. -/
import Derived.Test.YtdjmfgknonkojaaDoorMissWb
namespace Go.Proofs.YtdjmfgknonkojaaDoor.Wk
open Go Go.Cn Go.RowKit
set_option maxRecDepth 100000
set_option maxHeartbeats 4000000
set_option linter.unusedVariables false
set_option linter.unusedSimpArgs false
noncomputable section
/-- parrel/parrellaw20.MissTurned -/

def parrellaw20_MissTurned_v (r : (Bool)) : LV := .bool r

def parrellaw20_MissTurned_T1 (yL0_5 : (List (T_coord_Member)) × (List (Int)) × (Int)) (yL0_9 : (List (T_coord_Member)) × (List (Int)) × (Int)) (t81 : Int) (l3 : List (T_parrelref18_Member)) : List LV := [.any, .any, .any, .any, .any, .any, .any, .any, .any, .any, .ds 4 (yL0_5.1).length (rowF c_T_coord_Member default yL0_5.1), .ds 1 (yL0_5.2.1).length (rowF (cInt .u64) default yL0_5.2.1), .int .i64 yL0_5.2.2, .any, .ds 1 (yL0_9.2.1).length (rowF (cInt .u64) default yL0_9.2.1), .int .i64 yL0_9.2.2, .gs 0 (l3).length, .any, .any, .any, .any, .any, .any, .any, .any, .any, .any, .any, .any, .any, .any, .any, .any, .any, .any, .any, .any, .any, .any, .any, .any, .any, .any, .any, .any, .any, .any, .any, .any, .any, .any, .any, .any, .any, .any, .any, .any, .any, .any, .any, .any, .any, .any, .any, .any, .any, .any, .any, .any, .any, .any, .any, .any, .any, .any, .any, .any, .any, .any, .ds 4 (yL0_9.1).length (rowF c_T_coord_Member default yL0_9.1), .int .i64 ((yL0_9.1).length : Int), .int .i64 t81, .any, .any, .any, .any, .any, .any, .any, .any, .any, .any, .any, .any, .any, .any, .any, .any, .any, .any, .any, .any, .any, .any, .any, .any, .any, .any, .any, .any, .any, .any]

def parrellaw20_MissTurned_H1 (yL0_5 : (List (T_coord_Member)) × (List (Int)) × (Int)) (yL0_9 : (List (T_coord_Member)) × (List (Int)) × (Int)) (t81 : Int) (l3 : List (T_parrelref18_Member)) : Heap := [some (.gr 5 (l3).length (rowF c_T_parrelref18_Member default l3))]

def parrellaw20_MissTurned_T0 (l : List (T_parrelref20_Lock)) (x_w : List (T_api_Write)) (x_by : Int) (t43 : Int) (l2 : List (T_parrelref20_Lock)) : List LV := [.ds 10 (l).length (rowF c_T_parrelref20_Lock default l), .ds 21 (x_w).length (rowF c_T_api_Write default x_w), .any, .any, .any, .any, .any, .any, .gs 0 (l2).length, .any, .any, .any, .any, .any, .any, .any, .any, .any, .any, .any, .any, .any, .any, .any, .any, .any, .any, .any, .any, .any, .any, .any, .any, .any, .any, .any, .any, .any, .any, .any, .any, .any, .int .i64 ((((l.drop ((Int.tmod (IntKind.wrap .i64 x_by) ((l).length : Int))).toNat) ++ (l.take ((Int.tmod (IntKind.wrap .i64 x_by) ((l).length : Int))).toNat))).length : Int), .int .i64 t43, .any, .any, .any, .any, .any, .any, .any, .any, .any, .any, .any, .any, .any, .any, .any, .any, .any, .any, .any, .any, .any, .any, .any, .any, .any, .any, .any, .any, .any, .any, .any, .any, .any, .any, .any, .any, .any, .any, .any, .any, .any, .any, .any, .any, .any, .any, .any, .any, .any, .any, .any, .any, .any, .any, .any, .any, .any, .any, .any, .any, .any, .any, .any, .any, .any, .any, .any, .any]

def parrellaw20_MissTurned_H0 (l : List (T_parrelref20_Lock)) (x_w : List (T_api_Write)) (x_by : Int) (t43 : Int) (l2 : List (T_parrelref20_Lock)) : Heap := [some (.gr 10 (l2).length (rowF c_T_parrelref20_Lock default l2))]

def parrellaw20_MissTurned_l1 (yL0_5 : (List (T_coord_Member)) × (List (Int)) × (Int)) (yL0_9 : (List (T_coord_Member)) × (List (Int)) × (Int))  : Nat → (Int) → (List (T_parrelref18_Member)) → Option ((Bool))
  | 0, _, _ => none
  | fuel + 1, t81, l3 =>
    if ((decide (t81 < ((yL0_9.1).length : Int))) : Bool) then
      if 0 ≤ t81 ∧ t81 < (((yL0_9.1).length : Nat) : Int) then
      if ((l3).length + (([(T_parrelref18_Member.mk (yL0_9.1.getD t81.toNat default).f_Node (yL0_9.1.getD t81.toNat default).f_Reg (yL0_9.1.getD t81.toNat default).f_Writes 0)] : List (T_parrelref18_Member))).length) * 48 ≤ 140737488351232 then
      parrellaw20_MissTurned_l1 yL0_5 yL0_9  fuel (IntKind.wrap .i64 (t81 + 1)) (l3 ++ ([(T_parrelref18_Member.mk (yL0_9.1.getD t81.toNat default).f_Node (yL0_9.1.getD t81.toNat default).f_Reg (yL0_9.1.getD t81.toNat default).f_Writes 0)] : List (T_parrelref18_Member)))
      else none
      else none
    else
      (parrellaw20_members yL0_5.1 l3).bind fun yL1_3 =>
      if (yL1_3 : Bool) then
        (parrellaw20_sets yL0_5.2.1 yL0_9.2.1).bind fun yL1_6 =>
        if (yL1_6 : Bool) then
          if ((yL0_5.2.2 == yL0_9.2.2) : Bool) then
            (parrellaw20_alive).bind fun yL1_10 =>
            some yL1_10
          else
            some false
        else
          some false
      else
        some false

def parrellaw20_MissTurned_l0 (l : List (T_parrelref20_Lock)) (x_w : List (T_api_Write)) (x_by : Int)  : Nat → (Int) → (List (T_parrelref20_Lock)) → Option ((Bool))
  | 0, _, _ => none
  | fuel + 1, t43, l2 =>
    if ((decide (t43 < ((((l.drop ((Int.tmod (IntKind.wrap .i64 x_by) ((l).length : Int))).toNat) ++ (l.take ((Int.tmod (IntKind.wrap .i64 x_by) ((l).length : Int))).toNat))).length : Int))) : Bool) then
      if 0 ≤ t43 ∧ t43 < (((l2).length : Nat) : Int) then
      if (0 + ((l2.getD t43.toNat default).f_Got).length) * 56 ≤ 140737488351232 then
      if (((l2.getD t43.toNat default).f_Got).length + ((l2.getD t43.toNat default).f_Got).length) * 56 ≤ 140737488351232 then
      parrellaw20_MissTurned_l0 l x_w x_by  fuel (IntKind.wrap .i64 (t43 + 1)) (l2.set t43.toNat (T_parrelref20_Lock.mk (l2.getD t43.toNat default).f_Key (l2.getD t43.toNat default).f_Mode ((l2.getD t43.toNat default).f_Got ++ (l2.getD t43.toNat default).f_Got)))
      else none
      else none
      else none
    else
      (parrellaw20_theirs l).bind fun yL0_3 =>
      (miss_Plan yL0_3 x_w).bind fun yL0_5 =>
      (parrellaw20_theirs l2).bind fun yL0_7 =>
      (miss_Plan yL0_7 x_w).bind fun yL0_9 =>
      parrellaw20_MissTurned_l1 yL0_5 yL0_9  big 0 ([] : List (T_parrelref18_Member))

def parrellaw20_MissTurned (l : List (T_parrelref20_Lock)) (x_w : List (T_api_Write)) (x_by : Int) : Option ((Bool)) :=
  (parrellaw20_far l x_w).bind fun y2 =>
  if (y2 : Bool) then
    (parrellaw20_alive).bind fun y5 =>
    some y5
  else
    if ((((l).length : Int) == 0) : Bool) then
      (parrellaw20_alive).bind fun y6 =>
      some y6
    else
      if ((l).length : Int) ≠ 0 then
      if 0 ≤ (Int.tmod (IntKind.wrap .i64 x_by) ((l).length : Int)) ∧ (Int.tmod (IntKind.wrap .i64 x_by) ((l).length : Int)) ≤ (((l).length : Nat) : Int) ∧ (((l).length : Nat) : Int) ≤ (((l).length : Nat) : Int) then
      if (0 + ((l.drop ((Int.tmod (IntKind.wrap .i64 x_by) ((l).length : Int))).toNat)).length) * 40 ≤ 140737488351232 then
      if 0 ≤ (0 : Int) ∧ 0 ≤ (Int.tmod (IntKind.wrap .i64 x_by) ((l).length : Int)) ∧ (Int.tmod (IntKind.wrap .i64 x_by) ((l).length : Int)) ≤ (((l).length : Nat) : Int) then
      if (((l.drop ((Int.tmod (IntKind.wrap .i64 x_by) ((l).length : Int))).toNat)).length + ((l.take ((Int.tmod (IntKind.wrap .i64 x_by) ((l).length : Int))).toNat)).length) * 40 ≤ 140737488351232 then
      parrellaw20_MissTurned_l0 l x_w x_by  big 0 ((l.drop ((Int.tmod (IntKind.wrap .i64 x_by) ((l).length : Int))).toNat) ++ (l.take ((Int.tmod (IntKind.wrap .i64 x_by) ((l).length : Int))).toNat))
      else none
      else none
      else none
      else none
      else none

theorem parrellaw20_MissTurned_l1_ok {w0 : World} {W : Nat → Prop} {μ0 : Emb} (hμ : ∀ c p, μ0 c = some p → c < 0) (yL0_5 : (List (T_coord_Member)) × (List (Int)) × (Int)) (yL0_9 : (List (T_coord_Member)) × (List (Int)) × (Int))  : ∀ (fuel : Nat) (t81 : Int) (l3 : List (T_parrelref18_Member)) (r : (Bool)), parrellaw20_MissTurned_l1 yL0_5 yL0_9  fuel t81 l3 = some r → kont Tryd.prog w0 W μ0 (FnPost Tryd.prog Tryd.f5 0 0 (parrellaw20_MissTurned_v r) []) (kAt (bodyOf Tryd.f5) 1) none (parrellaw20_MissTurned_T1 yL0_5 yL0_9 t81 l3) (parrellaw20_MissTurned_H1 yL0_5 yL0_9 t81 l3) := by
  intro fuel
  induction fuel with
  | zero => intro t81 l3 r h; rw [parrellaw20_MissTurned_l1] at h; cases h
  | succ fuel ih =>
    intro t81 l3 r h
    rw [parrellaw20_MissTurned_l1] at h
    rcases itb_some h with ⟨cL1_1, h⟩ | ⟨cL1_1, h⟩
    · skip
      obtain ⟨gL1_2, h⟩ := guard_some h
      obtain ⟨gL1_3, h⟩ := guard_some h
      exact run_to mixed hμ (L := [3]) (n := 26) (s := [.go, .reg [(0, { v := some (.bool true) })], .reg [], .reg [(8, { os := [(2, .gr 5 (([(T_parrelref18_Member.mk (yL0_9.1.getD t81.toNat default).f_Node (yL0_9.1.getD t81.toNat default).f_Reg (yL0_9.1.getD t81.toNat default).f_Writes 0)] : List (T_parrelref18_Member))).length (rowF c_T_parrelref18_Member default ([(T_parrelref18_Member.mk (yL0_9.1.getD t81.toNat default).f_Node (yL0_9.1.getD t81.toNat default).f_Reg (yL0_9.1.getD t81.toNat default).f_Writes 0)] : List (T_parrelref18_Member))))], v := some (.gs 2 (([(T_parrelref18_Member.mk (yL0_9.1.getD t81.toNat default).f_Node (yL0_9.1.getD t81.toNat default).f_Reg (yL0_9.1.getD t81.toNat default).f_Writes 0)] : List (T_parrelref18_Member))).length) }), (9, { app := 3, os := [(3, .gr 5 ((l3 ++ ([(T_parrelref18_Member.mk (yL0_9.1.getD t81.toNat default).f_Node (yL0_9.1.getD t81.toNat default).f_Reg (yL0_9.1.getD t81.toNat default).f_Writes 0)] : List (T_parrelref18_Member)))).length (rowF c_T_parrelref18_Member default (l3 ++ ([(T_parrelref18_Member.mk (yL0_9.1.getD t81.toNat default).f_Node (yL0_9.1.getD t81.toNat default).f_Reg (yL0_9.1.getD t81.toNat default).f_Writes 0)] : List (T_parrelref18_Member)))))], v := some (.gs 3 ((l3 ++ ([(T_parrelref18_Member.mk (yL0_9.1.getD t81.toNat default).f_Node (yL0_9.1.getD t81.toNat default).f_Reg (yL0_9.1.getD t81.toNat default).f_Writes 0)] : List (T_parrelref18_Member)))).length) })], .reg []])
        (a_ (a_ (a_ tr (a_ (leB cL1_1) tr)) tr) (a_ (a_ (a_ (a_ (Eq.refl 4) gL1_2) tr) (a_ (a_ (le_ 4 4 rfl) tr) (a_ (a_ tr tr) (a_ (a_ (a_ (Eq.refl 4) (a_ (le_ 4 4 rfl) (Eq.refl 0))) tr) tr)))) (a_ (a_ (a_ tr tr) (a_ (a_ tr tr) (a_ (a_ (a_ tr (lt_ 0 4 rfl)) tr) (a_ (a_ tr tr) (a_ (a_ (a_ tr (le_ 3 4 rfl)) tr) (a_ (a_ tr tr) (a_ (a_ (a_ tr (lt_ 3 4 rfl)) tr) (a_ (a_ (Eq.refl true) tr) (a_ (a_ (a_ (Eq.refl true) (a_ (Eq.refl 5) (a_ (lt_ 0 5 rfl) (le_ 5 16777216 rfl)))) (a_ (le_sl_gs 2 1 (some 1) rfl) (a_ (sub_lit c_T_parrelref18_Member default 5 (fun _ => rfl) ([(T_parrelref18_Member.mk (yL0_9.1.getD t81.toNat default).f_Node (yL0_9.1.getD t81.toNat default).f_Reg (yL0_9.1.getD t81.toNat default).f_Writes 0)] : List (T_parrelref18_Member))) tr))) (a_ (a_ (a_ (a_ (Eq.refl 5) (Nat.le_refl (([(T_parrelref18_Member.mk (yL0_9.1.getD t81.toNat default).f_Node (yL0_9.1.getD t81.toNat default).f_Reg (yL0_9.1.getD t81.toNat default).f_Writes 0)] : List (T_parrelref18_Member))).length)) (a_ (a_ (lt_ 0 5 rfl) (a_ (lt_ 0 48 rfl) (a_ gL1_3 (a_ (Eq.refl 5) (Eq.refl true))))) (a_ (Eq.refl 5) (Nat.le_refl (l3).length)))) (a_ (le_gs_app 3 l3 ([(T_parrelref18_Member.mk (yL0_9.1.getD t81.toNat default).f_Node (yL0_9.1.getD t81.toNat default).f_Reg (yL0_9.1.getD t81.toNat default).f_Writes 0)] : List (T_parrelref18_Member))) (a_ (sub_app c_T_parrelref18_Member default 5 l3 ([(T_parrelref18_Member.mk (yL0_9.1.getD t81.toNat default).f_Node (yL0_9.1.getD t81.toNat default).f_Reg (yL0_9.1.getD t81.toNat default).f_Writes 0)] : List (T_parrelref18_Member))) tr))) (a_ (a_ tr tr) tr))))))))))) (a_ (a_ (a_ tr tr) (a_ (a_ tr tr) tr)) tr)))) (ih _ _ r h) (by kernel_rfl) ⟨fun _ _ => rfl, trivial⟩
    · skip
      obtain ⟨yL1_3, eL1_2, h⟩ := bind_some h
      rcases itb_some h with ⟨cL1_4, h⟩ | ⟨cL1_4, h⟩
      · skip
        obtain ⟨yL1_6, eL1_5, h⟩ := bind_some h
        rcases itb_some h with ⟨cL1_7, h⟩ | ⟨cL1_7, h⟩
        · skip
          rcases itb_some h with ⟨cL1_8, h⟩ | ⟨cL1_8, h⟩
          · skip
            obtain ⟨yL1_10, eL1_9, h⟩ := bind_some h
            obtain rfl := Option.some.inj h
            exact run_ret mixed (L := []) (n := 20) (s := [.go, .reg [(0, { v := some (.bool false) })], .frz 0, .reg [(2, { call := some (parrellaw20_members_v yL1_3, [], []) }), (3, { v := some (.bool true) }), (6, { call := some (parrellaw20_sets_v yL1_6, [], []) }), (8, { v := some (.bool true) }), (13, { v := some (.bool true) }), (14, { call := some (parrellaw20_alive_v yL1_10, [], []) })]])
              (a_ (a_ (a_ (a_ tr (a_ (leB cL1_1) tr)) tr) (a_ (a_ (fz_row (enc := c_T_parrelref18_Member) (d := default) (fun _ => rfl) l3) (a_ (Nat.le_refl (l3).length) tr)) (a_ (a_ (a_ tr tr) (a_ (a_ tr tr) (a_ (a_ (a_ (parrellaw20_members_tri yL0_5.1 l3 yL1_3 eL1_2) tr) tr) (a_ (a_ tr (a_ (leB cL1_4) tr)) (a_ (a_ tr tr) (a_ (a_ tr tr) (a_ (a_ (a_ (parrellaw20_sets_tri yL0_5.2.1 yL0_9.2.1 yL1_6 eL1_5) tr) tr) (a_ (a_ tr tr) (a_ (a_ tr (a_ (leB cL1_7) tr)) (a_ (a_ tr tr) (a_ (a_ tr tr) (a_ (a_ tr tr) (a_ (a_ tr tr) (a_ (a_ tr (a_ (leB cL1_8) tr)) (a_ (a_ (a_ (parrellaw20_alive_tri  yL1_10 eL1_9) tr) tr) (a_ (a_ tr tr) (a_ (a_ tr tr) tr))))))))))))))))) tr))) tr) (by kernel_rfl) rfl
          · skip
            obtain rfl := Option.some.inj h
            exact run_ret mixed (L := []) (n := 20) (s := [.go, .reg [(0, { v := some (.bool false) })], .frz 0, .reg [(2, { call := some (parrellaw20_members_v yL1_3, [], []) }), (3, { v := some (.bool true) }), (6, { call := some (parrellaw20_sets_v yL1_6, [], []) }), (8, { v := some (.bool true) }), (13, { v := some (.bool false) })]])
              (a_ (a_ (a_ (a_ tr (a_ (leB cL1_1) tr)) tr) (a_ (a_ (fz_row (enc := c_T_parrelref18_Member) (d := default) (fun _ => rfl) l3) (a_ (Nat.le_refl (l3).length) tr)) (a_ (a_ (a_ tr tr) (a_ (a_ tr tr) (a_ (a_ (a_ (parrellaw20_members_tri yL0_5.1 l3 yL1_3 eL1_2) tr) tr) (a_ (a_ tr (a_ (leB cL1_4) tr)) (a_ (a_ tr tr) (a_ (a_ tr tr) (a_ (a_ (a_ (parrellaw20_sets_tri yL0_5.2.1 yL0_9.2.1 yL1_6 eL1_5) tr) tr) (a_ (a_ tr tr) (a_ (a_ tr (a_ (leB cL1_7) tr)) (a_ (a_ tr tr) (a_ (a_ tr tr) (a_ (a_ tr tr) (a_ (a_ tr tr) (a_ (a_ tr (a_ (leB cL1_8) tr)) (a_ tr (a_ (a_ tr tr) (a_ (a_ tr tr) tr))))))))))))))))) tr))) tr) (by kernel_rfl) rfl
        · skip
          obtain rfl := Option.some.inj h
          exact run_ret mixed (L := []) (n := 20) (s := [.go, .reg [(0, { v := some (.bool false) })], .frz 0, .reg [(2, { call := some (parrellaw20_members_v yL1_3, [], []) }), (3, { v := some (.bool true) }), (6, { call := some (parrellaw20_sets_v yL1_6, [], []) }), (8, { v := some (.bool false) })]])
            (a_ (a_ (a_ (a_ tr (a_ (leB cL1_1) tr)) tr) (a_ (a_ (fz_row (enc := c_T_parrelref18_Member) (d := default) (fun _ => rfl) l3) (a_ (Nat.le_refl (l3).length) tr)) (a_ (a_ (a_ tr tr) (a_ (a_ tr tr) (a_ (a_ (a_ (parrellaw20_members_tri yL0_5.1 l3 yL1_3 eL1_2) tr) tr) (a_ (a_ tr (a_ (leB cL1_4) tr)) (a_ (a_ tr tr) (a_ (a_ tr tr) (a_ (a_ (a_ (parrellaw20_sets_tri yL0_5.2.1 yL0_9.2.1 yL1_6 eL1_5) tr) tr) (a_ (a_ tr tr) (a_ (a_ tr (a_ (leB cL1_7) tr)) (a_ tr (a_ tr (a_ tr (a_ (a_ tr tr) (a_ (a_ tr tr) (a_ tr (a_ (a_ tr tr) (a_ (a_ tr tr) tr))))))))))))))))) tr))) tr) (by kernel_rfl) rfl
      · skip
        obtain rfl := Option.some.inj h
        exact run_ret mixed (L := []) (n := 20) (s := [.go, .reg [(0, { v := some (.bool false) })], .frz 0, .reg [(2, { call := some (parrellaw20_members_v yL1_3, [], []) }), (3, { v := some (.bool false) })]])
          (a_ (a_ (a_ (a_ tr (a_ (leB cL1_1) tr)) tr) (a_ (a_ (fz_row (enc := c_T_parrelref18_Member) (d := default) (fun _ => rfl) l3) (a_ (Nat.le_refl (l3).length) tr)) (a_ (a_ (a_ tr tr) (a_ (a_ tr tr) (a_ (a_ (a_ (parrellaw20_members_tri yL0_5.1 l3 yL1_3 eL1_2) tr) tr) (a_ (a_ tr (a_ (leB cL1_4) tr)) (a_ tr (a_ tr (a_ tr (a_ (a_ tr tr) (a_ (a_ tr tr) (a_ tr (a_ tr (a_ tr (a_ (a_ tr tr) (a_ (a_ tr tr) (a_ tr (a_ (a_ tr tr) (a_ (a_ tr tr) tr))))))))))))))))) tr))) tr) (by kernel_rfl) rfl

theorem parrellaw20_MissTurned_l0_ok {w0 : World} {W : Nat → Prop} {μ0 : Emb} (hμ : ∀ c p, μ0 c = some p → c < 0) (l : List (T_parrelref20_Lock)) (x_w : List (T_api_Write)) (x_by : Int)  : ∀ (fuel : Nat) (t43 : Int) (l2 : List (T_parrelref20_Lock)) (r : (Bool)), parrellaw20_MissTurned_l0 l x_w x_by  fuel t43 l2 = some r → kont Tryd.prog w0 W μ0 (FnPost Tryd.prog Tryd.f5 0 0 (parrellaw20_MissTurned_v r) []) (kAt (bodyOf Tryd.f5) 0) none (parrellaw20_MissTurned_T0 l x_w x_by t43 l2) (parrellaw20_MissTurned_H0 l x_w x_by t43 l2) := by
  intro fuel
  induction fuel with
  | zero => intro t43 l2 r h; rw [parrellaw20_MissTurned_l0] at h; cases h
  | succ fuel ih =>
    intro t43 l2 r h
    rw [parrellaw20_MissTurned_l0] at h
    rcases itb_some h with ⟨cL0_1, h⟩ | ⟨cL0_1, h⟩
    · skip
      obtain ⟨gL0_2, h⟩ := guard_some h
      obtain ⟨gL0_3, h⟩ := guard_some h
      obtain ⟨gL0_4, h⟩ := guard_some h
      exact run_to mixed hμ (L := [0]) (n := 27) (s := [.go, .reg [(0, { v := some (.bool true) })], .reg [], .reg [(7, { app := 3 }), (13, { app := 3, os := [(2, .gr 16 (((l2.getD t43.toNat default).f_Got ++ (l2.getD t43.toNat default).f_Got)).length (rowF c_T_parrelref19_Got default ((l2.getD t43.toNat default).f_Got ++ (l2.getD t43.toNat default).f_Got)))], v := some (.gs 2 (((l2.getD t43.toNat default).f_Got ++ (l2.getD t43.toNat default).f_Got)).length), fz := true }), (16, { os := [(0, .gr 10 ((l2.set t43.toNat (T_parrelref20_Lock.mk (l2.getD t43.toNat default).f_Key (l2.getD t43.toNat default).f_Mode ((l2.getD t43.toNat default).f_Got ++ (l2.getD t43.toNat default).f_Got)))).length (rowF c_T_parrelref20_Lock default (l2.set t43.toNat (T_parrelref20_Lock.mk (l2.getD t43.toNat default).f_Key (l2.getD t43.toNat default).f_Mode ((l2.getD t43.toNat default).f_Got ++ (l2.getD t43.toNat default).f_Got)))))] })], .reg [], .wk [(8, .gs 0 ((l2.set t43.toNat (T_parrelref20_Lock.mk (l2.getD t43.toNat default).f_Key (l2.getD t43.toNat default).f_Mode ((l2.getD t43.toNat default).f_Got ++ (l2.getD t43.toNat default).f_Got)))).length)] []])
        (a_ (a_ (a_ tr (a_ (leB cL0_1) tr)) tr) (a_ (a_ (a_ tr tr) (a_ (a_ tr tr) tr)) (a_ (a_ (a_ tr tr) (a_ (a_ tr tr) (a_ (a_ tr tr) (a_ (a_ tr tr) (a_ (a_ (a_ (Eq.refl 10) gL0_2) tr) (a_ (a_ tr tr) (a_ (a_ (a_ (ltN gL0_2) (lt_ 9 10 rfl)) tr) (a_ (a_ (a_ (Eq.refl 16) (a_ (lt_ 0 16 rfl) (a_ (lt_ 0 56 rfl) (a_ gL0_3 (a_ (Eq.refl 16) (Eq.refl true)))))) tr) (a_ (a_ tr tr) (a_ (a_ tr tr) (a_ (a_ (a_ (Eq.refl 10) gL0_2) tr) (a_ (a_ tr tr) (a_ (a_ (a_ (ltN gL0_2) (lt_ 9 10 rfl)) tr) (a_ (a_ (a_ (a_ (Eq.refl 16) (a_ (a_ (lt_ 0 16 rfl) (a_ (lt_ 0 56 rfl) (a_ gL0_4 (a_ (Eq.refl 16) (Eq.refl true))))) (a_ (Eq.refl 16) (Nat.le_refl ((l2.getD t43.toNat default).f_Got).length)))) (a_ (le_gs_app 2 (l2.getD t43.toNat default).f_Got (l2.getD t43.toNat default).f_Got) (a_ (sub_app c_T_parrelref19_Got default 16 (l2.getD t43.toNat default).f_Got (l2.getD t43.toNat default).f_Got) tr))) (a_ (Nat.le_refl (((l2.getD t43.toNat default).f_Got ++ (l2.getD t43.toNat default).f_Got)).length) (fz_row (enc := c_T_parrelref19_Got) (d := default) (fun _ => rfl) ((l2.getD t43.toNat default).f_Got ++ (l2.getD t43.toNat default).f_Got)))) (a_ (a_ (a_ (Eq.refl 10) gL0_2) tr) (a_ (a_ tr tr) (a_ (a_ (a_ (Eq.refl 1) (a_ (le_ 10 10 rfl) (ltN gL0_2))) (a_ (sub_set_gr c_T_parrelref20_Lock default 10 l2 t43.toNat (T_parrelref20_Lock.mk (l2.getD t43.toNat default).f_Key (l2.getD t43.toNat default).f_Mode ((l2.getD t43.toNat default).f_Got ++ (l2.getD t43.toNat default).f_Got)) (ltN gL0_2) (splL (rowF c_T_parrelref20_Lock default l2 t43.toNat) 9 [.ds 16 (((l2.getD t43.toNat default).f_Got ++ (l2.getD t43.toNat default).f_Got)).length (rowF c_T_parrelref19_Got default ((l2.getD t43.toNat default).f_Got ++ (l2.getD t43.toNat default).f_Got))]) (by kernel_rfl)) tr)) tr))))))))))))))))) (a_ (a_ (a_ tr tr) (a_ (a_ tr tr) tr)) (a_ (a_ (a_ (le_gs 0 (show (l2).length = ((l2.set t43.toNat (T_parrelref20_Lock.mk (l2.getD t43.toNat default).f_Key (l2.getD t43.toNat default).f_Mode ((l2.getD t43.toNat default).f_Got ++ (l2.getD t43.toNat default).f_Got)))).length from by simp)) tr) tr) tr))))) (ih _ _ r h) (by kernel_rfl) ⟨fun _ _ => rfl, trivial⟩
    · skip
      obtain ⟨yL0_3, eL0_2, h⟩ := bind_some h
      obtain ⟨yL0_5, eL0_4, h⟩ := bind_some h
      obtain ⟨yL0_7, eL0_6, h⟩ := bind_some h
      obtain ⟨yL0_9, eL0_8, h⟩ := bind_some h
      exact run_to mixed hμ (L := [1]) (n := 33) (s := [.go, .reg [(0, { v := some (.bool false) })], .reg [(1, { call := some (parrellaw20_theirs_v yL0_3, [], []) }), (3, { call := some (miss_Plan_v yL0_5, [], []) })], .frz 0, .reg [(1, { call := some (parrellaw20_theirs_v yL0_7, [], []) }), (3, { call := some (miss_Plan_v yL0_9, [], []) })], .void (.gr 5 (([] : List (T_parrelref18_Member))).length (rowF c_T_parrelref18_Member default ([] : List (T_parrelref18_Member)))), .reg [(0, { v := some (.gs 1 (([] : List (T_parrelref18_Member))).length) })], .reg []])
        (a_ (a_ (a_ tr (a_ (leB cL0_1) tr)) tr) (a_ (a_ (a_ tr tr) (a_ (a_ (a_ (parrellaw20_theirs_tri l yL0_3 eL0_2) tr) tr) (a_ (a_ tr tr) (a_ (a_ (a_ (miss_Plan_tri yL0_3 x_w yL0_5 eL0_4) tr) tr) (a_ (a_ tr tr) (a_ (a_ tr tr) (a_ (a_ tr tr) (a_ (a_ tr tr) (a_ (a_ tr tr) (a_ (a_ tr tr) (a_ (a_ tr tr) tr))))))))))) (a_ (a_ (fz_row (enc := c_T_parrelref20_Lock) (d := default) (fun _ => rfl) l2) (a_ (Nat.le_refl (l2).length) tr)) (a_ (a_ (a_ tr tr) (a_ (a_ (a_ (parrellaw20_theirs_tri l2 yL0_7 eL0_6) tr) tr) (a_ (a_ tr tr) (a_ (a_ (a_ (miss_Plan_tri yL0_7 x_w yL0_9 eL0_8) tr) tr) (a_ (a_ tr tr) (a_ (a_ tr tr) (a_ (a_ tr tr) (a_ (a_ tr tr) (a_ (a_ tr tr) (a_ (a_ tr tr) (a_ (a_ tr tr) tr))))))))))) (a_ (Eq.refl 0) (a_ (a_ (a_ tr (a_ (le_nil_gs 1) tr)) tr) (a_ (a_ (a_ tr tr) (a_ (a_ tr tr) (a_ (a_ tr tr) tr))) tr))))))) (parrellaw20_MissTurned_l1_ok hμ yL0_5 yL0_9  big _ _ r h) (by kernel_rfl) ⟨fun _ _ => rfl, trivial⟩

theorem parrellaw20_MissTurned_ok (l : List (T_parrelref20_Lock)) (x_w : List (T_api_Write)) (x_by : Int) (r : (Bool)) (h : parrellaw20_MissTurned l x_w x_by = some r) : ∀ σ, Inj 0 σ → FnTri Tryd.prog 5 (renL σ [.ds 10 (l).length (rowF c_T_parrelref20_Lock default l), .ds 21 (x_w).length (rowF c_T_api_Write default x_w), .int .u8 x_by]) (preOf σ 0 []) ((parrellaw20_MissTurned_v r).ren σ) (upOf σ []) := by
  refine fn_of Tryd.func5 (by kernel_rfl) (by kernel_rfl) (by kernel_rfl) trivial (by kernel_rfl) trivial (by kernel_rfl) ?_
  intro w0 W μ0 hμ
  unfold parrellaw20_MissTurned at h
  obtain ⟨y2, e1, h⟩ := bind_some h
  rcases itb_some h with ⟨c3, h⟩ | ⟨c3, h⟩
  · skip
    obtain ⟨y5, e4, h⟩ := bind_some h
    obtain rfl := Option.some.inj h
    exact run_ret mixed (L := []) (n := 20) (s := [.reg [], .reg [(2, { call := some (parrellaw20_far_v y2, [], []) }), (3, { v := some (.bool true) })], .reg [(0, { call := some (parrellaw20_alive_v y5, [], []) })]])
      (a_ (a_ (a_ (a_ tr tr) tr) (a_ (a_ (a_ tr tr) (a_ (a_ tr tr) (a_ (a_ (a_ (parrellaw20_far_tri l x_w y2 e1) tr) tr) (a_ (a_ tr (a_ (leB c3) tr)) (a_ tr (a_ tr (a_ tr (a_ (a_ tr tr) tr)))))))) (a_ (a_ (a_ (a_ (parrellaw20_alive_tri  y5 e4) tr) tr) (a_ (a_ tr tr) tr)) tr))) tr) (by kernel_rfl) rfl
  · skip
    rcases itb_some h with ⟨c4, h⟩ | ⟨c4, h⟩
    · skip
      obtain ⟨y6, e5, h⟩ := bind_some h
      obtain rfl := Option.some.inj h
      exact run_ret mixed (L := []) (n := 20) (s := [.reg [], .reg [(2, { call := some (parrellaw20_far_v y2, [], []) }), (3, { v := some (.bool false) }), (7, { v := some (.bool true) })], .reg [(0, { call := some (parrellaw20_alive_v y6, [], []) })]])
        (a_ (a_ (a_ (a_ tr tr) tr) (a_ (a_ (a_ tr tr) (a_ (a_ tr tr) (a_ (a_ (a_ (parrellaw20_far_tri l x_w y2 e1) tr) tr) (a_ (a_ tr (a_ (leB c3) tr)) (a_ (a_ tr tr) (a_ (a_ tr tr) (a_ (a_ tr tr) (a_ (a_ tr (a_ (leB c4) tr)) tr)))))))) (a_ (a_ (a_ (a_ (parrellaw20_alive_tri  y6 e5) tr) tr) (a_ (a_ tr tr) tr)) tr))) tr) (by kernel_rfl) rfl
    · skip
      obtain ⟨g5, h⟩ := guard_some h
      obtain ⟨g6, h⟩ := guard_some h
      obtain ⟨g7, h⟩ := guard_some h
      obtain ⟨g8, h⟩ := guard_some h
      obtain ⟨g9, h⟩ := guard_some h
      exact run_to mixed hμ (L := [1]) (n := 30) (s := [.reg [], .reg [(2, { call := some (parrellaw20_far_v y2, [], []) }), (3, { v := some (.bool false) }), (7, { v := some (.bool false) })], .reg [], .reg [(2, { v := some (.ds 10 ((l.drop ((Int.tmod (IntKind.wrap .i64 x_by) ((l).length : Int))).toNat)).length (rowF c_T_parrelref20_Lock default (l.drop ((Int.tmod (IntKind.wrap .i64 x_by) ((l).length : Int))).toNat))) }), (3, { app := 3 }), (6, { v := some (.ds 10 ((l.take ((Int.tmod (IntKind.wrap .i64 x_by) ((l).length : Int))).toNat)).length (rowF c_T_parrelref20_Lock default (l.take ((Int.tmod (IntKind.wrap .i64 x_by) ((l).length : Int))).toNat))) }), (7, { app := 3, os := [(1, .gr 10 (((l.drop ((Int.tmod (IntKind.wrap .i64 x_by) ((l).length : Int))).toNat) ++ (l.take ((Int.tmod (IntKind.wrap .i64 x_by) ((l).length : Int))).toNat))).length (rowF c_T_parrelref20_Lock default ((l.drop ((Int.tmod (IntKind.wrap .i64 x_by) ((l).length : Int))).toNat) ++ (l.take ((Int.tmod (IntKind.wrap .i64 x_by) ((l).length : Int))).toNat))))], v := some (.gs 1 (((l.drop ((Int.tmod (IntKind.wrap .i64 x_by) ((l).length : Int))).toNat) ++ (l.take ((Int.tmod (IntKind.wrap .i64 x_by) ((l).length : Int))).toNat))).length) })], .reg []])
        (a_ (a_ (a_ tr tr) tr) (a_ (a_ (a_ tr tr) (a_ (a_ tr tr) (a_ (a_ (a_ (parrellaw20_far_tri l x_w y2 e1) tr) tr) (a_ (a_ tr (a_ (leB c3) tr)) (a_ (a_ tr tr) (a_ (a_ tr tr) (a_ (a_ tr tr) (a_ (a_ tr (a_ (leB c4) tr)) tr)))))))) (a_ (a_ (a_ tr tr) (a_ (a_ tr tr) (a_ (a_ tr tr) (a_ (a_ tr tr) (a_ (a_ g5 tr) (a_ (a_ tr tr) tr)))))) (a_ (a_ (a_ tr tr) (a_ (a_ tr tr) (a_ (a_ (a_ (Eq.refl 10) g6) (a_ (le_drop c_T_parrelref20_Lock default 10 l ((Int.tmod (IntKind.wrap .i64 x_by) ((l).length : Int))).toNat (toN_le g6.2.1)) tr)) (a_ (a_ (a_ (Eq.refl 10) (a_ (lt_ 0 10 rfl) (a_ (lt_ 0 40 rfl) (a_ g7 (a_ (Eq.refl 10) (Eq.refl true)))))) tr) (a_ (a_ tr tr) (a_ (a_ tr tr) (a_ (a_ (a_ (Eq.refl 10) g8) (a_ (le_take c_T_parrelref20_Lock default 10 l ((Int.tmod (IntKind.wrap .i64 x_by) ((l).length : Int))).toNat (toN_le g8.2.2)) tr)) (a_ (a_ (a_ (Eq.refl 10) (a_ (a_ (lt_ 0 10 rfl) (a_ (lt_ 0 40 rfl) (a_ g9 (a_ (Eq.refl 10) (Eq.refl true))))) (a_ (Eq.refl 10) (Nat.le_refl ((l.drop ((Int.tmod (IntKind.wrap .i64 x_by) ((l).length : Int))).toNat)).length)))) (a_ (le_gs_app 1 (l.drop ((Int.tmod (IntKind.wrap .i64 x_by) ((l).length : Int))).toNat) (l.take ((Int.tmod (IntKind.wrap .i64 x_by) ((l).length : Int))).toNat)) (a_ (sub_app c_T_parrelref20_Lock default 10 (l.drop ((Int.tmod (IntKind.wrap .i64 x_by) ((l).length : Int))).toNat) (l.take ((Int.tmod (IntKind.wrap .i64 x_by) ((l).length : Int))).toNat)) tr))) (a_ (a_ tr tr) tr))))))))) (a_ (a_ (a_ tr tr) (a_ (a_ tr tr) (a_ (a_ tr tr) tr))) tr))))) (parrellaw20_MissTurned_l0_ok hμ l x_w x_by  big _ _ r h) (by kernel_rfl) ⟨fun _ _ => rfl, trivial⟩

theorem parrellaw20_MissTurned_tri (l : List (T_parrelref20_Lock)) (x_w : List (T_api_Write)) (x_by : Int) (r : (Bool)) (h : parrellaw20_MissTurned l x_w x_by = some r) : FnTri Tryd.prog 5 [.ds 10 (l).length (rowF c_T_parrelref20_Lock default l), .ds 21 (x_w).length (rowF c_T_api_Write default x_w), .int .u8 x_by] [] (parrellaw20_MissTurned_v r) [] := FnTri.none (parrellaw20_MissTurned_ok l x_w x_by r h) rfl rfl

end
end Go.Proofs.YtdjmfgknonkojaaDoor.Wk
