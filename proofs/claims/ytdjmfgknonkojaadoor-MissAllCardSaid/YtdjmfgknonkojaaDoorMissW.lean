/- Printed by tr.py: Go functions as Lean functions, with the proofs that they walk so. -/
import Derived.Test.YtdjmfgknonkojaaDoorMissWb
namespace Go.Proofs.YtdjmfgknonkojaaDoor.Wk
open Go Go.Cn Go.RowKit
set_option maxRecDepth 100000
set_option maxHeartbeats 4000000
set_option linter.unusedVariables false
set_option linter.unusedSimpArgs false
noncomputable section
/-- parrel/parrellaw20.MissAll -/

def parrellaw20_MissAll_v (r : (Bool)) : LV := .bool r

def parrellaw20_MissAll_T2 (l : List (T_parrelref20_Lock)) (x_w : List (T_api_Write)) (t49 : Int) (t56 : Int) (y7 : (List (T_coord_Member)) × (List (Int)) × (Int)) (nodes2 : Int) (t63 : Int) : List LV := [.ds 10 (l).length (rowF c_T_parrelref20_Lock default l), .ds 21 (x_w).length (rowF c_T_api_Write default x_w), .any, .any, .any, .ds 4 (y7.1).length (rowF c_T_coord_Member default y7.1), .ds 1 (y7.2.1).length (rowF (cInt .u64) default y7.2.1), .any, .int .i64 t49, .ptr 0 0 0, .int .u64 nodes2, .any, .ptr 1 0 0, .any, .any, .any, .any, .any, .any, .any, .any, .any, .any, .any, .any, .any, .any, .any, .any, .any, .any, .any, .any, .any, .any, .any, .any, .any, .any, .any, .any, .any, .any, .any, .any, .any, .any, .ds 21 (x_w).length (rowF c_T_api_Write default x_w), .int .i64 ((x_w).length : Int), .int .i64 t49, .any, .any, .any, .any, .ds 4 (y7.1).length (rowF c_T_coord_Member default y7.1), .int .i64 ((y7.1).length : Int), .int .i64 t56, .any, .any, .any, .any, .ds 21 ((y7.1.getD t56.toNat default).f_Writes).length (rowF c_T_api_Write default (y7.1.getD t56.toNat default).f_Writes), .int .i64 (((y7.1.getD t56.toNat default).f_Writes).length : Int), .int .i64 t63, .any, .any, .any, .any, .any, .any, .any, .any, .any, .any, .any, .any, .any, .any, .any, .any, .any, .any, .any, .any, .any, .any, .any, .any, .any, .any, .any, .any, .any, .any, .any, .any, .any, .any, .any, .any, .any, .any, .any, .any, .any, .any, .any, .any, .any, .any, .any, .any, .any, .any, .any, .any, .any, .any, .any, .any, .any, .any, .any, .any, .any, .any, .any, .any, .any, .any, .any, .any, .any, .any, .any, .any, .any, .any, .any, .any, .any, .any, .any, .any, .any, .any, .any, .any, .any, .any, .any, .any, .any, .any, .any, .any, .any, .any, .any, .any, .any, .any, .any, .any, .any, .any, .any]

def parrellaw20_MissAll_H2 (l : List (T_parrelref20_Lock)) (x_w : List (T_api_Write)) (t49 : Int) (t56 : Int) (y7 : (List (T_coord_Member)) × (List (Int)) × (Int)) (nodes2 : Int) (t63 : Int) : Heap := [some (.var (c_T_api_Write (x_w.getD t49.toNat default))), some (.var (c_T_coord_Member (y7.1.getD t56.toNat default)))]

def parrellaw20_MissAll_T1 (l : List (T_parrelref20_Lock)) (x_w : List (T_api_Write)) (t49 : Int) (y7 : (List (T_coord_Member)) × (List (Int)) × (Int)) (nodes : Int) (t56 : Int) : List LV := [.ds 10 (l).length (rowF c_T_parrelref20_Lock default l), .ds 21 (x_w).length (rowF c_T_api_Write default x_w), .any, .any, .any, .ds 4 (y7.1).length (rowF c_T_coord_Member default y7.1), .ds 1 (y7.2.1).length (rowF (cInt .u64) default y7.2.1), .any, .int .i64 t49, .ptr 0 0 0, .int .u64 nodes, .any, .any, .any, .any, .any, .any, .any, .any, .any, .any, .any, .any, .any, .any, .any, .any, .any, .any, .any, .any, .any, .any, .any, .any, .any, .any, .any, .any, .any, .any, .any, .any, .any, .any, .any, .any, .ds 21 (x_w).length (rowF c_T_api_Write default x_w), .int .i64 ((x_w).length : Int), .int .i64 t49, .any, .any, .any, .any, .ds 4 (y7.1).length (rowF c_T_coord_Member default y7.1), .int .i64 ((y7.1).length : Int), .int .i64 t56, .any, .any, .any, .any, .any, .any, .any, .any, .any, .any, .any, .any, .any, .any, .any, .any, .any, .any, .any, .any, .any, .any, .any, .any, .any, .any, .any, .any, .any, .any, .any, .any, .any, .any, .any, .any, .any, .any, .any, .any, .any, .any, .any, .any, .any, .any, .any, .any, .any, .any, .any, .any, .any, .any, .any, .any, .any, .any, .any, .any, .any, .any, .any, .any, .any, .any, .any, .any, .any, .any, .any, .any, .any, .any, .any, .any, .any, .any, .any, .any, .any, .any, .any, .any, .any, .any, .any, .any, .any, .any, .any, .any, .any, .any, .any, .any, .any, .any, .any, .any, .any, .any, .any, .any, .any, .any, .any, .any, .any, .any]

def parrellaw20_MissAll_H1 (l : List (T_parrelref20_Lock)) (x_w : List (T_api_Write)) (t49 : Int) (y7 : (List (T_coord_Member)) × (List (Int)) × (Int)) (nodes : Int) (t56 : Int) : Heap := [some (.var (c_T_api_Write (x_w.getD t49.toNat default)))]

def parrellaw20_MissAll_T3 (l : List (T_parrelref20_Lock)) (x_w : List (T_api_Write)) (y7 : (List (T_coord_Member)) × (List (Int)) × (Int)) (set : Int) (t126 : Int) : List LV := [.ds 10 (l).length (rowF c_T_parrelref20_Lock default l), .ds 21 (x_w).length (rowF c_T_api_Write default x_w), .any, .any, .any, .ds 4 (y7.1).length (rowF c_T_coord_Member default y7.1), .any, .any, .any, .any, .any, .any, .any, .any, .any, .any, .int .u64 set, .any, .any, .any, .any, .any, .any, .any, .any, .any, .any, .any, .any, .any, .any, .any, .any, .any, .any, .any, .any, .any, .any, .any, .any, .any, .any, .any, .any, .any, .any, .any, .any, .any, .any, .any, .any, .any, .any, .any, .any, .any, .any, .any, .any, .any, .any, .any, .any, .any, .any, .any, .any, .any, .any, .any, .any, .any, .any, .any, .any, .any, .any, .any, .any, .any, .any, .any, .any, .any, .any, .any, .any, .any, .any, .any, .any, .any, .any, .any, .any, .any, .any, .any, .any, .any, .any, .any, .any, .any, .any, .any, .any, .any, .any, .any, .any, .any, .any, .any, .any, .any, .any, .any, .any, .any, .any, .any, .ds 4 (y7.1).length (rowF c_T_coord_Member default y7.1), .int .i64 ((y7.1).length : Int), .int .i64 t126, .any, .any, .any, .any, .any, .any, .any, .any, .any, .any, .any, .any, .any, .any, .any, .any, .any, .any, .any, .any, .any, .any, .any, .any, .any, .any, .any, .any, .any, .any, .any, .any, .any, .any, .any, .any, .any, .any, .any, .any]

def parrellaw20_MissAll_H3 (l : List (T_parrelref20_Lock)) (x_w : List (T_api_Write)) (y7 : (List (T_coord_Member)) × (List (Int)) × (Int)) (set : Int) (t126 : Int) : Heap := []

def parrellaw20_MissAll_T0 (l : List (T_parrelref20_Lock)) (x_w : List (T_api_Write)) (y7 : (List (T_coord_Member)) × (List (Int)) × (Int)) (t49 : Int) : List LV := [.ds 10 (l).length (rowF c_T_parrelref20_Lock default l), .ds 21 (x_w).length (rowF c_T_api_Write default x_w), .any, .any, .any, .ds 4 (y7.1).length (rowF c_T_coord_Member default y7.1), .ds 1 (y7.2.1).length (rowF (cInt .u64) default y7.2.1), .any, .any, .any, .any, .any, .any, .any, .any, .any, .any, .any, .any, .any, .any, .any, .any, .any, .any, .any, .any, .any, .any, .any, .any, .any, .any, .any, .any, .any, .any, .any, .any, .any, .any, .any, .any, .any, .any, .any, .any, .ds 21 (x_w).length (rowF c_T_api_Write default x_w), .int .i64 ((x_w).length : Int), .int .i64 t49, .any, .any, .any, .any, .any, .any, .any, .any, .any, .any, .any, .any, .any, .any, .any, .any, .any, .any, .any, .any, .any, .any, .any, .any, .any, .any, .any, .any, .any, .any, .any, .any, .any, .any, .any, .any, .any, .any, .any, .any, .any, .any, .any, .any, .any, .any, .any, .any, .any, .any, .any, .any, .any, .any, .any, .any, .any, .any, .any, .any, .any, .any, .any, .any, .any, .any, .any, .any, .any, .any, .any, .any, .any, .any, .any, .any, .any, .any, .any, .any, .any, .any, .any, .any, .any, .any, .any, .any, .any, .any, .any, .any, .any, .any, .any, .any, .any, .any, .any, .any, .any, .any, .any, .any, .any, .any, .any, .any, .any, .any, .any, .any, .any, .any, .any, .any, .any]

def parrellaw20_MissAll_H0 (l : List (T_parrelref20_Lock)) (x_w : List (T_api_Write)) (y7 : (List (T_coord_Member)) × (List (Int)) × (Int)) (t49 : Int) : Heap := []

def parrellaw20_MissAll_l2 (l : List (T_parrelref20_Lock)) (x_w : List (T_api_Write)) (t49 : Int) (t56 : Int) (y7 : (List (T_coord_Member)) × (List (Int)) × (Int)) (k1 : (Int) → (Int) → Option ((Bool))) : Nat → (Int) → (Int) → Option ((Bool))
  | 0, _, _ => none
  | fuel + 1, nodes2, t63 =>
    if ((decide (t63 < (((y7.1.getD t56.toNat default).f_Writes).length : Int))) : Bool) then
      if 0 ≤ t63 ∧ t63 < ((((y7.1.getD t56.toNat default).f_Writes).length : Nat) : Int) then
      if ((decide (((y7.1.getD t56.toNat default).f_Writes.getD t63.toNat default).f_Key = (x_w.getD t49.toNat default).f_Key)) : Bool) then
        if ((!decide (((y7.1.getD t56.toNat default).f_Writes.getD t63.toNat default) = (x_w.getD t49.toNat default))) : Bool) then
          some false
        else
          if 0 ≤ (Int.tmod (y7.1.getD t56.toNat default).f_Node 64) then
          parrellaw20_MissAll_l2 l x_w t49 t56 y7 k1 fuel (IntKind.wrap .u64 ((BitVec.ofInt (IntKind.bits .u64) nodes2 ||| BitVec.ofInt (IntKind.bits .u64) (IntKind.wrap .u64 (1 * 2 ^ (min (Int.toNat (Int.tmod (y7.1.getD t56.toNat default).f_Node 64)) (IntKind.bits .u64))))).toNat : Int)) (IntKind.wrap .i64 (t63 + 1))
          else none
      else
        parrellaw20_MissAll_l2 l x_w t49 t56 y7 k1 fuel nodes2 (IntKind.wrap .i64 (t63 + 1))
      else none
    else
      k1 nodes2 (IntKind.wrap .i64 (t56 + 1))

def parrellaw20_MissAll_l1 (l : List (T_parrelref20_Lock)) (x_w : List (T_api_Write)) (t49 : Int) (y7 : (List (T_coord_Member)) × (List (Int)) × (Int)) (k0 : (Int) → Option ((Bool))) : Nat → (Int) → (Int) → Option ((Bool))
  | 0, _, _ => none
  | fuel + 1, nodes, t56 =>
    if ((decide (t56 < ((y7.1).length : Int))) : Bool) then
      if 0 ≤ t56 ∧ t56 < (((y7.1).length : Nat) : Int) then
      parrellaw20_MissAll_l2 l x_w t49 t56 y7 (parrellaw20_MissAll_l1 l x_w t49 y7 k0 fuel) big nodes 0
      else none
    else
      (votes_Voters (x_w.getD t49.toNat default).f_Item.f_Conf).bind fun yL1_3 =>
      (votes_Writes (x_w.getD t49.toNat default).f_Item.f_Conf nodes).bind fun yL1_5 =>
      if ((!yL1_5) : Bool) then
        some false
      else
        if 0 ≤ t49 ∧ t49 < (((y7.2.1).length : Nat) : Int) then
        if (((IntKind.wrap .u64 ((BitVec.ofInt (IntKind.bits .u64) (y7.2.1.getD t49.toNat default) &&& BitVec.ofInt (IntKind.bits .u64) nodes).toNat : Int)) != 0) : Bool) then
          some false
        else
          if (((IntKind.wrap .u64 ((BitVec.ofInt (IntKind.bits .u64) (IntKind.wrap .u64 ((BitVec.ofInt (IntKind.bits .u64) (y7.2.1.getD t49.toNat default) ||| BitVec.ofInt (IntKind.bits .u64) nodes).toNat : Int)) &&& BitVec.ofInt (IntKind.bits .u64) yL1_3).toNat : Int)) != yL1_3) : Bool) then
            some false
          else
            if (((IntKind.wrap .u64 ((BitVec.ofInt (IntKind.bits .u64) (y7.2.1.getD t49.toNat default) &&& ~~~ BitVec.ofInt (IntKind.bits .u64) yL1_3).toNat : Int)) != 0) : Bool) then
              some false
            else
              k0 (IntKind.wrap .i64 (t49 + 1))
        else none

def parrellaw20_MissAll_l3 (l : List (T_parrelref20_Lock)) (x_w : List (T_api_Write)) (y7 : (List (T_coord_Member)) × (List (Int)) × (Int))  : Nat → (Int) → (Int) → Option ((Bool))
  | 0, _, _ => none
  | fuel + 1, set, t126 =>
    if ((decide (t126 < ((y7.1).length : Int))) : Bool) then
      if 0 ≤ t126 ∧ t126 < (((y7.1).length : Nat) : Int) then
      if 0 ≤ (Int.tmod (y7.1.getD t126.toNat default).f_Node 64) then
      if ((decide (0 < t126)) : Bool) then
        if 0 ≤ (IntKind.wrap .i64 (t126 - 1)) ∧ (IntKind.wrap .i64 (t126 - 1)) < (((y7.1).length : Nat) : Int) then
        if ((decide ((y7.1.getD t126.toNat default).f_Node ≤ (y7.1.getD ((IntKind.wrap .i64 (t126 - 1))).toNat default).f_Node)) : Bool) then
          some false
        else
          if ((decide (((x_w).length : Int) < (((y7.1.getD t126.toNat default).f_Writes).length : Int))) : Bool) then
            some false
          else
            parrellaw20_MissAll_l3 l x_w y7  fuel (IntKind.wrap .u64 ((BitVec.ofInt (IntKind.bits .u64) set ||| BitVec.ofInt (IntKind.bits .u64) (IntKind.wrap .u64 (1 * 2 ^ (min (Int.toNat (Int.tmod (y7.1.getD t126.toNat default).f_Node 64)) (IntKind.bits .u64))))).toNat : Int)) (IntKind.wrap .i64 (t126 + 1))
        else none
      else
        if ((decide (((x_w).length : Int) < (((y7.1.getD t126.toNat default).f_Writes).length : Int))) : Bool) then
          some false
        else
          parrellaw20_MissAll_l3 l x_w y7  fuel (IntKind.wrap .u64 ((BitVec.ofInt (IntKind.bits .u64) set ||| BitVec.ofInt (IntKind.bits .u64) (IntKind.wrap .u64 (1 * 2 ^ (min (Int.toNat (Int.tmod (y7.1.getD t126.toNat default).f_Node 64)) (IntKind.bits .u64))))).toNat : Int)) (IntKind.wrap .i64 (t126 + 1))
      else none
      else none
    else
      (parrellaw20_theirs l).bind fun yL3_3 =>
      (miss_Nodes yL3_3).bind fun yL3_5 =>
      if ((set == yL3_5) : Bool) then
        (parrellaw20_alive).bind fun yL3_8 =>
        some yL3_8
      else
        some false

def parrellaw20_MissAll_l0 (l : List (T_parrelref20_Lock)) (x_w : List (T_api_Write)) (y7 : (List (T_coord_Member)) × (List (Int)) × (Int))  : Nat → (Int) → Option ((Bool))
  | 0, _ => none
  | fuel + 1, t49 =>
    if ((decide (t49 < ((x_w).length : Int))) : Bool) then
      if 0 ≤ t49 ∧ t49 < (((x_w).length : Nat) : Int) then
      parrellaw20_MissAll_l1 l x_w t49 y7 (parrellaw20_MissAll_l0 l x_w y7  fuel) big 0 0
      else none
    else
      parrellaw20_MissAll_l3 l x_w y7  big 0 0

def parrellaw20_MissAll (l : List (T_parrelref20_Lock)) (x_w : List (T_api_Write)) : Option ((Bool)) :=
  (parrellaw20_far l x_w).bind fun y2 =>
  if (y2 : Bool) then
    (parrellaw20_alive).bind fun y5 =>
    some y5
  else
    (parrellaw20_theirs l).bind fun y5 =>
    (miss_Plan y5 x_w).bind fun y7 =>
    if ((y7.2.2 != 0) : Bool) then
      if (((IntKind.wrap .i64 (((y7.1).length : Int) + ((y7.2.1).length : Int))) == 0) : Bool) then
        (parrellaw20_alive).bind fun y11 =>
        some y11
      else
        some false
    else
      if ((((y7.2.1).length : Int) != ((x_w).length : Int)) : Bool) then
        some false
      else
        parrellaw20_MissAll_l0 l x_w y7  big 0

theorem parrellaw20_MissAll_l2_ok {w0 : World} {W : Nat → Prop} {μ0 : Emb} (hμ : ∀ c p, μ0 c = some p → c < 0) (l : List (T_parrelref20_Lock)) (x_w : List (T_api_Write)) (t49 : Int) (t56 : Int) (y7 : (List (T_coord_Member)) × (List (Int)) × (Int)) (k1 : (Int) → (Int) → Option ((Bool))) (hk1 : ∀ (nodes : Int) (t56 : Int) (r : (Bool)), k1 nodes t56 = some r → kont Tryd.prog w0 W μ0 (FnPost Tryd.prog Tryd.f4 0 0 (parrellaw20_MissAll_v r) []) (kAt (bodyOf Tryd.f4) 1) none (parrellaw20_MissAll_T1 l x_w t49 y7 nodes t56) (parrellaw20_MissAll_H1 l x_w t49 y7 nodes t56)) : ∀ (fuel : Nat) (nodes2 : Int) (t63 : Int) (r : (Bool)), parrellaw20_MissAll_l2 l x_w t49 t56 y7 k1 fuel nodes2 t63 = some r → kont Tryd.prog w0 W μ0 (FnPost Tryd.prog Tryd.f4 0 0 (parrellaw20_MissAll_v r) []) (kAt (bodyOf Tryd.f4) 2) none (parrellaw20_MissAll_T2 l x_w t49 t56 y7 nodes2 t63) (parrellaw20_MissAll_H2 l x_w t49 t56 y7 nodes2 t63) := by
  intro fuel
  induction fuel with
  | zero => intro nodes2 t63 r h; rw [parrellaw20_MissAll_l2] at h; cases h
  | succ fuel ih =>
    intro nodes2 t63 r h
    rw [parrellaw20_MissAll_l2] at h
    rcases itb_some h with ⟨cL2_1, h⟩ | ⟨cL2_1, h⟩
    · skip
      obtain ⟨gL2_2, h⟩ := guard_some h
      rcases itb_some h with ⟨cL2_3, h⟩ | ⟨cL2_3, h⟩
      · skip
        rcases itb_some h with ⟨cL2_4, h⟩ | ⟨cL2_4, h⟩
        · skip
          obtain rfl := Option.some.inj h
          exact run_ret mixed (L := []) (n := 33) (s := [.go, .reg [(0, { v := some (.bool true) })], .reg [], .reg [(4, { v := some (.bool true) })], .reg [(2, { v := some (.bool true) })], .reg []])
            (a_ (a_ (a_ (a_ tr (a_ (leB cL2_1) tr)) tr) (a_ (a_ (a_ (a_ (Eq.refl 21) gL2_2) tr) (a_ (a_ (le_ 21 21 rfl) tr) (a_ (a_ tr tr) (a_ (a_ (a_ (Eq.refl 21) (a_ (le_ 21 21 rfl) (Eq.refl 0))) tr) tr)))) (a_ (a_ (a_ tr tr) (a_ (a_ (a_ tr (le_ 8 21 rfl)) tr) (a_ (a_ tr tr) (a_ (a_ (a_ tr (le_ 8 21 rfl)) tr) (a_ (a_ tr (a_ (LV.Le.trans (leB ((k_arr8 .u8) ((y7.1.getD t56.toNat default).f_Writes.getD t63.toNat default).f_Key (x_w.getD t49.toNat default).f_Key)) (leB cL2_3)) tr)) tr))))) (a_ (a_ (a_ (a_ tr (le_ 21 21 rfl)) tr) (a_ (a_ (a_ tr (le_ 21 21 rfl)) tr) (a_ (a_ tr (a_ (LV.Le.trans (leB (congrArg not (k_T_api_Write ((y7.1.getD t56.toNat default).f_Writes.getD t63.toNat default) (x_w.getD t49.toNat default)))) (leB cL2_4)) tr)) tr))) (a_ (a_ (a_ tr tr) tr) tr))))) tr) (by kernel_rfl) rfl
        · skip
          obtain ⟨gL2_5, h⟩ := guard_some h
          exact run_to mixed hμ (L := [0, 1]) (n := 36) (s := [.go, .reg [(0, { v := some (.bool true) })], .reg [], .reg [(4, { v := some (.bool true) })], .reg [(2, { v := some (.bool false) })], .reg [], .reg []])
            (a_ (a_ (a_ tr (a_ (leB cL2_1) tr)) tr) (a_ (a_ (a_ (a_ (Eq.refl 21) gL2_2) tr) (a_ (a_ (le_ 21 21 rfl) tr) (a_ (a_ tr tr) (a_ (a_ (a_ (Eq.refl 21) (a_ (le_ 21 21 rfl) (Eq.refl 0))) tr) tr)))) (a_ (a_ (a_ tr tr) (a_ (a_ (a_ tr (le_ 8 21 rfl)) tr) (a_ (a_ tr tr) (a_ (a_ (a_ tr (le_ 8 21 rfl)) tr) (a_ (a_ tr (a_ (LV.Le.trans (leB ((k_arr8 .u8) ((y7.1.getD t56.toNat default).f_Writes.getD t63.toNat default).f_Key (x_w.getD t49.toNat default).f_Key)) (leB cL2_3)) tr)) tr))))) (a_ (a_ (a_ (a_ tr (le_ 21 21 rfl)) tr) (a_ (a_ (a_ tr (le_ 21 21 rfl)) tr) (a_ (a_ tr (a_ (LV.Le.trans (leB (congrArg not (k_T_api_Write ((y7.1.getD t56.toNat default).f_Writes.getD t63.toNat default) (x_w.getD t49.toNat default)))) (leB cL2_4)) tr)) tr))) (a_ (a_ (a_ tr tr) (a_ (a_ tr tr) (a_ (a_ (a_ tr (lt_ 0 4 rfl)) tr) (a_ (a_ (ne0 64 rfl) tr) (a_ (a_ gL2_5 tr) (a_ (a_ tr tr) (a_ (a_ tr tr) tr))))))) (a_ (a_ (a_ tr tr) (a_ (a_ tr tr) tr)) tr)))))) (ih _ _ r h) (by kernel_rfl) ⟨rfl, rfl, trivial⟩
      · skip
        exact run_to mixed hμ (L := [0, 1]) (n := 29) (s := [.go, .reg [(0, { v := some (.bool true) })], .reg [], .reg [(4, { v := some (.bool false) })], .reg []])
          (a_ (a_ (a_ tr (a_ (leB cL2_1) tr)) tr) (a_ (a_ (a_ (a_ (Eq.refl 21) gL2_2) tr) (a_ (a_ (le_ 21 21 rfl) tr) (a_ (a_ tr tr) (a_ (a_ (a_ (Eq.refl 21) (a_ (le_ 21 21 rfl) (Eq.refl 0))) tr) tr)))) (a_ (a_ (a_ tr tr) (a_ (a_ (a_ tr (le_ 8 21 rfl)) tr) (a_ (a_ tr tr) (a_ (a_ (a_ tr (le_ 8 21 rfl)) tr) (a_ (a_ tr (a_ (LV.Le.trans (leB ((k_arr8 .u8) ((y7.1.getD t56.toNat default).f_Writes.getD t63.toNat default).f_Key (x_w.getD t49.toNat default).f_Key)) (leB cL2_3)) tr)) tr))))) (a_ (a_ (a_ tr tr) (a_ (a_ tr tr) tr)) tr)))) (ih _ _ r h) (by kernel_rfl) ⟨rfl, rfl, trivial⟩
    · skip
      exact run_to mixed hμ (L := [0]) (n := 19) (s := [.go, .reg [(0, { v := some (.bool false) })], .reg []])
        (a_ (a_ (a_ tr (a_ (leB cL2_1) tr)) tr) (a_ (a_ (a_ tr tr) (a_ (a_ tr tr) tr)) tr)) (hk1 _ _ r h) (by kernel_rfl) ⟨rfl, trivial⟩

theorem parrellaw20_MissAll_l1_ok {w0 : World} {W : Nat → Prop} {μ0 : Emb} (hμ : ∀ c p, μ0 c = some p → c < 0) (l : List (T_parrelref20_Lock)) (x_w : List (T_api_Write)) (t49 : Int) (y7 : (List (T_coord_Member)) × (List (Int)) × (Int)) (k0 : (Int) → Option ((Bool))) (hk0 : ∀ (t49 : Int) (r : (Bool)), k0 t49 = some r → kont Tryd.prog w0 W μ0 (FnPost Tryd.prog Tryd.f4 0 0 (parrellaw20_MissAll_v r) []) (kAt (bodyOf Tryd.f4) 0) none (parrellaw20_MissAll_T0 l x_w y7 t49) (parrellaw20_MissAll_H0 l x_w y7 t49)) : ∀ (fuel : Nat) (nodes : Int) (t56 : Int) (r : (Bool)), parrellaw20_MissAll_l1 l x_w t49 y7 k0 fuel nodes t56 = some r → kont Tryd.prog w0 W μ0 (FnPost Tryd.prog Tryd.f4 0 0 (parrellaw20_MissAll_v r) []) (kAt (bodyOf Tryd.f4) 1) none (parrellaw20_MissAll_T1 l x_w t49 y7 nodes t56) (parrellaw20_MissAll_H1 l x_w t49 y7 nodes t56) := by
  intro fuel
  induction fuel with
  | zero => intro nodes t56 r h; rw [parrellaw20_MissAll_l1] at h; cases h
  | succ fuel ih =>
    intro nodes t56 r h
    rw [parrellaw20_MissAll_l1] at h
    rcases itb_some h with ⟨cL1_1, h⟩ | ⟨cL1_1, h⟩
    · skip
      obtain ⟨gL1_2, h⟩ := guard_some h
      exact run_to mixed hμ (L := [0, 1]) (n := 26) (s := [.go, .reg [(0, { v := some (.bool true) })], .reg [], .reg []])
        (a_ (a_ (a_ tr (a_ (leB cL1_1) tr)) tr) (a_ (a_ (a_ (a_ (Eq.refl 4) gL1_2) tr) (a_ (a_ (le_ 4 4 rfl) tr) (a_ (a_ tr tr) (a_ (a_ (a_ (Eq.refl 4) (a_ (le_ 4 4 rfl) (Eq.refl 0))) tr) tr)))) (a_ (a_ (a_ tr tr) (a_ (a_ (a_ tr (lt_ 3 4 rfl)) tr) (a_ (a_ tr tr) (a_ (a_ tr tr) tr)))) tr))) (parrellaw20_MissAll_l2_ok hμ l x_w t49 t56 y7 (parrellaw20_MissAll_l1 l x_w t49 y7 k0 fuel) (fun nodes t56 r h => ih nodes t56 r h) big _ _ r h) (by kernel_rfl) ⟨rfl, rfl, trivial⟩
    · skip
      obtain ⟨yL1_3, eL1_2, h⟩ := bind_some h
      obtain ⟨yL1_5, eL1_4, h⟩ := bind_some h
      rcases itb_some h with ⟨cL1_6, h⟩ | ⟨cL1_6, h⟩
      · skip
        obtain rfl := Option.some.inj h
        exact run_ret mixed (L := []) (n := 26) (s := [.go, .reg [(0, { v := some (.bool false) })], .reg [(3, { call := some (votes_Voters_v yL1_3, [], []) })], .reg [(4, { call := some (votes_Writes_v yL1_5, [], []) }), (6, { v := some (.bool true) })], .reg []])
          (a_ (a_ (a_ (a_ tr (a_ (leB cL1_1) tr)) tr) (a_ (a_ (a_ tr tr) (a_ (a_ tr tr) (a_ (a_ (a_ tr (le_ 21 21 rfl)) tr) (a_ (a_ (a_ (votes_Voters_tri (x_w.getD t49.toNat default).f_Item.f_Conf yL1_3 eL1_2) tr) tr) (a_ (a_ tr tr) tr))))) (a_ (a_ (a_ tr tr) (a_ (a_ tr tr) (a_ (a_ (a_ tr (le_ 21 21 rfl)) tr) (a_ (a_ tr tr) (a_ (a_ (a_ (votes_Writes_tri (x_w.getD t49.toNat default).f_Item.f_Conf nodes yL1_5 eL1_4) tr) tr) (a_ (a_ tr tr) (a_ (a_ tr (a_ (leB cL1_6) tr)) (a_ tr (a_ tr (a_ tr (a_ tr (a_ tr (a_ tr (a_ tr (a_ (a_ tr tr) (a_ (a_ tr tr) (a_ tr (a_ tr (a_ tr (a_ tr (a_ tr (a_ tr (a_ tr (a_ tr (a_ tr (a_ tr (a_ (a_ tr tr) (a_ (a_ tr tr) (a_ tr (a_ tr (a_ tr (a_ tr (a_ tr (a_ tr (a_ tr (a_ (a_ tr tr) tr)))))))))))))))))))))))))))))))))))) (a_ (a_ (a_ tr tr) tr) tr)))) tr) (by kernel_rfl) rfl
      · skip
        obtain ⟨gL1_7, h⟩ := guard_some h
        rcases itb_some h with ⟨cL1_8, h⟩ | ⟨cL1_8, h⟩
        · skip
          obtain rfl := Option.some.inj h
          exact run_ret mixed (L := []) (n := 26) (s := [.go, .reg [(0, { v := some (.bool false) })], .reg [(3, { call := some (votes_Voters_v yL1_3, [], []) })], .reg [(4, { call := some (votes_Writes_v yL1_5, [], []) }), (6, { v := some (.bool false) }), (15, { v := some (.bool true) })], .reg []])
            (a_ (a_ (a_ (a_ tr (a_ (leB cL1_1) tr)) tr) (a_ (a_ (a_ tr tr) (a_ (a_ tr tr) (a_ (a_ (a_ tr (le_ 21 21 rfl)) tr) (a_ (a_ (a_ (votes_Voters_tri (x_w.getD t49.toNat default).f_Item.f_Conf yL1_3 eL1_2) tr) tr) (a_ (a_ tr tr) tr))))) (a_ (a_ (a_ tr tr) (a_ (a_ tr tr) (a_ (a_ (a_ tr (le_ 21 21 rfl)) tr) (a_ (a_ tr tr) (a_ (a_ (a_ (votes_Writes_tri (x_w.getD t49.toNat default).f_Item.f_Conf nodes yL1_5 eL1_4) tr) tr) (a_ (a_ tr tr) (a_ (a_ tr (a_ (leB cL1_6) tr)) (a_ (a_ tr tr) (a_ (a_ tr tr) (a_ (a_ (a_ (Eq.refl 1) gL1_7) tr) (a_ (a_ (lt_ 0 1 rfl) tr) (a_ (a_ tr tr) (a_ (a_ tr tr) (a_ (a_ tr tr) (a_ (a_ tr tr) (a_ (a_ tr (a_ (leB cL1_8) tr)) (a_ tr (a_ tr (a_ tr (a_ tr (a_ tr (a_ tr (a_ tr (a_ tr (a_ tr (a_ tr (a_ (a_ tr tr) (a_ (a_ tr tr) (a_ tr (a_ tr (a_ tr (a_ tr (a_ tr (a_ tr (a_ tr (a_ (a_ tr tr) tr)))))))))))))))))))))))))))))))))))) (a_ (a_ (a_ tr tr) tr) tr)))) tr) (by kernel_rfl) rfl
        · skip
          rcases itb_some h with ⟨cL1_9, h⟩ | ⟨cL1_9, h⟩
          · skip
            obtain rfl := Option.some.inj h
            exact run_ret mixed (L := []) (n := 26) (s := [.go, .reg [(0, { v := some (.bool false) })], .reg [(3, { call := some (votes_Voters_v yL1_3, [], []) })], .reg [(4, { call := some (votes_Writes_v yL1_5, [], []) }), (6, { v := some (.bool false) }), (15, { v := some (.bool false) }), (27, { v := some (.bool true) })], .reg []])
              (a_ (a_ (a_ (a_ tr (a_ (leB cL1_1) tr)) tr) (a_ (a_ (a_ tr tr) (a_ (a_ tr tr) (a_ (a_ (a_ tr (le_ 21 21 rfl)) tr) (a_ (a_ (a_ (votes_Voters_tri (x_w.getD t49.toNat default).f_Item.f_Conf yL1_3 eL1_2) tr) tr) (a_ (a_ tr tr) tr))))) (a_ (a_ (a_ tr tr) (a_ (a_ tr tr) (a_ (a_ (a_ tr (le_ 21 21 rfl)) tr) (a_ (a_ tr tr) (a_ (a_ (a_ (votes_Writes_tri (x_w.getD t49.toNat default).f_Item.f_Conf nodes yL1_5 eL1_4) tr) tr) (a_ (a_ tr tr) (a_ (a_ tr (a_ (leB cL1_6) tr)) (a_ (a_ tr tr) (a_ (a_ tr tr) (a_ (a_ (a_ (Eq.refl 1) gL1_7) tr) (a_ (a_ (lt_ 0 1 rfl) tr) (a_ (a_ tr tr) (a_ (a_ tr tr) (a_ (a_ tr tr) (a_ (a_ tr tr) (a_ (a_ tr (a_ (leB cL1_8) tr)) (a_ (a_ tr tr) (a_ (a_ tr tr) (a_ (a_ (a_ (Eq.refl 1) gL1_7) tr) (a_ (a_ (lt_ 0 1 rfl) tr) (a_ (a_ tr tr) (a_ (a_ tr tr) (a_ (a_ tr tr) (a_ (a_ tr tr) (a_ (a_ tr tr) (a_ (a_ tr tr) (a_ (a_ tr tr) (a_ (a_ tr (a_ (leB cL1_9) tr)) (a_ tr (a_ tr (a_ tr (a_ tr (a_ tr (a_ tr (a_ tr (a_ (a_ tr tr) tr)))))))))))))))))))))))))))))))))))) (a_ (a_ (a_ tr tr) tr) tr)))) tr) (by kernel_rfl) rfl
          · skip
            rcases itb_some h with ⟨cL1_10, h⟩ | ⟨cL1_10, h⟩
            · skip
              obtain rfl := Option.some.inj h
              exact run_ret mixed (L := []) (n := 26) (s := [.go, .reg [(0, { v := some (.bool false) })], .reg [(3, { call := some (votes_Voters_v yL1_3, [], []) })], .reg [(4, { call := some (votes_Writes_v yL1_5, [], []) }), (6, { v := some (.bool false) }), (15, { v := some (.bool false) }), (27, { v := some (.bool false) }), (35, { v := some (.bool true) })], .reg []])
                (a_ (a_ (a_ (a_ tr (a_ (leB cL1_1) tr)) tr) (a_ (a_ (a_ tr tr) (a_ (a_ tr tr) (a_ (a_ (a_ tr (le_ 21 21 rfl)) tr) (a_ (a_ (a_ (votes_Voters_tri (x_w.getD t49.toNat default).f_Item.f_Conf yL1_3 eL1_2) tr) tr) (a_ (a_ tr tr) tr))))) (a_ (a_ (a_ tr tr) (a_ (a_ tr tr) (a_ (a_ (a_ tr (le_ 21 21 rfl)) tr) (a_ (a_ tr tr) (a_ (a_ (a_ (votes_Writes_tri (x_w.getD t49.toNat default).f_Item.f_Conf nodes yL1_5 eL1_4) tr) tr) (a_ (a_ tr tr) (a_ (a_ tr (a_ (leB cL1_6) tr)) (a_ (a_ tr tr) (a_ (a_ tr tr) (a_ (a_ (a_ (Eq.refl 1) gL1_7) tr) (a_ (a_ (lt_ 0 1 rfl) tr) (a_ (a_ tr tr) (a_ (a_ tr tr) (a_ (a_ tr tr) (a_ (a_ tr tr) (a_ (a_ tr (a_ (leB cL1_8) tr)) (a_ (a_ tr tr) (a_ (a_ tr tr) (a_ (a_ (a_ (Eq.refl 1) gL1_7) tr) (a_ (a_ (lt_ 0 1 rfl) tr) (a_ (a_ tr tr) (a_ (a_ tr tr) (a_ (a_ tr tr) (a_ (a_ tr tr) (a_ (a_ tr tr) (a_ (a_ tr tr) (a_ (a_ tr tr) (a_ (a_ tr (a_ (leB cL1_9) tr)) (a_ (a_ tr tr) (a_ (a_ tr tr) (a_ (a_ (a_ (Eq.refl 1) gL1_7) tr) (a_ (a_ (lt_ 0 1 rfl) tr) (a_ (a_ tr tr) (a_ (a_ tr tr) (a_ (a_ tr tr) (a_ (a_ tr (a_ (leB cL1_10) tr)) tr)))))))))))))))))))))))))))))))))))) (a_ (a_ (a_ tr tr) tr) tr)))) tr) (by kernel_rfl) rfl
            · skip
              exact run_to mixed hμ (L := []) (n := 27) (s := [.go, .reg [(0, { v := some (.bool false) })], .reg [(3, { call := some (votes_Voters_v yL1_3, [], []) })], .reg [(4, { call := some (votes_Writes_v yL1_5, [], []) }), (6, { v := some (.bool false) }), (15, { v := some (.bool false) }), (27, { v := some (.bool false) }), (35, { v := some (.bool false) })], .reg []])
                (a_ (a_ (a_ tr (a_ (leB cL1_1) tr)) tr) (a_ (a_ (a_ tr tr) (a_ (a_ tr tr) (a_ (a_ (a_ tr (le_ 21 21 rfl)) tr) (a_ (a_ (a_ (votes_Voters_tri (x_w.getD t49.toNat default).f_Item.f_Conf yL1_3 eL1_2) tr) tr) (a_ (a_ tr tr) tr))))) (a_ (a_ (a_ tr tr) (a_ (a_ tr tr) (a_ (a_ (a_ tr (le_ 21 21 rfl)) tr) (a_ (a_ tr tr) (a_ (a_ (a_ (votes_Writes_tri (x_w.getD t49.toNat default).f_Item.f_Conf nodes yL1_5 eL1_4) tr) tr) (a_ (a_ tr tr) (a_ (a_ tr (a_ (leB cL1_6) tr)) (a_ (a_ tr tr) (a_ (a_ tr tr) (a_ (a_ (a_ (Eq.refl 1) gL1_7) tr) (a_ (a_ (lt_ 0 1 rfl) tr) (a_ (a_ tr tr) (a_ (a_ tr tr) (a_ (a_ tr tr) (a_ (a_ tr tr) (a_ (a_ tr (a_ (leB cL1_8) tr)) (a_ (a_ tr tr) (a_ (a_ tr tr) (a_ (a_ (a_ (Eq.refl 1) gL1_7) tr) (a_ (a_ (lt_ 0 1 rfl) tr) (a_ (a_ tr tr) (a_ (a_ tr tr) (a_ (a_ tr tr) (a_ (a_ tr tr) (a_ (a_ tr tr) (a_ (a_ tr tr) (a_ (a_ tr tr) (a_ (a_ tr (a_ (leB cL1_9) tr)) (a_ (a_ tr tr) (a_ (a_ tr tr) (a_ (a_ (a_ (Eq.refl 1) gL1_7) tr) (a_ (a_ (lt_ 0 1 rfl) tr) (a_ (a_ tr tr) (a_ (a_ tr tr) (a_ (a_ tr tr) (a_ (a_ tr (a_ (leB cL1_10) tr)) tr)))))))))))))))))))))))))))))))))))) (a_ (a_ (a_ tr tr) (a_ (a_ tr tr) tr)) tr)))) (hk0 _ r h) (by kernel_rfl) trivial

theorem parrellaw20_MissAll_l3_ok {w0 : World} {W : Nat → Prop} {μ0 : Emb} (hμ : ∀ c p, μ0 c = some p → c < 0) (l : List (T_parrelref20_Lock)) (x_w : List (T_api_Write)) (y7 : (List (T_coord_Member)) × (List (Int)) × (Int))  : ∀ (fuel : Nat) (set : Int) (t126 : Int) (r : (Bool)), parrellaw20_MissAll_l3 l x_w y7  fuel set t126 = some r → kont Tryd.prog w0 W μ0 (FnPost Tryd.prog Tryd.f4 0 0 (parrellaw20_MissAll_v r) []) (kAt (bodyOf Tryd.f4) 3) none (parrellaw20_MissAll_T3 l x_w y7 set t126) (parrellaw20_MissAll_H3 l x_w y7 set t126) := by
  intro fuel
  induction fuel with
  | zero => intro set t126 r h; rw [parrellaw20_MissAll_l3] at h; cases h
  | succ fuel ih =>
    intro set t126 r h
    rw [parrellaw20_MissAll_l3] at h
    rcases itb_some h with ⟨cL3_1, h⟩ | ⟨cL3_1, h⟩
    · skip
      obtain ⟨gL3_2, h⟩ := guard_some h
      obtain ⟨gL3_3, h⟩ := guard_some h
      rcases itb_some h with ⟨cL3_4, h⟩ | ⟨cL3_4, h⟩
      · skip
        obtain ⟨gL3_5, h⟩ := guard_some h
        rcases itb_some h with ⟨cL3_6, h⟩ | ⟨cL3_6, h⟩
        · skip
          obtain rfl := Option.some.inj h
          exact run_ret mixed (L := []) (n := 31) (s := [.go, .reg [(0, { v := some (.bool true) })], .reg [], .reg [], .reg [(2, { v := some (.bool true) }), (13, { v := some (.bool true) })], .reg []])
            (a_ (a_ (a_ (a_ tr (a_ (leB cL3_1) tr)) tr) (a_ (a_ (a_ tr tr) (a_ (a_ (a_ (Eq.refl 4) gL3_2) tr) (a_ (a_ (le_ 4 4 rfl) tr) (a_ (a_ tr tr) (a_ (a_ tr tr) (a_ (a_ (a_ (Eq.refl 4) (a_ (le_ 4 4 rfl) (Eq.refl 0))) tr) tr)))))) (a_ (a_ (a_ tr tr) (a_ (a_ tr tr) (a_ (a_ (a_ tr (lt_ 0 4 rfl)) tr) (a_ (a_ (ne0 64 rfl) tr) (a_ (a_ gL3_3 tr) (a_ (a_ tr tr) (a_ (a_ tr tr) tr))))))) (a_ (a_ (a_ tr tr) (a_ (a_ tr tr) (a_ (a_ tr (a_ (leB cL3_4) tr)) (a_ (a_ tr tr) (a_ (a_ tr tr) (a_ (a_ tr tr) (a_ (a_ (a_ (Eq.refl 4) gL3_5) tr) (a_ (a_ tr tr) (a_ (a_ (lt_ 0 4 rfl) tr) (a_ (a_ tr tr) (a_ (a_ (a_ tr (lt_ 0 4 rfl)) tr) (a_ (a_ tr tr) (a_ (a_ tr tr) (a_ (a_ tr (a_ (leB cL3_6) tr)) (a_ tr (a_ tr (a_ tr (a_ tr (a_ tr (a_ tr (a_ (a_ tr tr) tr))))))))))))))))))))) (a_ (a_ (a_ tr tr) tr) tr))))) tr) (by kernel_rfl) rfl
        · skip
          rcases itb_some h with ⟨cL3_7, h⟩ | ⟨cL3_7, h⟩
          · skip
            obtain rfl := Option.some.inj h
            exact run_ret mixed (L := []) (n := 31) (s := [.go, .reg [(0, { v := some (.bool true) })], .reg [], .reg [], .reg [(2, { v := some (.bool true) }), (13, { v := some (.bool false) }), (20, { v := some (.bool true) })], .reg []])
              (a_ (a_ (a_ (a_ tr (a_ (leB cL3_1) tr)) tr) (a_ (a_ (a_ tr tr) (a_ (a_ (a_ (Eq.refl 4) gL3_2) tr) (a_ (a_ (le_ 4 4 rfl) tr) (a_ (a_ tr tr) (a_ (a_ tr tr) (a_ (a_ (a_ (Eq.refl 4) (a_ (le_ 4 4 rfl) (Eq.refl 0))) tr) tr)))))) (a_ (a_ (a_ tr tr) (a_ (a_ tr tr) (a_ (a_ (a_ tr (lt_ 0 4 rfl)) tr) (a_ (a_ (ne0 64 rfl) tr) (a_ (a_ gL3_3 tr) (a_ (a_ tr tr) (a_ (a_ tr tr) tr))))))) (a_ (a_ (a_ tr tr) (a_ (a_ tr tr) (a_ (a_ tr (a_ (leB cL3_4) tr)) (a_ (a_ tr tr) (a_ (a_ tr tr) (a_ (a_ tr tr) (a_ (a_ (a_ (Eq.refl 4) gL3_5) tr) (a_ (a_ tr tr) (a_ (a_ (lt_ 0 4 rfl) tr) (a_ (a_ tr tr) (a_ (a_ (a_ tr (lt_ 0 4 rfl)) tr) (a_ (a_ tr tr) (a_ (a_ tr tr) (a_ (a_ tr (a_ (leB cL3_6) tr)) (a_ (a_ tr tr) (a_ (a_ (a_ tr (lt_ 3 4 rfl)) tr) (a_ (a_ tr tr) (a_ (a_ tr tr) (a_ (a_ tr tr) (a_ (a_ tr tr) (a_ (a_ tr (a_ (leB cL3_7) tr)) tr))))))))))))))))))))) (a_ (a_ (a_ tr tr) tr) tr))))) tr) (by kernel_rfl) rfl
          · skip
            exact run_to mixed hμ (L := []) (n := 32) (s := [.go, .reg [(0, { v := some (.bool true) })], .reg [], .reg [], .reg [(2, { v := some (.bool true) }), (13, { v := some (.bool false) }), (20, { v := some (.bool false) })], .reg []])
              (a_ (a_ (a_ tr (a_ (leB cL3_1) tr)) tr) (a_ (a_ (a_ tr tr) (a_ (a_ (a_ (Eq.refl 4) gL3_2) tr) (a_ (a_ (le_ 4 4 rfl) tr) (a_ (a_ tr tr) (a_ (a_ tr tr) (a_ (a_ (a_ (Eq.refl 4) (a_ (le_ 4 4 rfl) (Eq.refl 0))) tr) tr)))))) (a_ (a_ (a_ tr tr) (a_ (a_ tr tr) (a_ (a_ (a_ tr (lt_ 0 4 rfl)) tr) (a_ (a_ (ne0 64 rfl) tr) (a_ (a_ gL3_3 tr) (a_ (a_ tr tr) (a_ (a_ tr tr) tr))))))) (a_ (a_ (a_ tr tr) (a_ (a_ tr tr) (a_ (a_ tr (a_ (leB cL3_4) tr)) (a_ (a_ tr tr) (a_ (a_ tr tr) (a_ (a_ tr tr) (a_ (a_ (a_ (Eq.refl 4) gL3_5) tr) (a_ (a_ tr tr) (a_ (a_ (lt_ 0 4 rfl) tr) (a_ (a_ tr tr) (a_ (a_ (a_ tr (lt_ 0 4 rfl)) tr) (a_ (a_ tr tr) (a_ (a_ tr tr) (a_ (a_ tr (a_ (leB cL3_6) tr)) (a_ (a_ tr tr) (a_ (a_ (a_ tr (lt_ 3 4 rfl)) tr) (a_ (a_ tr tr) (a_ (a_ tr tr) (a_ (a_ tr tr) (a_ (a_ tr tr) (a_ (a_ tr (a_ (leB cL3_7) tr)) tr))))))))))))))))))))) (a_ (a_ (a_ tr tr) (a_ (a_ tr tr) tr)) tr))))) (ih _ _ r h) (by kernel_rfl) trivial
      · skip
        rcases itb_some h with ⟨cL3_5, h⟩ | ⟨cL3_5, h⟩
        · skip
          obtain rfl := Option.some.inj h
          exact run_ret mixed (L := []) (n := 31) (s := [.go, .reg [(0, { v := some (.bool true) })], .reg [], .reg [], .reg [(2, { v := some (.bool false) }), (20, { v := some (.bool true) })], .reg []])
            (a_ (a_ (a_ (a_ tr (a_ (leB cL3_1) tr)) tr) (a_ (a_ (a_ tr tr) (a_ (a_ (a_ (Eq.refl 4) gL3_2) tr) (a_ (a_ (le_ 4 4 rfl) tr) (a_ (a_ tr tr) (a_ (a_ tr tr) (a_ (a_ (a_ (Eq.refl 4) (a_ (le_ 4 4 rfl) (Eq.refl 0))) tr) tr)))))) (a_ (a_ (a_ tr tr) (a_ (a_ tr tr) (a_ (a_ (a_ tr (lt_ 0 4 rfl)) tr) (a_ (a_ (ne0 64 rfl) tr) (a_ (a_ gL3_3 tr) (a_ (a_ tr tr) (a_ (a_ tr tr) tr))))))) (a_ (a_ (a_ tr tr) (a_ (a_ tr tr) (a_ (a_ tr (a_ (leB cL3_4) tr)) (a_ tr (a_ tr (a_ tr (a_ tr (a_ tr (a_ tr (a_ tr (a_ tr (a_ tr (a_ (a_ tr tr) (a_ (a_ tr tr) (a_ (a_ tr tr) (a_ (a_ (a_ tr (lt_ 3 4 rfl)) tr) (a_ (a_ tr tr) (a_ (a_ tr tr) (a_ (a_ tr tr) (a_ (a_ tr tr) (a_ (a_ tr (a_ (leB cL3_5) tr)) tr))))))))))))))))))))) (a_ (a_ (a_ tr tr) tr) tr))))) tr) (by kernel_rfl) rfl
        · skip
          exact run_to mixed hμ (L := []) (n := 32) (s := [.go, .reg [(0, { v := some (.bool true) })], .reg [], .reg [], .reg [(2, { v := some (.bool false) }), (20, { v := some (.bool false) })], .reg []])
            (a_ (a_ (a_ tr (a_ (leB cL3_1) tr)) tr) (a_ (a_ (a_ tr tr) (a_ (a_ (a_ (Eq.refl 4) gL3_2) tr) (a_ (a_ (le_ 4 4 rfl) tr) (a_ (a_ tr tr) (a_ (a_ tr tr) (a_ (a_ (a_ (Eq.refl 4) (a_ (le_ 4 4 rfl) (Eq.refl 0))) tr) tr)))))) (a_ (a_ (a_ tr tr) (a_ (a_ tr tr) (a_ (a_ (a_ tr (lt_ 0 4 rfl)) tr) (a_ (a_ (ne0 64 rfl) tr) (a_ (a_ gL3_3 tr) (a_ (a_ tr tr) (a_ (a_ tr tr) tr))))))) (a_ (a_ (a_ tr tr) (a_ (a_ tr tr) (a_ (a_ tr (a_ (leB cL3_4) tr)) (a_ tr (a_ tr (a_ tr (a_ tr (a_ tr (a_ tr (a_ tr (a_ tr (a_ tr (a_ (a_ tr tr) (a_ (a_ tr tr) (a_ (a_ tr tr) (a_ (a_ (a_ tr (lt_ 3 4 rfl)) tr) (a_ (a_ tr tr) (a_ (a_ tr tr) (a_ (a_ tr tr) (a_ (a_ tr tr) (a_ (a_ tr (a_ (leB cL3_5) tr)) tr))))))))))))))))))))) (a_ (a_ (a_ tr tr) (a_ (a_ tr tr) tr)) tr))))) (ih _ _ r h) (by kernel_rfl) trivial
    · skip
      obtain ⟨yL3_3, eL3_2, h⟩ := bind_some h
      obtain ⟨yL3_5, eL3_4, h⟩ := bind_some h
      rcases itb_some h with ⟨cL3_6, h⟩ | ⟨cL3_6, h⟩
      · skip
        obtain ⟨yL3_8, eL3_7, h⟩ := bind_some h
        obtain rfl := Option.some.inj h
        exact run_ret mixed (L := []) (n := 19) (s := [.go, .reg [(0, { v := some (.bool false) })], .reg [(2, { call := some (parrellaw20_theirs_v yL3_3, [], []) }), (3, { call := some (miss_Nodes_v yL3_5, [], []) }), (5, { v := some (.bool true) }), (6, { call := some (parrellaw20_alive_v yL3_8, [], []) })]])
          (a_ (a_ (a_ (a_ tr (a_ (leB cL3_1) tr)) tr) (a_ (a_ (a_ tr tr) (a_ (a_ tr tr) (a_ (a_ (a_ (parrellaw20_theirs_tri l yL3_3 eL3_2) tr) tr) (a_ (a_ (a_ (miss_Nodes_tri yL3_3 yL3_5 eL3_4) tr) tr) (a_ (a_ tr tr) (a_ (a_ tr (a_ (leB cL3_6) tr)) (a_ (a_ (a_ (parrellaw20_alive_tri  yL3_8 eL3_7) tr) tr) (a_ (a_ tr tr) (a_ (a_ tr tr) tr))))))))) tr)) tr) (by kernel_rfl) rfl
      · skip
        obtain rfl := Option.some.inj h
        exact run_ret mixed (L := []) (n := 19) (s := [.go, .reg [(0, { v := some (.bool false) })], .reg [(2, { call := some (parrellaw20_theirs_v yL3_3, [], []) }), (3, { call := some (miss_Nodes_v yL3_5, [], []) }), (5, { v := some (.bool false) })]])
          (a_ (a_ (a_ (a_ tr (a_ (leB cL3_1) tr)) tr) (a_ (a_ (a_ tr tr) (a_ (a_ tr tr) (a_ (a_ (a_ (parrellaw20_theirs_tri l yL3_3 eL3_2) tr) tr) (a_ (a_ (a_ (miss_Nodes_tri yL3_3 yL3_5 eL3_4) tr) tr) (a_ (a_ tr tr) (a_ (a_ tr (a_ (leB cL3_6) tr)) (a_ tr (a_ (a_ tr tr) (a_ (a_ tr tr) tr))))))))) tr)) tr) (by kernel_rfl) rfl

theorem parrellaw20_MissAll_l0_ok {w0 : World} {W : Nat → Prop} {μ0 : Emb} (hμ : ∀ c p, μ0 c = some p → c < 0) (l : List (T_parrelref20_Lock)) (x_w : List (T_api_Write)) (y7 : (List (T_coord_Member)) × (List (Int)) × (Int))  : ∀ (fuel : Nat) (t49 : Int) (r : (Bool)), parrellaw20_MissAll_l0 l x_w y7  fuel t49 = some r → kont Tryd.prog w0 W μ0 (FnPost Tryd.prog Tryd.f4 0 0 (parrellaw20_MissAll_v r) []) (kAt (bodyOf Tryd.f4) 0) none (parrellaw20_MissAll_T0 l x_w y7 t49) (parrellaw20_MissAll_H0 l x_w y7 t49) := by
  intro fuel
  induction fuel with
  | zero => intro t49 r h; rw [parrellaw20_MissAll_l0] at h; cases h
  | succ fuel ih =>
    intro t49 r h
    rw [parrellaw20_MissAll_l0] at h
    rcases itb_some h with ⟨cL0_1, h⟩ | ⟨cL0_1, h⟩
    · skip
      obtain ⟨gL0_2, h⟩ := guard_some h
      exact run_to mixed hμ (L := [0]) (n := 30) (s := [.go, .reg [(0, { v := some (.bool true) })], .reg [], .reg [], .reg []])
        (a_ (a_ (a_ tr (a_ (leB cL0_1) tr)) tr) (a_ (a_ (a_ tr tr) (a_ (a_ (a_ (Eq.refl 21) gL0_2) tr) (a_ (a_ (le_ 21 21 rfl) tr) (a_ (a_ tr tr) (a_ (a_ tr tr) (a_ (a_ (a_ (Eq.refl 21) (a_ (le_ 21 21 rfl) (Eq.refl 0))) tr) tr)))))) (a_ (a_ (a_ tr tr) tr) (a_ (a_ (a_ tr tr) (a_ (a_ tr tr) (a_ (a_ tr tr) tr))) tr)))) (parrellaw20_MissAll_l1_ok hμ l x_w t49 y7 (parrellaw20_MissAll_l0 l x_w y7  fuel) (fun t49 r h => ih t49 r h) big _ _ r h) (by kernel_rfl) ⟨rfl, trivial⟩
    · skip
      exact run_to mixed hμ (L := []) (n := 25) (s := [.go, .reg [(0, { v := some (.bool false) })], .reg [], .reg []])
        (a_ (a_ (a_ tr (a_ (leB cL0_1) tr)) tr) (a_ (a_ (a_ tr tr) tr) (a_ (a_ (a_ tr tr) (a_ (a_ tr tr) (a_ (a_ tr tr) tr))) tr))) (parrellaw20_MissAll_l3_ok hμ l x_w y7  big _ _ r h) (by kernel_rfl) trivial

theorem parrellaw20_MissAll_ok (l : List (T_parrelref20_Lock)) (x_w : List (T_api_Write)) (r : (Bool)) (h : parrellaw20_MissAll l x_w = some r) : ∀ σ, Inj 0 σ → FnTri Tryd.prog 4 (renL σ [.ds 10 (l).length (rowF c_T_parrelref20_Lock default l), .ds 21 (x_w).length (rowF c_T_api_Write default x_w)]) (preOf σ 0 []) ((parrellaw20_MissAll_v r).ren σ) (upOf σ []) := by
  refine fn_of Tryd.func4 (by kernel_rfl) (by kernel_rfl) (by kernel_rfl) trivial (by kernel_rfl) trivial (by kernel_rfl) ?_
  intro w0 W μ0 hμ
  unfold parrellaw20_MissAll at h
  obtain ⟨y2, e1, h⟩ := bind_some h
  rcases itb_some h with ⟨c3, h⟩ | ⟨c3, h⟩
  · skip
    obtain ⟨y5, e4, h⟩ := bind_some h
    obtain rfl := Option.some.inj h
    exact run_ret mixed (L := []) (n := 20) (s := [.reg [], .reg [(2, { call := some (parrellaw20_far_v y2, [], []), v := some (.bool true) })], .reg [(0, { call := some (parrellaw20_alive_v y5, [], []) })]])
      (a_ (a_ (a_ (a_ tr tr) tr) (a_ (a_ (a_ tr tr) (a_ (a_ tr tr) (a_ (a_ (a_ (parrellaw20_far_tri l x_w y2 e1) tr) (a_ (leB c3) tr)) tr))) (a_ (a_ (a_ (a_ (parrellaw20_alive_tri  y5 e4) tr) tr) (a_ (a_ tr tr) tr)) tr))) tr) (by kernel_rfl) rfl
  · skip
    obtain ⟨y5, e4, h⟩ := bind_some h
    obtain ⟨y7, e6, h⟩ := bind_some h
    rcases itb_some h with ⟨c8, h⟩ | ⟨c8, h⟩
    · skip
      rcases itb_some h with ⟨c9, h⟩ | ⟨c9, h⟩
      · skip
        obtain ⟨y11, e10, h⟩ := bind_some h
        obtain rfl := Option.some.inj h
        exact run_ret mixed (L := []) (n := 29) (s := [.reg [], .reg [(2, { call := some (parrellaw20_far_v y2, [], []), v := some (.bool false) })], .reg [(1, { call := some (parrellaw20_theirs_v y5, [], []) }), (3, { call := some (miss_Plan_v y7, [], []) })], .reg [(1, { v := some (.bool true) })], .reg [(6, { v := some (.bool true) }), (7, { call := some (parrellaw20_alive_v y11, [], []) })]])
          (a_ (a_ (a_ (a_ tr tr) tr) (a_ (a_ (a_ tr tr) (a_ (a_ tr tr) (a_ (a_ (a_ (parrellaw20_far_tri l x_w y2 e1) tr) (a_ (leB c3) tr)) tr))) (a_ (a_ (a_ tr tr) (a_ (a_ (a_ (parrellaw20_theirs_tri l y5 e4) tr) tr) (a_ (a_ tr tr) (a_ (a_ (a_ (miss_Plan_tri y5 x_w y7 e6) tr) tr) (a_ (a_ tr tr) (a_ (a_ tr tr) (a_ (a_ tr tr) (a_ (a_ tr tr) (a_ (a_ tr tr) (a_ (a_ tr tr) (a_ (a_ tr tr) tr))))))))))) (a_ (a_ (a_ tr tr) (a_ (a_ tr (a_ (leB c8) tr)) tr)) (a_ (a_ (a_ tr tr) (a_ (a_ tr tr) (a_ (a_ tr tr) (a_ (a_ tr tr) (a_ (a_ tr tr) (a_ (a_ tr tr) (a_ (a_ tr (a_ (leB c9) tr)) (a_ (a_ (a_ (parrellaw20_alive_tri  y11 e10) tr) tr) (a_ (a_ tr tr) (a_ (a_ tr tr) tr)))))))))) tr))))) tr) (by kernel_rfl) rfl
      · skip
        obtain rfl := Option.some.inj h
        exact run_ret mixed (L := []) (n := 29) (s := [.reg [], .reg [(2, { call := some (parrellaw20_far_v y2, [], []), v := some (.bool false) })], .reg [(1, { call := some (parrellaw20_theirs_v y5, [], []) }), (3, { call := some (miss_Plan_v y7, [], []) })], .reg [(1, { v := some (.bool true) })], .reg [(6, { v := some (.bool false) })]])
          (a_ (a_ (a_ (a_ tr tr) tr) (a_ (a_ (a_ tr tr) (a_ (a_ tr tr) (a_ (a_ (a_ (parrellaw20_far_tri l x_w y2 e1) tr) (a_ (leB c3) tr)) tr))) (a_ (a_ (a_ tr tr) (a_ (a_ (a_ (parrellaw20_theirs_tri l y5 e4) tr) tr) (a_ (a_ tr tr) (a_ (a_ (a_ (miss_Plan_tri y5 x_w y7 e6) tr) tr) (a_ (a_ tr tr) (a_ (a_ tr tr) (a_ (a_ tr tr) (a_ (a_ tr tr) (a_ (a_ tr tr) (a_ (a_ tr tr) (a_ (a_ tr tr) tr))))))))))) (a_ (a_ (a_ tr tr) (a_ (a_ tr (a_ (leB c8) tr)) tr)) (a_ (a_ (a_ tr tr) (a_ (a_ tr tr) (a_ (a_ tr tr) (a_ (a_ tr tr) (a_ (a_ tr tr) (a_ (a_ tr tr) (a_ (a_ tr (a_ (leB c9) tr)) (a_ tr (a_ (a_ tr tr) (a_ (a_ tr tr) tr)))))))))) tr))))) tr) (by kernel_rfl) rfl
    · skip
      rcases itb_some h with ⟨c9, h⟩ | ⟨c9, h⟩
      · skip
        obtain rfl := Option.some.inj h
        exact run_ret mixed (L := []) (n := 35) (s := [.reg [], .reg [(2, { call := some (parrellaw20_far_v y2, [], []), v := some (.bool false) })], .reg [(1, { call := some (parrellaw20_theirs_v y5, [], []) }), (3, { call := some (miss_Plan_v y7, [], []) })], .reg [(1, { v := some (.bool false) })], .reg [(4, { v := some (.bool true) })], .reg []])
          (a_ (a_ (a_ (a_ tr tr) tr) (a_ (a_ (a_ tr tr) (a_ (a_ tr tr) (a_ (a_ (a_ (parrellaw20_far_tri l x_w y2 e1) tr) (a_ (leB c3) tr)) tr))) (a_ (a_ (a_ tr tr) (a_ (a_ (a_ (parrellaw20_theirs_tri l y5 e4) tr) tr) (a_ (a_ tr tr) (a_ (a_ (a_ (miss_Plan_tri y5 x_w y7 e6) tr) tr) (a_ (a_ tr tr) (a_ (a_ tr tr) (a_ (a_ tr tr) (a_ (a_ tr tr) (a_ (a_ tr tr) (a_ (a_ tr tr) (a_ (a_ tr tr) tr))))))))))) (a_ (a_ (a_ tr tr) (a_ (a_ tr (a_ (leB c8) tr)) tr)) (a_ (a_ (a_ tr tr) (a_ (a_ tr tr) (a_ (a_ tr tr) (a_ (a_ tr tr) (a_ (a_ tr (a_ (leB c9) tr)) tr))))) (a_ (a_ (a_ tr tr) tr) tr)))))) tr) (by kernel_rfl) rfl
      · skip
        exact run_to mixed hμ (L := []) (n := 39) (s := [.reg [], .reg [(2, { call := some (parrellaw20_far_v y2, [], []), v := some (.bool false) })], .reg [(1, { call := some (parrellaw20_theirs_v y5, [], []) }), (3, { call := some (miss_Plan_v y7, [], []) })], .reg [(1, { v := some (.bool false) })], .reg [(4, { v := some (.bool false) })], .reg []])
          (a_ (a_ (a_ tr tr) tr) (a_ (a_ (a_ tr tr) (a_ (a_ tr tr) (a_ (a_ (a_ (parrellaw20_far_tri l x_w y2 e1) tr) (a_ (leB c3) tr)) tr))) (a_ (a_ (a_ tr tr) (a_ (a_ (a_ (parrellaw20_theirs_tri l y5 e4) tr) tr) (a_ (a_ tr tr) (a_ (a_ (a_ (miss_Plan_tri y5 x_w y7 e6) tr) tr) (a_ (a_ tr tr) (a_ (a_ tr tr) (a_ (a_ tr tr) (a_ (a_ tr tr) (a_ (a_ tr tr) (a_ (a_ tr tr) (a_ (a_ tr tr) tr))))))))))) (a_ (a_ (a_ tr tr) (a_ (a_ tr (a_ (leB c8) tr)) tr)) (a_ (a_ (a_ tr tr) (a_ (a_ tr tr) (a_ (a_ tr tr) (a_ (a_ tr tr) (a_ (a_ tr (a_ (leB c9) tr)) tr))))) (a_ (a_ (a_ tr tr) (a_ (a_ tr tr) (a_ (a_ tr tr) tr))) tr)))))) (parrellaw20_MissAll_l0_ok hμ l x_w y7  big _ r h) (by kernel_rfl) trivial

theorem parrellaw20_MissAll_tri (l : List (T_parrelref20_Lock)) (x_w : List (T_api_Write)) (r : (Bool)) (h : parrellaw20_MissAll l x_w = some r) : FnTri Tryd.prog 4 [.ds 10 (l).length (rowF c_T_parrelref20_Lock default l), .ds 21 (x_w).length (rowF c_T_api_Write default x_w)] [] (parrellaw20_MissAll_v r) [] := FnTri.none (parrellaw20_MissAll_ok l x_w r h) rfl rfl

end
end Go.Proofs.YtdjmfgknonkojaaDoor.Wk
