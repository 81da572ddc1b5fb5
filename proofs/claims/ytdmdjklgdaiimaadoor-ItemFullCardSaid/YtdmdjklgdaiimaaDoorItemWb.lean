/- Printed by tr.py: Go functions as Lean functions, with the proofs that they walk so. -/
import Derived.Test.YtdmdjklgdaiimaaDoorItemWa
namespace Go.Proofs.YtdmdjklgdaiimaaDoor.Wk
open Go Go.Cn Go.RowKit
set_option maxRecDepth 100000
set_option maxHeartbeats 4000000
set_option linter.unusedVariables false
set_option linter.unusedSimpArgs false
noncomputable section
/-- (*parrel/parrelref13.Table).place -/

def parrelref13_Table_place_v (r : (Int) × (Bool)) : LV := .tup [.int .i64 r.1, .bool r.2]

def parrelref13_Table_place_up (t : T_parrelref13_Table) (x_k : A8 (Int)) (r : (Int) × (Bool)) : Upd := [(0, some (.var (c_T_parrelref13_Table t)))]

def parrelref13_Table_place_objs (t : T_parrelref13_Table) (x_k : A8 (Int)) : List LO := [.var (c_T_parrelref13_Table t)]

def parrelref13_Table_place_T0 (t : T_parrelref13_Table) (x_k : A8 (Int)) (i : Int) : List LV := [.ptr 0 0 0, .any, .any, .ptr 1 0 0, .any, .any, .int .i64 i, .any, .any, .any, .any, .any, .any, .any, .any, .any, .any, .any, .any, .any, .any, .any, .any, .any, .any, .any, .any, .any, .any, .any, .any, .any, .any, .any, .any, .any, .any, .any, .any, .any, .any, .any, .any, .any, .any, .any, .any, .any, .any]

def parrelref13_Table_place_H0 (t : T_parrelref13_Table) (x_k : A8 (Int)) (i : Int) : Heap := [some (.var (c_T_parrelref13_Table t)), some (.var [.int .u8 x_k.a0, .int .u8 x_k.a1, .int .u8 x_k.a2, .int .u8 x_k.a3, .int .u8 x_k.a4, .int .u8 x_k.a5, .int .u8 x_k.a6, .int .u8 x_k.a7])]

def parrelref13_Table_place_l0 (t : T_parrelref13_Table) (x_k : A8 (Int))  : Nat → (Int) → Option ((Int) × (Bool))
  | 0, _ => none
  | fuel + 1, i =>
    if ((decide (i < ((t.f_L).length : Int))) : Bool) then
      if 0 ≤ i ∧ i < (((t.f_L).length : Nat) : Int) then
      (parrelref05_Keys (t.f_L.getD i.toNat default).f_Key x_k).bind fun yL0_4 =>
      if ((decide (yL0_4 < 0)) : Bool) then
        parrelref13_Table_place_l0 t x_k  fuel (IntKind.wrap .i64 (i + 1))
      else
        if ((decide (i < ((t.f_L).length : Int))) : Bool) then
          some (i, (decide ((t.f_L.getD i.toNat default).f_Key = x_k)))
        else
          some (i, false)
      else none
    else
      if ((decide (i < ((t.f_L).length : Int))) : Bool) then
        if 0 ≤ i ∧ i < (((t.f_L).length : Nat) : Int) then
        some (i, (decide ((t.f_L.getD i.toNat default).f_Key = x_k)))
        else none
      else
        some (i, false)

def parrelref13_Table_place (t : T_parrelref13_Table) (x_k : A8 (Int)) : Option ((Int) × (Bool)) :=
  parrelref13_Table_place_l0 t x_k  big 0

theorem parrelref13_Table_place_l0_ok {w0 : World} {W : Nat → Prop} {μ0 : Emb} (hμ : ∀ c p, μ0 c = some p → c < 1) (t : T_parrelref13_Table) (x_k : A8 (Int))  : ∀ (fuel : Nat) (i : Int) (r : (Int) × (Bool)), parrelref13_Table_place_l0 t x_k  fuel i = some r → kont Tryd.prog w0 W μ0 (FnPost Tryd.prog Tryd.f28 1 1 (parrelref13_Table_place_v r) (parrelref13_Table_place_up t x_k r)) (kAt (bodyOf Tryd.f28) 0) none (parrelref13_Table_place_T0 t x_k i) (parrelref13_Table_place_H0 t x_k i) := by
  intro fuel
  induction fuel with
  | zero => intro i r h; rw [parrelref13_Table_place_l0] at h; cases h
  | succ fuel ih =>
    intro i r h
    rw [parrelref13_Table_place_l0] at h
    rcases itb_some h with ⟨cL0_1, h⟩ | ⟨cL0_1, h⟩
    · skip
      obtain ⟨gL0_2, h⟩ := guard_some h
      obtain ⟨yL0_4, eL0_3, h⟩ := bind_some h
      rcases itb_some h with ⟨cL0_5, h⟩ | ⟨cL0_5, h⟩
      · skip
        exact run_to mixed hμ (L := [1]) (n := 20) (s := [.go, .reg [(7, { v := some (.bool true) }), (17, { call := some (parrelref05_Keys_v yL0_4, [], []) }), (19, { v := some (.bool true) })], .reg []])
          (a_ (a_ (a_ tr tr) (a_ (a_ tr tr) (a_ (a_ tr tr) (a_ (a_ tr tr) (a_ (a_ (a_ tr (lt_ 0 1 rfl)) tr) (a_ (a_ tr tr) (a_ (a_ tr tr) (a_ (a_ tr (a_ (leB cL0_1) tr)) (a_ (a_ tr tr) (a_ (a_ tr tr) (a_ (a_ tr tr) (a_ (a_ (a_ tr (lt_ 0 1 rfl)) tr) (a_ (a_ tr tr) (a_ (a_ (a_ (Eq.refl 21) gL0_2) tr) (a_ (a_ tr tr) (a_ (a_ (le_ 8 21 rfl) tr) (a_ (a_ (a_ tr (le_ 8 8 rfl)) tr) (a_ (a_ (a_ (parrelref05_Keys_tri (t.f_L.getD i.toNat default).f_Key x_k yL0_4 eL0_3) tr) tr) (a_ (a_ tr tr) (a_ (a_ tr (a_ (leB cL0_5) tr)) tr)))))))))))))))))))) (a_ (a_ (a_ tr tr) (a_ (a_ tr tr) (a_ (a_ tr tr) tr))) tr)) (ih _ r h) (by kernel_rfl) ⟨rfl, rfl, trivial⟩
      · skip
        rcases itb_some h with ⟨cL0_6, h⟩ | ⟨cL0_6, h⟩
        · skip
          obtain rfl := Option.some.inj h
          exact run_ret mixed (L := []) (n := 19) (s := [.go, .reg [(7, { v := some (.bool true) }), (17, { call := some (parrelref05_Keys_v yL0_4, [], []) }), (19, { v := some (.bool false) })], .reg [(8, { v := some (.bool true) }), (18, { v := some (.bool (decide ((t.f_L.getD i.toNat default).f_Key = x_k))) })]])
            (a_ (a_ (a_ (a_ tr tr) (a_ (a_ tr tr) (a_ (a_ tr tr) (a_ (a_ tr tr) (a_ (a_ (a_ tr (lt_ 0 1 rfl)) tr) (a_ (a_ tr tr) (a_ (a_ tr tr) (a_ (a_ tr (a_ (leB cL0_1) tr)) (a_ (a_ tr tr) (a_ (a_ tr tr) (a_ (a_ tr tr) (a_ (a_ (a_ tr (lt_ 0 1 rfl)) tr) (a_ (a_ tr tr) (a_ (a_ (a_ (Eq.refl 21) gL0_2) tr) (a_ (a_ tr tr) (a_ (a_ (le_ 8 21 rfl) tr) (a_ (a_ (a_ tr (le_ 8 8 rfl)) tr) (a_ (a_ (a_ (parrelref05_Keys_tri (t.f_L.getD i.toNat default).f_Key x_k yL0_4 eL0_3) tr) tr) (a_ (a_ tr tr) (a_ (a_ tr (a_ (leB cL0_5) tr)) tr)))))))))))))))))))) (a_ (a_ (a_ tr tr) (a_ (a_ tr tr) (a_ (a_ tr tr) (a_ (a_ tr tr) (a_ (a_ tr tr) (a_ (a_ (a_ tr (lt_ 0 1 rfl)) tr) (a_ (a_ tr tr) (a_ (a_ tr tr) (a_ (a_ tr (a_ (leB cL0_6) tr)) (a_ (a_ tr tr) (a_ (a_ tr tr) (a_ (a_ tr tr) (a_ (a_ (a_ tr (lt_ 0 1 rfl)) tr) (a_ (a_ tr tr) (a_ (a_ (a_ (Eq.refl 21) gL0_2) tr) (a_ (a_ tr tr) (a_ (a_ (le_ 8 21 rfl) tr) (a_ (a_ (a_ tr (le_ 8 8 rfl)) tr) (a_ (a_ tr (a_ (leB ((k_arr8 .u8) (t.f_L.getD i.toNat default).f_Key x_k)) tr)) (a_ (a_ tr tr) (a_ (a_ tr tr) (a_ (a_ tr tr) tr)))))))))))))))))))))) tr)) tr) (by kernel_rfl) rfl
        · skip
          obtain rfl := Option.some.inj h
          exact run_ret mixed (L := []) (n := 19) (s := [.go, .reg [(7, { v := some (.bool true) }), (17, { call := some (parrelref05_Keys_v yL0_4, [], []) }), (19, { v := some (.bool false) })], .reg [(8, { v := some (.bool false) })]])
            (a_ (a_ (a_ (a_ tr tr) (a_ (a_ tr tr) (a_ (a_ tr tr) (a_ (a_ tr tr) (a_ (a_ (a_ tr (lt_ 0 1 rfl)) tr) (a_ (a_ tr tr) (a_ (a_ tr tr) (a_ (a_ tr (a_ (leB cL0_1) tr)) (a_ (a_ tr tr) (a_ (a_ tr tr) (a_ (a_ tr tr) (a_ (a_ (a_ tr (lt_ 0 1 rfl)) tr) (a_ (a_ tr tr) (a_ (a_ (a_ (Eq.refl 21) gL0_2) tr) (a_ (a_ tr tr) (a_ (a_ (le_ 8 21 rfl) tr) (a_ (a_ (a_ tr (le_ 8 8 rfl)) tr) (a_ (a_ (a_ (parrelref05_Keys_tri (t.f_L.getD i.toNat default).f_Key x_k yL0_4 eL0_3) tr) tr) (a_ (a_ tr tr) (a_ (a_ tr (a_ (leB cL0_5) tr)) tr)))))))))))))))))))) (a_ (a_ (a_ tr tr) (a_ (a_ tr tr) (a_ (a_ tr tr) (a_ (a_ tr tr) (a_ (a_ tr tr) (a_ (a_ (a_ tr (lt_ 0 1 rfl)) tr) (a_ (a_ tr tr) (a_ (a_ tr tr) (a_ (a_ tr (a_ (leB cL0_6) tr)) (a_ tr (a_ tr (a_ tr (a_ tr (a_ tr (a_ tr (a_ tr (a_ tr (a_ tr (a_ tr (a_ (a_ tr tr) (a_ (a_ tr tr) (a_ (a_ tr tr) tr)))))))))))))))))))))) tr)) tr) (by kernel_rfl) rfl
    · skip
      rcases itb_some h with ⟨cL0_2, h⟩ | ⟨cL0_2, h⟩
      · skip
        obtain ⟨gL0_3, h⟩ := guard_some h
        obtain rfl := Option.some.inj h
        exact run_ret mixed (L := []) (n := 19) (s := [.go, .reg [(7, { v := some (.bool false) })], .reg [(8, { v := some (.bool true) }), (18, { v := some (.bool (decide ((t.f_L.getD i.toNat default).f_Key = x_k))) })]])
          (a_ (a_ (a_ (a_ tr tr) (a_ (a_ tr tr) (a_ (a_ tr tr) (a_ (a_ tr tr) (a_ (a_ (a_ tr (lt_ 0 1 rfl)) tr) (a_ (a_ tr tr) (a_ (a_ tr tr) (a_ (a_ tr (a_ (leB cL0_1) tr)) (a_ tr (a_ tr (a_ tr (a_ tr (a_ tr (a_ tr (a_ tr (a_ tr (a_ tr (a_ tr (a_ tr (a_ (a_ tr tr) tr)))))))))))))))))))) (a_ (a_ (a_ tr tr) (a_ (a_ tr tr) (a_ (a_ tr tr) (a_ (a_ tr tr) (a_ (a_ tr tr) (a_ (a_ (a_ tr (lt_ 0 1 rfl)) tr) (a_ (a_ tr tr) (a_ (a_ tr tr) (a_ (a_ tr (a_ (leB cL0_2) tr)) (a_ (a_ tr tr) (a_ (a_ tr tr) (a_ (a_ tr tr) (a_ (a_ (a_ tr (lt_ 0 1 rfl)) tr) (a_ (a_ tr tr) (a_ (a_ (a_ (Eq.refl 21) gL0_3) tr) (a_ (a_ tr tr) (a_ (a_ (le_ 8 21 rfl) tr) (a_ (a_ (a_ tr (le_ 8 8 rfl)) tr) (a_ (a_ tr (a_ (leB ((k_arr8 .u8) (t.f_L.getD i.toNat default).f_Key x_k)) tr)) (a_ (a_ tr tr) (a_ (a_ tr tr) (a_ (a_ tr tr) tr)))))))))))))))))))))) tr)) tr) (by kernel_rfl) rfl
      · skip
        obtain rfl := Option.some.inj h
        exact run_ret mixed (L := []) (n := 19) (s := [.go, .reg [(7, { v := some (.bool false) })], .reg [(8, { v := some (.bool false) })]])
          (a_ (a_ (a_ (a_ tr tr) (a_ (a_ tr tr) (a_ (a_ tr tr) (a_ (a_ tr tr) (a_ (a_ (a_ tr (lt_ 0 1 rfl)) tr) (a_ (a_ tr tr) (a_ (a_ tr tr) (a_ (a_ tr (a_ (leB cL0_1) tr)) (a_ tr (a_ tr (a_ tr (a_ tr (a_ tr (a_ tr (a_ tr (a_ tr (a_ tr (a_ tr (a_ tr (a_ (a_ tr tr) tr)))))))))))))))))))) (a_ (a_ (a_ tr tr) (a_ (a_ tr tr) (a_ (a_ tr tr) (a_ (a_ tr tr) (a_ (a_ tr tr) (a_ (a_ (a_ tr (lt_ 0 1 rfl)) tr) (a_ (a_ tr tr) (a_ (a_ tr tr) (a_ (a_ tr (a_ (leB cL0_2) tr)) (a_ tr (a_ tr (a_ tr (a_ tr (a_ tr (a_ tr (a_ tr (a_ tr (a_ tr (a_ tr (a_ (a_ tr tr) (a_ (a_ tr tr) (a_ (a_ tr tr) tr)))))))))))))))))))))) tr)) tr) (by kernel_rfl) rfl

theorem parrelref13_Table_place_ok (t : T_parrelref13_Table) (x_k : A8 (Int)) (r : (Int) × (Bool)) (h : parrelref13_Table_place t x_k = some r) : ∀ σ, Inj 1 σ → FnTri Tryd.prog 28 (renL σ [.ptr 0 0 0, .agg [.int .u8 x_k.a0, .int .u8 x_k.a1, .int .u8 x_k.a2, .int .u8 x_k.a3, .int .u8 x_k.a4, .int .u8 x_k.a5, .int .u8 x_k.a6, .int .u8 x_k.a7]]) (preOf σ 0 (parrelref13_Table_place_objs t x_k)) ((parrelref13_Table_place_v r).ren σ) (upOf σ (parrelref13_Table_place_up t x_k r)) := by
  refine fn_of Tryd.func28 (by kernel_rfl) (by kernel_rfl) (by kernel_rfl) ⟨rfl, trivial⟩ (by kernel_rfl) ⟨rfl, trivial⟩ (by kernel_rfl) ?_
  intro w0 W μ0 hμ
  unfold parrelref13_Table_place at h
  exact run_to mixed hμ (L := [1]) (n := 18) (s := [.reg [], .reg []])
    (a_ (a_ (a_ tr tr) (a_ (a_ tr tr) (a_ (a_ tr tr) tr))) (a_ (a_ (a_ tr tr) tr) tr)) (parrelref13_Table_place_l0_ok hμ t x_k  big _ r h) (by kernel_rfl) ⟨rfl, rfl, trivial⟩

/-- (*parrel/parrelref13.Table).Install -/

def parrelref13_Table_Install_v (r : (Int) × (List (T_api_Write))) : LV := .int .i64 r.1

def parrelref13_Table_Install_up (t : T_parrelref13_Table) (x_k : A8 (Int)) (x : T_api_Item) (r : (Int) × (List (T_api_Write))) : Upd := [(0, some (.var (c_T_parrelref13_Table (T_parrelref13_Table.mk r.2))))]

def parrelref13_Table_Install_objs (t : T_parrelref13_Table) (x_k : A8 (Int)) (x : T_api_Item) : List LO := [.var (c_T_parrelref13_Table t)]

def parrelref13_Table_Install (t : T_parrelref13_Table) (x_k : A8 (Int)) (x : T_api_Item) : Option ((Int) × (List (T_api_Write))) :=
  (parrelref10_KeyMay x_k).bind fun y2 =>
  if ((!y2) : Bool) then
    some (1, t.f_L)
  else
    (parrelref10_ItemMay x).bind fun y5 =>
    if ((!y5) : Bool) then
      some (1, t.f_L)
    else
      (parrelref13_Table_place t x_k).bind fun y8 =>
      if ((!y8.2) : Bool) then
        if ((decide (64 ≤ ((t.f_L).length : Int))) : Bool) then
          some (5, t.f_L)
        else
          if 0 ≤ (0 : Int) ∧ 0 ≤ y8.1 ∧ y8.1 ≤ (((t.f_L).length : Nat) : Int) then
          if (0 + ((t.f_L.take y8.1.toNat)).length) * 48 ≤ 140737488351232 then
          if (((t.f_L.take y8.1.toNat)).length + ([(T_api_Write.mk x_k x)]).length) * 48 ≤ 140737488351232 then
          if 0 ≤ y8.1 ∧ y8.1 ≤ (((t.f_L).length : Nat) : Int) ∧ (((t.f_L).length : Nat) : Int) ≤ (((t.f_L).length : Nat) : Int) then
          if ((((t.f_L.take y8.1.toNat) ++ [(T_api_Write.mk x_k x)])).length + ((t.f_L.drop y8.1.toNat)).length) * 48 ≤ 140737488351232 then
          some (0, (((t.f_L.take y8.1.toNat) ++ [(T_api_Write.mk x_k x)]) ++ (t.f_L.drop y8.1.toNat)))
          else none
          else none
          else none
          else none
          else none
      else
        if 0 ≤ y8.1 ∧ y8.1 < (((t.f_L).length : Nat) : Int) then
        if ((decide (x.f_Version < (t.f_L.getD y8.1.toNat default).f_Item.f_Version)) : Bool) then
          some (13, t.f_L)
        else
          if (((t.f_L.getD y8.1.toNat default).f_Item.f_Version == x.f_Version) : Bool) then
            if ((!decide ((t.f_L.getD y8.1.toNat default).f_Item = x)) : Bool) then
              some (7, t.f_L)
            else
              if (0 + (t.f_L).length) * 48 ≤ 140737488351232 then
              some (0, (t.f_L.set y8.1.toNat (T_api_Write.mk (t.f_L.getD y8.1.toNat default).f_Key x)))
              else none
          else
            if (0 + (t.f_L).length) * 48 ≤ 140737488351232 then
            some (0, (t.f_L.set y8.1.toNat (T_api_Write.mk (t.f_L.getD y8.1.toNat default).f_Key x)))
            else none
        else none

theorem parrelref13_Table_Install_ok (t : T_parrelref13_Table) (x_k : A8 (Int)) (x : T_api_Item) (r : (Int) × (List (T_api_Write))) (h : parrelref13_Table_Install t x_k x = some r) : ∀ σ, Inj 1 σ → FnTri Tryd.prog 13 (renL σ [.ptr 0 0 0, .agg [.int .u8 x_k.a0, .int .u8 x_k.a1, .int .u8 x_k.a2, .int .u8 x_k.a3, .int .u8 x_k.a4, .int .u8 x_k.a5, .int .u8 x_k.a6, .int .u8 x_k.a7], v_T_api_Item x]) (preOf σ 0 (parrelref13_Table_Install_objs t x_k x)) ((parrelref13_Table_Install_v r).ren σ) (upOf σ (parrelref13_Table_Install_up t x_k x r)) := by
  refine fn_of Tryd.func13 (by kernel_rfl) (by kernel_rfl) (by kernel_rfl) ⟨rfl, trivial⟩ (by kernel_rfl) ⟨rfl, trivial⟩ (by kernel_rfl) ?_
  intro w0 W μ0 hμ
  unfold parrelref13_Table_Install at h
  obtain ⟨y2, e1, h⟩ := bind_some h
  rcases itb_some h with ⟨c3, h⟩ | ⟨c3, h⟩
  · skip
    obtain rfl := Option.some.inj h
    exact run_ret mixed (L := []) (n := 20) (s := [.reg [], .reg [(1, { call := some (parrelref10_KeyMay_v y2, [], []) }), (3, { v := some (.bool true) })], .reg []])
      (a_ (a_ (a_ (a_ tr tr) (a_ (a_ tr tr) (a_ (a_ tr tr) tr))) (a_ (a_ (a_ (a_ tr (le_ 8 8 rfl)) tr) (a_ (a_ (a_ (parrelref10_KeyMay_tri x_k y2 e1) tr) tr) (a_ (a_ tr tr) (a_ (a_ tr (a_ (leB c3) tr)) (a_ tr (a_ tr (a_ tr (a_ (a_ tr tr) tr)))))))) (a_ (a_ (a_ tr tr) tr) tr))) tr) (by kernel_rfl) rfl
  · skip
    obtain ⟨y5, e4, h⟩ := bind_some h
    rcases itb_some h with ⟨c6, h⟩ | ⟨c6, h⟩
    · skip
      obtain rfl := Option.some.inj h
      exact run_ret mixed (L := []) (n := 20) (s := [.reg [], .reg [(1, { call := some (parrelref10_KeyMay_v y2, [], []) }), (3, { v := some (.bool false) }), (5, { call := some (parrelref10_ItemMay_v y5, [], []) }), (7, { v := some (.bool true) })], .reg []])
        (a_ (a_ (a_ (a_ tr tr) (a_ (a_ tr tr) (a_ (a_ tr tr) tr))) (a_ (a_ (a_ (a_ tr (le_ 8 8 rfl)) tr) (a_ (a_ (a_ (parrelref10_KeyMay_tri x_k y2 e1) tr) tr) (a_ (a_ tr tr) (a_ (a_ tr (a_ (leB c3) tr)) (a_ (a_ (a_ tr (le_ 13 13 rfl)) tr) (a_ (a_ (a_ (parrelref10_ItemMay_tri x y5 e4) tr) tr) (a_ (a_ tr tr) (a_ (a_ tr (a_ (leB c6) tr)) tr)))))))) (a_ (a_ (a_ tr tr) tr) tr))) tr) (by kernel_rfl) rfl
    · skip
      obtain ⟨y8, e7, h⟩ := bind_some h
      rcases itb_some h with ⟨c9, h⟩ | ⟨c9, h⟩
      · skip
        rcases itb_some h with ⟨c10, h⟩ | ⟨c10, h⟩
        · skip
          obtain rfl := Option.some.inj h
          exact run_ret mixed (L := []) (n := 34) (s := [.reg [], .reg [(1, { call := some (parrelref10_KeyMay_v y2, [], []) }), (3, { v := some (.bool false) }), (5, { call := some (parrelref10_ItemMay_v y5, [], []) }), (7, { v := some (.bool false) })], .reg [(2, { call := some ((parrelref13_Table_place_v y8).ren (sel [0]), preOf (sel [0]) 0 (parrelref13_Table_place_objs t x_k), upOf (sel [0]) (parrelref13_Table_place_up t x_k y8)) })], .reg [(1, { v := some (.bool true) })], .reg [(5, { v := some (.bool true) })], .reg []])
            (a_ (a_ (a_ (a_ tr tr) (a_ (a_ tr tr) (a_ (a_ tr tr) tr))) (a_ (a_ (a_ (a_ tr (le_ 8 8 rfl)) tr) (a_ (a_ (a_ (parrelref10_KeyMay_tri x_k y2 e1) tr) tr) (a_ (a_ tr tr) (a_ (a_ tr (a_ (leB c3) tr)) (a_ (a_ (a_ tr (le_ 13 13 rfl)) tr) (a_ (a_ (a_ (parrelref10_ItemMay_tri x y5 e4) tr) tr) (a_ (a_ tr tr) (a_ (a_ tr (a_ (leB c6) tr)) tr)))))))) (a_ (a_ (a_ tr tr) (a_ (a_ (a_ tr (le_ 8 8 rfl)) tr) (a_ (a_ (a_ (parrelref13_Table_place_ok t x_k y8 e7 (sel [0]) (sel_inj rfl rfl)) (a_ (LO.Le.refl (.var (c_T_parrelref13_Table t))) tr)) tr) (a_ (a_ tr tr) (a_ (a_ tr tr) (a_ (a_ tr tr) (a_ (a_ tr tr) (a_ (a_ tr tr) tr)))))))) (a_ (a_ (a_ tr tr) (a_ (a_ tr (a_ (leB c9) tr)) tr)) (a_ (a_ (a_ tr tr) (a_ (a_ tr tr) (a_ (a_ tr tr) (a_ (a_ (a_ tr (lt_ 0 1 rfl)) tr) (a_ (a_ tr tr) (a_ (a_ tr (a_ (leB c10) tr)) tr)))))) (a_ (a_ (a_ tr tr) tr) tr)))))) tr) (by kernel_rfl) rfl
        · skip
          obtain ⟨g11, h⟩ := guard_some h
          obtain ⟨g12, h⟩ := guard_some h
          obtain ⟨g13, h⟩ := guard_some h
          obtain ⟨g14, h⟩ := guard_some h
          obtain ⟨g15, h⟩ := guard_some h
          obtain rfl := Option.some.inj h
          exact run_ret mixed (L := []) (n := 39) (s := [.reg [], .reg [(1, { call := some (parrelref10_KeyMay_v y2, [], []) }), (3, { v := some (.bool false) }), (5, { call := some (parrelref10_ItemMay_v y5, [], []) }), (7, { v := some (.bool false) })], .reg [(2, { call := some ((parrelref13_Table_place_v y8).ren (sel [0]), preOf (sel [0]) 0 (parrelref13_Table_place_objs t x_k), upOf (sel [0]) (parrelref13_Table_place_up t x_k y8)) })], .reg [(1, { v := some (.bool true) })], .reg [(5, { v := some (.bool false) })], .reg [(6, { v := some (.ds 21 ((t.f_L.take y8.1.toNat)).length (rowF c_T_api_Write default (t.f_L.take y8.1.toNat))) }), (7, { app := 3 }), (11, { os := [(4, .gr 21 ([(T_api_Write.mk x_k x)]).length (rowF c_T_api_Write default [(T_api_Write.mk x_k x)]))], v := some (.gs 4 ([(T_api_Write.mk x_k x)]).length) }), (12, { app := 3, os := [(5, .gr 21 (((t.f_L.take y8.1.toNat) ++ [(T_api_Write.mk x_k x)])).length (rowF c_T_api_Write default ((t.f_L.take y8.1.toNat) ++ [(T_api_Write.mk x_k x)])))], v := some (.gs 5 (((t.f_L.take y8.1.toNat) ++ [(T_api_Write.mk x_k x)])).length) }), (18, { v := some (.ds 21 ((t.f_L.drop y8.1.toNat)).length (rowF c_T_api_Write default (t.f_L.drop y8.1.toNat))) }), (19, { app := 3, os := [(6, .gr 21 ((((t.f_L.take y8.1.toNat) ++ [(T_api_Write.mk x_k x)]) ++ (t.f_L.drop y8.1.toNat))).length (rowF c_T_api_Write default (((t.f_L.take y8.1.toNat) ++ [(T_api_Write.mk x_k x)]) ++ (t.f_L.drop y8.1.toNat))))], v := some (.gs 6 ((((t.f_L.take y8.1.toNat) ++ [(T_api_Write.mk x_k x)]) ++ (t.f_L.drop y8.1.toNat))).length) })], .reg [], .frz 6])
            (a_ (a_ (a_ (a_ tr tr) (a_ (a_ tr tr) (a_ (a_ tr tr) tr))) (a_ (a_ (a_ (a_ tr (le_ 8 8 rfl)) tr) (a_ (a_ (a_ (parrelref10_KeyMay_tri x_k y2 e1) tr) tr) (a_ (a_ tr tr) (a_ (a_ tr (a_ (leB c3) tr)) (a_ (a_ (a_ tr (le_ 13 13 rfl)) tr) (a_ (a_ (a_ (parrelref10_ItemMay_tri x y5 e4) tr) tr) (a_ (a_ tr tr) (a_ (a_ tr (a_ (leB c6) tr)) tr)))))))) (a_ (a_ (a_ tr tr) (a_ (a_ (a_ tr (le_ 8 8 rfl)) tr) (a_ (a_ (a_ (parrelref13_Table_place_ok t x_k y8 e7 (sel [0]) (sel_inj rfl rfl)) (a_ (LO.Le.refl (.var (c_T_parrelref13_Table t))) tr)) tr) (a_ (a_ tr tr) (a_ (a_ tr tr) (a_ (a_ tr tr) (a_ (a_ tr tr) (a_ (a_ tr tr) tr)))))))) (a_ (a_ (a_ tr tr) (a_ (a_ tr (a_ (leB c9) tr)) tr)) (a_ (a_ (a_ tr tr) (a_ (a_ tr tr) (a_ (a_ tr tr) (a_ (a_ (a_ tr (lt_ 0 1 rfl)) tr) (a_ (a_ tr tr) (a_ (a_ tr (a_ (leB c10) tr)) tr)))))) (a_ (a_ (a_ tr tr) (a_ (a_ tr tr) (a_ (a_ tr tr) (a_ (a_ tr tr) (a_ (a_ (a_ tr (lt_ 0 1 rfl)) tr) (a_ (a_ tr tr) (a_ (a_ (a_ (Eq.refl 21) g11) (a_ (le_take c_T_api_Write default 21 t.f_L y8.1.toNat (toN_le g11.2.2)) tr)) (a_ (a_ (a_ (Eq.refl 21) (a_ (lt_ 0 21 rfl) (a_ (lt_ 0 48 rfl) (a_ g12 (a_ (Eq.refl 21) (Eq.refl true)))))) tr) (a_ (a_ (a_ tr (le_ 8 8 rfl)) tr) (a_ (a_ (a_ tr (le_ 13 13 rfl)) tr) (a_ (a_ (Eq.refl true) tr) (a_ (a_ (a_ (Eq.refl true) (a_ (Eq.refl 21) (a_ (lt_ 0 21 rfl) (le_ 21 16777216 rfl)))) (a_ (le_sl_gs 4 1 (some 1) rfl) (a_ (sub_lit c_T_api_Write default 21 (fun _ => rfl) [(T_api_Write.mk x_k x)]) tr))) (a_ (a_ (a_ (a_ (Eq.refl 21) (Nat.le_refl ([(T_api_Write.mk x_k x)]).length)) (a_ (a_ (lt_ 0 21 rfl) (a_ (lt_ 0 48 rfl) (a_ g13 (a_ (Eq.refl 21) (Eq.refl true))))) (a_ (Eq.refl 21) (Nat.le_refl ((t.f_L.take y8.1.toNat)).length)))) (a_ (le_gs_app 5 (t.f_L.take y8.1.toNat) [(T_api_Write.mk x_k x)]) (a_ (sub_app c_T_api_Write default 21 (t.f_L.take y8.1.toNat) [(T_api_Write.mk x_k x)]) tr))) (a_ (a_ tr tr) (a_ (a_ tr tr) (a_ (a_ tr tr) (a_ (a_ (a_ tr (lt_ 0 1 rfl)) tr) (a_ (a_ tr tr) (a_ (a_ (a_ (Eq.refl 21) g14) (a_ (le_drop c_T_api_Write default 21 t.f_L y8.1.toNat (toN_le g14.2.1)) tr)) (a_ (a_ (a_ (Eq.refl 21) (a_ (a_ (lt_ 0 21 rfl) (a_ (lt_ 0 48 rfl) (a_ g15 (a_ (Eq.refl 21) (Eq.refl true))))) (a_ (Eq.refl 21) (Nat.le_refl (((t.f_L.take y8.1.toNat) ++ [(T_api_Write.mk x_k x)])).length)))) (a_ (le_gs_app 6 ((t.f_L.take y8.1.toNat) ++ [(T_api_Write.mk x_k x)]) (t.f_L.drop y8.1.toNat)) (a_ (sub_app c_T_api_Write default 21 ((t.f_L.take y8.1.toNat) ++ [(T_api_Write.mk x_k x)]) (t.f_L.drop y8.1.toNat)) tr))) (a_ (a_ tr tr) (a_ (a_ tr tr) (a_ (a_ (a_ (Eq.refl 1) (a_ (le_ 1 1 rfl) (Eq.refl 0))) tr) tr))))))))))))))))))))))) (a_ (a_ (a_ tr tr) tr) (a_ (a_ (fz_row (enc := c_T_api_Write) (d := default) (fun _ => rfl) (((t.f_L.take y8.1.toNat) ++ [(T_api_Write.mk x_k x)]) ++ (t.f_L.drop y8.1.toNat))) (a_ (Nat.le_refl ((((t.f_L.take y8.1.toNat) ++ [(T_api_Write.mk x_k x)]) ++ (t.f_L.drop y8.1.toNat))).length) (a_ (Nat.le_refl ((((t.f_L.take y8.1.toNat) ++ [(T_api_Write.mk x_k x)]) ++ (t.f_L.drop y8.1.toNat))).length) tr))) tr)))))))) tr) (by kernel_rfl) rfl
      · skip
        obtain ⟨g10, h⟩ := guard_some h
        rcases itb_some h with ⟨c11, h⟩ | ⟨c11, h⟩
        · skip
          obtain rfl := Option.some.inj h
          exact run_ret mixed (L := []) (n := 39) (s := [.reg [], .reg [(1, { call := some (parrelref10_KeyMay_v y2, [], []) }), (3, { v := some (.bool false) }), (5, { call := some (parrelref10_ItemMay_v y5, [], []) }), (7, { v := some (.bool false) })], .reg [(2, { call := some ((parrelref13_Table_place_v y8).ren (sel [0]), preOf (sel [0]) 0 (parrelref13_Table_place_objs t x_k), upOf (sel [0]) (parrelref13_Table_place_up t x_k y8)) })], .reg [(1, { v := some (.bool false) })], .reg [], .reg [(5, { v := some (.bool true) })], .reg []])
            (a_ (a_ (a_ (a_ tr tr) (a_ (a_ tr tr) (a_ (a_ tr tr) tr))) (a_ (a_ (a_ (a_ tr (le_ 8 8 rfl)) tr) (a_ (a_ (a_ (parrelref10_KeyMay_tri x_k y2 e1) tr) tr) (a_ (a_ tr tr) (a_ (a_ tr (a_ (leB c3) tr)) (a_ (a_ (a_ tr (le_ 13 13 rfl)) tr) (a_ (a_ (a_ (parrelref10_ItemMay_tri x y5 e4) tr) tr) (a_ (a_ tr tr) (a_ (a_ tr (a_ (leB c6) tr)) tr)))))))) (a_ (a_ (a_ tr tr) (a_ (a_ (a_ tr (le_ 8 8 rfl)) tr) (a_ (a_ (a_ (parrelref13_Table_place_ok t x_k y8 e7 (sel [0]) (sel_inj rfl rfl)) (a_ (LO.Le.refl (.var (c_T_parrelref13_Table t))) tr)) tr) (a_ (a_ tr tr) (a_ (a_ tr tr) (a_ (a_ tr tr) (a_ (a_ tr tr) (a_ (a_ tr tr) tr)))))))) (a_ (a_ (a_ tr tr) (a_ (a_ tr (a_ (leB c9) tr)) tr)) (a_ (a_ (a_ tr tr) (a_ (a_ tr tr) (a_ (a_ tr tr) (a_ (a_ (a_ tr (lt_ 0 1 rfl)) tr) (a_ (a_ tr tr) (a_ (a_ (a_ (Eq.refl 21) g10) tr) (a_ (a_ tr tr) (a_ (a_ (le_ 13 13 rfl) tr) (a_ (a_ tr tr) (a_ (a_ (a_ (Eq.refl 13) (a_ (le_ 13 13 rfl) (Eq.refl 0))) tr) tr)))))))))) (a_ (a_ (a_ tr tr) (a_ (a_ (a_ tr (lt_ 0 13 rfl)) tr) (a_ (a_ tr tr) (a_ (a_ (a_ tr (lt_ 0 13 rfl)) tr) (a_ (a_ tr tr) (a_ (a_ tr (a_ (leB c11) tr)) tr)))))) (a_ (a_ (a_ tr tr) tr) tr))))))) tr) (by kernel_rfl) rfl
        · skip
          rcases itb_some h with ⟨c12, h⟩ | ⟨c12, h⟩
          · skip
            rcases itb_some h with ⟨c13, h⟩ | ⟨c13, h⟩
            · skip
              obtain rfl := Option.some.inj h
              exact run_ret mixed (L := []) (n := 43) (s := [.reg [], .reg [(1, { call := some (parrelref10_KeyMay_v y2, [], []) }), (3, { v := some (.bool false) }), (5, { call := some (parrelref10_ItemMay_v y5, [], []) }), (7, { v := some (.bool false) })], .reg [(2, { call := some ((parrelref13_Table_place_v y8).ren (sel [0]), preOf (sel [0]) 0 (parrelref13_Table_place_objs t x_k), upOf (sel [0]) (parrelref13_Table_place_up t x_k y8)) })], .reg [(1, { v := some (.bool false) })], .reg [], .reg [(5, { v := some (.bool false) })], .reg [(5, { v := some (.bool true) }), (8, { v := some (.bool (!decide ((t.f_L.getD y8.1.toNat default).f_Item = x))) }), (10, { v := some (.bool true) })], .reg []])
                (a_ (a_ (a_ (a_ tr tr) (a_ (a_ tr tr) (a_ (a_ tr tr) tr))) (a_ (a_ (a_ (a_ tr (le_ 8 8 rfl)) tr) (a_ (a_ (a_ (parrelref10_KeyMay_tri x_k y2 e1) tr) tr) (a_ (a_ tr tr) (a_ (a_ tr (a_ (leB c3) tr)) (a_ (a_ (a_ tr (le_ 13 13 rfl)) tr) (a_ (a_ (a_ (parrelref10_ItemMay_tri x y5 e4) tr) tr) (a_ (a_ tr tr) (a_ (a_ tr (a_ (leB c6) tr)) tr)))))))) (a_ (a_ (a_ tr tr) (a_ (a_ (a_ tr (le_ 8 8 rfl)) tr) (a_ (a_ (a_ (parrelref13_Table_place_ok t x_k y8 e7 (sel [0]) (sel_inj rfl rfl)) (a_ (LO.Le.refl (.var (c_T_parrelref13_Table t))) tr)) tr) (a_ (a_ tr tr) (a_ (a_ tr tr) (a_ (a_ tr tr) (a_ (a_ tr tr) (a_ (a_ tr tr) tr)))))))) (a_ (a_ (a_ tr tr) (a_ (a_ tr (a_ (leB c9) tr)) tr)) (a_ (a_ (a_ tr tr) (a_ (a_ tr tr) (a_ (a_ tr tr) (a_ (a_ (a_ tr (lt_ 0 1 rfl)) tr) (a_ (a_ tr tr) (a_ (a_ (a_ (Eq.refl 21) g10) tr) (a_ (a_ tr tr) (a_ (a_ (le_ 13 13 rfl) tr) (a_ (a_ tr tr) (a_ (a_ (a_ (Eq.refl 13) (a_ (le_ 13 13 rfl) (Eq.refl 0))) tr) tr)))))))))) (a_ (a_ (a_ tr tr) (a_ (a_ (a_ tr (lt_ 0 13 rfl)) tr) (a_ (a_ tr tr) (a_ (a_ (a_ tr (lt_ 0 13 rfl)) tr) (a_ (a_ tr tr) (a_ (a_ tr (a_ (leB c11) tr)) tr)))))) (a_ (a_ (a_ tr tr) (a_ (a_ (a_ tr (lt_ 0 13 rfl)) tr) (a_ (a_ tr tr) (a_ (a_ (a_ tr (lt_ 0 13 rfl)) tr) (a_ (a_ tr tr) (a_ (a_ tr (a_ (leB c12) tr)) (a_ (a_ (a_ tr (le_ 13 13 rfl)) tr) (a_ (a_ (a_ tr (le_ 13 13 rfl)) tr) (a_ (a_ tr (a_ (leB (congrArg not (k_T_api_Item (t.f_L.getD y8.1.toNat default).f_Item x))) tr)) (a_ (a_ tr tr) (a_ (a_ tr (a_ (leB c13) tr)) tr))))))))))) (a_ (a_ (a_ tr tr) tr) tr)))))))) tr) (by kernel_rfl) rfl
            · skip
              obtain ⟨g14, h⟩ := guard_some h
              obtain rfl := Option.some.inj h
              exact run_ret mixed (L := []) (n := 56) (s := [.reg [], .reg [(1, { call := some (parrelref10_KeyMay_v y2, [], []) }), (3, { v := some (.bool false) }), (5, { call := some (parrelref10_ItemMay_v y5, [], []) }), (7, { v := some (.bool false) })], .reg [(2, { call := some ((parrelref13_Table_place_v y8).ren (sel [0]), preOf (sel [0]) 0 (parrelref13_Table_place_objs t x_k), upOf (sel [0]) (parrelref13_Table_place_up t x_k y8)) })], .reg [(1, { v := some (.bool false) })], .reg [], .reg [(5, { v := some (.bool false) })], .reg [(5, { v := some (.bool true) }), (8, { v := some (.bool (!decide ((t.f_L.getD y8.1.toNat default).f_Item = x))) }), (10, { v := some (.bool false) })], .reg [(4, { app := 3 })], .reg [(5, { os := [(4, .gr 21 ((t.f_L.set y8.1.toNat (T_api_Write.mk (t.f_L.getD y8.1.toNat default).f_Key x))).length (rowF c_T_api_Write default (t.f_L.set y8.1.toNat (T_api_Write.mk (t.f_L.getD y8.1.toNat default).f_Key x))))] })], .reg [], .reg [], .wk [(10, .gs 4 ((t.f_L.set y8.1.toNat (T_api_Write.mk (t.f_L.getD y8.1.toNat default).f_Key x))).length), (84, .gs 4 ((t.f_L.set y8.1.toNat (T_api_Write.mk (t.f_L.getD y8.1.toNat default).f_Key x))).length), (85, .gs 4 ((t.f_L.set y8.1.toNat (T_api_Write.mk (t.f_L.getD y8.1.toNat default).f_Key x))).length), (91, .gs 4 ((t.f_L.set y8.1.toNat (T_api_Write.mk (t.f_L.getD y8.1.toNat default).f_Key x))).length)] [(0, .var [.gs 4 ((t.f_L.set y8.1.toNat (T_api_Write.mk (t.f_L.getD y8.1.toNat default).f_Key x))).length])], .frz 4])
                (a_ (a_ (a_ (a_ tr tr) (a_ (a_ tr tr) (a_ (a_ tr tr) tr))) (a_ (a_ (a_ (a_ tr (le_ 8 8 rfl)) tr) (a_ (a_ (a_ (parrelref10_KeyMay_tri x_k y2 e1) tr) tr) (a_ (a_ tr tr) (a_ (a_ tr (a_ (leB c3) tr)) (a_ (a_ (a_ tr (le_ 13 13 rfl)) tr) (a_ (a_ (a_ (parrelref10_ItemMay_tri x y5 e4) tr) tr) (a_ (a_ tr tr) (a_ (a_ tr (a_ (leB c6) tr)) tr)))))))) (a_ (a_ (a_ tr tr) (a_ (a_ (a_ tr (le_ 8 8 rfl)) tr) (a_ (a_ (a_ (parrelref13_Table_place_ok t x_k y8 e7 (sel [0]) (sel_inj rfl rfl)) (a_ (LO.Le.refl (.var (c_T_parrelref13_Table t))) tr)) tr) (a_ (a_ tr tr) (a_ (a_ tr tr) (a_ (a_ tr tr) (a_ (a_ tr tr) (a_ (a_ tr tr) tr)))))))) (a_ (a_ (a_ tr tr) (a_ (a_ tr (a_ (leB c9) tr)) tr)) (a_ (a_ (a_ tr tr) (a_ (a_ tr tr) (a_ (a_ tr tr) (a_ (a_ (a_ tr (lt_ 0 1 rfl)) tr) (a_ (a_ tr tr) (a_ (a_ (a_ (Eq.refl 21) g10) tr) (a_ (a_ tr tr) (a_ (a_ (le_ 13 13 rfl) tr) (a_ (a_ tr tr) (a_ (a_ (a_ (Eq.refl 13) (a_ (le_ 13 13 rfl) (Eq.refl 0))) tr) tr)))))))))) (a_ (a_ (a_ tr tr) (a_ (a_ (a_ tr (lt_ 0 13 rfl)) tr) (a_ (a_ tr tr) (a_ (a_ (a_ tr (lt_ 0 13 rfl)) tr) (a_ (a_ tr tr) (a_ (a_ tr (a_ (leB c11) tr)) tr)))))) (a_ (a_ (a_ tr tr) (a_ (a_ (a_ tr (lt_ 0 13 rfl)) tr) (a_ (a_ tr tr) (a_ (a_ (a_ tr (lt_ 0 13 rfl)) tr) (a_ (a_ tr tr) (a_ (a_ tr (a_ (leB c12) tr)) (a_ (a_ (a_ tr (le_ 13 13 rfl)) tr) (a_ (a_ (a_ tr (le_ 13 13 rfl)) tr) (a_ (a_ tr (a_ (leB (congrArg not (k_T_api_Item (t.f_L.getD y8.1.toNat default).f_Item x))) tr)) (a_ (a_ tr tr) (a_ (a_ tr (a_ (leB c13) tr)) tr))))))))))) (a_ (a_ (a_ tr tr) (a_ (a_ tr tr) (a_ (a_ tr tr) (a_ (a_ (a_ tr (lt_ 0 1 rfl)) tr) (a_ (a_ (a_ (Eq.refl 21) (a_ (lt_ 0 21 rfl) (a_ (lt_ 0 48 rfl) (a_ g14 (a_ (Eq.refl 21) (Eq.refl true)))))) tr) (a_ (a_ tr tr) tr)))))) (a_ (a_ (a_ tr tr) (a_ (a_ tr tr) (a_ (a_ (a_ tr (le_ 13 13 rfl)) tr) (a_ (a_ (a_ (Eq.refl 21) g10) tr) (a_ (a_ tr tr) (a_ (a_ (a_ (Eq.refl 13) (a_ (le_ 21 21 rfl) (ltN g10))) (a_ (sub_set_gr c_T_api_Write default 21 t.f_L y8.1.toNat (T_api_Write.mk (t.f_L.getD y8.1.toNat default).f_Key x) (ltN g10) (splL (rowF c_T_api_Write default t.f_L y8.1.toNat) 8 [.int .u32 x.f_Version, .str x.f_Value, .int .u32 x.f_Conf.f_Epoch, .int .u8 x.f_Conf.f_R, .int .u8 x.f_Conf.f_W, .int .u8 x.f_Conf.f_Votes.a0, .int .u8 x.f_Conf.f_Votes.a1, .int .u8 x.f_Conf.f_Votes.a2, .int .u8 x.f_Conf.f_Votes.a3, .int .u8 x.f_Conf.f_Votes.a4, .int .u8 x.f_Conf.f_Votes.a5, .int .u8 x.f_Conf.f_Votes.a6, .int .u8 x.f_Conf.f_Votes.a7]) (by kernel_rfl)) tr)) tr)))))) (a_ (a_ (a_ tr tr) (a_ (a_ tr tr) (a_ (a_ tr tr) (a_ (a_ tr tr) (a_ (a_ (a_ (Eq.refl 1) (a_ (le_ 1 1 rfl) (Eq.refl 0))) tr) tr))))) (a_ (a_ (a_ tr tr) tr) (a_ (a_ (a_ (le_gs 4 (show (t.f_L).length = ((t.f_L.set y8.1.toNat (T_api_Write.mk (t.f_L.getD y8.1.toNat default).f_Key x))).length from by simp)) (a_ (le_gs 4 (show (t.f_L).length = ((t.f_L.set y8.1.toNat (T_api_Write.mk (t.f_L.getD y8.1.toNat default).f_Key x))).length from by simp)) (a_ (le_gs 4 (show (t.f_L).length = ((t.f_L.set y8.1.toNat (T_api_Write.mk (t.f_L.getD y8.1.toNat default).f_Key x))).length from by simp)) (a_ (le_gs 4 (show (t.f_L).length = ((t.f_L.set y8.1.toNat (T_api_Write.mk (t.f_L.getD y8.1.toNat default).f_Key x))).length from by simp)) tr)))) (a_ (LO.Sub.var (a := [.gs 4 (t.f_L).length]) (b := [.gs 4 ((t.f_L.set y8.1.toNat (T_api_Write.mk (t.f_L.getD y8.1.toNat default).f_Key x))).length]) (a_ (le_gs 4 (show (t.f_L).length = ((t.f_L.set y8.1.toNat (T_api_Write.mk (t.f_L.getD y8.1.toNat default).f_Key x))).length from by simp)) tr)) tr)) (a_ (a_ (fz_row (enc := c_T_api_Write) (d := default) (fun _ => rfl) (t.f_L.set y8.1.toNat (T_api_Write.mk (t.f_L.getD y8.1.toNat default).f_Key x))) (a_ (Nat.le_refl ((t.f_L.set y8.1.toNat (T_api_Write.mk (t.f_L.getD y8.1.toNat default).f_Key x))).length) (a_ (Nat.le_refl ((t.f_L.set y8.1.toNat (T_api_Write.mk (t.f_L.getD y8.1.toNat default).f_Key x))).length) (a_ (Nat.le_refl ((t.f_L.set y8.1.toNat (T_api_Write.mk (t.f_L.getD y8.1.toNat default).f_Key x))).length) (a_ (Nat.le_refl ((t.f_L.set y8.1.toNat (T_api_Write.mk (t.f_L.getD y8.1.toNat default).f_Key x))).length) (a_ (Nat.le_refl ((t.f_L.set y8.1.toNat (T_api_Write.mk (t.f_L.getD y8.1.toNat default).f_Key x))).length) tr)))))) tr))))))))))))) tr) (by kernel_rfl) rfl
          · skip
            obtain ⟨g13, h⟩ := guard_some h
            obtain rfl := Option.some.inj h
            exact run_ret mixed (L := []) (n := 56) (s := [.reg [], .reg [(1, { call := some (parrelref10_KeyMay_v y2, [], []) }), (3, { v := some (.bool false) }), (5, { call := some (parrelref10_ItemMay_v y5, [], []) }), (7, { v := some (.bool false) })], .reg [(2, { call := some ((parrelref13_Table_place_v y8).ren (sel [0]), preOf (sel [0]) 0 (parrelref13_Table_place_objs t x_k), upOf (sel [0]) (parrelref13_Table_place_up t x_k y8)) })], .reg [(1, { v := some (.bool false) })], .reg [], .reg [(5, { v := some (.bool false) })], .reg [(5, { v := some (.bool false) })], .reg [(4, { app := 3 })], .reg [(5, { os := [(4, .gr 21 ((t.f_L.set y8.1.toNat (T_api_Write.mk (t.f_L.getD y8.1.toNat default).f_Key x))).length (rowF c_T_api_Write default (t.f_L.set y8.1.toNat (T_api_Write.mk (t.f_L.getD y8.1.toNat default).f_Key x))))] })], .reg [], .reg [], .wk [(10, .gs 4 ((t.f_L.set y8.1.toNat (T_api_Write.mk (t.f_L.getD y8.1.toNat default).f_Key x))).length), (84, .gs 4 ((t.f_L.set y8.1.toNat (T_api_Write.mk (t.f_L.getD y8.1.toNat default).f_Key x))).length), (85, .gs 4 ((t.f_L.set y8.1.toNat (T_api_Write.mk (t.f_L.getD y8.1.toNat default).f_Key x))).length), (91, .gs 4 ((t.f_L.set y8.1.toNat (T_api_Write.mk (t.f_L.getD y8.1.toNat default).f_Key x))).length)] [(0, .var [.gs 4 ((t.f_L.set y8.1.toNat (T_api_Write.mk (t.f_L.getD y8.1.toNat default).f_Key x))).length])], .frz 4])
              (a_ (a_ (a_ (a_ tr tr) (a_ (a_ tr tr) (a_ (a_ tr tr) tr))) (a_ (a_ (a_ (a_ tr (le_ 8 8 rfl)) tr) (a_ (a_ (a_ (parrelref10_KeyMay_tri x_k y2 e1) tr) tr) (a_ (a_ tr tr) (a_ (a_ tr (a_ (leB c3) tr)) (a_ (a_ (a_ tr (le_ 13 13 rfl)) tr) (a_ (a_ (a_ (parrelref10_ItemMay_tri x y5 e4) tr) tr) (a_ (a_ tr tr) (a_ (a_ tr (a_ (leB c6) tr)) tr)))))))) (a_ (a_ (a_ tr tr) (a_ (a_ (a_ tr (le_ 8 8 rfl)) tr) (a_ (a_ (a_ (parrelref13_Table_place_ok t x_k y8 e7 (sel [0]) (sel_inj rfl rfl)) (a_ (LO.Le.refl (.var (c_T_parrelref13_Table t))) tr)) tr) (a_ (a_ tr tr) (a_ (a_ tr tr) (a_ (a_ tr tr) (a_ (a_ tr tr) (a_ (a_ tr tr) tr)))))))) (a_ (a_ (a_ tr tr) (a_ (a_ tr (a_ (leB c9) tr)) tr)) (a_ (a_ (a_ tr tr) (a_ (a_ tr tr) (a_ (a_ tr tr) (a_ (a_ (a_ tr (lt_ 0 1 rfl)) tr) (a_ (a_ tr tr) (a_ (a_ (a_ (Eq.refl 21) g10) tr) (a_ (a_ tr tr) (a_ (a_ (le_ 13 13 rfl) tr) (a_ (a_ tr tr) (a_ (a_ (a_ (Eq.refl 13) (a_ (le_ 13 13 rfl) (Eq.refl 0))) tr) tr)))))))))) (a_ (a_ (a_ tr tr) (a_ (a_ (a_ tr (lt_ 0 13 rfl)) tr) (a_ (a_ tr tr) (a_ (a_ (a_ tr (lt_ 0 13 rfl)) tr) (a_ (a_ tr tr) (a_ (a_ tr (a_ (leB c11) tr)) tr)))))) (a_ (a_ (a_ tr tr) (a_ (a_ (a_ tr (lt_ 0 13 rfl)) tr) (a_ (a_ tr tr) (a_ (a_ (a_ tr (lt_ 0 13 rfl)) tr) (a_ (a_ tr tr) (a_ (a_ tr (a_ (leB c12) tr)) (a_ tr (a_ tr (a_ tr (a_ (a_ tr tr) (a_ (a_ tr tr) tr))))))))))) (a_ (a_ (a_ tr tr) (a_ (a_ tr tr) (a_ (a_ tr tr) (a_ (a_ (a_ tr (lt_ 0 1 rfl)) tr) (a_ (a_ (a_ (Eq.refl 21) (a_ (lt_ 0 21 rfl) (a_ (lt_ 0 48 rfl) (a_ g13 (a_ (Eq.refl 21) (Eq.refl true)))))) tr) (a_ (a_ tr tr) tr)))))) (a_ (a_ (a_ tr tr) (a_ (a_ tr tr) (a_ (a_ (a_ tr (le_ 13 13 rfl)) tr) (a_ (a_ (a_ (Eq.refl 21) g10) tr) (a_ (a_ tr tr) (a_ (a_ (a_ (Eq.refl 13) (a_ (le_ 21 21 rfl) (ltN g10))) (a_ (sub_set_gr c_T_api_Write default 21 t.f_L y8.1.toNat (T_api_Write.mk (t.f_L.getD y8.1.toNat default).f_Key x) (ltN g10) (splL (rowF c_T_api_Write default t.f_L y8.1.toNat) 8 [.int .u32 x.f_Version, .str x.f_Value, .int .u32 x.f_Conf.f_Epoch, .int .u8 x.f_Conf.f_R, .int .u8 x.f_Conf.f_W, .int .u8 x.f_Conf.f_Votes.a0, .int .u8 x.f_Conf.f_Votes.a1, .int .u8 x.f_Conf.f_Votes.a2, .int .u8 x.f_Conf.f_Votes.a3, .int .u8 x.f_Conf.f_Votes.a4, .int .u8 x.f_Conf.f_Votes.a5, .int .u8 x.f_Conf.f_Votes.a6, .int .u8 x.f_Conf.f_Votes.a7]) (by kernel_rfl)) tr)) tr)))))) (a_ (a_ (a_ tr tr) (a_ (a_ tr tr) (a_ (a_ tr tr) (a_ (a_ tr tr) (a_ (a_ (a_ (Eq.refl 1) (a_ (le_ 1 1 rfl) (Eq.refl 0))) tr) tr))))) (a_ (a_ (a_ tr tr) tr) (a_ (a_ (a_ (le_gs 4 (show (t.f_L).length = ((t.f_L.set y8.1.toNat (T_api_Write.mk (t.f_L.getD y8.1.toNat default).f_Key x))).length from by simp)) (a_ (le_gs 4 (show (t.f_L).length = ((t.f_L.set y8.1.toNat (T_api_Write.mk (t.f_L.getD y8.1.toNat default).f_Key x))).length from by simp)) (a_ (le_gs 4 (show (t.f_L).length = ((t.f_L.set y8.1.toNat (T_api_Write.mk (t.f_L.getD y8.1.toNat default).f_Key x))).length from by simp)) (a_ (le_gs 4 (show (t.f_L).length = ((t.f_L.set y8.1.toNat (T_api_Write.mk (t.f_L.getD y8.1.toNat default).f_Key x))).length from by simp)) tr)))) (a_ (LO.Sub.var (a := [.gs 4 (t.f_L).length]) (b := [.gs 4 ((t.f_L.set y8.1.toNat (T_api_Write.mk (t.f_L.getD y8.1.toNat default).f_Key x))).length]) (a_ (le_gs 4 (show (t.f_L).length = ((t.f_L.set y8.1.toNat (T_api_Write.mk (t.f_L.getD y8.1.toNat default).f_Key x))).length from by simp)) tr)) tr)) (a_ (a_ (fz_row (enc := c_T_api_Write) (d := default) (fun _ => rfl) (t.f_L.set y8.1.toNat (T_api_Write.mk (t.f_L.getD y8.1.toNat default).f_Key x))) (a_ (Nat.le_refl ((t.f_L.set y8.1.toNat (T_api_Write.mk (t.f_L.getD y8.1.toNat default).f_Key x))).length) (a_ (Nat.le_refl ((t.f_L.set y8.1.toNat (T_api_Write.mk (t.f_L.getD y8.1.toNat default).f_Key x))).length) (a_ (Nat.le_refl ((t.f_L.set y8.1.toNat (T_api_Write.mk (t.f_L.getD y8.1.toNat default).f_Key x))).length) (a_ (Nat.le_refl ((t.f_L.set y8.1.toNat (T_api_Write.mk (t.f_L.getD y8.1.toNat default).f_Key x))).length) (a_ (Nat.le_refl ((t.f_L.set y8.1.toNat (T_api_Write.mk (t.f_L.getD y8.1.toNat default).f_Key x))).length) tr)))))) tr))))))))))))) tr) (by kernel_rfl) rfl

/-- parrel/parrelref10.SameWrites -/

def parrelref10_SameWrites_v (r : (Bool)) : LV := .bool r

def parrelref10_SameWrites_T0 (a : List (T_api_Write)) (b : List (T_api_Write)) (i : Int) : List LV := [.ds 21 (a).length (rowF c_T_api_Write default a), .ds 21 (b).length (rowF c_T_api_Write default b), .any, .any, .any, .int .i64 i, .any, .any, .any, .any, .any, .any, .any, .any, .any, .any, .any, .any, .any, .any, .any, .any, .any, .any, .any, .any]

def parrelref10_SameWrites_H0 (a : List (T_api_Write)) (b : List (T_api_Write)) (i : Int) : Heap := []

def parrelref10_SameWrites_l0 (a : List (T_api_Write)) (b : List (T_api_Write))  : Nat → (Int) → Option ((Bool))
  | 0, _ => none
  | fuel + 1, i =>
    if ((decide (i < ((a).length : Int))) : Bool) then
      if 0 ≤ i ∧ i < (((a).length : Nat) : Int) then
      if 0 ≤ i ∧ i < (((b).length : Nat) : Int) then
      if ((!decide ((a.getD i.toNat default) = (b.getD i.toNat default))) : Bool) then
        some false
      else
        parrelref10_SameWrites_l0 a b  fuel (IntKind.wrap .i64 (i + 1))
      else none
      else none
    else
      some true

def parrelref10_SameWrites (a : List (T_api_Write)) (b : List (T_api_Write)) : Option ((Bool)) :=
  if ((((a).length : Int) != ((b).length : Int)) : Bool) then
    some false
  else
    parrelref10_SameWrites_l0 a b  big 0

theorem parrelref10_SameWrites_l0_ok {w0 : World} {W : Nat → Prop} {μ0 : Emb} (hμ : ∀ c p, μ0 c = some p → c < 0) (a : List (T_api_Write)) (b : List (T_api_Write))  : ∀ (fuel : Nat) (i : Int) (r : (Bool)), parrelref10_SameWrites_l0 a b  fuel i = some r → kont Tryd.prog w0 W μ0 (FnPost Tryd.prog Tryd.f14 0 0 (parrelref10_SameWrites_v r) []) (kAt (bodyOf Tryd.f14) 0) none (parrelref10_SameWrites_T0 a b i) (parrelref10_SameWrites_H0 a b i) := by
  intro fuel
  induction fuel with
  | zero => intro i r h; rw [parrelref10_SameWrites_l0] at h; cases h
  | succ fuel ih =>
    intro i r h
    rw [parrelref10_SameWrites_l0] at h
    rcases itb_some h with ⟨cL0_1, h⟩ | ⟨cL0_1, h⟩
    · skip
      obtain ⟨gL0_2, h⟩ := guard_some h
      obtain ⟨gL0_3, h⟩ := guard_some h
      rcases itb_some h with ⟨cL0_4, h⟩ | ⟨cL0_4, h⟩
      · skip
        obtain rfl := Option.some.inj h
        exact run_ret mixed (L := []) (n := 25) (s := [.go, .reg [(3, { v := some (.bool true) })], .reg [(8, { v := some (.bool true) })], .reg []])
          (a_ (a_ (a_ (a_ tr tr) (a_ (a_ tr tr) (a_ (a_ tr tr) (a_ (a_ tr (a_ (leB cL0_1) tr)) tr)))) (a_ (a_ (a_ tr tr) (a_ (a_ tr tr) (a_ (a_ (a_ (Eq.refl 21) gL0_2) tr) (a_ (a_ (le_ 21 21 rfl) tr) (a_ (a_ tr tr) (a_ (a_ tr tr) (a_ (a_ (a_ (Eq.refl 21) gL0_3) tr) (a_ (a_ (le_ 21 21 rfl) tr) (a_ (a_ tr (a_ (LV.Le.trans (leB (congrArg not (k_T_api_Write (a.getD i.toNat default) (b.getD i.toNat default)))) (leB cL0_4)) tr)) tr))))))))) (a_ (a_ (a_ tr tr) tr) tr))) tr) (by kernel_rfl) rfl
      · skip
        exact run_to mixed hμ (L := []) (n := 26) (s := [.go, .reg [(3, { v := some (.bool true) })], .reg [(8, { v := some (.bool false) })], .reg []])
          (a_ (a_ (a_ tr tr) (a_ (a_ tr tr) (a_ (a_ tr tr) (a_ (a_ tr (a_ (leB cL0_1) tr)) tr)))) (a_ (a_ (a_ tr tr) (a_ (a_ tr tr) (a_ (a_ (a_ (Eq.refl 21) gL0_2) tr) (a_ (a_ (le_ 21 21 rfl) tr) (a_ (a_ tr tr) (a_ (a_ tr tr) (a_ (a_ (a_ (Eq.refl 21) gL0_3) tr) (a_ (a_ (le_ 21 21 rfl) tr) (a_ (a_ tr (a_ (LV.Le.trans (leB (congrArg not (k_T_api_Write (a.getD i.toNat default) (b.getD i.toNat default)))) (leB cL0_4)) tr)) tr))))))))) (a_ (a_ (a_ tr tr) (a_ (a_ tr tr) (a_ (a_ tr tr) tr))) tr))) (ih _ r h) (by kernel_rfl) trivial
    · skip
      obtain rfl := Option.some.inj h
      exact run_ret mixed (L := []) (n := 19) (s := [.go, .reg [(3, { v := some (.bool false) })], .reg []])
        (a_ (a_ (a_ (a_ tr tr) (a_ (a_ tr tr) (a_ (a_ tr tr) (a_ (a_ tr (a_ (leB cL0_1) tr)) tr)))) (a_ (a_ (a_ tr tr) tr) tr)) tr) (by kernel_rfl) rfl

theorem parrelref10_SameWrites_ok (a : List (T_api_Write)) (b : List (T_api_Write)) (r : (Bool)) (h : parrelref10_SameWrites a b = some r) : ∀ σ, Inj 0 σ → FnTri Tryd.prog 14 (renL σ [.ds 21 (a).length (rowF c_T_api_Write default a), .ds 21 (b).length (rowF c_T_api_Write default b)]) (preOf σ 0 []) ((parrelref10_SameWrites_v r).ren σ) (upOf σ []) := by
  refine fn_of Tryd.func14 (by kernel_rfl) (by kernel_rfl) (by kernel_rfl) trivial (by kernel_rfl) trivial (by kernel_rfl) ?_
  intro w0 W μ0 hμ
  unfold parrelref10_SameWrites at h
  rcases itb_some h with ⟨c1, h⟩ | ⟨c1, h⟩
  · skip
    obtain rfl := Option.some.inj h
    exact run_ret mixed (L := []) (n := 20) (s := [.reg [], .reg [(4, { v := some (.bool true) })], .reg []])
      (a_ (a_ (a_ (a_ tr tr) tr) (a_ (a_ (a_ tr tr) (a_ (a_ tr tr) (a_ (a_ tr tr) (a_ (a_ tr tr) (a_ (a_ tr (a_ (leB c1) tr)) tr))))) (a_ (a_ (a_ tr tr) tr) tr))) tr) (by kernel_rfl) rfl
  · skip
    exact run_to mixed hμ (L := []) (n := 24) (s := [.reg [], .reg [(4, { v := some (.bool false) })], .reg []])
      (a_ (a_ (a_ tr tr) tr) (a_ (a_ (a_ tr tr) (a_ (a_ tr tr) (a_ (a_ tr tr) (a_ (a_ tr tr) (a_ (a_ tr (a_ (leB c1) tr)) tr))))) (a_ (a_ (a_ tr tr) tr) tr))) (parrelref10_SameWrites_l0_ok hμ a b  big _ r h) (by kernel_rfl) trivial

theorem parrelref10_SameWrites_tri (a : List (T_api_Write)) (b : List (T_api_Write)) (r : (Bool)) (h : parrelref10_SameWrites a b = some r) : FnTri Tryd.prog 14 [.ds 21 (a).length (rowF c_T_api_Write default a), .ds 21 (b).length (rowF c_T_api_Write default b)] [] (parrelref10_SameWrites_v r) [] := FnTri.none (parrelref10_SameWrites_ok a b r h) rfl rfl

/-- (*parrel/parrelref13.Table).Get -/

def parrelref13_Table_Get_v (r : (T_api_Item) × (Bool)) : LV := .tup [v_T_api_Item r.1, .bool r.2]

def parrelref13_Table_Get_up (t : T_parrelref13_Table) (x_k : A8 (Int)) (r : (T_api_Item) × (Bool)) : Upd := [(0, some (.var (c_T_parrelref13_Table t)))]

def parrelref13_Table_Get_objs (t : T_parrelref13_Table) (x_k : A8 (Int)) : List LO := [.var (c_T_parrelref13_Table t)]

def parrelref13_Table_Get (t : T_parrelref13_Table) (x_k : A8 (Int)) : Option ((T_api_Item) × (Bool)) :=
  (parrelref13_Table_place t x_k).bind fun y2 =>
  if ((!y2.2) : Bool) then
    some ((T_api_Item.mk 0 [] (T_api_Config.mk 0 0 0 (A8.mk 0 0 0 0 0 0 0 0))), false)
  else
    if 0 ≤ y2.1 ∧ y2.1 < (((t.f_L).length : Nat) : Int) then
    some ((t.f_L.getD y2.1.toNat default).f_Item, true)
    else none

theorem parrelref13_Table_Get_ok (t : T_parrelref13_Table) (x_k : A8 (Int)) (r : (T_api_Item) × (Bool)) (h : parrelref13_Table_Get t x_k = some r) : ∀ σ, Inj 1 σ → FnTri Tryd.prog 18 (renL σ [.ptr 0 0 0, .agg [.int .u8 x_k.a0, .int .u8 x_k.a1, .int .u8 x_k.a2, .int .u8 x_k.a3, .int .u8 x_k.a4, .int .u8 x_k.a5, .int .u8 x_k.a6, .int .u8 x_k.a7]]) (preOf σ 0 (parrelref13_Table_Get_objs t x_k)) ((parrelref13_Table_Get_v r).ren σ) (upOf σ (parrelref13_Table_Get_up t x_k r)) := by
  refine fn_of Tryd.func18 (by kernel_rfl) (by kernel_rfl) (by kernel_rfl) ⟨rfl, trivial⟩ (by kernel_rfl) ⟨rfl, trivial⟩ (by kernel_rfl) ?_
  intro w0 W μ0 hμ
  unfold parrelref13_Table_Get at h
  obtain ⟨y2, e1, h⟩ := bind_some h
  rcases itb_some h with ⟨c3, h⟩ | ⟨c3, h⟩
  · skip
    obtain rfl := Option.some.inj h
    exact run_ret mixed (L := []) (n := 23) (s := [.reg [], .reg [(2, { call := some ((parrelref13_Table_place_v y2).ren (sel [0]), preOf (sel [0]) 0 (parrelref13_Table_place_objs t x_k), upOf (sel [0]) (parrelref13_Table_place_up t x_k y2)) })], .reg [(1, { v := some (.bool true) })], .reg []])
      (a_ (a_ (a_ (a_ tr tr) (a_ (a_ tr tr) (a_ (a_ tr tr) tr))) (a_ (a_ (a_ tr tr) (a_ (a_ (a_ tr (le_ 8 8 rfl)) tr) (a_ (a_ (a_ (parrelref13_Table_place_ok t x_k y2 e1 (sel [0]) (sel_inj rfl rfl)) (a_ (LO.Le.refl (.var (c_T_parrelref13_Table t))) tr)) tr) (a_ (a_ tr tr) (a_ (a_ tr tr) (a_ (a_ tr tr) (a_ (a_ tr tr) (a_ (a_ tr tr) tr)))))))) (a_ (a_ (a_ tr tr) (a_ (a_ tr (a_ (leB c3) tr)) tr)) (a_ (a_ (a_ (Eq.refl true) tr) (a_ (a_ (a_ (Eq.refl 13) (a_ (le_ 13 13 rfl) (Eq.refl 0))) tr) (a_ (a_ tr tr) tr))) tr)))) (a_ (a_ tr (le_ 13 13 rfl)) tr)) (by kernel_rfl) rfl
  · skip
    obtain ⟨g4, h⟩ := guard_some h
    obtain rfl := Option.some.inj h
    exact run_ret mixed (L := []) (n := 24) (s := [.reg [], .reg [(2, { call := some ((parrelref13_Table_place_v y2).ren (sel [0]), preOf (sel [0]) 0 (parrelref13_Table_place_objs t x_k), upOf (sel [0]) (parrelref13_Table_place_up t x_k y2)) })], .reg [(1, { v := some (.bool false) })], .reg []])
      (a_ (a_ (a_ (a_ tr tr) (a_ (a_ tr tr) (a_ (a_ tr tr) tr))) (a_ (a_ (a_ tr tr) (a_ (a_ (a_ tr (le_ 8 8 rfl)) tr) (a_ (a_ (a_ (parrelref13_Table_place_ok t x_k y2 e1 (sel [0]) (sel_inj rfl rfl)) (a_ (LO.Le.refl (.var (c_T_parrelref13_Table t))) tr)) tr) (a_ (a_ tr tr) (a_ (a_ tr tr) (a_ (a_ tr tr) (a_ (a_ tr tr) (a_ (a_ tr tr) tr)))))))) (a_ (a_ (a_ tr tr) (a_ (a_ tr (a_ (leB c3) tr)) tr)) (a_ (a_ (a_ tr tr) (a_ (a_ tr tr) (a_ (a_ tr tr) (a_ (a_ (a_ tr (lt_ 0 1 rfl)) tr) (a_ (a_ tr tr) (a_ (a_ (a_ (Eq.refl 21) g4) tr) (a_ (a_ tr tr) (a_ (a_ (le_ 13 13 rfl) tr) (a_ (a_ (a_ (Eq.refl 13) (a_ (le_ 13 13 rfl) (Eq.refl 0))) tr) (a_ (a_ tr tr) tr)))))))))) tr)))) (a_ (a_ tr (le_ 13 13 rfl)) tr)) (by kernel_rfl) rfl

/-- parrel/parrellaw13.ItemPlays -/

def parrellaw13_ItemPlays_v (r : (Bool)) : LV := .bool r

def parrellaw13_ItemPlays_T0 (y7 : (List (T_api_Write))) (t26 : Int) (L : List (T_api_Write)) (m : List (A8 (Int) × T_api_Item)) : List LV := [.any, .any, .any, .ptr 0 0 0, .ptr 1 0 0, .any, .any, .any, .any, .any, .any, .any, .any, .any, .any, .any, .any, .any, .any, .any, .any, .any, .any, .any, .ds 21 (y7).length (rowF c_T_api_Write default y7), .int .i64 ((y7).length : Int), .int .i64 t26, .any, .any, .any, .any, .any, .any, .any, .any, .any, .any, .any, .any, .any, .any, .any, .any, .any, .any, .any, .any, .any, .any, .any, .any, .any, .any, .any, .any, .any, .any, .any, .any, .any, .any, .any, .any, .any, .any, .any, .any, .any, .any, .any, .any, .any, .any, .any, .any, .any, .any, .any, .any, .any, .any]

def parrellaw13_ItemPlays_H0 (y7 : (List (T_api_Write))) (t26 : Int) (L : List (T_api_Write)) (m : List (A8 (Int) × T_api_Item)) : Heap := [some (.var [.map 2]), some (.var (c_T_parrelref13_Table (T_parrelref13_Table.mk L))), some (.map true [.int .u8, .int .u8, .int .u8, .int .u8, .int .u8, .int .u8, .int .u8, .int .u8] (encM (fun z_ : A8 (Int) => LV.agg [.int .u8 z_.a0, .int .u8 z_.a1, .int .u8 z_.a2, .int .u8 z_.a3, .int .u8 z_.a4, .int .u8 z_.a5, .int .u8 z_.a6, .int .u8 z_.a7]) v_T_api_Item m))]

def parrellaw13_ItemPlays_l0 (y7 : (List (T_api_Write)))  : Nat → (Int) → (List (T_api_Write)) → (List (A8 (Int) × T_api_Item)) → Option ((Bool))
  | 0, _, _, _ => none
  | fuel + 1, t26, L, m =>
    if ((decide (t26 < ((y7).length : Int))) : Bool) then
      if 0 ≤ t26 ∧ t26 < (((y7).length : Nat) : Int) then
      (item_Table_Install m (y7.getD t26.toNat default).f_Key (y7.getD t26.toNat default).f_Item).bind fun yL0_4 =>
      (parrelref13_Table_Install (T_parrelref13_Table.mk L) (y7.getD t26.toNat default).f_Key (y7.getD t26.toNat default).f_Item).bind fun yL0_6 =>
      if ((yL0_4.1 != yL0_6.1) : Bool) then
        some false
      else
        (item_Table_All yL0_4.2).bind fun yL0_9 =>
        (parrelref10_SameWrites yL0_9 yL0_6.2).bind fun yL0_11 =>
        if ((!yL0_11) : Bool) then
          some false
        else
          (item_Table_Len yL0_4.2).bind fun yL0_14 =>
          if ((yL0_14 != ((yL0_6.2).length : Int)) : Bool) then
            some false
          else
            (item_Table_Get yL0_4.2 (y7.getD t26.toNat default).f_Key).bind fun yL0_17 =>
            (parrelref13_Table_Get (T_parrelref13_Table.mk yL0_6.2) (y7.getD t26.toNat default).f_Key).bind fun yL0_19 =>
            if ((!decide (yL0_17.1 = yL0_19.1)) : Bool) then
              some false
            else
              if ((!(yL0_17.2 == yL0_19.2)) : Bool) then
                some false
              else
                parrellaw13_ItemPlays_l0 y7  fuel (IntKind.wrap .i64 (t26 + 1)) (T_parrelref13_Table.mk yL0_6.2).f_L yL0_4.2
      else none
    else
      (parrellaw13_alive).bind fun yL0_3 =>
      some yL0_3

def parrellaw13_ItemPlays (script : List (T_api_Write)) : Option ((Bool)) :=
  (item_New).bind fun y2 =>
  (parrellaw13_long script).bind fun y4 =>
  if (y4 : Bool) then
    (parrellaw13_alive).bind fun y7 =>
    some y7
  else
    (parrellaw13_short script).bind fun y7 =>
    parrellaw13_ItemPlays_l0 y7  big 0 ([] : List (T_api_Write)) y2

theorem parrellaw13_ItemPlays_l0_ok {w0 : World} {W : Nat → Prop} {μ0 : Emb} (hμ : ∀ c p, μ0 c = some p → c < 0) (y7 : (List (T_api_Write)))  : ∀ (fuel : Nat) (t26 : Int) (L : List (T_api_Write)) (m : List (A8 (Int) × T_api_Item)) (r : (Bool)), parrellaw13_ItemPlays_l0 y7  fuel t26 L m = some r → kont Tryd.prog w0 W μ0 (FnPost Tryd.prog Tryd.f3 0 0 (parrellaw13_ItemPlays_v r) []) (kAt (bodyOf Tryd.f3) 0) none (parrellaw13_ItemPlays_T0 y7 t26 L m) (parrellaw13_ItemPlays_H0 y7 t26 L m) := by
  intro fuel
  induction fuel with
  | zero => intro t26 L m r h; rw [parrellaw13_ItemPlays_l0] at h; cases h
  | succ fuel ih =>
    intro t26 L m r h
    rw [parrellaw13_ItemPlays_l0] at h
    rcases itb_some h with ⟨cL0_1, h⟩ | ⟨cL0_1, h⟩
    · skip
      obtain ⟨gL0_2, h⟩ := guard_some h
      obtain ⟨yL0_4, eL0_3, h⟩ := bind_some h
      obtain ⟨yL0_6, eL0_5, h⟩ := bind_some h
      rcases itb_some h with ⟨cL0_7, h⟩ | ⟨cL0_7, h⟩
      · skip
        obtain rfl := Option.some.inj h
        exact run_ret mixed (L := []) (n := 29) (s := [.go, .reg [(0, { v := some (.bool true) })], .reg [], .reg [(5, { call := some ((item_Table_Install_v yL0_4).ren (sel [0, 2]), preOf (sel [0, 2]) 0 (item_Table_Install_objs m (y7.getD t26.toNat default).f_Key (y7.getD t26.toNat default).f_Item), upOf (sel [0, 2]) (item_Table_Install_up m (y7.getD t26.toNat default).f_Key (y7.getD t26.toNat default).f_Item yL0_4)) }), (10, { call := some ((parrelref13_Table_Install_v yL0_6).ren (sel [1]), preOf (sel [1]) 0 (parrelref13_Table_Install_objs (T_parrelref13_Table.mk L) (y7.getD t26.toNat default).f_Key (y7.getD t26.toNat default).f_Item), upOf (sel [1]) (parrelref13_Table_Install_up (T_parrelref13_Table.mk L) (y7.getD t26.toNat default).f_Key (y7.getD t26.toNat default).f_Item yL0_6)) }), (12, { v := some (.bool true) })], .reg []])
          (a_ (a_ (a_ (a_ tr (a_ (leB cL0_1) tr)) tr) (a_ (a_ (a_ (a_ (Eq.refl 21) gL0_2) tr) (a_ (a_ (le_ 21 21 rfl) tr) (a_ (a_ tr tr) (a_ (a_ (a_ (Eq.refl 21) (a_ (le_ 21 21 rfl) (Eq.refl 0))) tr) tr)))) (a_ (a_ (a_ tr tr) (a_ (a_ tr tr) (a_ (a_ (a_ tr (le_ 8 21 rfl)) tr) (a_ (a_ tr tr) (a_ (a_ (a_ tr (le_ 21 21 rfl)) tr) (a_ (a_ (a_ (item_Table_Install_ok m (y7.getD t26.toNat default).f_Key (y7.getD t26.toNat default).f_Item yL0_4 eL0_3 (sel [0, 2]) (sel_inj rfl rfl)) (a_ (LO.Le.refl (.var [.map 2])) (a_ (LO.Le.refl (.map true [.int .u8, .int .u8, .int .u8, .int .u8, .int .u8, .int .u8, .int .u8, .int .u8] (encM (fun z_ : A8 (Int) => LV.agg [.int .u8 z_.a0, .int .u8 z_.a1, .int .u8 z_.a2, .int .u8 z_.a3, .int .u8 z_.a4, .int .u8 z_.a5, .int .u8 z_.a6, .int .u8 z_.a7]) v_T_api_Item m))) tr))) tr) (a_ (a_ tr tr) (a_ (a_ (a_ tr (le_ 8 21 rfl)) tr) (a_ (a_ tr tr) (a_ (a_ (a_ tr (le_ 21 21 rfl)) tr) (a_ (a_ (a_ (parrelref13_Table_Install_ok (T_parrelref13_Table.mk L) (y7.getD t26.toNat default).f_Key (y7.getD t26.toNat default).f_Item yL0_6 eL0_5 (sel [1]) (sel_inj rfl rfl)) (a_ (LO.Le.refl (.var (c_T_parrelref13_Table (T_parrelref13_Table.mk L)))) tr)) tr) (a_ (a_ tr tr) (a_ (a_ tr (a_ (leB cL0_7) tr)) (a_ tr (a_ tr (a_ tr (a_ tr (a_ tr (a_ tr (a_ (a_ tr tr) (a_ (a_ tr tr) (a_ tr (a_ tr (a_ tr (a_ tr (a_ tr (a_ tr (a_ (a_ tr tr) tr)))))))))))))))))))))))))))) (a_ (a_ (a_ tr tr) tr) tr)))) tr) (by kernel_rfl) rfl
      · skip
        obtain ⟨yL0_9, eL0_8, h⟩ := bind_some h
        obtain ⟨yL0_11, eL0_10, h⟩ := bind_some h
        rcases itb_some h with ⟨cL0_12, h⟩ | ⟨cL0_12, h⟩
        · skip
          obtain rfl := Option.some.inj h
          exact run_ret mixed (L := []) (n := 29) (s := [.go, .reg [(0, { v := some (.bool true) })], .reg [], .reg [(5, { call := some ((item_Table_Install_v yL0_4).ren (sel [0, 2]), preOf (sel [0, 2]) 0 (item_Table_Install_objs m (y7.getD t26.toNat default).f_Key (y7.getD t26.toNat default).f_Item), upOf (sel [0, 2]) (item_Table_Install_up m (y7.getD t26.toNat default).f_Key (y7.getD t26.toNat default).f_Item yL0_4)) }), (10, { call := some ((parrelref13_Table_Install_v yL0_6).ren (sel [1]), preOf (sel [1]) 0 (parrelref13_Table_Install_objs (T_parrelref13_Table.mk L) (y7.getD t26.toNat default).f_Key (y7.getD t26.toNat default).f_Item), upOf (sel [1]) (parrelref13_Table_Install_up (T_parrelref13_Table.mk L) (y7.getD t26.toNat default).f_Key (y7.getD t26.toNat default).f_Item yL0_6)) }), (12, { v := some (.bool false) }), (14, { call := some ((item_Table_All_v yL0_9).ren (sel [0, 2]), preOf (sel [0, 2]) 0 (item_Table_All_objs yL0_4.2), upOf (sel [0, 2]) (item_Table_All_up yL0_4.2 yL0_9)) }), (17, { call := some (parrelref10_SameWrites_v yL0_11, [], []) }), (20, { v := some (.bool true) })], .reg []])
            (a_ (a_ (a_ (a_ tr (a_ (leB cL0_1) tr)) tr) (a_ (a_ (a_ (a_ (Eq.refl 21) gL0_2) tr) (a_ (a_ (le_ 21 21 rfl) tr) (a_ (a_ tr tr) (a_ (a_ (a_ (Eq.refl 21) (a_ (le_ 21 21 rfl) (Eq.refl 0))) tr) tr)))) (a_ (a_ (a_ tr tr) (a_ (a_ tr tr) (a_ (a_ (a_ tr (le_ 8 21 rfl)) tr) (a_ (a_ tr tr) (a_ (a_ (a_ tr (le_ 21 21 rfl)) tr) (a_ (a_ (a_ (item_Table_Install_ok m (y7.getD t26.toNat default).f_Key (y7.getD t26.toNat default).f_Item yL0_4 eL0_3 (sel [0, 2]) (sel_inj rfl rfl)) (a_ (LO.Le.refl (.var [.map 2])) (a_ (LO.Le.refl (.map true [.int .u8, .int .u8, .int .u8, .int .u8, .int .u8, .int .u8, .int .u8, .int .u8] (encM (fun z_ : A8 (Int) => LV.agg [.int .u8 z_.a0, .int .u8 z_.a1, .int .u8 z_.a2, .int .u8 z_.a3, .int .u8 z_.a4, .int .u8 z_.a5, .int .u8 z_.a6, .int .u8 z_.a7]) v_T_api_Item m))) tr))) tr) (a_ (a_ tr tr) (a_ (a_ (a_ tr (le_ 8 21 rfl)) tr) (a_ (a_ tr tr) (a_ (a_ (a_ tr (le_ 21 21 rfl)) tr) (a_ (a_ (a_ (parrelref13_Table_Install_ok (T_parrelref13_Table.mk L) (y7.getD t26.toNat default).f_Key (y7.getD t26.toNat default).f_Item yL0_6 eL0_5 (sel [1]) (sel_inj rfl rfl)) (a_ (LO.Le.refl (.var (c_T_parrelref13_Table (T_parrelref13_Table.mk L)))) tr)) tr) (a_ (a_ tr tr) (a_ (a_ tr (a_ (leB cL0_7) tr)) (a_ (a_ tr tr) (a_ (a_ (a_ (item_Table_All_ok yL0_4.2 yL0_9 eL0_8 (sel [0, 2]) (sel_inj rfl rfl)) (a_ (LO.Le.refl (.var [.map 2])) (a_ (LO.Le.refl (.map true [.int .u8, .int .u8, .int .u8, .int .u8, .int .u8, .int .u8, .int .u8, .int .u8] (encM (fun z_ : A8 (Int) => LV.agg [.int .u8 z_.a0, .int .u8 z_.a1, .int .u8 z_.a2, .int .u8 z_.a3, .int .u8 z_.a4, .int .u8 z_.a5, .int .u8 z_.a6, .int .u8 z_.a7]) v_T_api_Item yL0_4.2))) tr))) tr) (a_ (a_ tr tr) (a_ (a_ (a_ tr (lt_ 0 1 rfl)) tr) (a_ (a_ (a_ (parrelref10_SameWrites_tri yL0_9 yL0_6.2 yL0_11 eL0_10) tr) tr) (a_ (a_ tr tr) (a_ (a_ tr tr) (a_ (a_ tr (a_ (leB cL0_12) tr)) (a_ tr (a_ tr (a_ tr (a_ tr (a_ tr (a_ tr (a_ (a_ tr tr) tr)))))))))))))))))))))))))))) (a_ (a_ (a_ tr tr) tr) tr)))) tr) (by kernel_rfl) rfl
        · skip
          obtain ⟨yL0_14, eL0_13, h⟩ := bind_some h
          rcases itb_some h with ⟨cL0_15, h⟩ | ⟨cL0_15, h⟩
          · skip
            obtain rfl := Option.some.inj h
            exact run_ret mixed (L := []) (n := 29) (s := [.go, .reg [(0, { v := some (.bool true) })], .reg [], .reg [(5, { call := some ((item_Table_Install_v yL0_4).ren (sel [0, 2]), preOf (sel [0, 2]) 0 (item_Table_Install_objs m (y7.getD t26.toNat default).f_Key (y7.getD t26.toNat default).f_Item), upOf (sel [0, 2]) (item_Table_Install_up m (y7.getD t26.toNat default).f_Key (y7.getD t26.toNat default).f_Item yL0_4)) }), (10, { call := some ((parrelref13_Table_Install_v yL0_6).ren (sel [1]), preOf (sel [1]) 0 (parrelref13_Table_Install_objs (T_parrelref13_Table.mk L) (y7.getD t26.toNat default).f_Key (y7.getD t26.toNat default).f_Item), upOf (sel [1]) (parrelref13_Table_Install_up (T_parrelref13_Table.mk L) (y7.getD t26.toNat default).f_Key (y7.getD t26.toNat default).f_Item yL0_6)) }), (12, { v := some (.bool false) }), (14, { call := some ((item_Table_All_v yL0_9).ren (sel [0, 2]), preOf (sel [0, 2]) 0 (item_Table_All_objs yL0_4.2), upOf (sel [0, 2]) (item_Table_All_up yL0_4.2 yL0_9)) }), (17, { call := some (parrelref10_SameWrites_v yL0_11, [], []) }), (20, { v := some (.bool false) }), (22, { call := some ((item_Table_Len_v yL0_14).ren (sel [0, 2]), preOf (sel [0, 2]) 0 (item_Table_Len_objs yL0_4.2), upOf (sel [0, 2]) (item_Table_Len_up yL0_4.2 yL0_14)) }), (27, { v := some (.bool true) })], .reg []])
              (a_ (a_ (a_ (a_ tr (a_ (leB cL0_1) tr)) tr) (a_ (a_ (a_ (a_ (Eq.refl 21) gL0_2) tr) (a_ (a_ (le_ 21 21 rfl) tr) (a_ (a_ tr tr) (a_ (a_ (a_ (Eq.refl 21) (a_ (le_ 21 21 rfl) (Eq.refl 0))) tr) tr)))) (a_ (a_ (a_ tr tr) (a_ (a_ tr tr) (a_ (a_ (a_ tr (le_ 8 21 rfl)) tr) (a_ (a_ tr tr) (a_ (a_ (a_ tr (le_ 21 21 rfl)) tr) (a_ (a_ (a_ (item_Table_Install_ok m (y7.getD t26.toNat default).f_Key (y7.getD t26.toNat default).f_Item yL0_4 eL0_3 (sel [0, 2]) (sel_inj rfl rfl)) (a_ (LO.Le.refl (.var [.map 2])) (a_ (LO.Le.refl (.map true [.int .u8, .int .u8, .int .u8, .int .u8, .int .u8, .int .u8, .int .u8, .int .u8] (encM (fun z_ : A8 (Int) => LV.agg [.int .u8 z_.a0, .int .u8 z_.a1, .int .u8 z_.a2, .int .u8 z_.a3, .int .u8 z_.a4, .int .u8 z_.a5, .int .u8 z_.a6, .int .u8 z_.a7]) v_T_api_Item m))) tr))) tr) (a_ (a_ tr tr) (a_ (a_ (a_ tr (le_ 8 21 rfl)) tr) (a_ (a_ tr tr) (a_ (a_ (a_ tr (le_ 21 21 rfl)) tr) (a_ (a_ (a_ (parrelref13_Table_Install_ok (T_parrelref13_Table.mk L) (y7.getD t26.toNat default).f_Key (y7.getD t26.toNat default).f_Item yL0_6 eL0_5 (sel [1]) (sel_inj rfl rfl)) (a_ (LO.Le.refl (.var (c_T_parrelref13_Table (T_parrelref13_Table.mk L)))) tr)) tr) (a_ (a_ tr tr) (a_ (a_ tr (a_ (leB cL0_7) tr)) (a_ (a_ tr tr) (a_ (a_ (a_ (item_Table_All_ok yL0_4.2 yL0_9 eL0_8 (sel [0, 2]) (sel_inj rfl rfl)) (a_ (LO.Le.refl (.var [.map 2])) (a_ (LO.Le.refl (.map true [.int .u8, .int .u8, .int .u8, .int .u8, .int .u8, .int .u8, .int .u8, .int .u8] (encM (fun z_ : A8 (Int) => LV.agg [.int .u8 z_.a0, .int .u8 z_.a1, .int .u8 z_.a2, .int .u8 z_.a3, .int .u8 z_.a4, .int .u8 z_.a5, .int .u8 z_.a6, .int .u8 z_.a7]) v_T_api_Item yL0_4.2))) tr))) tr) (a_ (a_ tr tr) (a_ (a_ (a_ tr (lt_ 0 1 rfl)) tr) (a_ (a_ (a_ (parrelref10_SameWrites_tri yL0_9 yL0_6.2 yL0_11 eL0_10) tr) tr) (a_ (a_ tr tr) (a_ (a_ tr tr) (a_ (a_ tr (a_ (leB cL0_12) tr)) (a_ (a_ tr tr) (a_ (a_ (a_ (item_Table_Len_ok yL0_4.2 yL0_14 eL0_13 (sel [0, 2]) (sel_inj rfl rfl)) (a_ (LO.Le.refl (.var [.map 2])) (a_ (LO.Le.refl (.map true [.int .u8, .int .u8, .int .u8, .int .u8, .int .u8, .int .u8, .int .u8, .int .u8] (encM (fun z_ : A8 (Int) => LV.agg [.int .u8 z_.a0, .int .u8 z_.a1, .int .u8 z_.a2, .int .u8 z_.a3, .int .u8 z_.a4, .int .u8 z_.a5, .int .u8 z_.a6, .int .u8 z_.a7]) v_T_api_Item yL0_4.2))) tr))) tr) (a_ (a_ tr tr) (a_ (a_ (a_ tr (lt_ 0 1 rfl)) tr) (a_ (a_ tr tr) (a_ (a_ tr tr) (a_ (a_ tr (a_ (leB cL0_15) tr)) tr)))))))))))))))))))))))))))) (a_ (a_ (a_ tr tr) tr) tr)))) tr) (by kernel_rfl) rfl
          · skip
            obtain ⟨yL0_17, eL0_16, h⟩ := bind_some h
            obtain ⟨yL0_19, eL0_18, h⟩ := bind_some h
            rcases itb_some h with ⟨cL0_20, h⟩ | ⟨cL0_20, h⟩
            · skip
              obtain rfl := Option.some.inj h
              exact run_ret mixed (L := []) (n := 40) (s := [.go, .reg [(0, { v := some (.bool true) })], .reg [], .reg [(5, { call := some ((item_Table_Install_v yL0_4).ren (sel [0, 2]), preOf (sel [0, 2]) 0 (item_Table_Install_objs m (y7.getD t26.toNat default).f_Key (y7.getD t26.toNat default).f_Item), upOf (sel [0, 2]) (item_Table_Install_up m (y7.getD t26.toNat default).f_Key (y7.getD t26.toNat default).f_Item yL0_4)) }), (10, { call := some ((parrelref13_Table_Install_v yL0_6).ren (sel [1]), preOf (sel [1]) 0 (parrelref13_Table_Install_objs (T_parrelref13_Table.mk L) (y7.getD t26.toNat default).f_Key (y7.getD t26.toNat default).f_Item), upOf (sel [1]) (parrelref13_Table_Install_up (T_parrelref13_Table.mk L) (y7.getD t26.toNat default).f_Key (y7.getD t26.toNat default).f_Item yL0_6)) }), (12, { v := some (.bool false) }), (14, { call := some ((item_Table_All_v yL0_9).ren (sel [0, 2]), preOf (sel [0, 2]) 0 (item_Table_All_objs yL0_4.2), upOf (sel [0, 2]) (item_Table_All_up yL0_4.2 yL0_9)) }), (17, { call := some (parrelref10_SameWrites_v yL0_11, [], []) }), (20, { v := some (.bool false) }), (22, { call := some ((item_Table_Len_v yL0_14).ren (sel [0, 2]), preOf (sel [0, 2]) 0 (item_Table_Len_objs yL0_4.2), upOf (sel [0, 2]) (item_Table_Len_up yL0_4.2 yL0_14)) }), (27, { v := some (.bool false) })], .reg [(3, { call := some ((item_Table_Get_v yL0_17).ren (sel [0, 2]), preOf (sel [0, 2]) 0 (item_Table_Get_objs yL0_4.2 (y7.getD t26.toNat default).f_Key), upOf (sel [0, 2]) (item_Table_Get_up yL0_4.2 (y7.getD t26.toNat default).f_Key yL0_17)) })], .reg [(2, { call := some ((parrelref13_Table_Get_v yL0_19).ren (sel [1]), preOf (sel [1]) 0 (parrelref13_Table_Get_objs (T_parrelref13_Table.mk yL0_6.2) (y7.getD t26.toNat default).f_Key), upOf (sel [1]) (parrelref13_Table_Get_up (T_parrelref13_Table.mk yL0_6.2) (y7.getD t26.toNat default).f_Key yL0_19)) })], .reg [(2, { v := some (.bool (!decide (yL0_17.1 = yL0_19.1))) }), (3, { v := some (.bool true) })], .reg []])
                (a_ (a_ (a_ (a_ tr (a_ (leB cL0_1) tr)) tr) (a_ (a_ (a_ (a_ (Eq.refl 21) gL0_2) tr) (a_ (a_ (le_ 21 21 rfl) tr) (a_ (a_ tr tr) (a_ (a_ (a_ (Eq.refl 21) (a_ (le_ 21 21 rfl) (Eq.refl 0))) tr) tr)))) (a_ (a_ (a_ tr tr) (a_ (a_ tr tr) (a_ (a_ (a_ tr (le_ 8 21 rfl)) tr) (a_ (a_ tr tr) (a_ (a_ (a_ tr (le_ 21 21 rfl)) tr) (a_ (a_ (a_ (item_Table_Install_ok m (y7.getD t26.toNat default).f_Key (y7.getD t26.toNat default).f_Item yL0_4 eL0_3 (sel [0, 2]) (sel_inj rfl rfl)) (a_ (LO.Le.refl (.var [.map 2])) (a_ (LO.Le.refl (.map true [.int .u8, .int .u8, .int .u8, .int .u8, .int .u8, .int .u8, .int .u8, .int .u8] (encM (fun z_ : A8 (Int) => LV.agg [.int .u8 z_.a0, .int .u8 z_.a1, .int .u8 z_.a2, .int .u8 z_.a3, .int .u8 z_.a4, .int .u8 z_.a5, .int .u8 z_.a6, .int .u8 z_.a7]) v_T_api_Item m))) tr))) tr) (a_ (a_ tr tr) (a_ (a_ (a_ tr (le_ 8 21 rfl)) tr) (a_ (a_ tr tr) (a_ (a_ (a_ tr (le_ 21 21 rfl)) tr) (a_ (a_ (a_ (parrelref13_Table_Install_ok (T_parrelref13_Table.mk L) (y7.getD t26.toNat default).f_Key (y7.getD t26.toNat default).f_Item yL0_6 eL0_5 (sel [1]) (sel_inj rfl rfl)) (a_ (LO.Le.refl (.var (c_T_parrelref13_Table (T_parrelref13_Table.mk L)))) tr)) tr) (a_ (a_ tr tr) (a_ (a_ tr (a_ (leB cL0_7) tr)) (a_ (a_ tr tr) (a_ (a_ (a_ (item_Table_All_ok yL0_4.2 yL0_9 eL0_8 (sel [0, 2]) (sel_inj rfl rfl)) (a_ (LO.Le.refl (.var [.map 2])) (a_ (LO.Le.refl (.map true [.int .u8, .int .u8, .int .u8, .int .u8, .int .u8, .int .u8, .int .u8, .int .u8] (encM (fun z_ : A8 (Int) => LV.agg [.int .u8 z_.a0, .int .u8 z_.a1, .int .u8 z_.a2, .int .u8 z_.a3, .int .u8 z_.a4, .int .u8 z_.a5, .int .u8 z_.a6, .int .u8 z_.a7]) v_T_api_Item yL0_4.2))) tr))) tr) (a_ (a_ tr tr) (a_ (a_ (a_ tr (lt_ 0 1 rfl)) tr) (a_ (a_ (a_ (parrelref10_SameWrites_tri yL0_9 yL0_6.2 yL0_11 eL0_10) tr) tr) (a_ (a_ tr tr) (a_ (a_ tr tr) (a_ (a_ tr (a_ (leB cL0_12) tr)) (a_ (a_ tr tr) (a_ (a_ (a_ (item_Table_Len_ok yL0_4.2 yL0_14 eL0_13 (sel [0, 2]) (sel_inj rfl rfl)) (a_ (LO.Le.refl (.var [.map 2])) (a_ (LO.Le.refl (.map true [.int .u8, .int .u8, .int .u8, .int .u8, .int .u8, .int .u8, .int .u8, .int .u8] (encM (fun z_ : A8 (Int) => LV.agg [.int .u8 z_.a0, .int .u8 z_.a1, .int .u8 z_.a2, .int .u8 z_.a3, .int .u8 z_.a4, .int .u8 z_.a5, .int .u8 z_.a6, .int .u8 z_.a7]) v_T_api_Item yL0_4.2))) tr))) tr) (a_ (a_ tr tr) (a_ (a_ (a_ tr (lt_ 0 1 rfl)) tr) (a_ (a_ tr tr) (a_ (a_ tr tr) (a_ (a_ tr (a_ (leB cL0_15) tr)) tr)))))))))))))))))))))))))))) (a_ (a_ (a_ tr tr) (a_ (a_ tr tr) (a_ (a_ (a_ tr (le_ 8 21 rfl)) tr) (a_ (a_ (a_ (item_Table_Get_ok yL0_4.2 (y7.getD t26.toNat default).f_Key yL0_17 eL0_16 (sel [0, 2]) (sel_inj rfl rfl)) (a_ (LO.Le.refl (.var [.map 2])) (a_ (LO.Le.refl (.map true [.int .u8, .int .u8, .int .u8, .int .u8, .int .u8, .int .u8, .int .u8, .int .u8] (encM (fun z_ : A8 (Int) => LV.agg [.int .u8 z_.a0, .int .u8 z_.a1, .int .u8 z_.a2, .int .u8 z_.a3, .int .u8 z_.a4, .int .u8 z_.a5, .int .u8 z_.a6, .int .u8 z_.a7]) v_T_api_Item yL0_4.2))) tr))) tr) (a_ (a_ tr tr) (a_ (a_ tr tr) (a_ (a_ tr tr) (a_ (a_ tr tr) (a_ (a_ (a_ (Eq.refl 13) (a_ (le_ 13 13 rfl) (Eq.refl 0))) tr) (a_ (a_ tr tr) tr)))))))))) (a_ (a_ (a_ tr tr) (a_ (a_ (a_ tr (le_ 8 21 rfl)) tr) (a_ (a_ (a_ (parrelref13_Table_Get_ok (T_parrelref13_Table.mk yL0_6.2) (y7.getD t26.toNat default).f_Key yL0_19 eL0_18 (sel [1]) (sel_inj rfl rfl)) (a_ (LO.Le.refl (.var (c_T_parrelref13_Table (T_parrelref13_Table.mk yL0_6.2)))) tr)) tr) (a_ (a_ tr tr) (a_ (a_ tr tr) (a_ (a_ tr tr) (a_ (a_ tr tr) (a_ (a_ (a_ (Eq.refl 13) (a_ (le_ 13 13 rfl) (Eq.refl 0))) tr) (a_ (a_ tr tr) tr))))))))) (a_ (a_ (a_ (a_ tr (le_ 13 13 rfl)) tr) (a_ (a_ (a_ tr (le_ 13 13 rfl)) tr) (a_ (a_ tr (a_ (leB (congrArg not (k_T_api_Item yL0_17.1 yL0_19.1))) tr)) (a_ (a_ tr (a_ (leB cL0_20) tr)) (a_ tr (a_ tr (a_ tr (a_ (a_ tr tr) tr)))))))) (a_ (a_ (a_ tr tr) tr) tr))))))) tr) (by kernel_rfl) rfl
            · skip
              rcases itb_some h with ⟨cL0_21, h⟩ | ⟨cL0_21, h⟩
              · skip
                obtain rfl := Option.some.inj h
                exact run_ret mixed (L := []) (n := 40) (s := [.go, .reg [(0, { v := some (.bool true) })], .reg [], .reg [(5, { call := some ((item_Table_Install_v yL0_4).ren (sel [0, 2]), preOf (sel [0, 2]) 0 (item_Table_Install_objs m (y7.getD t26.toNat default).f_Key (y7.getD t26.toNat default).f_Item), upOf (sel [0, 2]) (item_Table_Install_up m (y7.getD t26.toNat default).f_Key (y7.getD t26.toNat default).f_Item yL0_4)) }), (10, { call := some ((parrelref13_Table_Install_v yL0_6).ren (sel [1]), preOf (sel [1]) 0 (parrelref13_Table_Install_objs (T_parrelref13_Table.mk L) (y7.getD t26.toNat default).f_Key (y7.getD t26.toNat default).f_Item), upOf (sel [1]) (parrelref13_Table_Install_up (T_parrelref13_Table.mk L) (y7.getD t26.toNat default).f_Key (y7.getD t26.toNat default).f_Item yL0_6)) }), (12, { v := some (.bool false) }), (14, { call := some ((item_Table_All_v yL0_9).ren (sel [0, 2]), preOf (sel [0, 2]) 0 (item_Table_All_objs yL0_4.2), upOf (sel [0, 2]) (item_Table_All_up yL0_4.2 yL0_9)) }), (17, { call := some (parrelref10_SameWrites_v yL0_11, [], []) }), (20, { v := some (.bool false) }), (22, { call := some ((item_Table_Len_v yL0_14).ren (sel [0, 2]), preOf (sel [0, 2]) 0 (item_Table_Len_objs yL0_4.2), upOf (sel [0, 2]) (item_Table_Len_up yL0_4.2 yL0_14)) }), (27, { v := some (.bool false) })], .reg [(3, { call := some ((item_Table_Get_v yL0_17).ren (sel [0, 2]), preOf (sel [0, 2]) 0 (item_Table_Get_objs yL0_4.2 (y7.getD t26.toNat default).f_Key), upOf (sel [0, 2]) (item_Table_Get_up yL0_4.2 (y7.getD t26.toNat default).f_Key yL0_17)) })], .reg [(2, { call := some ((parrelref13_Table_Get_v yL0_19).ren (sel [1]), preOf (sel [1]) 0 (parrelref13_Table_Get_objs (T_parrelref13_Table.mk yL0_6.2) (y7.getD t26.toNat default).f_Key), upOf (sel [1]) (parrelref13_Table_Get_up (T_parrelref13_Table.mk yL0_6.2) (y7.getD t26.toNat default).f_Key yL0_19)) })], .reg [(2, { v := some (.bool (!decide (yL0_17.1 = yL0_19.1))) }), (3, { v := some (.bool false) }), (7, { v := some (.bool true) })], .reg []])
                  (a_ (a_ (a_ (a_ tr (a_ (leB cL0_1) tr)) tr) (a_ (a_ (a_ (a_ (Eq.refl 21) gL0_2) tr) (a_ (a_ (le_ 21 21 rfl) tr) (a_ (a_ tr tr) (a_ (a_ (a_ (Eq.refl 21) (a_ (le_ 21 21 rfl) (Eq.refl 0))) tr) tr)))) (a_ (a_ (a_ tr tr) (a_ (a_ tr tr) (a_ (a_ (a_ tr (le_ 8 21 rfl)) tr) (a_ (a_ tr tr) (a_ (a_ (a_ tr (le_ 21 21 rfl)) tr) (a_ (a_ (a_ (item_Table_Install_ok m (y7.getD t26.toNat default).f_Key (y7.getD t26.toNat default).f_Item yL0_4 eL0_3 (sel [0, 2]) (sel_inj rfl rfl)) (a_ (LO.Le.refl (.var [.map 2])) (a_ (LO.Le.refl (.map true [.int .u8, .int .u8, .int .u8, .int .u8, .int .u8, .int .u8, .int .u8, .int .u8] (encM (fun z_ : A8 (Int) => LV.agg [.int .u8 z_.a0, .int .u8 z_.a1, .int .u8 z_.a2, .int .u8 z_.a3, .int .u8 z_.a4, .int .u8 z_.a5, .int .u8 z_.a6, .int .u8 z_.a7]) v_T_api_Item m))) tr))) tr) (a_ (a_ tr tr) (a_ (a_ (a_ tr (le_ 8 21 rfl)) tr) (a_ (a_ tr tr) (a_ (a_ (a_ tr (le_ 21 21 rfl)) tr) (a_ (a_ (a_ (parrelref13_Table_Install_ok (T_parrelref13_Table.mk L) (y7.getD t26.toNat default).f_Key (y7.getD t26.toNat default).f_Item yL0_6 eL0_5 (sel [1]) (sel_inj rfl rfl)) (a_ (LO.Le.refl (.var (c_T_parrelref13_Table (T_parrelref13_Table.mk L)))) tr)) tr) (a_ (a_ tr tr) (a_ (a_ tr (a_ (leB cL0_7) tr)) (a_ (a_ tr tr) (a_ (a_ (a_ (item_Table_All_ok yL0_4.2 yL0_9 eL0_8 (sel [0, 2]) (sel_inj rfl rfl)) (a_ (LO.Le.refl (.var [.map 2])) (a_ (LO.Le.refl (.map true [.int .u8, .int .u8, .int .u8, .int .u8, .int .u8, .int .u8, .int .u8, .int .u8] (encM (fun z_ : A8 (Int) => LV.agg [.int .u8 z_.a0, .int .u8 z_.a1, .int .u8 z_.a2, .int .u8 z_.a3, .int .u8 z_.a4, .int .u8 z_.a5, .int .u8 z_.a6, .int .u8 z_.a7]) v_T_api_Item yL0_4.2))) tr))) tr) (a_ (a_ tr tr) (a_ (a_ (a_ tr (lt_ 0 1 rfl)) tr) (a_ (a_ (a_ (parrelref10_SameWrites_tri yL0_9 yL0_6.2 yL0_11 eL0_10) tr) tr) (a_ (a_ tr tr) (a_ (a_ tr tr) (a_ (a_ tr (a_ (leB cL0_12) tr)) (a_ (a_ tr tr) (a_ (a_ (a_ (item_Table_Len_ok yL0_4.2 yL0_14 eL0_13 (sel [0, 2]) (sel_inj rfl rfl)) (a_ (LO.Le.refl (.var [.map 2])) (a_ (LO.Le.refl (.map true [.int .u8, .int .u8, .int .u8, .int .u8, .int .u8, .int .u8, .int .u8, .int .u8] (encM (fun z_ : A8 (Int) => LV.agg [.int .u8 z_.a0, .int .u8 z_.a1, .int .u8 z_.a2, .int .u8 z_.a3, .int .u8 z_.a4, .int .u8 z_.a5, .int .u8 z_.a6, .int .u8 z_.a7]) v_T_api_Item yL0_4.2))) tr))) tr) (a_ (a_ tr tr) (a_ (a_ (a_ tr (lt_ 0 1 rfl)) tr) (a_ (a_ tr tr) (a_ (a_ tr tr) (a_ (a_ tr (a_ (leB cL0_15) tr)) tr)))))))))))))))))))))))))))) (a_ (a_ (a_ tr tr) (a_ (a_ tr tr) (a_ (a_ (a_ tr (le_ 8 21 rfl)) tr) (a_ (a_ (a_ (item_Table_Get_ok yL0_4.2 (y7.getD t26.toNat default).f_Key yL0_17 eL0_16 (sel [0, 2]) (sel_inj rfl rfl)) (a_ (LO.Le.refl (.var [.map 2])) (a_ (LO.Le.refl (.map true [.int .u8, .int .u8, .int .u8, .int .u8, .int .u8, .int .u8, .int .u8, .int .u8] (encM (fun z_ : A8 (Int) => LV.agg [.int .u8 z_.a0, .int .u8 z_.a1, .int .u8 z_.a2, .int .u8 z_.a3, .int .u8 z_.a4, .int .u8 z_.a5, .int .u8 z_.a6, .int .u8 z_.a7]) v_T_api_Item yL0_4.2))) tr))) tr) (a_ (a_ tr tr) (a_ (a_ tr tr) (a_ (a_ tr tr) (a_ (a_ tr tr) (a_ (a_ (a_ (Eq.refl 13) (a_ (le_ 13 13 rfl) (Eq.refl 0))) tr) (a_ (a_ tr tr) tr)))))))))) (a_ (a_ (a_ tr tr) (a_ (a_ (a_ tr (le_ 8 21 rfl)) tr) (a_ (a_ (a_ (parrelref13_Table_Get_ok (T_parrelref13_Table.mk yL0_6.2) (y7.getD t26.toNat default).f_Key yL0_19 eL0_18 (sel [1]) (sel_inj rfl rfl)) (a_ (LO.Le.refl (.var (c_T_parrelref13_Table (T_parrelref13_Table.mk yL0_6.2)))) tr)) tr) (a_ (a_ tr tr) (a_ (a_ tr tr) (a_ (a_ tr tr) (a_ (a_ tr tr) (a_ (a_ (a_ (Eq.refl 13) (a_ (le_ 13 13 rfl) (Eq.refl 0))) tr) (a_ (a_ tr tr) tr))))))))) (a_ (a_ (a_ (a_ tr (le_ 13 13 rfl)) tr) (a_ (a_ (a_ tr (le_ 13 13 rfl)) tr) (a_ (a_ tr (a_ (leB (congrArg not (k_T_api_Item yL0_17.1 yL0_19.1))) tr)) (a_ (a_ tr (a_ (leB cL0_20) tr)) (a_ (a_ tr tr) (a_ (a_ tr tr) (a_ (a_ tr tr) (a_ (a_ tr (a_ (leB cL0_21) tr)) tr)))))))) (a_ (a_ (a_ tr tr) tr) tr))))))) tr) (by kernel_rfl) rfl
              · skip
                exact run_to mixed hμ (L := [0, 1, 2]) (n := 41) (s := [.go, .reg [(0, { v := some (.bool true) })], .reg [], .reg [(5, { call := some ((item_Table_Install_v yL0_4).ren (sel [0, 2]), preOf (sel [0, 2]) 0 (item_Table_Install_objs m (y7.getD t26.toNat default).f_Key (y7.getD t26.toNat default).f_Item), upOf (sel [0, 2]) (item_Table_Install_up m (y7.getD t26.toNat default).f_Key (y7.getD t26.toNat default).f_Item yL0_4)) }), (10, { call := some ((parrelref13_Table_Install_v yL0_6).ren (sel [1]), preOf (sel [1]) 0 (parrelref13_Table_Install_objs (T_parrelref13_Table.mk L) (y7.getD t26.toNat default).f_Key (y7.getD t26.toNat default).f_Item), upOf (sel [1]) (parrelref13_Table_Install_up (T_parrelref13_Table.mk L) (y7.getD t26.toNat default).f_Key (y7.getD t26.toNat default).f_Item yL0_6)) }), (12, { v := some (.bool false) }), (14, { call := some ((item_Table_All_v yL0_9).ren (sel [0, 2]), preOf (sel [0, 2]) 0 (item_Table_All_objs yL0_4.2), upOf (sel [0, 2]) (item_Table_All_up yL0_4.2 yL0_9)) }), (17, { call := some (parrelref10_SameWrites_v yL0_11, [], []) }), (20, { v := some (.bool false) }), (22, { call := some ((item_Table_Len_v yL0_14).ren (sel [0, 2]), preOf (sel [0, 2]) 0 (item_Table_Len_objs yL0_4.2), upOf (sel [0, 2]) (item_Table_Len_up yL0_4.2 yL0_14)) }), (27, { v := some (.bool false) })], .reg [(3, { call := some ((item_Table_Get_v yL0_17).ren (sel [0, 2]), preOf (sel [0, 2]) 0 (item_Table_Get_objs yL0_4.2 (y7.getD t26.toNat default).f_Key), upOf (sel [0, 2]) (item_Table_Get_up yL0_4.2 (y7.getD t26.toNat default).f_Key yL0_17)) })], .reg [(2, { call := some ((parrelref13_Table_Get_v yL0_19).ren (sel [1]), preOf (sel [1]) 0 (parrelref13_Table_Get_objs (T_parrelref13_Table.mk yL0_6.2) (y7.getD t26.toNat default).f_Key), upOf (sel [1]) (parrelref13_Table_Get_up (T_parrelref13_Table.mk yL0_6.2) (y7.getD t26.toNat default).f_Key yL0_19)) })], .reg [(2, { v := some (.bool (!decide (yL0_17.1 = yL0_19.1))) }), (3, { v := some (.bool false) }), (7, { v := some (.bool false) })], .reg []])
                  (a_ (a_ (a_ tr (a_ (leB cL0_1) tr)) tr) (a_ (a_ (a_ (a_ (Eq.refl 21) gL0_2) tr) (a_ (a_ (le_ 21 21 rfl) tr) (a_ (a_ tr tr) (a_ (a_ (a_ (Eq.refl 21) (a_ (le_ 21 21 rfl) (Eq.refl 0))) tr) tr)))) (a_ (a_ (a_ tr tr) (a_ (a_ tr tr) (a_ (a_ (a_ tr (le_ 8 21 rfl)) tr) (a_ (a_ tr tr) (a_ (a_ (a_ tr (le_ 21 21 rfl)) tr) (a_ (a_ (a_ (item_Table_Install_ok m (y7.getD t26.toNat default).f_Key (y7.getD t26.toNat default).f_Item yL0_4 eL0_3 (sel [0, 2]) (sel_inj rfl rfl)) (a_ (LO.Le.refl (.var [.map 2])) (a_ (LO.Le.refl (.map true [.int .u8, .int .u8, .int .u8, .int .u8, .int .u8, .int .u8, .int .u8, .int .u8] (encM (fun z_ : A8 (Int) => LV.agg [.int .u8 z_.a0, .int .u8 z_.a1, .int .u8 z_.a2, .int .u8 z_.a3, .int .u8 z_.a4, .int .u8 z_.a5, .int .u8 z_.a6, .int .u8 z_.a7]) v_T_api_Item m))) tr))) tr) (a_ (a_ tr tr) (a_ (a_ (a_ tr (le_ 8 21 rfl)) tr) (a_ (a_ tr tr) (a_ (a_ (a_ tr (le_ 21 21 rfl)) tr) (a_ (a_ (a_ (parrelref13_Table_Install_ok (T_parrelref13_Table.mk L) (y7.getD t26.toNat default).f_Key (y7.getD t26.toNat default).f_Item yL0_6 eL0_5 (sel [1]) (sel_inj rfl rfl)) (a_ (LO.Le.refl (.var (c_T_parrelref13_Table (T_parrelref13_Table.mk L)))) tr)) tr) (a_ (a_ tr tr) (a_ (a_ tr (a_ (leB cL0_7) tr)) (a_ (a_ tr tr) (a_ (a_ (a_ (item_Table_All_ok yL0_4.2 yL0_9 eL0_8 (sel [0, 2]) (sel_inj rfl rfl)) (a_ (LO.Le.refl (.var [.map 2])) (a_ (LO.Le.refl (.map true [.int .u8, .int .u8, .int .u8, .int .u8, .int .u8, .int .u8, .int .u8, .int .u8] (encM (fun z_ : A8 (Int) => LV.agg [.int .u8 z_.a0, .int .u8 z_.a1, .int .u8 z_.a2, .int .u8 z_.a3, .int .u8 z_.a4, .int .u8 z_.a5, .int .u8 z_.a6, .int .u8 z_.a7]) v_T_api_Item yL0_4.2))) tr))) tr) (a_ (a_ tr tr) (a_ (a_ (a_ tr (lt_ 0 1 rfl)) tr) (a_ (a_ (a_ (parrelref10_SameWrites_tri yL0_9 yL0_6.2 yL0_11 eL0_10) tr) tr) (a_ (a_ tr tr) (a_ (a_ tr tr) (a_ (a_ tr (a_ (leB cL0_12) tr)) (a_ (a_ tr tr) (a_ (a_ (a_ (item_Table_Len_ok yL0_4.2 yL0_14 eL0_13 (sel [0, 2]) (sel_inj rfl rfl)) (a_ (LO.Le.refl (.var [.map 2])) (a_ (LO.Le.refl (.map true [.int .u8, .int .u8, .int .u8, .int .u8, .int .u8, .int .u8, .int .u8, .int .u8] (encM (fun z_ : A8 (Int) => LV.agg [.int .u8 z_.a0, .int .u8 z_.a1, .int .u8 z_.a2, .int .u8 z_.a3, .int .u8 z_.a4, .int .u8 z_.a5, .int .u8 z_.a6, .int .u8 z_.a7]) v_T_api_Item yL0_4.2))) tr))) tr) (a_ (a_ tr tr) (a_ (a_ (a_ tr (lt_ 0 1 rfl)) tr) (a_ (a_ tr tr) (a_ (a_ tr tr) (a_ (a_ tr (a_ (leB cL0_15) tr)) tr)))))))))))))))))))))))))))) (a_ (a_ (a_ tr tr) (a_ (a_ tr tr) (a_ (a_ (a_ tr (le_ 8 21 rfl)) tr) (a_ (a_ (a_ (item_Table_Get_ok yL0_4.2 (y7.getD t26.toNat default).f_Key yL0_17 eL0_16 (sel [0, 2]) (sel_inj rfl rfl)) (a_ (LO.Le.refl (.var [.map 2])) (a_ (LO.Le.refl (.map true [.int .u8, .int .u8, .int .u8, .int .u8, .int .u8, .int .u8, .int .u8, .int .u8] (encM (fun z_ : A8 (Int) => LV.agg [.int .u8 z_.a0, .int .u8 z_.a1, .int .u8 z_.a2, .int .u8 z_.a3, .int .u8 z_.a4, .int .u8 z_.a5, .int .u8 z_.a6, .int .u8 z_.a7]) v_T_api_Item yL0_4.2))) tr))) tr) (a_ (a_ tr tr) (a_ (a_ tr tr) (a_ (a_ tr tr) (a_ (a_ tr tr) (a_ (a_ (a_ (Eq.refl 13) (a_ (le_ 13 13 rfl) (Eq.refl 0))) tr) (a_ (a_ tr tr) tr)))))))))) (a_ (a_ (a_ tr tr) (a_ (a_ (a_ tr (le_ 8 21 rfl)) tr) (a_ (a_ (a_ (parrelref13_Table_Get_ok (T_parrelref13_Table.mk yL0_6.2) (y7.getD t26.toNat default).f_Key yL0_19 eL0_18 (sel [1]) (sel_inj rfl rfl)) (a_ (LO.Le.refl (.var (c_T_parrelref13_Table (T_parrelref13_Table.mk yL0_6.2)))) tr)) tr) (a_ (a_ tr tr) (a_ (a_ tr tr) (a_ (a_ tr tr) (a_ (a_ tr tr) (a_ (a_ (a_ (Eq.refl 13) (a_ (le_ 13 13 rfl) (Eq.refl 0))) tr) (a_ (a_ tr tr) tr))))))))) (a_ (a_ (a_ (a_ tr (le_ 13 13 rfl)) tr) (a_ (a_ (a_ tr (le_ 13 13 rfl)) tr) (a_ (a_ tr (a_ (leB (congrArg not (k_T_api_Item yL0_17.1 yL0_19.1))) tr)) (a_ (a_ tr (a_ (leB cL0_20) tr)) (a_ (a_ tr tr) (a_ (a_ tr tr) (a_ (a_ tr tr) (a_ (a_ tr (a_ (leB cL0_21) tr)) tr)))))))) (a_ (a_ (a_ tr tr) (a_ (a_ tr tr) tr)) tr))))))) (ih _ _ _ r h) (by kernel_rfl) ⟨rfl, rfl, trivial, trivial⟩
    · skip
      obtain ⟨yL0_3, eL0_2, h⟩ := bind_some h
      obtain rfl := Option.some.inj h
      exact run_ret mixed (L := []) (n := 19) (s := [.go, .reg [(0, { v := some (.bool false) })], .reg [(0, { call := some (parrellaw13_alive_v yL0_3, [], []) })]])
        (a_ (a_ (a_ (a_ tr (a_ (leB cL0_1) tr)) tr) (a_ (a_ (a_ (a_ (parrellaw13_alive_tri  yL0_3 eL0_2) tr) tr) (a_ (a_ tr tr) tr)) tr)) tr) (by kernel_rfl) rfl

theorem parrellaw13_ItemPlays_ok (script : List (T_api_Write)) (r : (Bool)) (h : parrellaw13_ItemPlays script = some r) : ∀ σ, Inj 0 σ → FnTri Tryd.prog 3 (renL σ [.ds 21 (script).length (rowF c_T_api_Write default script)]) (preOf σ 0 []) ((parrellaw13_ItemPlays_v r).ren σ) (upOf σ []) := by
  refine fn_of Tryd.func3 (by kernel_rfl) (by kernel_rfl) (by kernel_rfl) trivial (by kernel_rfl) trivial (by kernel_rfl) ?_
  intro w0 W μ0 hμ
  unfold parrellaw13_ItemPlays at h
  obtain ⟨y2, e1, h⟩ := bind_some h
  obtain ⟨y4, e3, h⟩ := bind_some h
  rcases itb_some h with ⟨c5, h⟩ | ⟨c5, h⟩
  · skip
    obtain ⟨y7, e6, h⟩ := bind_some h
    obtain rfl := Option.some.inj h
    exact run_ret mixed (L := []) (n := 26) (s := [.reg [], .reg [(0, { call := some ((item_New_v y2).ren (sel [0, 1]), preOf (sel [0, 1]) 0 [], upOf (sel [0, 1]) (item_New_up  y2)) })], .reg [], .reg [(4, { call := some (parrellaw13_long_v y4, [], []) }), (5, { v := some (.bool true) })], .reg [(3, { call := some (parrellaw13_alive_v y7, [], []) })]])
      (a_ (a_ (a_ (a_ tr tr) tr) (a_ (a_ (a_ (a_ (item_New_ok  y2 e1 (sel [0, 1]) (sel_inj rfl rfl)) tr) tr) (a_ (a_ tr tr) tr)) (a_ (a_ (a_ tr tr) tr) (a_ (a_ (a_ tr tr) (a_ (a_ tr tr) (a_ (a_ tr tr) (a_ (a_ tr tr) (a_ (a_ (a_ (parrellaw13_long_tri script y4 e3) tr) tr) (a_ (a_ tr (a_ (leB c5) tr)) tr)))))) (a_ (a_ (a_ tr tr) (a_ (a_ tr tr) (a_ (a_ tr tr) (a_ (a_ (a_ (parrellaw13_alive_tri  y7 e6) tr) tr) (a_ (a_ tr tr) (a_ (a_ tr tr) tr)))))) tr))))) tr) (by kernel_rfl) rfl
  · skip
    obtain ⟨y7, e6, h⟩ := bind_some h
    exact run_to mixed hμ (L := [0, 2, 1]) (n := 31) (s := [.reg [], .reg [(0, { call := some ((item_New_v y2).ren (sel [0, 1]), preOf (sel [0, 1]) 0 [], upOf (sel [0, 1]) (item_New_up  y2)) })], .reg [], .reg [(4, { call := some (parrellaw13_long_v y4, [], []) }), (5, { v := some (.bool false) })], .reg [(1, { call := some (parrellaw13_short_v y7, [], []) })], .wk [] [(2, .var (c_T_parrelref13_Table (T_parrelref13_Table.mk ([] : List (T_api_Write)))))]])
      (a_ (a_ (a_ tr tr) tr) (a_ (a_ (a_ (a_ (item_New_ok  y2 e1 (sel [0, 1]) (sel_inj rfl rfl)) tr) tr) (a_ (a_ tr tr) tr)) (a_ (a_ (a_ tr tr) tr) (a_ (a_ (a_ tr tr) (a_ (a_ tr tr) (a_ (a_ tr tr) (a_ (a_ tr tr) (a_ (a_ (a_ (parrellaw13_long_tri script y4 e3) tr) tr) (a_ (a_ tr (a_ (leB c5) tr)) tr)))))) (a_ (a_ (a_ tr tr) (a_ (a_ (a_ (parrellaw13_short_tri script y7 e6) tr) tr) (a_ (a_ tr tr) (a_ (a_ tr tr) tr)))) (a_ (a_ tr (a_ (LO.Sub.var (a := [.nilsl]) (b := [.ds 21 (([] : List (T_api_Write))).length (rowF c_T_api_Write default ([] : List (T_api_Write)))]) (a_ (le_nil_ds 21 (rowF c_T_api_Write default [])) tr)) tr)) tr)))))) (parrellaw13_ItemPlays_l0_ok hμ y7  big _ _ _ r h) (by kernel_rfl) ⟨rfl, rfl, trivial, trivial⟩

theorem parrellaw13_ItemPlays_tri (script : List (T_api_Write)) (r : (Bool)) (h : parrellaw13_ItemPlays script = some r) : FnTri Tryd.prog 3 [.ds 21 (script).length (rowF c_T_api_Write default script)] [] (parrellaw13_ItemPlays_v r) [] := FnTri.none (parrellaw13_ItemPlays_ok script r h) rfl rfl

/-- parrel/parrellaw13.ItemRise -/

def parrellaw13_ItemRise_v (r : (Bool)) : LV := .bool r

def parrellaw13_ItemRise_T1 (t30 : Int) (y7 : (List (T_api_Write))) (yL0_4 : (List (T_api_Write))) (yL0_6 : (Int) × (List (A8 (Int) × T_api_Item))) (t52 : Int) : List LV := [.any, .any, .any, .ptr 0 0 0, .any, .ptr 1 0 0, .any, .any, .any, .any, .any, .any, .any, .any, .any, .any, .any, .any, .any, .any, .any, .any, .any, .any, .any, .any, .any, .any, .ds 21 (y7).length (rowF c_T_api_Write default y7), .int .i64 ((y7).length : Int), .int .i64 t30, .any, .any, .any, .any, .any, .any, .any, .any, .any, .any, .any, .any, .any, .any, .any, .any, .any, .any, .any, .ds 21 (yL0_4).length (rowF c_T_api_Write default yL0_4), .int .i64 ((yL0_4).length : Int), .int .i64 t52, .any, .any, .any, .any, .any, .any, .any, .any, .any, .any, .any, .any, .any, .any, .any, .any, .any, .any, .any, .any, .any, .any, .any, .any, .any, .any, .any, .any, .any, .any, .any, .any, .any, .any, .any, .any, .any, .any, .any, .any, .any, .any, .any, .any, .any, .any, .any, .any, .any, .any, .any]

def parrellaw13_ItemRise_H1 (t30 : Int) (y7 : (List (T_api_Write))) (yL0_4 : (List (T_api_Write))) (yL0_6 : (Int) × (List (A8 (Int) × T_api_Item))) (t52 : Int) : Heap := [some (.var [.map 2]), some (.var (c_T_api_Write (y7.getD t30.toNat default))), some (.map true [.int .u8, .int .u8, .int .u8, .int .u8, .int .u8, .int .u8, .int .u8, .int .u8] (encM (fun z_ : A8 (Int) => LV.agg [.int .u8 z_.a0, .int .u8 z_.a1, .int .u8 z_.a2, .int .u8 z_.a3, .int .u8 z_.a4, .int .u8 z_.a5, .int .u8 z_.a6, .int .u8 z_.a7]) v_T_api_Item yL0_6.2))]

def parrellaw13_ItemRise_T0 (y7 : (List (T_api_Write))) (t30 : Int) (m : List (A8 (Int) × T_api_Item)) : List LV := [.any, .any, .any, .ptr 0 0 0, .any, .any, .any, .any, .any, .any, .any, .any, .any, .any, .any, .any, .any, .any, .any, .any, .any, .any, .any, .any, .any, .any, .any, .any, .ds 21 (y7).length (rowF c_T_api_Write default y7), .int .i64 ((y7).length : Int), .int .i64 t30, .any, .any, .any, .any, .any, .any, .any, .any, .any, .any, .any, .any, .any, .any, .any, .any, .any, .any, .any, .any, .any, .any, .any, .any, .any, .any, .any, .any, .any, .any, .any, .any, .any, .any, .any, .any, .any, .any, .any, .any, .any, .any, .any, .any, .any, .any, .any, .any, .any, .any, .any, .any, .any, .any, .any, .any, .any, .any, .any, .any, .any, .any, .any, .any, .any, .any, .any, .any, .any, .any, .any, .any, .any]

def parrellaw13_ItemRise_H0 (y7 : (List (T_api_Write))) (t30 : Int) (m : List (A8 (Int) × T_api_Item)) : Heap := [some (.var [.map 1]), some (.map true [.int .u8, .int .u8, .int .u8, .int .u8, .int .u8, .int .u8, .int .u8, .int .u8] (encM (fun z_ : A8 (Int) => LV.agg [.int .u8 z_.a0, .int .u8 z_.a1, .int .u8 z_.a2, .int .u8 z_.a3, .int .u8 z_.a4, .int .u8 z_.a5, .int .u8 z_.a6, .int .u8 z_.a7]) v_T_api_Item m))]

def parrellaw13_ItemRise_l1 (t30 : Int) (y7 : (List (T_api_Write))) (yL0_4 : (List (T_api_Write))) (yL0_6 : (Int) × (List (A8 (Int) × T_api_Item))) (k0 : (Int) → (List (A8 (Int) × T_api_Item)) → Option ((Bool))) : Nat → (Int) → Option ((Bool))
  | 0, _ => none
  | fuel + 1, t52 =>
    if ((decide (t52 < ((yL0_4).length : Int))) : Bool) then
      if 0 ≤ t52 ∧ t52 < (((yL0_4).length : Nat) : Int) then
      (item_Table_Get yL0_6.2 (yL0_4.getD t52.toNat default).f_Key).bind fun yL1_4 =>
      if ((!yL1_4.2) : Bool) then
        some false
      else
        if ((decide (yL1_4.1.f_Version < (yL0_4.getD t52.toNat default).f_Item.f_Version)) : Bool) then
          some false
        else
          if ((!decide ((yL0_4.getD t52.toNat default).f_Key = (y7.getD t30.toNat default).f_Key)) : Bool) then
            if ((!decide (yL1_4.1 = (yL0_4.getD t52.toNat default).f_Item)) : Bool) then
              some false
            else
              parrellaw13_ItemRise_l1 t30 y7 yL0_4 yL0_6 k0 fuel (IntKind.wrap .i64 (t52 + 1))
          else
            parrellaw13_ItemRise_l1 t30 y7 yL0_4 yL0_6 k0 fuel (IntKind.wrap .i64 (t52 + 1))
      else none
    else
      (item_Table_Get yL0_6.2 (y7.getD t30.toNat default).f_Key).bind fun yL1_3 =>
      if ((!yL1_3.2) : Bool) then
        some false
      else
        if ((!decide (yL1_3.1 = (y7.getD t30.toNat default).f_Item)) : Bool) then
          some false
        else
          k0 (IntKind.wrap .i64 (t30 + 1)) yL0_6.2

def parrellaw13_ItemRise_l0 (y7 : (List (T_api_Write)))  : Nat → (Int) → (List (A8 (Int) × T_api_Item)) → Option ((Bool))
  | 0, _, _ => none
  | fuel + 1, t30, m =>
    if ((decide (t30 < ((y7).length : Int))) : Bool) then
      if 0 ≤ t30 ∧ t30 < (((y7).length : Nat) : Int) then
      (item_Table_All m).bind fun yL0_4 =>
      (item_Table_Install m (y7.getD t30.toNat default).f_Key (y7.getD t30.toNat default).f_Item).bind fun yL0_6 =>
      (item_Table_All yL0_6.2).bind fun yL0_8 =>
      if ((yL0_6.1 != 0) : Bool) then
        (parrelref10_SameWrites yL0_4 yL0_8).bind fun yL0_11 =>
        if ((!yL0_11) : Bool) then
          some false
        else
          parrellaw13_ItemRise_l0 y7  fuel (IntKind.wrap .i64 (t30 + 1)) yL0_6.2
      else
        parrellaw13_ItemRise_l1 t30 y7 yL0_4 yL0_6 (parrellaw13_ItemRise_l0 y7  fuel) big 0
      else none
    else
      (parrellaw13_alive).bind fun yL0_3 =>
      some yL0_3

def parrellaw13_ItemRise (script : List (T_api_Write)) : Option ((Bool)) :=
  (item_New).bind fun y2 =>
  (parrellaw13_long script).bind fun y4 =>
  if (y4 : Bool) then
    (parrellaw13_alive).bind fun y7 =>
    some y7
  else
    (parrellaw13_short script).bind fun y7 =>
    parrellaw13_ItemRise_l0 y7  big 0 y2

theorem parrellaw13_ItemRise_l1_ok {w0 : World} {W : Nat → Prop} {μ0 : Emb} (hμ : ∀ c p, μ0 c = some p → c < 0) (t30 : Int) (y7 : (List (T_api_Write))) (yL0_4 : (List (T_api_Write))) (yL0_6 : (Int) × (List (A8 (Int) × T_api_Item))) (k0 : (Int) → (List (A8 (Int) × T_api_Item)) → Option ((Bool))) (hk0 : ∀ (t30 : Int) (m : List (A8 (Int) × T_api_Item)) (r : (Bool)), k0 t30 m = some r → kont Tryd.prog w0 W μ0 (FnPost Tryd.prog Tryd.f4 0 0 (parrellaw13_ItemRise_v r) []) (kAt (bodyOf Tryd.f4) 0) none (parrellaw13_ItemRise_T0 y7 t30 m) (parrellaw13_ItemRise_H0 y7 t30 m)) : ∀ (fuel : Nat) (t52 : Int) (r : (Bool)), parrellaw13_ItemRise_l1 t30 y7 yL0_4 yL0_6 k0 fuel t52 = some r → kont Tryd.prog w0 W μ0 (FnPost Tryd.prog Tryd.f4 0 0 (parrellaw13_ItemRise_v r) []) (kAt (bodyOf Tryd.f4) 1) none (parrellaw13_ItemRise_T1 t30 y7 yL0_4 yL0_6 t52) (parrellaw13_ItemRise_H1 t30 y7 yL0_4 yL0_6 t52) := by
  intro fuel
  induction fuel with
  | zero => intro t52 r h; rw [parrellaw13_ItemRise_l1] at h; cases h
  | succ fuel ih =>
    intro t52 r h
    rw [parrellaw13_ItemRise_l1] at h
    rcases itb_some h with ⟨cL1_1, h⟩ | ⟨cL1_1, h⟩
    · skip
      obtain ⟨gL1_2, h⟩ := guard_some h
      obtain ⟨yL1_4, eL1_3, h⟩ := bind_some h
      rcases itb_some h with ⟨cL1_5, h⟩ | ⟨cL1_5, h⟩
      · skip
        obtain rfl := Option.some.inj h
        exact run_ret mixed (L := []) (n := 31) (s := [.go, .reg [(0, { v := some (.bool true) })], .reg [], .reg [(3, { call := some ((item_Table_Get_v yL1_4).ren (sel [0, 2]), preOf (sel [0, 2]) 0 (item_Table_Get_objs yL0_6.2 (yL0_4.getD t52.toNat default).f_Key), upOf (sel [0, 2]) (item_Table_Get_up yL0_6.2 (yL0_4.getD t52.toNat default).f_Key yL1_4)) })], .reg [(2, { v := some (.bool true) })], .reg []])
          (a_ (a_ (a_ (a_ tr (a_ (leB cL1_1) tr)) tr) (a_ (a_ (a_ (a_ (Eq.refl 21) gL1_2) tr) (a_ (a_ (le_ 21 21 rfl) tr) (a_ (a_ tr tr) (a_ (a_ (a_ (Eq.refl 21) (a_ (le_ 21 21 rfl) (Eq.refl 0))) tr) tr)))) (a_ (a_ (a_ tr tr) (a_ (a_ tr tr) (a_ (a_ (a_ tr (le_ 8 21 rfl)) tr) (a_ (a_ (a_ (item_Table_Get_ok yL0_6.2 (yL0_4.getD t52.toNat default).f_Key yL1_4 eL1_3 (sel [0, 2]) (sel_inj rfl rfl)) (a_ (LO.Le.refl (.var [.map 2])) (a_ (LO.Le.refl (.map true [.int .u8, .int .u8, .int .u8, .int .u8, .int .u8, .int .u8, .int .u8, .int .u8] (encM (fun z_ : A8 (Int) => LV.agg [.int .u8 z_.a0, .int .u8 z_.a1, .int .u8 z_.a2, .int .u8 z_.a3, .int .u8 z_.a4, .int .u8 z_.a5, .int .u8 z_.a6, .int .u8 z_.a7]) v_T_api_Item yL0_6.2))) tr))) tr) (a_ (a_ tr tr) (a_ (a_ tr tr) (a_ (a_ tr tr) (a_ (a_ tr tr) (a_ (a_ (a_ (Eq.refl 13) (a_ (le_ 13 13 rfl) (Eq.refl 0))) tr) (a_ (a_ tr tr) tr)))))))))) (a_ (a_ (a_ tr tr) (a_ (a_ tr tr) (a_ (a_ tr (a_ (leB cL1_5) tr)) (a_ tr (a_ tr (a_ tr (a_ tr (a_ tr (a_ tr (a_ (a_ tr tr) (a_ (a_ tr tr) (a_ tr (a_ tr (a_ tr (a_ tr (a_ tr (a_ tr (a_ tr (a_ tr (a_ tr (a_ tr (a_ tr (a_ (a_ tr tr) tr))))))))))))))))))))))) (a_ (a_ (a_ tr tr) tr) tr))))) tr) (by kernel_rfl) rfl
      · skip
        rcases itb_some h with ⟨cL1_6, h⟩ | ⟨cL1_6, h⟩
        · skip
          obtain rfl := Option.some.inj h
          exact run_ret mixed (L := []) (n := 31) (s := [.go, .reg [(0, { v := some (.bool true) })], .reg [], .reg [(3, { call := some ((item_Table_Get_v yL1_4).ren (sel [0, 2]), preOf (sel [0, 2]) 0 (item_Table_Get_objs yL0_6.2 (yL0_4.getD t52.toNat default).f_Key), upOf (sel [0, 2]) (item_Table_Get_up yL0_6.2 (yL0_4.getD t52.toNat default).f_Key yL1_4)) })], .reg [(2, { v := some (.bool false) }), (10, { v := some (.bool true) })], .reg []])
            (a_ (a_ (a_ (a_ tr (a_ (leB cL1_1) tr)) tr) (a_ (a_ (a_ (a_ (Eq.refl 21) gL1_2) tr) (a_ (a_ (le_ 21 21 rfl) tr) (a_ (a_ tr tr) (a_ (a_ (a_ (Eq.refl 21) (a_ (le_ 21 21 rfl) (Eq.refl 0))) tr) tr)))) (a_ (a_ (a_ tr tr) (a_ (a_ tr tr) (a_ (a_ (a_ tr (le_ 8 21 rfl)) tr) (a_ (a_ (a_ (item_Table_Get_ok yL0_6.2 (yL0_4.getD t52.toNat default).f_Key yL1_4 eL1_3 (sel [0, 2]) (sel_inj rfl rfl)) (a_ (LO.Le.refl (.var [.map 2])) (a_ (LO.Le.refl (.map true [.int .u8, .int .u8, .int .u8, .int .u8, .int .u8, .int .u8, .int .u8, .int .u8] (encM (fun z_ : A8 (Int) => LV.agg [.int .u8 z_.a0, .int .u8 z_.a1, .int .u8 z_.a2, .int .u8 z_.a3, .int .u8 z_.a4, .int .u8 z_.a5, .int .u8 z_.a6, .int .u8 z_.a7]) v_T_api_Item yL0_6.2))) tr))) tr) (a_ (a_ tr tr) (a_ (a_ tr tr) (a_ (a_ tr tr) (a_ (a_ tr tr) (a_ (a_ (a_ (Eq.refl 13) (a_ (le_ 13 13 rfl) (Eq.refl 0))) tr) (a_ (a_ tr tr) tr)))))))))) (a_ (a_ (a_ tr tr) (a_ (a_ tr tr) (a_ (a_ tr (a_ (leB cL1_5) tr)) (a_ (a_ tr tr) (a_ (a_ (a_ tr (lt_ 0 13 rfl)) tr) (a_ (a_ tr tr) (a_ (a_ tr tr) (a_ (a_ (a_ tr (lt_ 8 21 rfl)) tr) (a_ (a_ tr tr) (a_ (a_ tr tr) (a_ (a_ tr (a_ (leB cL1_6) tr)) (a_ tr (a_ tr (a_ tr (a_ tr (a_ tr (a_ tr (a_ tr (a_ tr (a_ tr (a_ tr (a_ tr (a_ (a_ tr tr) tr))))))))))))))))))))))) (a_ (a_ (a_ tr tr) tr) tr))))) tr) (by kernel_rfl) rfl
        · skip
          rcases itb_some h with ⟨cL1_7, h⟩ | ⟨cL1_7, h⟩
          · skip
            rcases itb_some h with ⟨cL1_8, h⟩ | ⟨cL1_8, h⟩
            · skip
              obtain rfl := Option.some.inj h
              exact run_ret mixed (L := []) (n := 31) (s := [.go, .reg [(0, { v := some (.bool true) })], .reg [], .reg [(3, { call := some ((item_Table_Get_v yL1_4).ren (sel [0, 2]), preOf (sel [0, 2]) 0 (item_Table_Get_objs yL0_6.2 (yL0_4.getD t52.toNat default).f_Key), upOf (sel [0, 2]) (item_Table_Get_up yL0_6.2 (yL0_4.getD t52.toNat default).f_Key yL1_4)) })], .reg [(2, { v := some (.bool false) }), (10, { v := some (.bool false) }), (15, { v := some (.bool (!decide ((yL0_4.getD t52.toNat default).f_Key = (y7.getD t30.toNat default).f_Key))) }), (16, { v := some (.bool true) }), (20, { v := some (.bool (!decide (yL1_4.1 = (yL0_4.getD t52.toNat default).f_Item))) }), (22, { v := some (.bool true) })], .reg []])
                (a_ (a_ (a_ (a_ tr (a_ (leB cL1_1) tr)) tr) (a_ (a_ (a_ (a_ (Eq.refl 21) gL1_2) tr) (a_ (a_ (le_ 21 21 rfl) tr) (a_ (a_ tr tr) (a_ (a_ (a_ (Eq.refl 21) (a_ (le_ 21 21 rfl) (Eq.refl 0))) tr) tr)))) (a_ (a_ (a_ tr tr) (a_ (a_ tr tr) (a_ (a_ (a_ tr (le_ 8 21 rfl)) tr) (a_ (a_ (a_ (item_Table_Get_ok yL0_6.2 (yL0_4.getD t52.toNat default).f_Key yL1_4 eL1_3 (sel [0, 2]) (sel_inj rfl rfl)) (a_ (LO.Le.refl (.var [.map 2])) (a_ (LO.Le.refl (.map true [.int .u8, .int .u8, .int .u8, .int .u8, .int .u8, .int .u8, .int .u8, .int .u8] (encM (fun z_ : A8 (Int) => LV.agg [.int .u8 z_.a0, .int .u8 z_.a1, .int .u8 z_.a2, .int .u8 z_.a3, .int .u8 z_.a4, .int .u8 z_.a5, .int .u8 z_.a6, .int .u8 z_.a7]) v_T_api_Item yL0_6.2))) tr))) tr) (a_ (a_ tr tr) (a_ (a_ tr tr) (a_ (a_ tr tr) (a_ (a_ tr tr) (a_ (a_ (a_ (Eq.refl 13) (a_ (le_ 13 13 rfl) (Eq.refl 0))) tr) (a_ (a_ tr tr) tr)))))))))) (a_ (a_ (a_ tr tr) (a_ (a_ tr tr) (a_ (a_ tr (a_ (leB cL1_5) tr)) (a_ (a_ tr tr) (a_ (a_ (a_ tr (lt_ 0 13 rfl)) tr) (a_ (a_ tr tr) (a_ (a_ tr tr) (a_ (a_ (a_ tr (lt_ 8 21 rfl)) tr) (a_ (a_ tr tr) (a_ (a_ tr tr) (a_ (a_ tr (a_ (leB cL1_6) tr)) (a_ (a_ tr tr) (a_ (a_ (a_ tr (le_ 8 21 rfl)) tr) (a_ (a_ tr tr) (a_ (a_ (a_ tr (le_ 8 21 rfl)) tr) (a_ (a_ tr (a_ (leB (congrArg not ((k_arr8 .u8) (yL0_4.getD t52.toNat default).f_Key (y7.getD t30.toNat default).f_Key))) tr)) (a_ (a_ tr (a_ (leB cL1_7) tr)) (a_ (a_ (a_ tr (le_ 13 13 rfl)) tr) (a_ (a_ tr tr) (a_ (a_ (a_ tr (le_ 21 21 rfl)) tr) (a_ (a_ tr (a_ (leB (congrArg not (k_T_api_Item yL1_4.1 (yL0_4.getD t52.toNat default).f_Item))) tr)) (a_ (a_ tr tr) (a_ (a_ tr (a_ (leB cL1_8) tr)) tr))))))))))))))))))))))) (a_ (a_ (a_ tr tr) tr) tr))))) tr) (by kernel_rfl) rfl
            · skip
              exact run_to mixed hμ (L := [0, 1, 2]) (n := 32) (s := [.go, .reg [(0, { v := some (.bool true) })], .reg [], .reg [(3, { call := some ((item_Table_Get_v yL1_4).ren (sel [0, 2]), preOf (sel [0, 2]) 0 (item_Table_Get_objs yL0_6.2 (yL0_4.getD t52.toNat default).f_Key), upOf (sel [0, 2]) (item_Table_Get_up yL0_6.2 (yL0_4.getD t52.toNat default).f_Key yL1_4)) })], .reg [(2, { v := some (.bool false) }), (10, { v := some (.bool false) }), (15, { v := some (.bool (!decide ((yL0_4.getD t52.toNat default).f_Key = (y7.getD t30.toNat default).f_Key))) }), (16, { v := some (.bool true) }), (20, { v := some (.bool (!decide (yL1_4.1 = (yL0_4.getD t52.toNat default).f_Item))) }), (22, { v := some (.bool false) })], .reg []])
                (a_ (a_ (a_ tr (a_ (leB cL1_1) tr)) tr) (a_ (a_ (a_ (a_ (Eq.refl 21) gL1_2) tr) (a_ (a_ (le_ 21 21 rfl) tr) (a_ (a_ tr tr) (a_ (a_ (a_ (Eq.refl 21) (a_ (le_ 21 21 rfl) (Eq.refl 0))) tr) tr)))) (a_ (a_ (a_ tr tr) (a_ (a_ tr tr) (a_ (a_ (a_ tr (le_ 8 21 rfl)) tr) (a_ (a_ (a_ (item_Table_Get_ok yL0_6.2 (yL0_4.getD t52.toNat default).f_Key yL1_4 eL1_3 (sel [0, 2]) (sel_inj rfl rfl)) (a_ (LO.Le.refl (.var [.map 2])) (a_ (LO.Le.refl (.map true [.int .u8, .int .u8, .int .u8, .int .u8, .int .u8, .int .u8, .int .u8, .int .u8] (encM (fun z_ : A8 (Int) => LV.agg [.int .u8 z_.a0, .int .u8 z_.a1, .int .u8 z_.a2, .int .u8 z_.a3, .int .u8 z_.a4, .int .u8 z_.a5, .int .u8 z_.a6, .int .u8 z_.a7]) v_T_api_Item yL0_6.2))) tr))) tr) (a_ (a_ tr tr) (a_ (a_ tr tr) (a_ (a_ tr tr) (a_ (a_ tr tr) (a_ (a_ (a_ (Eq.refl 13) (a_ (le_ 13 13 rfl) (Eq.refl 0))) tr) (a_ (a_ tr tr) tr)))))))))) (a_ (a_ (a_ tr tr) (a_ (a_ tr tr) (a_ (a_ tr (a_ (leB cL1_5) tr)) (a_ (a_ tr tr) (a_ (a_ (a_ tr (lt_ 0 13 rfl)) tr) (a_ (a_ tr tr) (a_ (a_ tr tr) (a_ (a_ (a_ tr (lt_ 8 21 rfl)) tr) (a_ (a_ tr tr) (a_ (a_ tr tr) (a_ (a_ tr (a_ (leB cL1_6) tr)) (a_ (a_ tr tr) (a_ (a_ (a_ tr (le_ 8 21 rfl)) tr) (a_ (a_ tr tr) (a_ (a_ (a_ tr (le_ 8 21 rfl)) tr) (a_ (a_ tr (a_ (leB (congrArg not ((k_arr8 .u8) (yL0_4.getD t52.toNat default).f_Key (y7.getD t30.toNat default).f_Key))) tr)) (a_ (a_ tr (a_ (leB cL1_7) tr)) (a_ (a_ (a_ tr (le_ 13 13 rfl)) tr) (a_ (a_ tr tr) (a_ (a_ (a_ tr (le_ 21 21 rfl)) tr) (a_ (a_ tr (a_ (leB (congrArg not (k_T_api_Item yL1_4.1 (yL0_4.getD t52.toNat default).f_Item))) tr)) (a_ (a_ tr tr) (a_ (a_ tr (a_ (leB cL1_8) tr)) tr))))))))))))))))))))))) (a_ (a_ (a_ tr tr) (a_ (a_ tr tr) tr)) tr))))) (ih _ r h) (by kernel_rfl) ⟨rfl, rfl, trivial, trivial⟩
          · skip
            exact run_to mixed hμ (L := [0, 1, 2]) (n := 32) (s := [.go, .reg [(0, { v := some (.bool true) })], .reg [], .reg [(3, { call := some ((item_Table_Get_v yL1_4).ren (sel [0, 2]), preOf (sel [0, 2]) 0 (item_Table_Get_objs yL0_6.2 (yL0_4.getD t52.toNat default).f_Key), upOf (sel [0, 2]) (item_Table_Get_up yL0_6.2 (yL0_4.getD t52.toNat default).f_Key yL1_4)) })], .reg [(2, { v := some (.bool false) }), (10, { v := some (.bool false) }), (15, { v := some (.bool (!decide ((yL0_4.getD t52.toNat default).f_Key = (y7.getD t30.toNat default).f_Key))) }), (16, { v := some (.bool false) })], .reg []])
              (a_ (a_ (a_ tr (a_ (leB cL1_1) tr)) tr) (a_ (a_ (a_ (a_ (Eq.refl 21) gL1_2) tr) (a_ (a_ (le_ 21 21 rfl) tr) (a_ (a_ tr tr) (a_ (a_ (a_ (Eq.refl 21) (a_ (le_ 21 21 rfl) (Eq.refl 0))) tr) tr)))) (a_ (a_ (a_ tr tr) (a_ (a_ tr tr) (a_ (a_ (a_ tr (le_ 8 21 rfl)) tr) (a_ (a_ (a_ (item_Table_Get_ok yL0_6.2 (yL0_4.getD t52.toNat default).f_Key yL1_4 eL1_3 (sel [0, 2]) (sel_inj rfl rfl)) (a_ (LO.Le.refl (.var [.map 2])) (a_ (LO.Le.refl (.map true [.int .u8, .int .u8, .int .u8, .int .u8, .int .u8, .int .u8, .int .u8, .int .u8] (encM (fun z_ : A8 (Int) => LV.agg [.int .u8 z_.a0, .int .u8 z_.a1, .int .u8 z_.a2, .int .u8 z_.a3, .int .u8 z_.a4, .int .u8 z_.a5, .int .u8 z_.a6, .int .u8 z_.a7]) v_T_api_Item yL0_6.2))) tr))) tr) (a_ (a_ tr tr) (a_ (a_ tr tr) (a_ (a_ tr tr) (a_ (a_ tr tr) (a_ (a_ (a_ (Eq.refl 13) (a_ (le_ 13 13 rfl) (Eq.refl 0))) tr) (a_ (a_ tr tr) tr)))))))))) (a_ (a_ (a_ tr tr) (a_ (a_ tr tr) (a_ (a_ tr (a_ (leB cL1_5) tr)) (a_ (a_ tr tr) (a_ (a_ (a_ tr (lt_ 0 13 rfl)) tr) (a_ (a_ tr tr) (a_ (a_ tr tr) (a_ (a_ (a_ tr (lt_ 8 21 rfl)) tr) (a_ (a_ tr tr) (a_ (a_ tr tr) (a_ (a_ tr (a_ (leB cL1_6) tr)) (a_ (a_ tr tr) (a_ (a_ (a_ tr (le_ 8 21 rfl)) tr) (a_ (a_ tr tr) (a_ (a_ (a_ tr (le_ 8 21 rfl)) tr) (a_ (a_ tr (a_ (leB (congrArg not ((k_arr8 .u8) (yL0_4.getD t52.toNat default).f_Key (y7.getD t30.toNat default).f_Key))) tr)) (a_ (a_ tr (a_ (leB cL1_7) tr)) (a_ tr (a_ tr (a_ tr (a_ tr (a_ (a_ tr tr) (a_ (a_ tr tr) tr))))))))))))))))))))))) (a_ (a_ (a_ tr tr) (a_ (a_ tr tr) tr)) tr))))) (ih _ r h) (by kernel_rfl) ⟨rfl, rfl, trivial, trivial⟩
    · skip
      obtain ⟨yL1_3, eL1_2, h⟩ := bind_some h
      rcases itb_some h with ⟨cL1_4, h⟩ | ⟨cL1_4, h⟩
      · skip
        obtain rfl := Option.some.inj h
        exact run_ret mixed (L := []) (n := 26) (s := [.go, .reg [(0, { v := some (.bool false) })], .reg [(3, { call := some ((item_Table_Get_v yL1_3).ren (sel [0, 2]), preOf (sel [0, 2]) 0 (item_Table_Get_objs yL0_6.2 (y7.getD t30.toNat default).f_Key), upOf (sel [0, 2]) (item_Table_Get_up yL0_6.2 (y7.getD t30.toNat default).f_Key yL1_3)) })], .reg [(2, { v := some (.bool true) })], .reg []])
          (a_ (a_ (a_ (a_ tr (a_ (leB cL1_1) tr)) tr) (a_ (a_ (a_ tr tr) (a_ (a_ tr tr) (a_ (a_ (a_ tr (le_ 8 21 rfl)) tr) (a_ (a_ (a_ (item_Table_Get_ok yL0_6.2 (y7.getD t30.toNat default).f_Key yL1_3 eL1_2 (sel [0, 2]) (sel_inj rfl rfl)) (a_ (LO.Le.refl (.var [.map 2])) (a_ (LO.Le.refl (.map true [.int .u8, .int .u8, .int .u8, .int .u8, .int .u8, .int .u8, .int .u8, .int .u8] (encM (fun z_ : A8 (Int) => LV.agg [.int .u8 z_.a0, .int .u8 z_.a1, .int .u8 z_.a2, .int .u8 z_.a3, .int .u8 z_.a4, .int .u8 z_.a5, .int .u8 z_.a6, .int .u8 z_.a7]) v_T_api_Item yL0_6.2))) tr))) tr) (a_ (a_ tr tr) (a_ (a_ tr tr) (a_ (a_ tr tr) (a_ (a_ tr tr) (a_ (a_ (a_ (Eq.refl 13) (a_ (le_ 13 13 rfl) (Eq.refl 0))) tr) (a_ (a_ tr tr) tr)))))))))) (a_ (a_ (a_ tr tr) (a_ (a_ tr tr) (a_ (a_ tr (a_ (leB cL1_4) tr)) (a_ tr (a_ tr (a_ tr (a_ tr (a_ (a_ tr tr) tr)))))))) (a_ (a_ (a_ tr tr) tr) tr)))) tr) (by kernel_rfl) rfl
      · skip
        rcases itb_some h with ⟨cL1_5, h⟩ | ⟨cL1_5, h⟩
        · skip
          obtain rfl := Option.some.inj h
          exact run_ret mixed (L := []) (n := 26) (s := [.go, .reg [(0, { v := some (.bool false) })], .reg [(3, { call := some ((item_Table_Get_v yL1_3).ren (sel [0, 2]), preOf (sel [0, 2]) 0 (item_Table_Get_objs yL0_6.2 (y7.getD t30.toNat default).f_Key), upOf (sel [0, 2]) (item_Table_Get_up yL0_6.2 (y7.getD t30.toNat default).f_Key yL1_3)) })], .reg [(2, { v := some (.bool false) }), (6, { v := some (.bool (!decide (yL1_3.1 = (y7.getD t30.toNat default).f_Item))) }), (7, { v := some (.bool true) })], .reg []])
            (a_ (a_ (a_ (a_ tr (a_ (leB cL1_1) tr)) tr) (a_ (a_ (a_ tr tr) (a_ (a_ tr tr) (a_ (a_ (a_ tr (le_ 8 21 rfl)) tr) (a_ (a_ (a_ (item_Table_Get_ok yL0_6.2 (y7.getD t30.toNat default).f_Key yL1_3 eL1_2 (sel [0, 2]) (sel_inj rfl rfl)) (a_ (LO.Le.refl (.var [.map 2])) (a_ (LO.Le.refl (.map true [.int .u8, .int .u8, .int .u8, .int .u8, .int .u8, .int .u8, .int .u8, .int .u8] (encM (fun z_ : A8 (Int) => LV.agg [.int .u8 z_.a0, .int .u8 z_.a1, .int .u8 z_.a2, .int .u8 z_.a3, .int .u8 z_.a4, .int .u8 z_.a5, .int .u8 z_.a6, .int .u8 z_.a7]) v_T_api_Item yL0_6.2))) tr))) tr) (a_ (a_ tr tr) (a_ (a_ tr tr) (a_ (a_ tr tr) (a_ (a_ tr tr) (a_ (a_ (a_ (Eq.refl 13) (a_ (le_ 13 13 rfl) (Eq.refl 0))) tr) (a_ (a_ tr tr) tr)))))))))) (a_ (a_ (a_ tr tr) (a_ (a_ tr tr) (a_ (a_ tr (a_ (leB cL1_4) tr)) (a_ (a_ (a_ tr (le_ 13 13 rfl)) tr) (a_ (a_ tr tr) (a_ (a_ (a_ tr (le_ 21 21 rfl)) tr) (a_ (a_ tr (a_ (leB (congrArg not (k_T_api_Item yL1_3.1 (y7.getD t30.toNat default).f_Item))) tr)) (a_ (a_ tr (a_ (leB cL1_5) tr)) tr)))))))) (a_ (a_ (a_ tr tr) tr) tr)))) tr) (by kernel_rfl) rfl
        · skip
          exact run_to mixed hμ (L := [0, 2]) (n := 27) (s := [.go, .reg [(0, { v := some (.bool false) })], .reg [(3, { call := some ((item_Table_Get_v yL1_3).ren (sel [0, 2]), preOf (sel [0, 2]) 0 (item_Table_Get_objs yL0_6.2 (y7.getD t30.toNat default).f_Key), upOf (sel [0, 2]) (item_Table_Get_up yL0_6.2 (y7.getD t30.toNat default).f_Key yL1_3)) })], .reg [(2, { v := some (.bool false) }), (6, { v := some (.bool (!decide (yL1_3.1 = (y7.getD t30.toNat default).f_Item))) }), (7, { v := some (.bool false) })], .reg []])
            (a_ (a_ (a_ tr (a_ (leB cL1_1) tr)) tr) (a_ (a_ (a_ tr tr) (a_ (a_ tr tr) (a_ (a_ (a_ tr (le_ 8 21 rfl)) tr) (a_ (a_ (a_ (item_Table_Get_ok yL0_6.2 (y7.getD t30.toNat default).f_Key yL1_3 eL1_2 (sel [0, 2]) (sel_inj rfl rfl)) (a_ (LO.Le.refl (.var [.map 2])) (a_ (LO.Le.refl (.map true [.int .u8, .int .u8, .int .u8, .int .u8, .int .u8, .int .u8, .int .u8, .int .u8] (encM (fun z_ : A8 (Int) => LV.agg [.int .u8 z_.a0, .int .u8 z_.a1, .int .u8 z_.a2, .int .u8 z_.a3, .int .u8 z_.a4, .int .u8 z_.a5, .int .u8 z_.a6, .int .u8 z_.a7]) v_T_api_Item yL0_6.2))) tr))) tr) (a_ (a_ tr tr) (a_ (a_ tr tr) (a_ (a_ tr tr) (a_ (a_ tr tr) (a_ (a_ (a_ (Eq.refl 13) (a_ (le_ 13 13 rfl) (Eq.refl 0))) tr) (a_ (a_ tr tr) tr)))))))))) (a_ (a_ (a_ tr tr) (a_ (a_ tr tr) (a_ (a_ tr (a_ (leB cL1_4) tr)) (a_ (a_ (a_ tr (le_ 13 13 rfl)) tr) (a_ (a_ tr tr) (a_ (a_ (a_ tr (le_ 21 21 rfl)) tr) (a_ (a_ tr (a_ (leB (congrArg not (k_T_api_Item yL1_3.1 (y7.getD t30.toNat default).f_Item))) tr)) (a_ (a_ tr (a_ (leB cL1_5) tr)) tr)))))))) (a_ (a_ (a_ tr tr) (a_ (a_ tr tr) tr)) tr)))) (hk0 _ _ r h) (by kernel_rfl) ⟨rfl, trivial, trivial⟩

theorem parrellaw13_ItemRise_l0_ok {w0 : World} {W : Nat → Prop} {μ0 : Emb} (hμ : ∀ c p, μ0 c = some p → c < 0) (y7 : (List (T_api_Write)))  : ∀ (fuel : Nat) (t30 : Int) (m : List (A8 (Int) × T_api_Item)) (r : (Bool)), parrellaw13_ItemRise_l0 y7  fuel t30 m = some r → kont Tryd.prog w0 W μ0 (FnPost Tryd.prog Tryd.f4 0 0 (parrellaw13_ItemRise_v r) []) (kAt (bodyOf Tryd.f4) 0) none (parrellaw13_ItemRise_T0 y7 t30 m) (parrellaw13_ItemRise_H0 y7 t30 m) := by
  intro fuel
  induction fuel with
  | zero => intro t30 m r h; rw [parrellaw13_ItemRise_l0] at h; cases h
  | succ fuel ih =>
    intro t30 m r h
    rw [parrellaw13_ItemRise_l0] at h
    rcases itb_some h with ⟨cL0_1, h⟩ | ⟨cL0_1, h⟩
    · skip
      obtain ⟨gL0_2, h⟩ := guard_some h
      obtain ⟨yL0_4, eL0_3, h⟩ := bind_some h
      obtain ⟨yL0_6, eL0_5, h⟩ := bind_some h
      obtain ⟨yL0_8, eL0_7, h⟩ := bind_some h
      rcases itb_some h with ⟨cL0_9, h⟩ | ⟨cL0_9, h⟩
      · skip
        obtain ⟨yL0_11, eL0_10, h⟩ := bind_some h
        rcases itb_some h with ⟨cL0_12, h⟩ | ⟨cL0_12, h⟩
        · skip
          obtain rfl := Option.some.inj h
          exact run_ret mixed (L := []) (n := 43) (s := [.go, .reg [(0, { v := some (.bool true) })], .reg [], .reg [(1, { call := some ((item_Table_All_v yL0_4).ren (sel [0, 1]), preOf (sel [0, 1]) 0 (item_Table_All_objs m), upOf (sel [0, 1]) (item_Table_All_up m yL0_4)) })], .reg [(5, { call := some ((item_Table_Install_v yL0_6).ren (sel [0, 1]), preOf (sel [0, 1]) 0 (item_Table_Install_objs m (y7.getD t30.toNat default).f_Key (y7.getD t30.toNat default).f_Item), upOf (sel [0, 1]) (item_Table_Install_up m (y7.getD t30.toNat default).f_Key (y7.getD t30.toNat default).f_Item yL0_6)) })], .reg [(1, { call := some ((item_Table_All_v yL0_8).ren (sel [0, 1]), preOf (sel [0, 1]) 0 (item_Table_All_objs yL0_6.2), upOf (sel [0, 1]) (item_Table_All_up yL0_6.2 yL0_8)) })], .reg [(1, { v := some (.bool true) })], .reg [(2, { call := some (parrelref10_SameWrites_v yL0_11, [], []) }), (3, { v := some (.bool true) })], .reg []])
            (a_ (a_ (a_ (a_ tr (a_ (leB cL0_1) tr)) tr) (a_ (a_ (a_ (a_ (Eq.refl 21) gL0_2) tr) (a_ (a_ (le_ 21 21 rfl) tr) (a_ (a_ tr tr) (a_ (a_ (a_ (Eq.refl 21) (a_ (le_ 21 21 rfl) (Eq.refl 0))) tr) tr)))) (a_ (a_ (a_ tr tr) (a_ (a_ (a_ (item_Table_All_ok m yL0_4 eL0_3 (sel [0, 1]) (sel_inj rfl rfl)) (a_ (LO.Le.refl (.var [.map 1])) (a_ (LO.Le.refl (.map true [.int .u8, .int .u8, .int .u8, .int .u8, .int .u8, .int .u8, .int .u8, .int .u8] (encM (fun z_ : A8 (Int) => LV.agg [.int .u8 z_.a0, .int .u8 z_.a1, .int .u8 z_.a2, .int .u8 z_.a3, .int .u8 z_.a4, .int .u8 z_.a5, .int .u8 z_.a6, .int .u8 z_.a7]) v_T_api_Item m))) tr))) tr) (a_ (a_ tr tr) tr))) (a_ (a_ (a_ tr tr) (a_ (a_ tr tr) (a_ (a_ (a_ tr (le_ 8 21 rfl)) tr) (a_ (a_ tr tr) (a_ (a_ (a_ tr (le_ 21 21 rfl)) tr) (a_ (a_ (a_ (item_Table_Install_ok m (y7.getD t30.toNat default).f_Key (y7.getD t30.toNat default).f_Item yL0_6 eL0_5 (sel [0, 1]) (sel_inj rfl rfl)) (a_ (LO.Le.refl (.var [.map 1])) (a_ (LO.Le.refl (.map true [.int .u8, .int .u8, .int .u8, .int .u8, .int .u8, .int .u8, .int .u8, .int .u8] (encM (fun z_ : A8 (Int) => LV.agg [.int .u8 z_.a0, .int .u8 z_.a1, .int .u8 z_.a2, .int .u8 z_.a3, .int .u8 z_.a4, .int .u8 z_.a5, .int .u8 z_.a6, .int .u8 z_.a7]) v_T_api_Item m))) tr))) tr) (a_ (a_ tr tr) tr))))))) (a_ (a_ (a_ tr tr) (a_ (a_ (a_ (item_Table_All_ok yL0_6.2 yL0_8 eL0_7 (sel [0, 1]) (sel_inj rfl rfl)) (a_ (LO.Le.refl (.var [.map 1])) (a_ (LO.Le.refl (.map true [.int .u8, .int .u8, .int .u8, .int .u8, .int .u8, .int .u8, .int .u8, .int .u8] (encM (fun z_ : A8 (Int) => LV.agg [.int .u8 z_.a0, .int .u8 z_.a1, .int .u8 z_.a2, .int .u8 z_.a3, .int .u8 z_.a4, .int .u8 z_.a5, .int .u8 z_.a6, .int .u8 z_.a7]) v_T_api_Item yL0_6.2))) tr))) tr) (a_ (a_ tr tr) tr))) (a_ (a_ (a_ tr tr) (a_ (a_ tr (a_ (leB cL0_9) tr)) tr)) (a_ (a_ (a_ tr tr) (a_ (a_ tr tr) (a_ (a_ (a_ (parrelref10_SameWrites_tri yL0_4 yL0_8 yL0_11 eL0_10) tr) tr) (a_ (a_ tr (a_ (leB cL0_12) tr)) tr)))) (a_ (a_ (a_ tr tr) tr) tr)))))))) tr) (by kernel_rfl) rfl
        · skip
          exact run_to mixed hμ (L := [0, 1]) (n := 44) (s := [.go, .reg [(0, { v := some (.bool true) })], .reg [], .reg [(1, { call := some ((item_Table_All_v yL0_4).ren (sel [0, 1]), preOf (sel [0, 1]) 0 (item_Table_All_objs m), upOf (sel [0, 1]) (item_Table_All_up m yL0_4)) })], .reg [(5, { call := some ((item_Table_Install_v yL0_6).ren (sel [0, 1]), preOf (sel [0, 1]) 0 (item_Table_Install_objs m (y7.getD t30.toNat default).f_Key (y7.getD t30.toNat default).f_Item), upOf (sel [0, 1]) (item_Table_Install_up m (y7.getD t30.toNat default).f_Key (y7.getD t30.toNat default).f_Item yL0_6)) })], .reg [(1, { call := some ((item_Table_All_v yL0_8).ren (sel [0, 1]), preOf (sel [0, 1]) 0 (item_Table_All_objs yL0_6.2), upOf (sel [0, 1]) (item_Table_All_up yL0_6.2 yL0_8)) })], .reg [(1, { v := some (.bool true) })], .reg [(2, { call := some (parrelref10_SameWrites_v yL0_11, [], []) }), (3, { v := some (.bool false) })], .reg []])
            (a_ (a_ (a_ tr (a_ (leB cL0_1) tr)) tr) (a_ (a_ (a_ (a_ (Eq.refl 21) gL0_2) tr) (a_ (a_ (le_ 21 21 rfl) tr) (a_ (a_ tr tr) (a_ (a_ (a_ (Eq.refl 21) (a_ (le_ 21 21 rfl) (Eq.refl 0))) tr) tr)))) (a_ (a_ (a_ tr tr) (a_ (a_ (a_ (item_Table_All_ok m yL0_4 eL0_3 (sel [0, 1]) (sel_inj rfl rfl)) (a_ (LO.Le.refl (.var [.map 1])) (a_ (LO.Le.refl (.map true [.int .u8, .int .u8, .int .u8, .int .u8, .int .u8, .int .u8, .int .u8, .int .u8] (encM (fun z_ : A8 (Int) => LV.agg [.int .u8 z_.a0, .int .u8 z_.a1, .int .u8 z_.a2, .int .u8 z_.a3, .int .u8 z_.a4, .int .u8 z_.a5, .int .u8 z_.a6, .int .u8 z_.a7]) v_T_api_Item m))) tr))) tr) (a_ (a_ tr tr) tr))) (a_ (a_ (a_ tr tr) (a_ (a_ tr tr) (a_ (a_ (a_ tr (le_ 8 21 rfl)) tr) (a_ (a_ tr tr) (a_ (a_ (a_ tr (le_ 21 21 rfl)) tr) (a_ (a_ (a_ (item_Table_Install_ok m (y7.getD t30.toNat default).f_Key (y7.getD t30.toNat default).f_Item yL0_6 eL0_5 (sel [0, 1]) (sel_inj rfl rfl)) (a_ (LO.Le.refl (.var [.map 1])) (a_ (LO.Le.refl (.map true [.int .u8, .int .u8, .int .u8, .int .u8, .int .u8, .int .u8, .int .u8, .int .u8] (encM (fun z_ : A8 (Int) => LV.agg [.int .u8 z_.a0, .int .u8 z_.a1, .int .u8 z_.a2, .int .u8 z_.a3, .int .u8 z_.a4, .int .u8 z_.a5, .int .u8 z_.a6, .int .u8 z_.a7]) v_T_api_Item m))) tr))) tr) (a_ (a_ tr tr) tr))))))) (a_ (a_ (a_ tr tr) (a_ (a_ (a_ (item_Table_All_ok yL0_6.2 yL0_8 eL0_7 (sel [0, 1]) (sel_inj rfl rfl)) (a_ (LO.Le.refl (.var [.map 1])) (a_ (LO.Le.refl (.map true [.int .u8, .int .u8, .int .u8, .int .u8, .int .u8, .int .u8, .int .u8, .int .u8] (encM (fun z_ : A8 (Int) => LV.agg [.int .u8 z_.a0, .int .u8 z_.a1, .int .u8 z_.a2, .int .u8 z_.a3, .int .u8 z_.a4, .int .u8 z_.a5, .int .u8 z_.a6, .int .u8 z_.a7]) v_T_api_Item yL0_6.2))) tr))) tr) (a_ (a_ tr tr) tr))) (a_ (a_ (a_ tr tr) (a_ (a_ tr (a_ (leB cL0_9) tr)) tr)) (a_ (a_ (a_ tr tr) (a_ (a_ tr tr) (a_ (a_ (a_ (parrelref10_SameWrites_tri yL0_4 yL0_8 yL0_11 eL0_10) tr) tr) (a_ (a_ tr (a_ (leB cL0_12) tr)) tr)))) (a_ (a_ (a_ tr tr) (a_ (a_ tr tr) tr)) tr)))))))) (ih _ _ r h) (by kernel_rfl) ⟨rfl, trivial, trivial⟩
      · skip
        exact run_to mixed hμ (L := [0, 2, 1]) (n := 42) (s := [.go, .reg [(0, { v := some (.bool true) })], .reg [], .reg [(1, { call := some ((item_Table_All_v yL0_4).ren (sel [0, 1]), preOf (sel [0, 1]) 0 (item_Table_All_objs m), upOf (sel [0, 1]) (item_Table_All_up m yL0_4)) })], .reg [(5, { call := some ((item_Table_Install_v yL0_6).ren (sel [0, 1]), preOf (sel [0, 1]) 0 (item_Table_Install_objs m (y7.getD t30.toNat default).f_Key (y7.getD t30.toNat default).f_Item), upOf (sel [0, 1]) (item_Table_Install_up m (y7.getD t30.toNat default).f_Key (y7.getD t30.toNat default).f_Item yL0_6)) })], .reg [(1, { call := some ((item_Table_All_v yL0_8).ren (sel [0, 1]), preOf (sel [0, 1]) 0 (item_Table_All_objs yL0_6.2), upOf (sel [0, 1]) (item_Table_All_up yL0_6.2 yL0_8)) })], .reg [(1, { v := some (.bool false) })], .reg []])
          (a_ (a_ (a_ tr (a_ (leB cL0_1) tr)) tr) (a_ (a_ (a_ (a_ (Eq.refl 21) gL0_2) tr) (a_ (a_ (le_ 21 21 rfl) tr) (a_ (a_ tr tr) (a_ (a_ (a_ (Eq.refl 21) (a_ (le_ 21 21 rfl) (Eq.refl 0))) tr) tr)))) (a_ (a_ (a_ tr tr) (a_ (a_ (a_ (item_Table_All_ok m yL0_4 eL0_3 (sel [0, 1]) (sel_inj rfl rfl)) (a_ (LO.Le.refl (.var [.map 1])) (a_ (LO.Le.refl (.map true [.int .u8, .int .u8, .int .u8, .int .u8, .int .u8, .int .u8, .int .u8, .int .u8] (encM (fun z_ : A8 (Int) => LV.agg [.int .u8 z_.a0, .int .u8 z_.a1, .int .u8 z_.a2, .int .u8 z_.a3, .int .u8 z_.a4, .int .u8 z_.a5, .int .u8 z_.a6, .int .u8 z_.a7]) v_T_api_Item m))) tr))) tr) (a_ (a_ tr tr) tr))) (a_ (a_ (a_ tr tr) (a_ (a_ tr tr) (a_ (a_ (a_ tr (le_ 8 21 rfl)) tr) (a_ (a_ tr tr) (a_ (a_ (a_ tr (le_ 21 21 rfl)) tr) (a_ (a_ (a_ (item_Table_Install_ok m (y7.getD t30.toNat default).f_Key (y7.getD t30.toNat default).f_Item yL0_6 eL0_5 (sel [0, 1]) (sel_inj rfl rfl)) (a_ (LO.Le.refl (.var [.map 1])) (a_ (LO.Le.refl (.map true [.int .u8, .int .u8, .int .u8, .int .u8, .int .u8, .int .u8, .int .u8, .int .u8] (encM (fun z_ : A8 (Int) => LV.agg [.int .u8 z_.a0, .int .u8 z_.a1, .int .u8 z_.a2, .int .u8 z_.a3, .int .u8 z_.a4, .int .u8 z_.a5, .int .u8 z_.a6, .int .u8 z_.a7]) v_T_api_Item m))) tr))) tr) (a_ (a_ tr tr) tr))))))) (a_ (a_ (a_ tr tr) (a_ (a_ (a_ (item_Table_All_ok yL0_6.2 yL0_8 eL0_7 (sel [0, 1]) (sel_inj rfl rfl)) (a_ (LO.Le.refl (.var [.map 1])) (a_ (LO.Le.refl (.map true [.int .u8, .int .u8, .int .u8, .int .u8, .int .u8, .int .u8, .int .u8, .int .u8] (encM (fun z_ : A8 (Int) => LV.agg [.int .u8 z_.a0, .int .u8 z_.a1, .int .u8 z_.a2, .int .u8 z_.a3, .int .u8 z_.a4, .int .u8 z_.a5, .int .u8 z_.a6, .int .u8 z_.a7]) v_T_api_Item yL0_6.2))) tr))) tr) (a_ (a_ tr tr) tr))) (a_ (a_ (a_ tr tr) (a_ (a_ tr (a_ (leB cL0_9) tr)) tr)) (a_ (a_ (a_ tr tr) (a_ (a_ tr tr) (a_ (a_ tr tr) tr))) tr))))))) (parrellaw13_ItemRise_l1_ok hμ t30 y7 yL0_4 yL0_6 (parrellaw13_ItemRise_l0 y7  fuel) (fun t30 m r h => ih t30 m r h) big _ r h) (by kernel_rfl) ⟨rfl, rfl, trivial, trivial⟩
    · skip
      obtain ⟨yL0_3, eL0_2, h⟩ := bind_some h
      obtain rfl := Option.some.inj h
      exact run_ret mixed (L := []) (n := 19) (s := [.go, .reg [(0, { v := some (.bool false) })], .reg [(0, { call := some (parrellaw13_alive_v yL0_3, [], []) })]])
        (a_ (a_ (a_ (a_ tr (a_ (leB cL0_1) tr)) tr) (a_ (a_ (a_ (a_ (parrellaw13_alive_tri  yL0_3 eL0_2) tr) tr) (a_ (a_ tr tr) tr)) tr)) tr) (by kernel_rfl) rfl

theorem parrellaw13_ItemRise_ok (script : List (T_api_Write)) (r : (Bool)) (h : parrellaw13_ItemRise script = some r) : ∀ σ, Inj 0 σ → FnTri Tryd.prog 4 (renL σ [.ds 21 (script).length (rowF c_T_api_Write default script)]) (preOf σ 0 []) ((parrellaw13_ItemRise_v r).ren σ) (upOf σ []) := by
  refine fn_of Tryd.func4 (by kernel_rfl) (by kernel_rfl) (by kernel_rfl) trivial (by kernel_rfl) trivial (by kernel_rfl) ?_
  intro w0 W μ0 hμ
  unfold parrellaw13_ItemRise at h
  obtain ⟨y2, e1, h⟩ := bind_some h
  obtain ⟨y4, e3, h⟩ := bind_some h
  rcases itb_some h with ⟨c5, h⟩ | ⟨c5, h⟩
  · skip
    obtain ⟨y7, e6, h⟩ := bind_some h
    obtain rfl := Option.some.inj h
    exact run_ret mixed (L := []) (n := 23) (s := [.reg [], .reg [(0, { call := some ((item_New_v y2).ren (sel [0, 1]), preOf (sel [0, 1]) 0 [], upOf (sel [0, 1]) (item_New_up  y2)) })], .reg [(4, { call := some (parrellaw13_long_v y4, [], []) }), (5, { v := some (.bool true) })], .reg [(3, { call := some (parrellaw13_alive_v y7, [], []) })]])
      (a_ (a_ (a_ (a_ tr tr) tr) (a_ (a_ (a_ (a_ (item_New_ok  y2 e1 (sel [0, 1]) (sel_inj rfl rfl)) tr) tr) (a_ (a_ tr tr) tr)) (a_ (a_ (a_ tr tr) (a_ (a_ tr tr) (a_ (a_ tr tr) (a_ (a_ tr tr) (a_ (a_ (a_ (parrellaw13_long_tri script y4 e3) tr) tr) (a_ (a_ tr (a_ (leB c5) tr)) tr)))))) (a_ (a_ (a_ tr tr) (a_ (a_ tr tr) (a_ (a_ tr tr) (a_ (a_ (a_ (parrellaw13_alive_tri  y7 e6) tr) tr) (a_ (a_ tr tr) (a_ (a_ tr tr) tr)))))) tr)))) tr) (by kernel_rfl) rfl
  · skip
    obtain ⟨y7, e6, h⟩ := bind_some h
    exact run_to mixed hμ (L := [0, 1]) (n := 27) (s := [.reg [], .reg [(0, { call := some ((item_New_v y2).ren (sel [0, 1]), preOf (sel [0, 1]) 0 [], upOf (sel [0, 1]) (item_New_up  y2)) })], .reg [(4, { call := some (parrellaw13_long_v y4, [], []) }), (5, { v := some (.bool false) })], .reg [(1, { call := some (parrellaw13_short_v y7, [], []) })]])
      (a_ (a_ (a_ tr tr) tr) (a_ (a_ (a_ (a_ (item_New_ok  y2 e1 (sel [0, 1]) (sel_inj rfl rfl)) tr) tr) (a_ (a_ tr tr) tr)) (a_ (a_ (a_ tr tr) (a_ (a_ tr tr) (a_ (a_ tr tr) (a_ (a_ tr tr) (a_ (a_ (a_ (parrellaw13_long_tri script y4 e3) tr) tr) (a_ (a_ tr (a_ (leB c5) tr)) tr)))))) (a_ (a_ (a_ tr tr) (a_ (a_ (a_ (parrellaw13_short_tri script y7 e6) tr) tr) (a_ (a_ tr tr) (a_ (a_ tr tr) tr)))) tr)))) (parrellaw13_ItemRise_l0_ok hμ y7  big _ _ r h) (by kernel_rfl) ⟨rfl, trivial, trivial⟩

theorem parrellaw13_ItemRise_tri (script : List (T_api_Write)) (r : (Bool)) (h : parrellaw13_ItemRise script = some r) : FnTri Tryd.prog 4 [.ds 21 (script).length (rowF c_T_api_Write default script)] [] (parrellaw13_ItemRise_v r) [] := FnTri.none (parrellaw13_ItemRise_ok script r h) rfl rfl

/-- parrel/parrellaw13.ItemLast -/

def parrellaw13_ItemLast_v (r : (Bool)) : LV := .bool r

def parrellaw13_ItemLast_T0 (versions : List (Int)) (x_k : A8 (Int)) (top : Int) (t47 : Int) (m : List (A8 (Int) × T_api_Item)) (m2 : List (A8 (Int) × T_api_Item)) : List LV := [.ds 1 (versions).length (rowF (cInt .u8) default versions), .any, .any, .ptr 0 0 0, .any, .ptr 1 0 0, .ptr 2 0 0, .int .u32 top, .any, .any, .any, .any, .any, .any, .any, .any, .any, .any, .any, .any, .any, .any, .any, .any, .any, .any, .any, .any, .any, .any, .any, .any, .any, .any, .any, .any, .any, .any, .any, .any, .any, .any, .any, .any, .any, .any, .int .i64 ((versions).length : Int), .int .i64 t47, .any, .any, .any, .any, .any, .any, .any, .any, .any, .any, .any, .any, .any, .any, .any, .any, .any, .any, .any, .any, .any, .any, .any, .any, .any, .any, .any, .any, .any, .any, .any, .any, .any, .any, .any, .any, .any, .any, .any, .any, .any, .any, .any, .any, .any, .any, .any, .any, .any, .any, .any, .any, .any, .any, .any, .any, .any, .any, .any, .any, .any, .any, .any, .any, .any, .any, .any, .any, .any, .any, .any, .any, .any, .any, .any, .any, .any, .any, .any, .any, .any, .any, .any, .any, .any, .any, .any]

def parrellaw13_ItemLast_H0 (versions : List (Int)) (x_k : A8 (Int)) (top : Int) (t47 : Int) (m : List (A8 (Int) × T_api_Item)) (m2 : List (A8 (Int) × T_api_Item)) : Heap := [some (.var [.int .u8 x_k.a0, .int .u8 x_k.a1, .int .u8 x_k.a2, .int .u8 x_k.a3, .int .u8 x_k.a4, .int .u8 x_k.a5, .int .u8 x_k.a6, .int .u8 x_k.a7]), some (.var [.map 3]), some (.var [.map 4]), some (.map true [.int .u8, .int .u8, .int .u8, .int .u8, .int .u8, .int .u8, .int .u8, .int .u8] (encM (fun z_ : A8 (Int) => LV.agg [.int .u8 z_.a0, .int .u8 z_.a1, .int .u8 z_.a2, .int .u8 z_.a3, .int .u8 z_.a4, .int .u8 z_.a5, .int .u8 z_.a6, .int .u8 z_.a7]) v_T_api_Item m)), some (.map true [.int .u8, .int .u8, .int .u8, .int .u8, .int .u8, .int .u8, .int .u8, .int .u8] (encM (fun z_ : A8 (Int) => LV.agg [.int .u8 z_.a0, .int .u8 z_.a1, .int .u8 z_.a2, .int .u8 z_.a3, .int .u8 z_.a4, .int .u8 z_.a5, .int .u8 z_.a6, .int .u8 z_.a7]) v_T_api_Item m2))]

def parrellaw13_ItemLast_l0 (versions : List (Int)) (x_k : A8 (Int))  : Nat → (Int) → (Int) → (List (A8 (Int) × T_api_Item)) → (List (A8 (Int) × T_api_Item)) → Option ((Bool))
  | 0, _, _, _, _ => none
  | fuel + 1, top, t47, m, m2 =>
    if ((decide (t47 < ((versions).length : Int))) : Bool) then
      if 0 ≤ t47 ∧ t47 < (((versions).length : Nat) : Int) then
      if 0 ≤ (IntKind.wrap .i64 ((IntKind.wrap .i64 (((versions).length : Int) - 1)) - t47)) ∧ (IntKind.wrap .i64 ((IntKind.wrap .i64 (((versions).length : Int) - 1)) - t47)) < (((versions).length : Nat) : Int) then
      (parrellaw13_one (IntKind.wrap .u32 (versions.getD t47.toNat default)) (strI [(versions.getD t47.toNat default)])).bind fun yL0_5 =>
      (item_Table_Install m x_k yL0_5).bind fun yL0_7 =>
      (parrellaw13_one (IntKind.wrap .u32 (versions.getD ((IntKind.wrap .i64 ((IntKind.wrap .i64 (((versions).length : Int) - 1)) - t47))).toNat default)) (strI [(IntKind.wrap .u8 (IntKind.wrap .u32 (versions.getD ((IntKind.wrap .i64 ((IntKind.wrap .i64 (((versions).length : Int) - 1)) - t47))).toNat default)))])).bind fun yL0_9 =>
      (item_Table_Install m2 x_k yL0_9).bind fun yL0_11 =>
      parrellaw13_ItemLast_l0 versions x_k  fuel (if (IntKind.wrap .u32 (versions.getD t47.toNat default)) > top then (IntKind.wrap .u32 (versions.getD t47.toNat default)) else top) (IntKind.wrap .i64 (t47 + 1)) yL0_7.2 yL0_11.2
      else none
      else none
    else
      (item_Table_Get m x_k).bind fun yL0_3 =>
      (item_Table_Get m2 x_k).bind fun yL0_5 =>
      if ((!yL0_3.2) : Bool) then
        some false
      else
        if ((!(yL0_5.2 == (decide (0 < ((versions).length : Int))))) : Bool) then
          some false
        else
          if ((yL0_3.1.f_Version != top) : Bool) then
            some false
          else
            if ((!yL0_5.2) : Bool) then
              (parrellaw13_alive).bind fun yL0_11 =>
              some yL0_11
            else
              if ((yL0_5.1.f_Version == top) : Bool) then
                if ((top == 0) : Bool) then
                  (parrellaw13_alive).bind fun yL0_13 =>
                  some yL0_13
                else
                  if ((decide (yL0_3.1 = yL0_5.1)) : Bool) then
                    (parrellaw13_alive).bind fun yL0_14 =>
                    some yL0_14
                  else
                    some false
              else
                some false

def parrellaw13_ItemLast (versions : List (Int)) (x_k : A8 (Int)) : Option ((Bool)) :=
  if ((decide (50 < ((versions).length : Int))) : Bool) then
    (parrellaw13_alive).bind fun y3 =>
    some y3
  else
    (item_New).bind fun y3 =>
    (item_New).bind fun y5 =>
    (parrellaw13_one 0 ([])).bind fun y7 =>
    (item_Table_Install y3 x_k y7).bind fun y9 =>
    if ((y9.1 != 0) : Bool) then
      (parrellaw13_one 0 ([])).bind fun y12 =>
      (item_Table_Install y5 x_k y12).bind fun y14 =>
      if ((y14.1 == 1) : Bool) then
        (item_Table_Len y9.2).bind fun y17 =>
        if ((y17 == 0) : Bool) then
          (parrellaw13_alive).bind fun y20 =>
          some y20
        else
          some false
      else
        some false
    else
      parrellaw13_ItemLast_l0 versions x_k  big 0 0 y9.2 y5

theorem parrellaw13_ItemLast_l0_ok {w0 : World} {W : Nat → Prop} {μ0 : Emb} (hμ : ∀ c p, μ0 c = some p → c < 0) (versions : List (Int)) (x_k : A8 (Int))  : ∀ (fuel : Nat) (top : Int) (t47 : Int) (m : List (A8 (Int) × T_api_Item)) (m2 : List (A8 (Int) × T_api_Item)) (r : (Bool)), parrellaw13_ItemLast_l0 versions x_k  fuel top t47 m m2 = some r → kont Tryd.prog w0 W μ0 (FnPost Tryd.prog Tryd.f5 0 0 (parrellaw13_ItemLast_v r) []) (kAt (bodyOf Tryd.f5) 0) none (parrellaw13_ItemLast_T0 versions x_k top t47 m m2) (parrellaw13_ItemLast_H0 versions x_k top t47 m m2) := by
  intro fuel
  induction fuel with
  | zero => intro top t47 m m2 r h; rw [parrellaw13_ItemLast_l0] at h; cases h
  | succ fuel ih =>
    intro top t47 m m2 r h
    rw [parrellaw13_ItemLast_l0] at h
    rcases itb_some h with ⟨cL0_1, h⟩ | ⟨cL0_1, h⟩
    · skip
      obtain ⟨gL0_2, h⟩ := guard_some h
      obtain ⟨gL0_3, h⟩ := guard_some h
      obtain ⟨yL0_5, eL0_4, h⟩ := bind_some h
      obtain ⟨yL0_7, eL0_6, h⟩ := bind_some h
      obtain ⟨yL0_9, eL0_8, h⟩ := bind_some h
      obtain ⟨yL0_11, eL0_10, h⟩ := bind_some h
      exact run_to mixed hμ (L := [0, 1, 2, 3, 4]) (n := 35) (s := [.go, .reg [(0, { v := some (.bool true) })], .reg [], .reg [], .reg [(7, { os := [(5, .gr 1 ([(versions.getD t47.toNat default)]).length (rowF (cInt .u8) default [(versions.getD t47.toNat default)]))], v := some (.gs 5 ([(versions.getD t47.toNat default)]).length), fz := true }), (8, { v := some (.str (strI [(versions.getD t47.toNat default)])) }), (9, { call := some (parrellaw13_one_v yL0_5, [], []) }), (10, { call := some ((item_Table_Install_v yL0_7).ren (sel [1, 3]), preOf (sel [1, 3]) 0 (item_Table_Install_objs m x_k yL0_5), upOf (sel [1, 3]) (item_Table_Install_up m x_k yL0_5 yL0_7)) })], .reg [(5, { os := [(6, .gr 1 ([(IntKind.wrap .u8 (IntKind.wrap .u32 (versions.getD ((IntKind.wrap .i64 ((IntKind.wrap .i64 (((versions).length : Int) - 1)) - t47))).toNat default)))]).length (rowF (cInt .u8) default [(IntKind.wrap .u8 (IntKind.wrap .u32 (versions.getD ((IntKind.wrap .i64 ((IntKind.wrap .i64 (((versions).length : Int) - 1)) - t47))).toNat default)))]))], v := some (.gs 6 ([(IntKind.wrap .u8 (IntKind.wrap .u32 (versions.getD ((IntKind.wrap .i64 ((IntKind.wrap .i64 (((versions).length : Int) - 1)) - t47))).toNat default)))]).length), fz := true }), (6, { v := some (.str (strI [(IntKind.wrap .u8 (IntKind.wrap .u32 (versions.getD ((IntKind.wrap .i64 ((IntKind.wrap .i64 (((versions).length : Int) - 1)) - t47))).toNat default)))])) }), (7, { call := some (parrellaw13_one_v yL0_9, [], []) }), (8, { call := some ((item_Table_Install_v yL0_11).ren (sel [2, 4]), preOf (sel [2, 4]) 0 (item_Table_Install_objs m2 x_k yL0_9), upOf (sel [2, 4]) (item_Table_Install_up m2 x_k yL0_9 yL0_11)) })], .reg [], .reg []])
        (a_ (a_ (a_ tr (a_ (leB cL0_1) tr)) tr) (a_ (a_ (a_ tr tr) (a_ (a_ tr tr) tr)) (a_ (a_ (a_ tr tr) (a_ (a_ tr tr) (a_ (a_ (a_ (Eq.refl 1) gL0_2) tr) (a_ (a_ (lt_ 0 1 rfl) tr) (a_ (a_ tr tr) (a_ (a_ tr tr) (a_ (a_ tr tr) (a_ (a_ tr tr) (a_ (a_ tr tr) (a_ (a_ tr tr) (a_ (a_ tr tr) (a_ (a_ (a_ (Eq.refl 1) gL0_3) tr) (a_ (a_ (lt_ 0 1 rfl) tr) (a_ (a_ tr tr) (a_ (a_ tr tr) (a_ (a_ tr tr) tr)))))))))))))))) (a_ (a_ (a_ tr tr) (a_ (a_ (a_ tr (le_ 8 8 rfl)) tr) (a_ (a_ tr tr) (a_ (a_ tr tr) (a_ (a_ tr tr) (a_ (a_ (a_ (Eq.refl 1) gL0_2) tr) (a_ (a_ (lt_ 0 1 rfl) tr) (a_ (a_ (a_ (a_ (Eq.refl true) (a_ (Eq.refl 1) (a_ (lt_ 0 1 rfl) (le_ 1 16777216 rfl)))) (a_ (le_sl_gs 5 1 (some 1) rfl) (a_ (sub_lit (cInt .u8) default 1 (fun _ => rfl) [(versions.getD t47.toNat default)]) tr))) (a_ (Nat.le_refl ([(versions.getD t47.toNat default)]).length) (fz_row (enc := (cInt .u8)) (d := default) (fun _ => rfl) [(versions.getD t47.toNat default)]))) (a_ (a_ (a_ (Eq.refl 1) (str_ob [(versions.getD t47.toNat default)])) (a_ (le_str [(versions.getD t47.toNat default)]) tr)) (a_ (a_ (a_ (parrellaw13_one_tri (IntKind.wrap .u32 (versions.getD t47.toNat default)) (strI [(versions.getD t47.toNat default)]) yL0_5 eL0_4) tr) tr) (a_ (a_ (a_ (item_Table_Install_ok m x_k yL0_5 yL0_7 eL0_6 (sel [1, 3]) (sel_inj rfl rfl)) (a_ (LO.Le.refl (.var [.map 3])) (a_ (LO.Le.refl (.map true [.int .u8, .int .u8, .int .u8, .int .u8, .int .u8, .int .u8, .int .u8, .int .u8] (encM (fun z_ : A8 (Int) => LV.agg [.int .u8 z_.a0, .int .u8 z_.a1, .int .u8 z_.a2, .int .u8 z_.a3, .int .u8 z_.a4, .int .u8 z_.a5, .int .u8 z_.a6, .int .u8 z_.a7]) v_T_api_Item m))) tr))) tr) tr))))))))))) (a_ (a_ (a_ tr tr) (a_ (a_ (a_ tr (le_ 8 8 rfl)) tr) (a_ (a_ tr tr) (a_ (a_ tr tr) (a_ (a_ tr tr) (a_ (a_ (a_ (a_ (Eq.refl true) (a_ (Eq.refl 1) (a_ (lt_ 0 1 rfl) (le_ 1 16777216 rfl)))) (a_ (le_sl_gs 6 1 (some 1) rfl) (a_ (sub_lit (cInt .u8) default 1 (fun _ => rfl) [(IntKind.wrap .u8 (IntKind.wrap .u32 (versions.getD ((IntKind.wrap .i64 ((IntKind.wrap .i64 (((versions).length : Int) - 1)) - t47))).toNat default)))]) tr))) (a_ (Nat.le_refl ([(IntKind.wrap .u8 (IntKind.wrap .u32 (versions.getD ((IntKind.wrap .i64 ((IntKind.wrap .i64 (((versions).length : Int) - 1)) - t47))).toNat default)))]).length) (fz_row (enc := (cInt .u8)) (d := default) (fun _ => rfl) [(IntKind.wrap .u8 (IntKind.wrap .u32 (versions.getD ((IntKind.wrap .i64 ((IntKind.wrap .i64 (((versions).length : Int) - 1)) - t47))).toNat default)))]))) (a_ (a_ (a_ (Eq.refl 1) (str_ob [(IntKind.wrap .u8 (IntKind.wrap .u32 (versions.getD ((IntKind.wrap .i64 ((IntKind.wrap .i64 (((versions).length : Int) - 1)) - t47))).toNat default)))])) (a_ (le_str [(IntKind.wrap .u8 (IntKind.wrap .u32 (versions.getD ((IntKind.wrap .i64 ((IntKind.wrap .i64 (((versions).length : Int) - 1)) - t47))).toNat default)))]) tr)) (a_ (a_ (a_ (parrellaw13_one_tri (IntKind.wrap .u32 (versions.getD ((IntKind.wrap .i64 ((IntKind.wrap .i64 (((versions).length : Int) - 1)) - t47))).toNat default)) (strI [(IntKind.wrap .u8 (IntKind.wrap .u32 (versions.getD ((IntKind.wrap .i64 ((IntKind.wrap .i64 (((versions).length : Int) - 1)) - t47))).toNat default)))]) yL0_9 eL0_8) tr) tr) (a_ (a_ (a_ (item_Table_Install_ok m2 x_k yL0_9 yL0_11 eL0_10 (sel [2, 4]) (sel_inj rfl rfl)) (a_ (LO.Le.refl (.var [.map 4])) (a_ (LO.Le.refl (.map true [.int .u8, .int .u8, .int .u8, .int .u8, .int .u8, .int .u8, .int .u8, .int .u8] (encM (fun z_ : A8 (Int) => LV.agg [.int .u8 z_.a0, .int .u8 z_.a1, .int .u8 z_.a2, .int .u8 z_.a3, .int .u8 z_.a4, .int .u8 z_.a5, .int .u8 z_.a6, .int .u8 z_.a7]) v_T_api_Item m2))) tr))) tr) tr))))))))) (a_ (a_ (a_ tr tr) (a_ (a_ tr tr) (a_ (a_ tr tr) (a_ (a_ tr tr) tr)))) (a_ (a_ (a_ tr tr) (a_ (a_ tr tr) tr)) tr))))))) (ih _ _ _ _ r h) (by kernel_rfl) ⟨rfl, rfl, rfl, trivial, trivial, trivial⟩
    · skip
      obtain ⟨yL0_3, eL0_2, h⟩ := bind_some h
      obtain ⟨yL0_5, eL0_4, h⟩ := bind_some h
      rcases itb_some h with ⟨cL0_6, h⟩ | ⟨cL0_6, h⟩
      · skip
        obtain rfl := Option.some.inj h
        exact run_ret mixed (L := []) (n := 30) (s := [.go, .reg [(0, { v := some (.bool false) })], .reg [(2, { call := some ((item_Table_Get_v yL0_3).ren (sel [1, 3]), preOf (sel [1, 3]) 0 (item_Table_Get_objs m x_k), upOf (sel [1, 3]) (item_Table_Get_up m x_k yL0_3)) })], .reg [(2, { call := some ((item_Table_Get_v yL0_5).ren (sel [2, 4]), preOf (sel [2, 4]) 0 (item_Table_Get_objs m2 x_k), upOf (sel [2, 4]) (item_Table_Get_up m2 x_k yL0_5)) })], .reg [(2, { v := some (.bool true) })], .reg []])
          (a_ (a_ (a_ (a_ tr (a_ (leB cL0_1) tr)) tr) (a_ (a_ (a_ tr tr) (a_ (a_ (a_ tr (le_ 8 8 rfl)) tr) (a_ (a_ (a_ (item_Table_Get_ok m x_k yL0_3 eL0_2 (sel [1, 3]) (sel_inj rfl rfl)) (a_ (LO.Le.refl (.var [.map 3])) (a_ (LO.Le.refl (.map true [.int .u8, .int .u8, .int .u8, .int .u8, .int .u8, .int .u8, .int .u8, .int .u8] (encM (fun z_ : A8 (Int) => LV.agg [.int .u8 z_.a0, .int .u8 z_.a1, .int .u8 z_.a2, .int .u8 z_.a3, .int .u8 z_.a4, .int .u8 z_.a5, .int .u8 z_.a6, .int .u8 z_.a7]) v_T_api_Item m))) tr))) tr) (a_ (a_ tr tr) (a_ (a_ tr tr) (a_ (a_ tr tr) (a_ (a_ tr tr) (a_ (a_ (a_ (Eq.refl 13) (a_ (le_ 13 13 rfl) (Eq.refl 0))) tr) (a_ (a_ tr tr) tr))))))))) (a_ (a_ (a_ tr tr) (a_ (a_ (a_ tr (le_ 8 8 rfl)) tr) (a_ (a_ (a_ (item_Table_Get_ok m2 x_k yL0_5 eL0_4 (sel [2, 4]) (sel_inj rfl rfl)) (a_ (LO.Le.refl (.var [.map 4])) (a_ (LO.Le.refl (.map true [.int .u8, .int .u8, .int .u8, .int .u8, .int .u8, .int .u8, .int .u8, .int .u8] (encM (fun z_ : A8 (Int) => LV.agg [.int .u8 z_.a0, .int .u8 z_.a1, .int .u8 z_.a2, .int .u8 z_.a3, .int .u8 z_.a4, .int .u8 z_.a5, .int .u8 z_.a6, .int .u8 z_.a7]) v_T_api_Item m2))) tr))) tr) (a_ (a_ tr tr) (a_ (a_ tr tr) (a_ (a_ tr tr) (a_ (a_ tr tr) (a_ (a_ (a_ (Eq.refl 13) (a_ (le_ 13 13 rfl) (Eq.refl 0))) tr) (a_ (a_ tr tr) tr))))))))) (a_ (a_ (a_ tr tr) (a_ (a_ tr tr) (a_ (a_ tr (a_ (leB cL0_6) tr)) (a_ tr (a_ tr (a_ tr (a_ tr (a_ tr (a_ (a_ tr tr) (a_ (a_ tr tr) (a_ tr (a_ tr (a_ tr (a_ tr (a_ (a_ tr tr) tr))))))))))))))) (a_ (a_ (a_ tr tr) tr) tr))))) tr) (by kernel_rfl) rfl
      · skip
        rcases itb_some h with ⟨cL0_7, h⟩ | ⟨cL0_7, h⟩
        · skip
          obtain rfl := Option.some.inj h
          exact run_ret mixed (L := []) (n := 30) (s := [.go, .reg [(0, { v := some (.bool false) })], .reg [(2, { call := some ((item_Table_Get_v yL0_3).ren (sel [1, 3]), preOf (sel [1, 3]) 0 (item_Table_Get_objs m x_k), upOf (sel [1, 3]) (item_Table_Get_up m x_k yL0_3)) })], .reg [(2, { call := some ((item_Table_Get_v yL0_5).ren (sel [2, 4]), preOf (sel [2, 4]) 0 (item_Table_Get_objs m2 x_k), upOf (sel [2, 4]) (item_Table_Get_up m2 x_k yL0_5)) })], .reg [(2, { v := some (.bool false) }), (9, { v := some (.bool true) })], .reg []])
            (a_ (a_ (a_ (a_ tr (a_ (leB cL0_1) tr)) tr) (a_ (a_ (a_ tr tr) (a_ (a_ (a_ tr (le_ 8 8 rfl)) tr) (a_ (a_ (a_ (item_Table_Get_ok m x_k yL0_3 eL0_2 (sel [1, 3]) (sel_inj rfl rfl)) (a_ (LO.Le.refl (.var [.map 3])) (a_ (LO.Le.refl (.map true [.int .u8, .int .u8, .int .u8, .int .u8, .int .u8, .int .u8, .int .u8, .int .u8] (encM (fun z_ : A8 (Int) => LV.agg [.int .u8 z_.a0, .int .u8 z_.a1, .int .u8 z_.a2, .int .u8 z_.a3, .int .u8 z_.a4, .int .u8 z_.a5, .int .u8 z_.a6, .int .u8 z_.a7]) v_T_api_Item m))) tr))) tr) (a_ (a_ tr tr) (a_ (a_ tr tr) (a_ (a_ tr tr) (a_ (a_ tr tr) (a_ (a_ (a_ (Eq.refl 13) (a_ (le_ 13 13 rfl) (Eq.refl 0))) tr) (a_ (a_ tr tr) tr))))))))) (a_ (a_ (a_ tr tr) (a_ (a_ (a_ tr (le_ 8 8 rfl)) tr) (a_ (a_ (a_ (item_Table_Get_ok m2 x_k yL0_5 eL0_4 (sel [2, 4]) (sel_inj rfl rfl)) (a_ (LO.Le.refl (.var [.map 4])) (a_ (LO.Le.refl (.map true [.int .u8, .int .u8, .int .u8, .int .u8, .int .u8, .int .u8, .int .u8, .int .u8] (encM (fun z_ : A8 (Int) => LV.agg [.int .u8 z_.a0, .int .u8 z_.a1, .int .u8 z_.a2, .int .u8 z_.a3, .int .u8 z_.a4, .int .u8 z_.a5, .int .u8 z_.a6, .int .u8 z_.a7]) v_T_api_Item m2))) tr))) tr) (a_ (a_ tr tr) (a_ (a_ tr tr) (a_ (a_ tr tr) (a_ (a_ tr tr) (a_ (a_ (a_ (Eq.refl 13) (a_ (le_ 13 13 rfl) (Eq.refl 0))) tr) (a_ (a_ tr tr) tr))))))))) (a_ (a_ (a_ tr tr) (a_ (a_ tr tr) (a_ (a_ tr (a_ (leB cL0_6) tr)) (a_ (a_ tr tr) (a_ (a_ tr tr) (a_ (a_ tr tr) (a_ (a_ tr tr) (a_ (a_ tr tr) (a_ (a_ tr tr) (a_ (a_ tr (a_ (leB cL0_7) tr)) (a_ tr (a_ tr (a_ tr (a_ tr (a_ (a_ tr tr) tr))))))))))))))) (a_ (a_ (a_ tr tr) tr) tr))))) tr) (by kernel_rfl) rfl
        · skip
          rcases itb_some h with ⟨cL0_8, h⟩ | ⟨cL0_8, h⟩
          · skip
            obtain rfl := Option.some.inj h
            exact run_ret mixed (L := []) (n := 30) (s := [.go, .reg [(0, { v := some (.bool false) })], .reg [(2, { call := some ((item_Table_Get_v yL0_3).ren (sel [1, 3]), preOf (sel [1, 3]) 0 (item_Table_Get_objs m x_k), upOf (sel [1, 3]) (item_Table_Get_up m x_k yL0_3)) })], .reg [(2, { call := some ((item_Table_Get_v yL0_5).ren (sel [2, 4]), preOf (sel [2, 4]) 0 (item_Table_Get_objs m2 x_k), upOf (sel [2, 4]) (item_Table_Get_up m2 x_k yL0_5)) })], .reg [(2, { v := some (.bool false) }), (9, { v := some (.bool false) }), (14, { v := some (.bool true) })], .reg []])
              (a_ (a_ (a_ (a_ tr (a_ (leB cL0_1) tr)) tr) (a_ (a_ (a_ tr tr) (a_ (a_ (a_ tr (le_ 8 8 rfl)) tr) (a_ (a_ (a_ (item_Table_Get_ok m x_k yL0_3 eL0_2 (sel [1, 3]) (sel_inj rfl rfl)) (a_ (LO.Le.refl (.var [.map 3])) (a_ (LO.Le.refl (.map true [.int .u8, .int .u8, .int .u8, .int .u8, .int .u8, .int .u8, .int .u8, .int .u8] (encM (fun z_ : A8 (Int) => LV.agg [.int .u8 z_.a0, .int .u8 z_.a1, .int .u8 z_.a2, .int .u8 z_.a3, .int .u8 z_.a4, .int .u8 z_.a5, .int .u8 z_.a6, .int .u8 z_.a7]) v_T_api_Item m))) tr))) tr) (a_ (a_ tr tr) (a_ (a_ tr tr) (a_ (a_ tr tr) (a_ (a_ tr tr) (a_ (a_ (a_ (Eq.refl 13) (a_ (le_ 13 13 rfl) (Eq.refl 0))) tr) (a_ (a_ tr tr) tr))))))))) (a_ (a_ (a_ tr tr) (a_ (a_ (a_ tr (le_ 8 8 rfl)) tr) (a_ (a_ (a_ (item_Table_Get_ok m2 x_k yL0_5 eL0_4 (sel [2, 4]) (sel_inj rfl rfl)) (a_ (LO.Le.refl (.var [.map 4])) (a_ (LO.Le.refl (.map true [.int .u8, .int .u8, .int .u8, .int .u8, .int .u8, .int .u8, .int .u8, .int .u8] (encM (fun z_ : A8 (Int) => LV.agg [.int .u8 z_.a0, .int .u8 z_.a1, .int .u8 z_.a2, .int .u8 z_.a3, .int .u8 z_.a4, .int .u8 z_.a5, .int .u8 z_.a6, .int .u8 z_.a7]) v_T_api_Item m2))) tr))) tr) (a_ (a_ tr tr) (a_ (a_ tr tr) (a_ (a_ tr tr) (a_ (a_ tr tr) (a_ (a_ (a_ (Eq.refl 13) (a_ (le_ 13 13 rfl) (Eq.refl 0))) tr) (a_ (a_ tr tr) tr))))))))) (a_ (a_ (a_ tr tr) (a_ (a_ tr tr) (a_ (a_ tr (a_ (leB cL0_6) tr)) (a_ (a_ tr tr) (a_ (a_ tr tr) (a_ (a_ tr tr) (a_ (a_ tr tr) (a_ (a_ tr tr) (a_ (a_ tr tr) (a_ (a_ tr (a_ (leB cL0_7) tr)) (a_ (a_ tr tr) (a_ (a_ (a_ tr (lt_ 0 13 rfl)) tr) (a_ (a_ tr tr) (a_ (a_ tr tr) (a_ (a_ tr (a_ (leB cL0_8) tr)) tr))))))))))))))) (a_ (a_ (a_ tr tr) tr) tr))))) tr) (by kernel_rfl) rfl
          · skip
            rcases itb_some h with ⟨cL0_9, h⟩ | ⟨cL0_9, h⟩
            · skip
              obtain ⟨yL0_11, eL0_10, h⟩ := bind_some h
              obtain rfl := Option.some.inj h
              exact run_ret mixed (L := []) (n := 31) (s := [.go, .reg [(0, { v := some (.bool false) })], .reg [(2, { call := some ((item_Table_Get_v yL0_3).ren (sel [1, 3]), preOf (sel [1, 3]) 0 (item_Table_Get_objs m x_k), upOf (sel [1, 3]) (item_Table_Get_up m x_k yL0_3)) })], .reg [(2, { call := some ((item_Table_Get_v yL0_5).ren (sel [2, 4]), preOf (sel [2, 4]) 0 (item_Table_Get_objs m2 x_k), upOf (sel [2, 4]) (item_Table_Get_up m2 x_k yL0_5)) })], .reg [(2, { v := some (.bool false) }), (9, { v := some (.bool false) }), (14, { v := some (.bool false) })], .reg [(2, { v := some (.bool true) }), (18, { call := some (parrellaw13_alive_v yL0_11, [], []) })]])
                (a_ (a_ (a_ (a_ tr (a_ (leB cL0_1) tr)) tr) (a_ (a_ (a_ tr tr) (a_ (a_ (a_ tr (le_ 8 8 rfl)) tr) (a_ (a_ (a_ (item_Table_Get_ok m x_k yL0_3 eL0_2 (sel [1, 3]) (sel_inj rfl rfl)) (a_ (LO.Le.refl (.var [.map 3])) (a_ (LO.Le.refl (.map true [.int .u8, .int .u8, .int .u8, .int .u8, .int .u8, .int .u8, .int .u8, .int .u8] (encM (fun z_ : A8 (Int) => LV.agg [.int .u8 z_.a0, .int .u8 z_.a1, .int .u8 z_.a2, .int .u8 z_.a3, .int .u8 z_.a4, .int .u8 z_.a5, .int .u8 z_.a6, .int .u8 z_.a7]) v_T_api_Item m))) tr))) tr) (a_ (a_ tr tr) (a_ (a_ tr tr) (a_ (a_ tr tr) (a_ (a_ tr tr) (a_ (a_ (a_ (Eq.refl 13) (a_ (le_ 13 13 rfl) (Eq.refl 0))) tr) (a_ (a_ tr tr) tr))))))))) (a_ (a_ (a_ tr tr) (a_ (a_ (a_ tr (le_ 8 8 rfl)) tr) (a_ (a_ (a_ (item_Table_Get_ok m2 x_k yL0_5 eL0_4 (sel [2, 4]) (sel_inj rfl rfl)) (a_ (LO.Le.refl (.var [.map 4])) (a_ (LO.Le.refl (.map true [.int .u8, .int .u8, .int .u8, .int .u8, .int .u8, .int .u8, .int .u8, .int .u8] (encM (fun z_ : A8 (Int) => LV.agg [.int .u8 z_.a0, .int .u8 z_.a1, .int .u8 z_.a2, .int .u8 z_.a3, .int .u8 z_.a4, .int .u8 z_.a5, .int .u8 z_.a6, .int .u8 z_.a7]) v_T_api_Item m2))) tr))) tr) (a_ (a_ tr tr) (a_ (a_ tr tr) (a_ (a_ tr tr) (a_ (a_ tr tr) (a_ (a_ (a_ (Eq.refl 13) (a_ (le_ 13 13 rfl) (Eq.refl 0))) tr) (a_ (a_ tr tr) tr))))))))) (a_ (a_ (a_ tr tr) (a_ (a_ tr tr) (a_ (a_ tr (a_ (leB cL0_6) tr)) (a_ (a_ tr tr) (a_ (a_ tr tr) (a_ (a_ tr tr) (a_ (a_ tr tr) (a_ (a_ tr tr) (a_ (a_ tr tr) (a_ (a_ tr (a_ (leB cL0_7) tr)) (a_ (a_ tr tr) (a_ (a_ (a_ tr (lt_ 0 13 rfl)) tr) (a_ (a_ tr tr) (a_ (a_ tr tr) (a_ (a_ tr (a_ (leB cL0_8) tr)) tr))))))))))))))) (a_ (a_ (a_ tr tr) (a_ (a_ tr tr) (a_ (a_ tr (a_ (leB cL0_9) tr)) (a_ tr (a_ tr (a_ tr (a_ tr (a_ tr (a_ tr (a_ tr (a_ tr (a_ tr (a_ tr (a_ tr (a_ tr (a_ tr (a_ (a_ tr tr) (a_ (a_ tr tr) (a_ (a_ (a_ (parrellaw13_alive_tri  yL0_11 eL0_10) tr) tr) (a_ (a_ tr tr) (a_ (a_ tr tr) tr))))))))))))))))))))) tr))))) tr) (by kernel_rfl) rfl
            · skip
              rcases itb_some h with ⟨cL0_10, h⟩ | ⟨cL0_10, h⟩
              · skip
                rcases itb_some h with ⟨cL0_11, h⟩ | ⟨cL0_11, h⟩
                · skip
                  obtain ⟨yL0_13, eL0_12, h⟩ := bind_some h
                  obtain rfl := Option.some.inj h
                  exact run_ret mixed (L := []) (n := 31) (s := [.go, .reg [(0, { v := some (.bool false) })], .reg [(2, { call := some ((item_Table_Get_v yL0_3).ren (sel [1, 3]), preOf (sel [1, 3]) 0 (item_Table_Get_objs m x_k), upOf (sel [1, 3]) (item_Table_Get_up m x_k yL0_3)) })], .reg [(2, { call := some ((item_Table_Get_v yL0_5).ren (sel [2, 4]), preOf (sel [2, 4]) 0 (item_Table_Get_objs m2 x_k), upOf (sel [2, 4]) (item_Table_Get_up m2 x_k yL0_5)) })], .reg [(2, { v := some (.bool false) }), (9, { v := some (.bool false) }), (14, { v := some (.bool false) })], .reg [(2, { v := some (.bool false) }), (7, { v := some (.bool true) }), (10, { v := some (.bool true) }), (18, { call := some (parrellaw13_alive_v yL0_13, [], []) })]])
                    (a_ (a_ (a_ (a_ tr (a_ (leB cL0_1) tr)) tr) (a_ (a_ (a_ tr tr) (a_ (a_ (a_ tr (le_ 8 8 rfl)) tr) (a_ (a_ (a_ (item_Table_Get_ok m x_k yL0_3 eL0_2 (sel [1, 3]) (sel_inj rfl rfl)) (a_ (LO.Le.refl (.var [.map 3])) (a_ (LO.Le.refl (.map true [.int .u8, .int .u8, .int .u8, .int .u8, .int .u8, .int .u8, .int .u8, .int .u8] (encM (fun z_ : A8 (Int) => LV.agg [.int .u8 z_.a0, .int .u8 z_.a1, .int .u8 z_.a2, .int .u8 z_.a3, .int .u8 z_.a4, .int .u8 z_.a5, .int .u8 z_.a6, .int .u8 z_.a7]) v_T_api_Item m))) tr))) tr) (a_ (a_ tr tr) (a_ (a_ tr tr) (a_ (a_ tr tr) (a_ (a_ tr tr) (a_ (a_ (a_ (Eq.refl 13) (a_ (le_ 13 13 rfl) (Eq.refl 0))) tr) (a_ (a_ tr tr) tr))))))))) (a_ (a_ (a_ tr tr) (a_ (a_ (a_ tr (le_ 8 8 rfl)) tr) (a_ (a_ (a_ (item_Table_Get_ok m2 x_k yL0_5 eL0_4 (sel [2, 4]) (sel_inj rfl rfl)) (a_ (LO.Le.refl (.var [.map 4])) (a_ (LO.Le.refl (.map true [.int .u8, .int .u8, .int .u8, .int .u8, .int .u8, .int .u8, .int .u8, .int .u8] (encM (fun z_ : A8 (Int) => LV.agg [.int .u8 z_.a0, .int .u8 z_.a1, .int .u8 z_.a2, .int .u8 z_.a3, .int .u8 z_.a4, .int .u8 z_.a5, .int .u8 z_.a6, .int .u8 z_.a7]) v_T_api_Item m2))) tr))) tr) (a_ (a_ tr tr) (a_ (a_ tr tr) (a_ (a_ tr tr) (a_ (a_ tr tr) (a_ (a_ (a_ (Eq.refl 13) (a_ (le_ 13 13 rfl) (Eq.refl 0))) tr) (a_ (a_ tr tr) tr))))))))) (a_ (a_ (a_ tr tr) (a_ (a_ tr tr) (a_ (a_ tr (a_ (leB cL0_6) tr)) (a_ (a_ tr tr) (a_ (a_ tr tr) (a_ (a_ tr tr) (a_ (a_ tr tr) (a_ (a_ tr tr) (a_ (a_ tr tr) (a_ (a_ tr (a_ (leB cL0_7) tr)) (a_ (a_ tr tr) (a_ (a_ (a_ tr (lt_ 0 13 rfl)) tr) (a_ (a_ tr tr) (a_ (a_ tr tr) (a_ (a_ tr (a_ (leB cL0_8) tr)) tr))))))))))))))) (a_ (a_ (a_ tr tr) (a_ (a_ tr tr) (a_ (a_ tr (a_ (leB cL0_9) tr)) (a_ (a_ tr tr) (a_ (a_ (a_ tr (lt_ 0 13 rfl)) tr) (a_ (a_ tr tr) (a_ (a_ tr tr) (a_ (a_ tr (a_ (leB cL0_10) tr)) (a_ (a_ tr tr) (a_ (a_ tr tr) (a_ (a_ tr (a_ (leB cL0_11) tr)) (a_ tr (a_ tr (a_ tr (a_ (a_ tr tr) (a_ (a_ tr tr) (a_ (a_ tr tr) (a_ (a_ tr tr) (a_ (a_ (a_ (parrellaw13_alive_tri  yL0_13 eL0_12) tr) tr) (a_ (a_ tr tr) (a_ (a_ tr tr) tr))))))))))))))))))))) tr))))) tr) (by kernel_rfl) rfl
                · skip
                  rcases itb_some h with ⟨cL0_12, h⟩ | ⟨cL0_12, h⟩
                  · skip
                    obtain ⟨yL0_14, eL0_13, h⟩ := bind_some h
                    obtain rfl := Option.some.inj h
                    exact run_ret mixed (L := []) (n := 31) (s := [.go, .reg [(0, { v := some (.bool false) })], .reg [(2, { call := some ((item_Table_Get_v yL0_3).ren (sel [1, 3]), preOf (sel [1, 3]) 0 (item_Table_Get_objs m x_k), upOf (sel [1, 3]) (item_Table_Get_up m x_k yL0_3)) })], .reg [(2, { call := some ((item_Table_Get_v yL0_5).ren (sel [2, 4]), preOf (sel [2, 4]) 0 (item_Table_Get_objs m2 x_k), upOf (sel [2, 4]) (item_Table_Get_up m2 x_k yL0_5)) })], .reg [(2, { v := some (.bool false) }), (9, { v := some (.bool false) }), (14, { v := some (.bool false) })], .reg [(2, { v := some (.bool false) }), (7, { v := some (.bool true) }), (10, { v := some (.bool false) }), (13, { v := some (.bool (decide (yL0_3.1 = yL0_5.1))) }), (17, { v := some (.bool true) }), (18, { call := some (parrellaw13_alive_v yL0_14, [], []) })]])
                      (a_ (a_ (a_ (a_ tr (a_ (leB cL0_1) tr)) tr) (a_ (a_ (a_ tr tr) (a_ (a_ (a_ tr (le_ 8 8 rfl)) tr) (a_ (a_ (a_ (item_Table_Get_ok m x_k yL0_3 eL0_2 (sel [1, 3]) (sel_inj rfl rfl)) (a_ (LO.Le.refl (.var [.map 3])) (a_ (LO.Le.refl (.map true [.int .u8, .int .u8, .int .u8, .int .u8, .int .u8, .int .u8, .int .u8, .int .u8] (encM (fun z_ : A8 (Int) => LV.agg [.int .u8 z_.a0, .int .u8 z_.a1, .int .u8 z_.a2, .int .u8 z_.a3, .int .u8 z_.a4, .int .u8 z_.a5, .int .u8 z_.a6, .int .u8 z_.a7]) v_T_api_Item m))) tr))) tr) (a_ (a_ tr tr) (a_ (a_ tr tr) (a_ (a_ tr tr) (a_ (a_ tr tr) (a_ (a_ (a_ (Eq.refl 13) (a_ (le_ 13 13 rfl) (Eq.refl 0))) tr) (a_ (a_ tr tr) tr))))))))) (a_ (a_ (a_ tr tr) (a_ (a_ (a_ tr (le_ 8 8 rfl)) tr) (a_ (a_ (a_ (item_Table_Get_ok m2 x_k yL0_5 eL0_4 (sel [2, 4]) (sel_inj rfl rfl)) (a_ (LO.Le.refl (.var [.map 4])) (a_ (LO.Le.refl (.map true [.int .u8, .int .u8, .int .u8, .int .u8, .int .u8, .int .u8, .int .u8, .int .u8] (encM (fun z_ : A8 (Int) => LV.agg [.int .u8 z_.a0, .int .u8 z_.a1, .int .u8 z_.a2, .int .u8 z_.a3, .int .u8 z_.a4, .int .u8 z_.a5, .int .u8 z_.a6, .int .u8 z_.a7]) v_T_api_Item m2))) tr))) tr) (a_ (a_ tr tr) (a_ (a_ tr tr) (a_ (a_ tr tr) (a_ (a_ tr tr) (a_ (a_ (a_ (Eq.refl 13) (a_ (le_ 13 13 rfl) (Eq.refl 0))) tr) (a_ (a_ tr tr) tr))))))))) (a_ (a_ (a_ tr tr) (a_ (a_ tr tr) (a_ (a_ tr (a_ (leB cL0_6) tr)) (a_ (a_ tr tr) (a_ (a_ tr tr) (a_ (a_ tr tr) (a_ (a_ tr tr) (a_ (a_ tr tr) (a_ (a_ tr tr) (a_ (a_ tr (a_ (leB cL0_7) tr)) (a_ (a_ tr tr) (a_ (a_ (a_ tr (lt_ 0 13 rfl)) tr) (a_ (a_ tr tr) (a_ (a_ tr tr) (a_ (a_ tr (a_ (leB cL0_8) tr)) tr))))))))))))))) (a_ (a_ (a_ tr tr) (a_ (a_ tr tr) (a_ (a_ tr (a_ (leB cL0_9) tr)) (a_ (a_ tr tr) (a_ (a_ (a_ tr (lt_ 0 13 rfl)) tr) (a_ (a_ tr tr) (a_ (a_ tr tr) (a_ (a_ tr (a_ (leB cL0_10) tr)) (a_ (a_ tr tr) (a_ (a_ tr tr) (a_ (a_ tr (a_ (leB cL0_11) tr)) (a_ (a_ (a_ tr (le_ 13 13 rfl)) tr) (a_ (a_ (a_ tr (le_ 13 13 rfl)) tr) (a_ (a_ tr (a_ (leB (k_T_api_Item yL0_3.1 yL0_5.1)) tr)) (a_ (a_ tr tr) (a_ (a_ tr tr) (a_ (a_ tr tr) (a_ (a_ tr (a_ (leB cL0_12) tr)) (a_ (a_ (a_ (parrellaw13_alive_tri  yL0_14 eL0_13) tr) tr) (a_ (a_ tr tr) (a_ (a_ tr tr) tr))))))))))))))))))))) tr))))) tr) (by kernel_rfl) rfl
                  · skip
                    obtain rfl := Option.some.inj h
                    exact run_ret mixed (L := []) (n := 31) (s := [.go, .reg [(0, { v := some (.bool false) })], .reg [(2, { call := some ((item_Table_Get_v yL0_3).ren (sel [1, 3]), preOf (sel [1, 3]) 0 (item_Table_Get_objs m x_k), upOf (sel [1, 3]) (item_Table_Get_up m x_k yL0_3)) })], .reg [(2, { call := some ((item_Table_Get_v yL0_5).ren (sel [2, 4]), preOf (sel [2, 4]) 0 (item_Table_Get_objs m2 x_k), upOf (sel [2, 4]) (item_Table_Get_up m2 x_k yL0_5)) })], .reg [(2, { v := some (.bool false) }), (9, { v := some (.bool false) }), (14, { v := some (.bool false) })], .reg [(2, { v := some (.bool false) }), (7, { v := some (.bool true) }), (10, { v := some (.bool false) }), (13, { v := some (.bool (decide (yL0_3.1 = yL0_5.1))) }), (17, { v := some (.bool false) })]])
                      (a_ (a_ (a_ (a_ tr (a_ (leB cL0_1) tr)) tr) (a_ (a_ (a_ tr tr) (a_ (a_ (a_ tr (le_ 8 8 rfl)) tr) (a_ (a_ (a_ (item_Table_Get_ok m x_k yL0_3 eL0_2 (sel [1, 3]) (sel_inj rfl rfl)) (a_ (LO.Le.refl (.var [.map 3])) (a_ (LO.Le.refl (.map true [.int .u8, .int .u8, .int .u8, .int .u8, .int .u8, .int .u8, .int .u8, .int .u8] (encM (fun z_ : A8 (Int) => LV.agg [.int .u8 z_.a0, .int .u8 z_.a1, .int .u8 z_.a2, .int .u8 z_.a3, .int .u8 z_.a4, .int .u8 z_.a5, .int .u8 z_.a6, .int .u8 z_.a7]) v_T_api_Item m))) tr))) tr) (a_ (a_ tr tr) (a_ (a_ tr tr) (a_ (a_ tr tr) (a_ (a_ tr tr) (a_ (a_ (a_ (Eq.refl 13) (a_ (le_ 13 13 rfl) (Eq.refl 0))) tr) (a_ (a_ tr tr) tr))))))))) (a_ (a_ (a_ tr tr) (a_ (a_ (a_ tr (le_ 8 8 rfl)) tr) (a_ (a_ (a_ (item_Table_Get_ok m2 x_k yL0_5 eL0_4 (sel [2, 4]) (sel_inj rfl rfl)) (a_ (LO.Le.refl (.var [.map 4])) (a_ (LO.Le.refl (.map true [.int .u8, .int .u8, .int .u8, .int .u8, .int .u8, .int .u8, .int .u8, .int .u8] (encM (fun z_ : A8 (Int) => LV.agg [.int .u8 z_.a0, .int .u8 z_.a1, .int .u8 z_.a2, .int .u8 z_.a3, .int .u8 z_.a4, .int .u8 z_.a5, .int .u8 z_.a6, .int .u8 z_.a7]) v_T_api_Item m2))) tr))) tr) (a_ (a_ tr tr) (a_ (a_ tr tr) (a_ (a_ tr tr) (a_ (a_ tr tr) (a_ (a_ (a_ (Eq.refl 13) (a_ (le_ 13 13 rfl) (Eq.refl 0))) tr) (a_ (a_ tr tr) tr))))))))) (a_ (a_ (a_ tr tr) (a_ (a_ tr tr) (a_ (a_ tr (a_ (leB cL0_6) tr)) (a_ (a_ tr tr) (a_ (a_ tr tr) (a_ (a_ tr tr) (a_ (a_ tr tr) (a_ (a_ tr tr) (a_ (a_ tr tr) (a_ (a_ tr (a_ (leB cL0_7) tr)) (a_ (a_ tr tr) (a_ (a_ (a_ tr (lt_ 0 13 rfl)) tr) (a_ (a_ tr tr) (a_ (a_ tr tr) (a_ (a_ tr (a_ (leB cL0_8) tr)) tr))))))))))))))) (a_ (a_ (a_ tr tr) (a_ (a_ tr tr) (a_ (a_ tr (a_ (leB cL0_9) tr)) (a_ (a_ tr tr) (a_ (a_ (a_ tr (lt_ 0 13 rfl)) tr) (a_ (a_ tr tr) (a_ (a_ tr tr) (a_ (a_ tr (a_ (leB cL0_10) tr)) (a_ (a_ tr tr) (a_ (a_ tr tr) (a_ (a_ tr (a_ (leB cL0_11) tr)) (a_ (a_ (a_ tr (le_ 13 13 rfl)) tr) (a_ (a_ (a_ tr (le_ 13 13 rfl)) tr) (a_ (a_ tr (a_ (leB (k_T_api_Item yL0_3.1 yL0_5.1)) tr)) (a_ (a_ tr tr) (a_ (a_ tr tr) (a_ (a_ tr tr) (a_ (a_ tr (a_ (leB cL0_12) tr)) (a_ tr (a_ (a_ tr tr) (a_ (a_ tr tr) tr))))))))))))))))))))) tr))))) tr) (by kernel_rfl) rfl
              · skip
                obtain rfl := Option.some.inj h
                exact run_ret mixed (L := []) (n := 31) (s := [.go, .reg [(0, { v := some (.bool false) })], .reg [(2, { call := some ((item_Table_Get_v yL0_3).ren (sel [1, 3]), preOf (sel [1, 3]) 0 (item_Table_Get_objs m x_k), upOf (sel [1, 3]) (item_Table_Get_up m x_k yL0_3)) })], .reg [(2, { call := some ((item_Table_Get_v yL0_5).ren (sel [2, 4]), preOf (sel [2, 4]) 0 (item_Table_Get_objs m2 x_k), upOf (sel [2, 4]) (item_Table_Get_up m2 x_k yL0_5)) })], .reg [(2, { v := some (.bool false) }), (9, { v := some (.bool false) }), (14, { v := some (.bool false) })], .reg [(2, { v := some (.bool false) }), (7, { v := some (.bool false) })]])
                  (a_ (a_ (a_ (a_ tr (a_ (leB cL0_1) tr)) tr) (a_ (a_ (a_ tr tr) (a_ (a_ (a_ tr (le_ 8 8 rfl)) tr) (a_ (a_ (a_ (item_Table_Get_ok m x_k yL0_3 eL0_2 (sel [1, 3]) (sel_inj rfl rfl)) (a_ (LO.Le.refl (.var [.map 3])) (a_ (LO.Le.refl (.map true [.int .u8, .int .u8, .int .u8, .int .u8, .int .u8, .int .u8, .int .u8, .int .u8] (encM (fun z_ : A8 (Int) => LV.agg [.int .u8 z_.a0, .int .u8 z_.a1, .int .u8 z_.a2, .int .u8 z_.a3, .int .u8 z_.a4, .int .u8 z_.a5, .int .u8 z_.a6, .int .u8 z_.a7]) v_T_api_Item m))) tr))) tr) (a_ (a_ tr tr) (a_ (a_ tr tr) (a_ (a_ tr tr) (a_ (a_ tr tr) (a_ (a_ (a_ (Eq.refl 13) (a_ (le_ 13 13 rfl) (Eq.refl 0))) tr) (a_ (a_ tr tr) tr))))))))) (a_ (a_ (a_ tr tr) (a_ (a_ (a_ tr (le_ 8 8 rfl)) tr) (a_ (a_ (a_ (item_Table_Get_ok m2 x_k yL0_5 eL0_4 (sel [2, 4]) (sel_inj rfl rfl)) (a_ (LO.Le.refl (.var [.map 4])) (a_ (LO.Le.refl (.map true [.int .u8, .int .u8, .int .u8, .int .u8, .int .u8, .int .u8, .int .u8, .int .u8] (encM (fun z_ : A8 (Int) => LV.agg [.int .u8 z_.a0, .int .u8 z_.a1, .int .u8 z_.a2, .int .u8 z_.a3, .int .u8 z_.a4, .int .u8 z_.a5, .int .u8 z_.a6, .int .u8 z_.a7]) v_T_api_Item m2))) tr))) tr) (a_ (a_ tr tr) (a_ (a_ tr tr) (a_ (a_ tr tr) (a_ (a_ tr tr) (a_ (a_ (a_ (Eq.refl 13) (a_ (le_ 13 13 rfl) (Eq.refl 0))) tr) (a_ (a_ tr tr) tr))))))))) (a_ (a_ (a_ tr tr) (a_ (a_ tr tr) (a_ (a_ tr (a_ (leB cL0_6) tr)) (a_ (a_ tr tr) (a_ (a_ tr tr) (a_ (a_ tr tr) (a_ (a_ tr tr) (a_ (a_ tr tr) (a_ (a_ tr tr) (a_ (a_ tr (a_ (leB cL0_7) tr)) (a_ (a_ tr tr) (a_ (a_ (a_ tr (lt_ 0 13 rfl)) tr) (a_ (a_ tr tr) (a_ (a_ tr tr) (a_ (a_ tr (a_ (leB cL0_8) tr)) tr))))))))))))))) (a_ (a_ (a_ tr tr) (a_ (a_ tr tr) (a_ (a_ tr (a_ (leB cL0_9) tr)) (a_ (a_ tr tr) (a_ (a_ (a_ tr (lt_ 0 13 rfl)) tr) (a_ (a_ tr tr) (a_ (a_ tr tr) (a_ (a_ tr (a_ (leB cL0_10) tr)) (a_ tr (a_ tr (a_ tr (a_ tr (a_ tr (a_ tr (a_ tr (a_ (a_ tr tr) (a_ (a_ tr tr) (a_ (a_ tr tr) (a_ tr (a_ (a_ tr tr) (a_ (a_ tr tr) tr))))))))))))))))))))) tr))))) tr) (by kernel_rfl) rfl

theorem parrellaw13_ItemLast_ok (versions : List (Int)) (x_k : A8 (Int)) (r : (Bool)) (h : parrellaw13_ItemLast versions x_k = some r) : ∀ σ, Inj 0 σ → FnTri Tryd.prog 5 (renL σ [.ds 1 (versions).length (rowF (cInt .u8) default versions), .agg [.int .u8 x_k.a0, .int .u8 x_k.a1, .int .u8 x_k.a2, .int .u8 x_k.a3, .int .u8 x_k.a4, .int .u8 x_k.a5, .int .u8 x_k.a6, .int .u8 x_k.a7]]) (preOf σ 0 []) ((parrellaw13_ItemLast_v r).ren σ) (upOf σ []) := by
  refine fn_of Tryd.func5 (by kernel_rfl) (by kernel_rfl) (by kernel_rfl) trivial (by kernel_rfl) trivial (by kernel_rfl) ?_
  intro w0 W μ0 hμ
  unfold parrellaw13_ItemLast at h
  rcases itb_some h with ⟨c1, h⟩ | ⟨c1, h⟩
  · skip
    obtain ⟨y3, e2, h⟩ := bind_some h
    obtain rfl := Option.some.inj h
    exact run_ret mixed (L := []) (n := 20) (s := [.reg [], .reg [(2, { v := some (.bool true) })], .reg [(0, { call := some (parrellaw13_alive_v y3, [], []) })]])
      (a_ (a_ (a_ (a_ tr tr) (a_ (a_ tr tr) tr)) (a_ (a_ (a_ tr tr) (a_ (a_ tr tr) (a_ (a_ tr (a_ (leB c1) tr)) tr))) (a_ (a_ (a_ (a_ (parrellaw13_alive_tri  y3 e2) tr) tr) (a_ (a_ tr tr) tr)) tr))) tr) (by kernel_rfl) rfl
  · skip
    obtain ⟨y3, e2, h⟩ := bind_some h
    obtain ⟨y5, e4, h⟩ := bind_some h
    obtain ⟨y7, e6, h⟩ := bind_some h
    obtain ⟨y9, e8, h⟩ := bind_some h
    rcases itb_some h with ⟨c10, h⟩ | ⟨c10, h⟩
    · skip
      obtain ⟨y12, e11, h⟩ := bind_some h
      obtain ⟨y14, e13, h⟩ := bind_some h
      rcases itb_some h with ⟨c15, h⟩ | ⟨c15, h⟩
      · skip
        obtain ⟨y17, e16, h⟩ := bind_some h
        rcases itb_some h with ⟨c18, h⟩ | ⟨c18, h⟩
        · skip
          obtain ⟨y20, e19, h⟩ := bind_some h
          obtain rfl := Option.some.inj h
          exact run_ret mixed (L := []) (n := 35) (s := [.reg [], .reg [(2, { v := some (.bool false) })], .reg [(0, { call := some ((item_New_v y3).ren (sel [1, 2]), preOf (sel [1, 2]) 0 [], upOf (sel [1, 2]) (item_New_up  y3)) }), (1, { call := some ((item_New_v y5).ren (sel [3, 4]), preOf (sel [3, 4]) 0 [], upOf (sel [3, 4]) (item_New_up  y5)) })], .reg [], .reg [(2, { call := some (parrellaw13_one_v y7, [], []) }), (3, { call := some ((item_Table_Install_v y9).ren (sel [1, 2]), preOf (sel [1, 2]) 0 (item_Table_Install_objs y3 x_k y7), upOf (sel [1, 2]) (item_Table_Install_up y3 x_k y7 y9)) }), (4, { v := some (.bool true) })], .reg [(2, { call := some (parrellaw13_one_v y12, [], []) }), (3, { call := some ((item_Table_Install_v y14).ren (sel [3, 4]), preOf (sel [3, 4]) 0 (item_Table_Install_objs y5 x_k y12), upOf (sel [3, 4]) (item_Table_Install_up y5 x_k y12 y14)) }), (5, { v := some (.bool true) }), (7, { call := some ((item_Table_Len_v y17).ren (sel [1, 2]), preOf (sel [1, 2]) 0 (item_Table_Len_objs y9.2), upOf (sel [1, 2]) (item_Table_Len_up y9.2 y17)) }), (10, { v := some (.bool true) }), (11, { call := some (parrellaw13_alive_v y20, [], []) })]])
            (a_ (a_ (a_ (a_ tr tr) (a_ (a_ tr tr) tr)) (a_ (a_ (a_ tr tr) (a_ (a_ tr tr) (a_ (a_ tr (a_ (leB c1) tr)) tr))) (a_ (a_ (a_ (a_ (item_New_ok  y3 e2 (sel [1, 2]) (sel_inj rfl rfl)) tr) tr) (a_ (a_ (a_ (item_New_ok  y5 e4 (sel [3, 4]) (sel_inj rfl rfl)) tr) tr) (a_ (a_ tr tr) (a_ (a_ tr tr) tr)))) (a_ (a_ (a_ tr tr) (a_ (a_ tr tr) (a_ (a_ tr tr) (a_ (a_ tr tr) (a_ (a_ tr tr) (a_ (a_ tr tr) tr)))))) (a_ (a_ (a_ tr tr) (a_ (a_ (a_ tr (le_ 8 8 rfl)) tr) (a_ (a_ (a_ (parrellaw13_one_tri 0 ([]) y7 e6) tr) tr) (a_ (a_ (a_ (item_Table_Install_ok y3 x_k y7 y9 e8 (sel [1, 2]) (sel_inj rfl rfl)) (a_ (LO.Le.refl (.var [.map 2])) (a_ (LO.Le.refl (.map true [.int .u8, .int .u8, .int .u8, .int .u8, .int .u8, .int .u8, .int .u8, .int .u8] (encM (fun z_ : A8 (Int) => LV.agg [.int .u8 z_.a0, .int .u8 z_.a1, .int .u8 z_.a2, .int .u8 z_.a3, .int .u8 z_.a4, .int .u8 z_.a5, .int .u8 z_.a6, .int .u8 z_.a7]) v_T_api_Item y3))) tr))) tr) (a_ (a_ tr (a_ (leB c10) tr)) tr))))) (a_ (a_ (a_ tr tr) (a_ (a_ (a_ tr (le_ 8 8 rfl)) tr) (a_ (a_ (a_ (parrellaw13_one_tri 0 ([]) y12 e11) tr) tr) (a_ (a_ (a_ (item_Table_Install_ok y5 x_k y12 y14 e13 (sel [3, 4]) (sel_inj rfl rfl)) (a_ (LO.Le.refl (.var [.map 4])) (a_ (LO.Le.refl (.map true [.int .u8, .int .u8, .int .u8, .int .u8, .int .u8, .int .u8, .int .u8, .int .u8] (encM (fun z_ : A8 (Int) => LV.agg [.int .u8 z_.a0, .int .u8 z_.a1, .int .u8 z_.a2, .int .u8 z_.a3, .int .u8 z_.a4, .int .u8 z_.a5, .int .u8 z_.a6, .int .u8 z_.a7]) v_T_api_Item y5))) tr))) tr) (a_ (a_ tr tr) (a_ (a_ tr (a_ (leB c15) tr)) (a_ (a_ tr tr) (a_ (a_ (a_ (item_Table_Len_ok y9.2 y17 e16 (sel [1, 2]) (sel_inj rfl rfl)) (a_ (LO.Le.refl (.var [.map 2])) (a_ (LO.Le.refl (.map true [.int .u8, .int .u8, .int .u8, .int .u8, .int .u8, .int .u8, .int .u8, .int .u8] (encM (fun z_ : A8 (Int) => LV.agg [.int .u8 z_.a0, .int .u8 z_.a1, .int .u8 z_.a2, .int .u8 z_.a3, .int .u8 z_.a4, .int .u8 z_.a5, .int .u8 z_.a6, .int .u8 z_.a7]) v_T_api_Item y9.2))) tr))) tr) (a_ (a_ tr tr) (a_ (a_ tr tr) (a_ (a_ tr (a_ (leB c18) tr)) (a_ (a_ (a_ (parrellaw13_alive_tri  y20 e19) tr) tr) (a_ (a_ tr tr) (a_ (a_ tr tr) tr)))))))))))))) tr)))))) tr) (by kernel_rfl) rfl
        · skip
          obtain rfl := Option.some.inj h
          exact run_ret mixed (L := []) (n := 35) (s := [.reg [], .reg [(2, { v := some (.bool false) })], .reg [(0, { call := some ((item_New_v y3).ren (sel [1, 2]), preOf (sel [1, 2]) 0 [], upOf (sel [1, 2]) (item_New_up  y3)) }), (1, { call := some ((item_New_v y5).ren (sel [3, 4]), preOf (sel [3, 4]) 0 [], upOf (sel [3, 4]) (item_New_up  y5)) })], .reg [], .reg [(2, { call := some (parrellaw13_one_v y7, [], []) }), (3, { call := some ((item_Table_Install_v y9).ren (sel [1, 2]), preOf (sel [1, 2]) 0 (item_Table_Install_objs y3 x_k y7), upOf (sel [1, 2]) (item_Table_Install_up y3 x_k y7 y9)) }), (4, { v := some (.bool true) })], .reg [(2, { call := some (parrellaw13_one_v y12, [], []) }), (3, { call := some ((item_Table_Install_v y14).ren (sel [3, 4]), preOf (sel [3, 4]) 0 (item_Table_Install_objs y5 x_k y12), upOf (sel [3, 4]) (item_Table_Install_up y5 x_k y12 y14)) }), (5, { v := some (.bool true) }), (7, { call := some ((item_Table_Len_v y17).ren (sel [1, 2]), preOf (sel [1, 2]) 0 (item_Table_Len_objs y9.2), upOf (sel [1, 2]) (item_Table_Len_up y9.2 y17)) }), (10, { v := some (.bool false) })]])
            (a_ (a_ (a_ (a_ tr tr) (a_ (a_ tr tr) tr)) (a_ (a_ (a_ tr tr) (a_ (a_ tr tr) (a_ (a_ tr (a_ (leB c1) tr)) tr))) (a_ (a_ (a_ (a_ (item_New_ok  y3 e2 (sel [1, 2]) (sel_inj rfl rfl)) tr) tr) (a_ (a_ (a_ (item_New_ok  y5 e4 (sel [3, 4]) (sel_inj rfl rfl)) tr) tr) (a_ (a_ tr tr) (a_ (a_ tr tr) tr)))) (a_ (a_ (a_ tr tr) (a_ (a_ tr tr) (a_ (a_ tr tr) (a_ (a_ tr tr) (a_ (a_ tr tr) (a_ (a_ tr tr) tr)))))) (a_ (a_ (a_ tr tr) (a_ (a_ (a_ tr (le_ 8 8 rfl)) tr) (a_ (a_ (a_ (parrellaw13_one_tri 0 ([]) y7 e6) tr) tr) (a_ (a_ (a_ (item_Table_Install_ok y3 x_k y7 y9 e8 (sel [1, 2]) (sel_inj rfl rfl)) (a_ (LO.Le.refl (.var [.map 2])) (a_ (LO.Le.refl (.map true [.int .u8, .int .u8, .int .u8, .int .u8, .int .u8, .int .u8, .int .u8, .int .u8] (encM (fun z_ : A8 (Int) => LV.agg [.int .u8 z_.a0, .int .u8 z_.a1, .int .u8 z_.a2, .int .u8 z_.a3, .int .u8 z_.a4, .int .u8 z_.a5, .int .u8 z_.a6, .int .u8 z_.a7]) v_T_api_Item y3))) tr))) tr) (a_ (a_ tr (a_ (leB c10) tr)) tr))))) (a_ (a_ (a_ tr tr) (a_ (a_ (a_ tr (le_ 8 8 rfl)) tr) (a_ (a_ (a_ (parrellaw13_one_tri 0 ([]) y12 e11) tr) tr) (a_ (a_ (a_ (item_Table_Install_ok y5 x_k y12 y14 e13 (sel [3, 4]) (sel_inj rfl rfl)) (a_ (LO.Le.refl (.var [.map 4])) (a_ (LO.Le.refl (.map true [.int .u8, .int .u8, .int .u8, .int .u8, .int .u8, .int .u8, .int .u8, .int .u8] (encM (fun z_ : A8 (Int) => LV.agg [.int .u8 z_.a0, .int .u8 z_.a1, .int .u8 z_.a2, .int .u8 z_.a3, .int .u8 z_.a4, .int .u8 z_.a5, .int .u8 z_.a6, .int .u8 z_.a7]) v_T_api_Item y5))) tr))) tr) (a_ (a_ tr tr) (a_ (a_ tr (a_ (leB c15) tr)) (a_ (a_ tr tr) (a_ (a_ (a_ (item_Table_Len_ok y9.2 y17 e16 (sel [1, 2]) (sel_inj rfl rfl)) (a_ (LO.Le.refl (.var [.map 2])) (a_ (LO.Le.refl (.map true [.int .u8, .int .u8, .int .u8, .int .u8, .int .u8, .int .u8, .int .u8, .int .u8] (encM (fun z_ : A8 (Int) => LV.agg [.int .u8 z_.a0, .int .u8 z_.a1, .int .u8 z_.a2, .int .u8 z_.a3, .int .u8 z_.a4, .int .u8 z_.a5, .int .u8 z_.a6, .int .u8 z_.a7]) v_T_api_Item y9.2))) tr))) tr) (a_ (a_ tr tr) (a_ (a_ tr tr) (a_ (a_ tr (a_ (leB c18) tr)) (a_ tr (a_ (a_ tr tr) (a_ (a_ tr tr) tr)))))))))))))) tr)))))) tr) (by kernel_rfl) rfl
      · skip
        obtain rfl := Option.some.inj h
        exact run_ret mixed (L := []) (n := 35) (s := [.reg [], .reg [(2, { v := some (.bool false) })], .reg [(0, { call := some ((item_New_v y3).ren (sel [1, 2]), preOf (sel [1, 2]) 0 [], upOf (sel [1, 2]) (item_New_up  y3)) }), (1, { call := some ((item_New_v y5).ren (sel [3, 4]), preOf (sel [3, 4]) 0 [], upOf (sel [3, 4]) (item_New_up  y5)) })], .reg [], .reg [(2, { call := some (parrellaw13_one_v y7, [], []) }), (3, { call := some ((item_Table_Install_v y9).ren (sel [1, 2]), preOf (sel [1, 2]) 0 (item_Table_Install_objs y3 x_k y7), upOf (sel [1, 2]) (item_Table_Install_up y3 x_k y7 y9)) }), (4, { v := some (.bool true) })], .reg [(2, { call := some (parrellaw13_one_v y12, [], []) }), (3, { call := some ((item_Table_Install_v y14).ren (sel [3, 4]), preOf (sel [3, 4]) 0 (item_Table_Install_objs y5 x_k y12), upOf (sel [3, 4]) (item_Table_Install_up y5 x_k y12 y14)) }), (5, { v := some (.bool false) })]])
          (a_ (a_ (a_ (a_ tr tr) (a_ (a_ tr tr) tr)) (a_ (a_ (a_ tr tr) (a_ (a_ tr tr) (a_ (a_ tr (a_ (leB c1) tr)) tr))) (a_ (a_ (a_ (a_ (item_New_ok  y3 e2 (sel [1, 2]) (sel_inj rfl rfl)) tr) tr) (a_ (a_ (a_ (item_New_ok  y5 e4 (sel [3, 4]) (sel_inj rfl rfl)) tr) tr) (a_ (a_ tr tr) (a_ (a_ tr tr) tr)))) (a_ (a_ (a_ tr tr) (a_ (a_ tr tr) (a_ (a_ tr tr) (a_ (a_ tr tr) (a_ (a_ tr tr) (a_ (a_ tr tr) tr)))))) (a_ (a_ (a_ tr tr) (a_ (a_ (a_ tr (le_ 8 8 rfl)) tr) (a_ (a_ (a_ (parrellaw13_one_tri 0 ([]) y7 e6) tr) tr) (a_ (a_ (a_ (item_Table_Install_ok y3 x_k y7 y9 e8 (sel [1, 2]) (sel_inj rfl rfl)) (a_ (LO.Le.refl (.var [.map 2])) (a_ (LO.Le.refl (.map true [.int .u8, .int .u8, .int .u8, .int .u8, .int .u8, .int .u8, .int .u8, .int .u8] (encM (fun z_ : A8 (Int) => LV.agg [.int .u8 z_.a0, .int .u8 z_.a1, .int .u8 z_.a2, .int .u8 z_.a3, .int .u8 z_.a4, .int .u8 z_.a5, .int .u8 z_.a6, .int .u8 z_.a7]) v_T_api_Item y3))) tr))) tr) (a_ (a_ tr (a_ (leB c10) tr)) tr))))) (a_ (a_ (a_ tr tr) (a_ (a_ (a_ tr (le_ 8 8 rfl)) tr) (a_ (a_ (a_ (parrellaw13_one_tri 0 ([]) y12 e11) tr) tr) (a_ (a_ (a_ (item_Table_Install_ok y5 x_k y12 y14 e13 (sel [3, 4]) (sel_inj rfl rfl)) (a_ (LO.Le.refl (.var [.map 4])) (a_ (LO.Le.refl (.map true [.int .u8, .int .u8, .int .u8, .int .u8, .int .u8, .int .u8, .int .u8, .int .u8] (encM (fun z_ : A8 (Int) => LV.agg [.int .u8 z_.a0, .int .u8 z_.a1, .int .u8 z_.a2, .int .u8 z_.a3, .int .u8 z_.a4, .int .u8 z_.a5, .int .u8 z_.a6, .int .u8 z_.a7]) v_T_api_Item y5))) tr))) tr) (a_ (a_ tr tr) (a_ (a_ tr (a_ (leB c15) tr)) (a_ tr (a_ tr (a_ tr (a_ (a_ tr tr) (a_ (a_ tr tr) (a_ tr (a_ (a_ tr tr) (a_ (a_ tr tr) tr)))))))))))))) tr)))))) tr) (by kernel_rfl) rfl
    · skip
      exact run_to mixed hμ (L := [0, 1, 3, 2, 4]) (n := 42) (s := [.reg [], .reg [(2, { v := some (.bool false) })], .reg [(0, { call := some ((item_New_v y3).ren (sel [1, 2]), preOf (sel [1, 2]) 0 [], upOf (sel [1, 2]) (item_New_up  y3)) }), (1, { call := some ((item_New_v y5).ren (sel [3, 4]), preOf (sel [3, 4]) 0 [], upOf (sel [3, 4]) (item_New_up  y5)) })], .reg [], .reg [(2, { call := some (parrellaw13_one_v y7, [], []) }), (3, { call := some ((item_Table_Install_v y9).ren (sel [1, 2]), preOf (sel [1, 2]) 0 (item_Table_Install_objs y3 x_k y7), upOf (sel [1, 2]) (item_Table_Install_up y3 x_k y7 y9)) }), (4, { v := some (.bool false) })], .reg [], .reg []])
        (a_ (a_ (a_ tr tr) (a_ (a_ tr tr) tr)) (a_ (a_ (a_ tr tr) (a_ (a_ tr tr) (a_ (a_ tr (a_ (leB c1) tr)) tr))) (a_ (a_ (a_ (a_ (item_New_ok  y3 e2 (sel [1, 2]) (sel_inj rfl rfl)) tr) tr) (a_ (a_ (a_ (item_New_ok  y5 e4 (sel [3, 4]) (sel_inj rfl rfl)) tr) tr) (a_ (a_ tr tr) (a_ (a_ tr tr) tr)))) (a_ (a_ (a_ tr tr) (a_ (a_ tr tr) (a_ (a_ tr tr) (a_ (a_ tr tr) (a_ (a_ tr tr) (a_ (a_ tr tr) tr)))))) (a_ (a_ (a_ tr tr) (a_ (a_ (a_ tr (le_ 8 8 rfl)) tr) (a_ (a_ (a_ (parrellaw13_one_tri 0 ([]) y7 e6) tr) tr) (a_ (a_ (a_ (item_Table_Install_ok y3 x_k y7 y9 e8 (sel [1, 2]) (sel_inj rfl rfl)) (a_ (LO.Le.refl (.var [.map 2])) (a_ (LO.Le.refl (.map true [.int .u8, .int .u8, .int .u8, .int .u8, .int .u8, .int .u8, .int .u8, .int .u8] (encM (fun z_ : A8 (Int) => LV.agg [.int .u8 z_.a0, .int .u8 z_.a1, .int .u8 z_.a2, .int .u8 z_.a3, .int .u8 z_.a4, .int .u8 z_.a5, .int .u8 z_.a6, .int .u8 z_.a7]) v_T_api_Item y3))) tr))) tr) (a_ (a_ tr (a_ (leB c10) tr)) tr))))) (a_ (a_ (a_ tr tr) tr) (a_ (a_ (a_ tr tr) (a_ (a_ tr tr) (a_ (a_ tr tr) tr))) tr))))))) (parrellaw13_ItemLast_l0_ok hμ versions x_k  big _ _ _ _ r h) (by kernel_rfl) ⟨rfl, rfl, rfl, trivial, trivial, trivial⟩

theorem parrellaw13_ItemLast_tri (versions : List (Int)) (x_k : A8 (Int)) (r : (Bool)) (h : parrellaw13_ItemLast versions x_k = some r) : FnTri Tryd.prog 5 [.ds 1 (versions).length (rowF (cInt .u8) default versions), .agg [.int .u8 x_k.a0, .int .u8 x_k.a1, .int .u8 x_k.a2, .int .u8 x_k.a3, .int .u8 x_k.a4, .int .u8 x_k.a5, .int .u8 x_k.a6, .int .u8 x_k.a7]] [] (parrellaw13_ItemLast_v r) [] := FnTri.none (parrellaw13_ItemLast_ok versions x_k r h) rfl rfl

/-- (*parrel/item.Table).ok -/

def item_Table_ok_2_v (r : Unit) : LV := .bool false

def item_Table_ok_2  : Option (Unit) :=
  some ()

theorem item_Table_ok_2_ok  (r : Unit) (h : item_Table_ok_2  = some r) : ∀ σ, Inj 0 σ → FnTri Tryd.prog 24 (renL σ [.nilptr]) (preOf σ 0 []) ((item_Table_ok_2_v r).ren σ) (upOf σ []) := by
  refine fn_of Tryd.func24 (by kernel_rfl) (by kernel_rfl) (by kernel_rfl) trivial (by kernel_rfl) trivial (by kernel_rfl) ?_
  intro w0 W μ0 hμ
  unfold item_Table_ok_2 at h
  obtain rfl := Option.some.inj h
  exact run_ret mixed (L := []) (n := 15) (s := [.reg [], .reg []])
    (a_ (a_ (a_ (a_ tr tr) tr) (a_ (a_ (a_ tr tr) (a_ (a_ tr tr) (a_ (a_ tr tr) (a_ tr (a_ tr (a_ tr (a_ tr (a_ tr (a_ (a_ tr tr) (a_ (a_ tr tr) tr)))))))))) tr)) tr) (by kernel_rfl) rfl

theorem item_Table_ok_2_tri  (r : Unit) (h : item_Table_ok_2  = some r) : FnTri Tryd.prog 24 [.nilptr] [] (item_Table_ok_2_v r) [] := FnTri.none (item_Table_ok_2_ok  r h) rfl rfl

/-- (*parrel/item.Table).Get -/

def item_Table_Get_2_v (r : (T_api_Item)) : LV := .tup [v_T_api_Item r, .bool false]

def item_Table_Get_2 (x_k : A8 (Int)) : Option ((T_api_Item)) :=
  (item_Table_ok_2).bind fun y2 =>
  some (T_api_Item.mk 0 [] (T_api_Config.mk 0 0 0 (A8.mk 0 0 0 0 0 0 0 0)))

theorem item_Table_Get_2_ok (x_k : A8 (Int)) (r : (T_api_Item)) (h : item_Table_Get_2 x_k = some r) : ∀ σ, Inj 0 σ → FnTri Tryd.prog 17 (renL σ [.nilptr, .agg [.int .u8 x_k.a0, .int .u8 x_k.a1, .int .u8 x_k.a2, .int .u8 x_k.a3, .int .u8 x_k.a4, .int .u8 x_k.a5, .int .u8 x_k.a6, .int .u8 x_k.a7]]) (preOf σ 0 []) ((item_Table_Get_2_v r).ren σ) (upOf σ []) := by
  refine fn_of Tryd.func17 (by kernel_rfl) (by kernel_rfl) (by kernel_rfl) trivial (by kernel_rfl) trivial (by kernel_rfl) ?_
  intro w0 W μ0 hμ
  unfold item_Table_Get_2 at h
  obtain ⟨y2, e1, h⟩ := bind_some h
  obtain rfl := Option.some.inj h
  exact run_ret mixed (L := []) (n := 20) (s := [.reg [], .reg [(1, { call := some (item_Table_ok_2_v y2, [], []) })], .reg []])
    (a_ (a_ (a_ (a_ tr tr) (a_ (a_ tr tr) (a_ (a_ tr tr) tr))) (a_ (a_ (a_ tr tr) (a_ (a_ (a_ (item_Table_ok_2_tri  y2 e1) tr) tr) (a_ (a_ tr tr) tr))) (a_ (a_ (a_ (Eq.refl true) tr) (a_ (a_ (a_ (Eq.refl 13) (a_ (le_ 13 13 rfl) (Eq.refl 0))) tr) (a_ (a_ tr tr) tr))) tr))) (a_ (a_ tr (le_ 13 13 rfl)) tr)) (by kernel_rfl) rfl

theorem item_Table_Get_2_tri (x_k : A8 (Int)) (r : (T_api_Item)) (h : item_Table_Get_2 x_k = some r) : FnTri Tryd.prog 17 [.nilptr, .agg [.int .u8 x_k.a0, .int .u8 x_k.a1, .int .u8 x_k.a2, .int .u8 x_k.a3, .int .u8 x_k.a4, .int .u8 x_k.a5, .int .u8 x_k.a6, .int .u8 x_k.a7]] [] (item_Table_Get_2_v r) [] := FnTri.none (item_Table_Get_2_ok x_k r h) rfl rfl

/-- (*parrel/item.Table).Install -/

def item_Table_Install_2_v (r : Unit) : LV := .int .i64 2

def item_Table_Install_2 (x_k : A8 (Int)) (i : T_api_Item) : Option (Unit) :=
  (item_Table_Get_2 x_k).bind fun y2 =>
  (item_Table_ok_2).bind fun y4 =>
  some ()

theorem item_Table_Install_2_ok (x_k : A8 (Int)) (i : T_api_Item) (r : Unit) (h : item_Table_Install_2 x_k i = some r) : ∀ σ, Inj 0 σ → FnTri Tryd.prog 12 (renL σ [.nilptr, .agg [.int .u8 x_k.a0, .int .u8 x_k.a1, .int .u8 x_k.a2, .int .u8 x_k.a3, .int .u8 x_k.a4, .int .u8 x_k.a5, .int .u8 x_k.a6, .int .u8 x_k.a7], v_T_api_Item i]) (preOf σ 0 []) ((item_Table_Install_2_v r).ren σ) (upOf σ []) := by
  refine fn_of Tryd.func12 (by kernel_rfl) (by kernel_rfl) (by kernel_rfl) trivial (by kernel_rfl) trivial (by kernel_rfl) ?_
  intro w0 W μ0 hμ
  unfold item_Table_Install_2 at h
  obtain ⟨y2, e1, h⟩ := bind_some h
  obtain ⟨y4, e3, h⟩ := bind_some h
  obtain rfl := Option.some.inj h
  exact run_ret mixed (L := []) (n := 24) (s := [.reg [], .reg [(2, { call := some (item_Table_Get_2_v y2, [], []) })], .reg [(1, { call := some (item_Table_ok_2_v y4, [], []) })], .reg []])
    (a_ (a_ (a_ (a_ tr tr) (a_ (a_ tr tr) (a_ (a_ tr tr) tr))) (a_ (a_ (a_ tr tr) (a_ (a_ (a_ tr (le_ 8 8 rfl)) tr) (a_ (a_ (a_ (item_Table_Get_2_tri x_k y2 e1) tr) tr) (a_ (a_ tr tr) (a_ (a_ tr tr) (a_ (a_ tr tr) (a_ (a_ tr tr) (a_ (a_ (a_ (Eq.refl 13) (a_ (le_ 13 13 rfl) (Eq.refl 0))) tr) (a_ (a_ tr tr) tr))))))))) (a_ (a_ (a_ tr tr) (a_ (a_ (a_ (item_Table_ok_2_tri  y4 e3) tr) tr) (a_ (a_ tr tr) (a_ (a_ tr tr) tr)))) (a_ (a_ (a_ tr tr) tr) tr)))) tr) (by kernel_rfl) rfl

theorem item_Table_Install_2_tri (x_k : A8 (Int)) (i : T_api_Item) (r : Unit) (h : item_Table_Install_2 x_k i = some r) : FnTri Tryd.prog 12 [.nilptr, .agg [.int .u8 x_k.a0, .int .u8 x_k.a1, .int .u8 x_k.a2, .int .u8 x_k.a3, .int .u8 x_k.a4, .int .u8 x_k.a5, .int .u8 x_k.a6, .int .u8 x_k.a7], v_T_api_Item i] [] (item_Table_Install_2_v r) [] := FnTri.none (item_Table_Install_2_ok x_k i r h) rfl rfl

/-- (*parrel/item.Table).All -/

def item_Table_All_2_v (r : (List (T_api_Write))) : LV := .ds 21 (r).length (rowF c_T_api_Write default r)

def item_Table_All_2  : Option ((List (T_api_Write))) :=
  (item_Table_ok_2).bind fun y2 =>
  some ([] : List (T_api_Write))

theorem item_Table_All_2_ok  (r : (List (T_api_Write))) (h : item_Table_All_2  = some r) : ∀ σ, Inj 0 σ → FnTri Tryd.prog 15 (renL σ [.nilptr]) (preOf σ 0 []) ((item_Table_All_2_v r).ren σ) (upOf σ []) := by
  refine fn_of Tryd.func15 (by kernel_rfl) (by kernel_rfl) (by kernel_rfl) trivial (by kernel_rfl) trivial (by kernel_rfl) ?_
  intro w0 W μ0 hμ
  unfold item_Table_All_2 at h
  obtain ⟨y2, e1, h⟩ := bind_some h
  obtain rfl := Option.some.inj h
  exact run_ret mixed (L := []) (n := 20) (s := [.reg [(0, { v := some (.ds 21 (([] : List (T_api_Write))).length (rowF c_T_api_Write default ([] : List (T_api_Write)))) })], .reg [(1, { call := some (item_Table_ok_2_v y2, [], []) })], .reg [(0, { v := some (.ds 21 (([] : List (T_api_Write))).length (rowF c_T_api_Write default ([] : List (T_api_Write)))) })]])
    (a_ (a_ (a_ (a_ tr (a_ (le_nil_ds 21 (rowF c_T_api_Write default [])) tr)) tr) (a_ (a_ (a_ tr tr) (a_ (a_ (a_ (item_Table_ok_2_tri  y2 e1) tr) tr) (a_ (a_ tr tr) tr))) (a_ (a_ (a_ tr (a_ (le_nil_ds 21 (rowF c_T_api_Write default [])) tr)) tr) tr))) tr) (by kernel_rfl) rfl

theorem item_Table_All_2_tri  (r : (List (T_api_Write))) (h : item_Table_All_2  = some r) : FnTri Tryd.prog 15 [.nilptr] [] (item_Table_All_2_v r) [] := FnTri.none (item_Table_All_2_ok  r h) rfl rfl

/-- (*parrel/item.Table).Len -/

def item_Table_Len_2_v (r : (Int)) : LV := .int .i64 r

def item_Table_Len_2  : Option ((Int)) :=
  (item_Table_All_2).bind fun y2 =>
  some ((y2).length : Int)

theorem item_Table_Len_2_ok  (r : (Int)) (h : item_Table_Len_2  = some r) : ∀ σ, Inj 0 σ → FnTri Tryd.prog 16 (renL σ [.nilptr]) (preOf σ 0 []) ((item_Table_Len_2_v r).ren σ) (upOf σ []) := by
  refine fn_of Tryd.func16 (by kernel_rfl) (by kernel_rfl) (by kernel_rfl) trivial (by kernel_rfl) trivial (by kernel_rfl) ?_
  intro w0 W μ0 hμ
  unfold item_Table_Len_2 at h
  obtain ⟨y2, e1, h⟩ := bind_some h
  obtain rfl := Option.some.inj h
  exact run_ret mixed (L := []) (n := 15) (s := [.reg [], .reg [(1, { call := some (item_Table_All_2_v y2, [], []) })]])
    (a_ (a_ (a_ (a_ tr tr) tr) (a_ (a_ (a_ tr tr) (a_ (a_ (a_ (item_Table_All_2_tri  y2 e1) tr) tr) (a_ (a_ tr tr) (a_ (a_ tr tr) tr)))) tr)) tr) (by kernel_rfl) rfl

theorem item_Table_Len_2_tri  (r : (Int)) (h : item_Table_Len_2  = some r) : FnTri Tryd.prog 16 [.nilptr] [] (item_Table_Len_2_v r) [] := FnTri.none (item_Table_Len_2_ok  r h) rfl rfl

/-- (*parrel/item.Table).Merge -/

def item_Table_Merge_v (r : Unit) : LV := .int .i64 2

def item_Table_Merge_up (m : List (A8 (Int) × T_api_Item)) (r : Unit) : Upd := [(0, some (.var [.map 1])), (1, some (.map true [.int .u8, .int .u8, .int .u8, .int .u8, .int .u8, .int .u8, .int .u8, .int .u8] (encM (fun z_ : A8 (Int) => LV.agg [.int .u8 z_.a0, .int .u8 z_.a1, .int .u8 z_.a2, .int .u8 z_.a3, .int .u8 z_.a4, .int .u8 z_.a5, .int .u8 z_.a6, .int .u8 z_.a7]) v_T_api_Item m)))]

def item_Table_Merge_objs (m : List (A8 (Int) × T_api_Item)) : List LO := [.var [.map 1], .map true [.int .u8, .int .u8, .int .u8, .int .u8, .int .u8, .int .u8, .int .u8, .int .u8] (encM (fun z_ : A8 (Int) => LV.agg [.int .u8 z_.a0, .int .u8 z_.a1, .int .u8 z_.a2, .int .u8 z_.a3, .int .u8 z_.a4, .int .u8 z_.a5, .int .u8 z_.a6, .int .u8 z_.a7]) v_T_api_Item m)]

def item_Table_Merge (m : List (A8 (Int) × T_api_Item)) : Option (Unit) :=
  (item_Table_ok_2).bind fun y2 =>
  some ()

theorem item_Table_Merge_ok (m : List (A8 (Int) × T_api_Item)) (r : Unit) (h : item_Table_Merge m = some r) : ∀ σ, Inj 2 σ → FnTri Tryd.prog 20 (renL σ [.nilptr, .ptr 0 0 0]) (preOf σ 0 (item_Table_Merge_objs m)) ((item_Table_Merge_v r).ren σ) (upOf σ (item_Table_Merge_up m r)) := by
  refine fn_of Tryd.func20 (by kernel_rfl) (by kernel_rfl) (by kernel_rfl) ⟨rfl, trivial, trivial⟩ (by kernel_rfl) ⟨rfl, trivial, trivial⟩ (by kernel_rfl) ?_
  intro w0 W μ0 hμ
  unfold item_Table_Merge at h
  obtain ⟨y2, e1, h⟩ := bind_some h
  obtain rfl := Option.some.inj h
  exact run_ret mixed (L := []) (n := 20) (s := [.reg [], .reg [(1, { call := some (item_Table_ok_2_v y2, [], []) })], .reg []])
    (a_ (a_ (a_ (a_ tr tr) tr) (a_ (a_ (a_ tr tr) (a_ (a_ (a_ (item_Table_ok_2_tri  y2 e1) tr) tr) (a_ (a_ tr tr) tr))) (a_ (a_ (a_ tr tr) tr) tr))) tr) (by kernel_rfl) rfl

/-- (*parrel/item.Table).ok -/

def item_Table_ok_3_v (r : Unit) : LV := .bool false

def item_Table_ok_3_up  (r : Unit) : Upd := [(0, some (.var [.nilmap]))]

def item_Table_ok_3_objs  : List LO := [.var [.nilmap]]

def item_Table_ok_3  : Option (Unit) :=
  some ()

theorem item_Table_ok_3_ok  (r : Unit) (h : item_Table_ok_3  = some r) : ∀ σ, Inj 1 σ → FnTri Tryd.prog 24 (renL σ [.ptr 0 0 0]) (preOf σ 0 (item_Table_ok_3_objs )) ((item_Table_ok_3_v r).ren σ) (upOf σ (item_Table_ok_3_up  r)) := by
  refine fn_of Tryd.func24 (by kernel_rfl) (by kernel_rfl) (by kernel_rfl) ⟨rfl, trivial⟩ (by kernel_rfl) ⟨rfl, trivial⟩ (by kernel_rfl) ?_
  intro w0 W μ0 hμ
  unfold item_Table_ok_3 at h
  obtain rfl := Option.some.inj h
  exact run_ret mixed (L := []) (n := 15) (s := [.reg [], .reg []])
    (a_ (a_ (a_ (a_ tr tr) tr) (a_ (a_ (a_ tr tr) (a_ (a_ tr tr) (a_ (a_ tr tr) (a_ (a_ tr tr) (a_ (a_ tr tr) (a_ (a_ tr tr) (a_ (a_ (a_ tr (lt_ 0 1 rfl)) tr) (a_ (a_ tr tr) (a_ (a_ tr tr) (a_ (a_ tr tr) tr)))))))))) tr)) tr) (by kernel_rfl) rfl

/-- (*parrel/item.Table).Get -/

def item_Table_Get_3_v (r : (T_api_Item)) : LV := .tup [v_T_api_Item r, .bool false]

def item_Table_Get_3_up (x_k : A8 (Int)) (r : (T_api_Item)) : Upd := [(0, some (.var [.nilmap]))]

def item_Table_Get_3_objs (x_k : A8 (Int)) : List LO := [.var [.nilmap]]

def item_Table_Get_3 (x_k : A8 (Int)) : Option ((T_api_Item)) :=
  (item_Table_ok_3).bind fun y2 =>
  some (T_api_Item.mk 0 [] (T_api_Config.mk 0 0 0 (A8.mk 0 0 0 0 0 0 0 0)))

theorem item_Table_Get_3_ok (x_k : A8 (Int)) (r : (T_api_Item)) (h : item_Table_Get_3 x_k = some r) : ∀ σ, Inj 1 σ → FnTri Tryd.prog 17 (renL σ [.ptr 0 0 0, .agg [.int .u8 x_k.a0, .int .u8 x_k.a1, .int .u8 x_k.a2, .int .u8 x_k.a3, .int .u8 x_k.a4, .int .u8 x_k.a5, .int .u8 x_k.a6, .int .u8 x_k.a7]]) (preOf σ 0 (item_Table_Get_3_objs x_k)) ((item_Table_Get_3_v r).ren σ) (upOf σ (item_Table_Get_3_up x_k r)) := by
  refine fn_of Tryd.func17 (by kernel_rfl) (by kernel_rfl) (by kernel_rfl) ⟨rfl, trivial⟩ (by kernel_rfl) ⟨rfl, trivial⟩ (by kernel_rfl) ?_
  intro w0 W μ0 hμ
  unfold item_Table_Get_3 at h
  obtain ⟨y2, e1, h⟩ := bind_some h
  obtain rfl := Option.some.inj h
  exact run_ret mixed (L := []) (n := 20) (s := [.reg [], .reg [(1, { call := some ((item_Table_ok_3_v y2).ren (sel [0]), preOf (sel [0]) 0 (item_Table_ok_3_objs ), upOf (sel [0]) (item_Table_ok_3_up  y2)) })], .reg []])
    (a_ (a_ (a_ (a_ tr tr) (a_ (a_ tr tr) (a_ (a_ tr tr) tr))) (a_ (a_ (a_ tr tr) (a_ (a_ (a_ (item_Table_ok_3_ok  y2 e1 (sel [0]) (sel_inj rfl rfl)) (a_ (LO.Le.refl (.var [.nilmap])) tr)) tr) (a_ (a_ tr tr) tr))) (a_ (a_ (a_ (Eq.refl true) tr) (a_ (a_ (a_ (Eq.refl 13) (a_ (le_ 13 13 rfl) (Eq.refl 0))) tr) (a_ (a_ tr tr) tr))) tr))) (a_ (a_ tr (le_ 13 13 rfl)) tr)) (by kernel_rfl) rfl

/-- (*parrel/item.Table).Install -/

def item_Table_Install_3_v (r : Unit) : LV := .int .i64 2

def item_Table_Install_3_up (x_k : A8 (Int)) (i : T_api_Item) (r : Unit) : Upd := [(0, some (.var [.nilmap]))]

def item_Table_Install_3_objs (x_k : A8 (Int)) (i : T_api_Item) : List LO := [.var [.nilmap]]

def item_Table_Install_3 (x_k : A8 (Int)) (i : T_api_Item) : Option (Unit) :=
  (item_Table_Get_3 x_k).bind fun y2 =>
  (item_Table_ok_3).bind fun y4 =>
  some ()

theorem item_Table_Install_3_ok (x_k : A8 (Int)) (i : T_api_Item) (r : Unit) (h : item_Table_Install_3 x_k i = some r) : ∀ σ, Inj 1 σ → FnTri Tryd.prog 12 (renL σ [.ptr 0 0 0, .agg [.int .u8 x_k.a0, .int .u8 x_k.a1, .int .u8 x_k.a2, .int .u8 x_k.a3, .int .u8 x_k.a4, .int .u8 x_k.a5, .int .u8 x_k.a6, .int .u8 x_k.a7], v_T_api_Item i]) (preOf σ 0 (item_Table_Install_3_objs x_k i)) ((item_Table_Install_3_v r).ren σ) (upOf σ (item_Table_Install_3_up x_k i r)) := by
  refine fn_of Tryd.func12 (by kernel_rfl) (by kernel_rfl) (by kernel_rfl) ⟨rfl, trivial⟩ (by kernel_rfl) ⟨rfl, trivial⟩ (by kernel_rfl) ?_
  intro w0 W μ0 hμ
  unfold item_Table_Install_3 at h
  obtain ⟨y2, e1, h⟩ := bind_some h
  obtain ⟨y4, e3, h⟩ := bind_some h
  obtain rfl := Option.some.inj h
  exact run_ret mixed (L := []) (n := 24) (s := [.reg [], .reg [(2, { call := some ((item_Table_Get_3_v y2).ren (sel [0]), preOf (sel [0]) 0 (item_Table_Get_3_objs x_k), upOf (sel [0]) (item_Table_Get_3_up x_k y2)) })], .reg [(1, { call := some ((item_Table_ok_3_v y4).ren (sel [0]), preOf (sel [0]) 0 (item_Table_ok_3_objs ), upOf (sel [0]) (item_Table_ok_3_up  y4)) })], .reg []])
    (a_ (a_ (a_ (a_ tr tr) (a_ (a_ tr tr) (a_ (a_ tr tr) tr))) (a_ (a_ (a_ tr tr) (a_ (a_ (a_ tr (le_ 8 8 rfl)) tr) (a_ (a_ (a_ (item_Table_Get_3_ok x_k y2 e1 (sel [0]) (sel_inj rfl rfl)) (a_ (LO.Le.refl (.var [.nilmap])) tr)) tr) (a_ (a_ tr tr) (a_ (a_ tr tr) (a_ (a_ tr tr) (a_ (a_ tr tr) (a_ (a_ (a_ (Eq.refl 13) (a_ (le_ 13 13 rfl) (Eq.refl 0))) tr) (a_ (a_ tr tr) tr))))))))) (a_ (a_ (a_ tr tr) (a_ (a_ (a_ (item_Table_ok_3_ok  y4 e3 (sel [0]) (sel_inj rfl rfl)) (a_ (LO.Le.refl (.var [.nilmap])) tr)) tr) (a_ (a_ tr tr) (a_ (a_ tr tr) tr)))) (a_ (a_ (a_ tr tr) tr) tr)))) tr) (by kernel_rfl) rfl

/-- (*parrel/item.Table).All -/

def item_Table_All_3_v (r : (List (T_api_Write))) : LV := .ds 21 (r).length (rowF c_T_api_Write default r)

def item_Table_All_3_up  (r : (List (T_api_Write))) : Upd := [(0, some (.var [.nilmap]))]

def item_Table_All_3_objs  : List LO := [.var [.nilmap]]

def item_Table_All_3  : Option ((List (T_api_Write))) :=
  (item_Table_ok_3).bind fun y2 =>
  some ([] : List (T_api_Write))

theorem item_Table_All_3_ok  (r : (List (T_api_Write))) (h : item_Table_All_3  = some r) : ∀ σ, Inj 1 σ → FnTri Tryd.prog 15 (renL σ [.ptr 0 0 0]) (preOf σ 0 (item_Table_All_3_objs )) ((item_Table_All_3_v r).ren σ) (upOf σ (item_Table_All_3_up  r)) := by
  refine fn_of Tryd.func15 (by kernel_rfl) (by kernel_rfl) (by kernel_rfl) ⟨rfl, trivial⟩ (by kernel_rfl) ⟨rfl, trivial⟩ (by kernel_rfl) ?_
  intro w0 W μ0 hμ
  unfold item_Table_All_3 at h
  obtain ⟨y2, e1, h⟩ := bind_some h
  obtain rfl := Option.some.inj h
  exact run_ret mixed (L := []) (n := 20) (s := [.reg [(0, { v := some (.ds 21 (([] : List (T_api_Write))).length (rowF c_T_api_Write default ([] : List (T_api_Write)))) })], .reg [(1, { call := some ((item_Table_ok_3_v y2).ren (sel [0]), preOf (sel [0]) 0 (item_Table_ok_3_objs ), upOf (sel [0]) (item_Table_ok_3_up  y2)) })], .reg [(0, { v := some (.ds 21 (([] : List (T_api_Write))).length (rowF c_T_api_Write default ([] : List (T_api_Write)))) })]])
    (a_ (a_ (a_ (a_ tr (a_ (le_nil_ds 21 (rowF c_T_api_Write default [])) tr)) tr) (a_ (a_ (a_ tr tr) (a_ (a_ (a_ (item_Table_ok_3_ok  y2 e1 (sel [0]) (sel_inj rfl rfl)) (a_ (LO.Le.refl (.var [.nilmap])) tr)) tr) (a_ (a_ tr tr) tr))) (a_ (a_ (a_ tr (a_ (le_nil_ds 21 (rowF c_T_api_Write default [])) tr)) tr) tr))) tr) (by kernel_rfl) rfl

/-- (*parrel/item.Table).Len -/

def item_Table_Len_3_v (r : (Int)) : LV := .int .i64 r

def item_Table_Len_3_up  (r : (Int)) : Upd := [(0, some (.var [.nilmap]))]

def item_Table_Len_3_objs  : List LO := [.var [.nilmap]]

def item_Table_Len_3  : Option ((Int)) :=
  (item_Table_All_3).bind fun y2 =>
  some ((y2).length : Int)

theorem item_Table_Len_3_ok  (r : (Int)) (h : item_Table_Len_3  = some r) : ∀ σ, Inj 1 σ → FnTri Tryd.prog 16 (renL σ [.ptr 0 0 0]) (preOf σ 0 (item_Table_Len_3_objs )) ((item_Table_Len_3_v r).ren σ) (upOf σ (item_Table_Len_3_up  r)) := by
  refine fn_of Tryd.func16 (by kernel_rfl) (by kernel_rfl) (by kernel_rfl) ⟨rfl, trivial⟩ (by kernel_rfl) ⟨rfl, trivial⟩ (by kernel_rfl) ?_
  intro w0 W μ0 hμ
  unfold item_Table_Len_3 at h
  obtain ⟨y2, e1, h⟩ := bind_some h
  obtain rfl := Option.some.inj h
  exact run_ret mixed (L := []) (n := 15) (s := [.reg [], .reg [(1, { call := some ((item_Table_All_3_v y2).ren (sel [0]), preOf (sel [0]) 0 (item_Table_All_3_objs ), upOf (sel [0]) (item_Table_All_3_up  y2)) })]])
    (a_ (a_ (a_ (a_ tr tr) tr) (a_ (a_ (a_ tr tr) (a_ (a_ (a_ (item_Table_All_3_ok  y2 e1 (sel [0]) (sel_inj rfl rfl)) (a_ (LO.Le.refl (.var [.nilmap])) tr)) tr) (a_ (a_ tr tr) (a_ (a_ tr tr) tr)))) tr)) tr) (by kernel_rfl) rfl

/-- (*parrel/item.Table).Merge -/

def item_Table_Merge_2_v (r : Unit) : LV := .int .i64 2

def item_Table_Merge_2_up (m : List (A8 (Int) × T_api_Item)) (r : Unit) : Upd := [(0, some (.var [.nilmap])), (1, some (.var [.map 2])), (2, some (.map true [.int .u8, .int .u8, .int .u8, .int .u8, .int .u8, .int .u8, .int .u8, .int .u8] (encM (fun z_ : A8 (Int) => LV.agg [.int .u8 z_.a0, .int .u8 z_.a1, .int .u8 z_.a2, .int .u8 z_.a3, .int .u8 z_.a4, .int .u8 z_.a5, .int .u8 z_.a6, .int .u8 z_.a7]) v_T_api_Item m)))]

def item_Table_Merge_2_objs (m : List (A8 (Int) × T_api_Item)) : List LO := [.var [.nilmap], .var [.map 2], .map true [.int .u8, .int .u8, .int .u8, .int .u8, .int .u8, .int .u8, .int .u8, .int .u8] (encM (fun z_ : A8 (Int) => LV.agg [.int .u8 z_.a0, .int .u8 z_.a1, .int .u8 z_.a2, .int .u8 z_.a3, .int .u8 z_.a4, .int .u8 z_.a5, .int .u8 z_.a6, .int .u8 z_.a7]) v_T_api_Item m)]

def item_Table_Merge_2 (m : List (A8 (Int) × T_api_Item)) : Option (Unit) :=
  (item_Table_ok_3).bind fun y2 =>
  some ()

theorem item_Table_Merge_2_ok (m : List (A8 (Int) × T_api_Item)) (r : Unit) (h : item_Table_Merge_2 m = some r) : ∀ σ, Inj 3 σ → FnTri Tryd.prog 20 (renL σ [.ptr 0 0 0, .ptr 1 0 0]) (preOf σ 0 (item_Table_Merge_2_objs m)) ((item_Table_Merge_2_v r).ren σ) (upOf σ (item_Table_Merge_2_up m r)) := by
  refine fn_of Tryd.func20 (by kernel_rfl) (by kernel_rfl) (by kernel_rfl) ⟨rfl, rfl, trivial, trivial⟩ (by kernel_rfl) ⟨rfl, rfl, trivial, trivial⟩ (by kernel_rfl) ?_
  intro w0 W μ0 hμ
  unfold item_Table_Merge_2 at h
  obtain ⟨y2, e1, h⟩ := bind_some h
  obtain rfl := Option.some.inj h
  exact run_ret mixed (L := []) (n := 20) (s := [.reg [], .reg [(1, { call := some ((item_Table_ok_3_v y2).ren (sel [0]), preOf (sel [0]) 0 (item_Table_ok_3_objs ), upOf (sel [0]) (item_Table_ok_3_up  y2)) })], .reg []])
    (a_ (a_ (a_ (a_ tr tr) tr) (a_ (a_ (a_ tr tr) (a_ (a_ (a_ (item_Table_ok_3_ok  y2 e1 (sel [0]) (sel_inj rfl rfl)) (a_ (LO.Le.refl (.var [.nilmap])) tr)) tr) (a_ (a_ tr tr) tr))) (a_ (a_ (a_ tr tr) tr) tr))) tr) (by kernel_rfl) rfl

end
end Go.Proofs.YtdmdjklgdaiimaaDoor.Wk
