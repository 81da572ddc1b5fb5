/- Printed by tr.py: Go functions as Lean functions, with the proofs that they walk so. -/
import Derived.Test.YtofkaccoofafmaaHistWb
namespace Go.Proofs.Ytofkaccoofafmaa.Wk
open Go Go.Cn
set_option maxRecDepth 100000
set_option maxHeartbeats 4000000
set_option linter.unusedVariables false
set_option linter.unusedSimpArgs false
/-- parrel/parrellaw26.HistSound -/

def parrellaw26_HistSound_v (r : (Bool)) : LV := .bool r

def parrellaw26_HistSound_T1 (l : List (T_parrelref26_Tx)) (t30 : Int) (y5 : (List (T_hist_Tx))) (y7 : (List (Int)) × (Int)) (t47 : Int) : List LV := [.ds 4 (l).length (rowF c_T_parrelref26_Tx default l), .any, .any, .ds 4 (y5).length (rowF c_T_hist_Tx default y5), .ds 1 (y7.1).length (rowF (cInt .i64) default y7.1), .any, .any, .int .i64 (y7.1.getD t30.toNat default), .any, .any, .any, .any, .any, .any, .any, .any, .any, .any, .any, .any, .any, .any, .any, .any, .any, .any, .any, .any, .ds 1 (y7.1).length (rowF (cInt .i64) default y7.1), .int .i64 ((y7.1).length : Int), .int .i64 t30, .any, .any, .any, .any, .any, .any, .any, .any, .any, .any, .any, .any, .any, .any, .ds 1 ((y7.1.take t30.toNat)).length (rowF (cInt .i64) default (y7.1.take t30.toNat)), .int .i64 (((y7.1.take t30.toNat)).length : Int), .int .i64 t47, .any, .any, .any, .any, .any, .any, .any, .any, .any, .any, .any, .any, .any, .any, .any, .any, .any, .any, .any, .any, .any, .any, .any, .any, .any, .any, .any, .any, .any, .any, .any, .any, .any, .any, .any, .any, .any, .any, .any, .any, .any, .any, .any]

def parrellaw26_HistSound_H1 (l : List (T_parrelref26_Tx)) (t30 : Int) (y5 : (List (T_hist_Tx))) (y7 : (List (Int)) × (Int)) (t47 : Int) : Heap := []

def parrellaw26_HistSound_T0 (l : List (T_parrelref26_Tx)) (y5 : (List (T_hist_Tx))) (y7 : (List (Int)) × (Int)) (t30 : Int) : List LV := [.ds 4 (l).length (rowF c_T_parrelref26_Tx default l), .any, .any, .ds 4 (y5).length (rowF c_T_hist_Tx default y5), .ds 1 (y7.1).length (rowF (cInt .i64) default y7.1), .any, .any, .any, .any, .any, .any, .any, .any, .any, .any, .any, .any, .any, .any, .any, .any, .any, .any, .any, .any, .any, .any, .any, .ds 1 (y7.1).length (rowF (cInt .i64) default y7.1), .int .i64 ((y7.1).length : Int), .int .i64 t30, .any, .any, .any, .any, .any, .any, .any, .any, .any, .any, .any, .any, .any, .any, .any, .any, .any, .any, .any, .any, .any, .any, .any, .any, .any, .any, .any, .any, .any, .any, .any, .any, .any, .any, .any, .any, .any, .any, .any, .any, .any, .any, .any, .any, .any, .any, .any, .any, .any, .any, .any, .any, .any, .any, .any, .any, .any, .any, .any, .any]

def parrellaw26_HistSound_H0 (l : List (T_parrelref26_Tx)) (y5 : (List (T_hist_Tx))) (y7 : (List (Int)) × (Int)) (t30 : Int) : Heap := []

def parrellaw26_HistSound_l1 (l : List (T_parrelref26_Tx)) (t30 : Int) (y5 : (List (T_hist_Tx))) (y7 : (List (Int)) × (Int)) (k0 : (Int) → Option ((Bool))) : Nat → (Int) → Option ((Bool))
  | 0, _ => none
  | fuel + 1, t47 =>
    if ((decide (t47 < (((y7.1.take t30.toNat)).length : Int))) : Bool) then
      if 0 ≤ t47 ∧ t47 < ((((y7.1.take t30.toNat)).length : Nat) : Int) then
      if 0 ≤ (y7.1.getD t30.toNat default) ∧ (y7.1.getD t30.toNat default) < (((l).length : Nat) : Int) then
      if (((l.getD ((y7.1.getD t30.toNat default)).toNat default).f_End != 0) : Bool) then
        if 0 ≤ ((y7.1.take t30.toNat).getD t47.toNat default) ∧ ((y7.1.take t30.toNat).getD t47.toNat default) < (((l).length : Nat) : Int) then
        if ((decide ((l.getD ((y7.1.getD t30.toNat default)).toNat default).f_End < (l.getD (((y7.1.take t30.toNat).getD t47.toNat default)).toNat default).f_Begin)) : Bool) then
          some false
        else
          parrellaw26_HistSound_l1 l t30 y5 y7 k0 fuel (IntKind.wrap .i64 (t47 + 1))
        else none
      else
        parrellaw26_HistSound_l1 l t30 y5 y7 k0 fuel (IntKind.wrap .i64 (t47 + 1))
      else none
      else none
    else
      k0 (IntKind.wrap .i64 (t30 + 1))

def parrellaw26_HistSound_l0 (l : List (T_parrelref26_Tx)) (y5 : (List (T_hist_Tx))) (y7 : (List (Int)) × (Int))  : Nat → (Int) → Option ((Bool))
  | 0, _ => none
  | fuel + 1, t30 =>
    if ((decide (t30 < ((y7.1).length : Int))) : Bool) then
      if 0 ≤ t30 ∧ t30 < (((y7.1).length : Nat) : Int) then
      if ((decide ((y7.1.getD t30.toNat default) < 0)) : Bool) then
        some false
      else
        if ((decide (((l).length : Int) ≤ (y7.1.getD t30.toNat default))) : Bool) then
          some false
        else
          if 0 ≤ (0 : Int) ∧ 0 ≤ t30 ∧ t30 ≤ (((y7.1).length : Nat) : Int) then
          parrellaw26_HistSound_l1 l t30 y5 y7 (parrellaw26_HistSound_l0 l y5 y7  fuel) big 0
          else none
      else none
    else
      if ((((y7.1).length : Int) == ((l).length : Int)) : Bool) then
        (hist_Play y5 y7.1).bind fun yL0_4 =>
        if (yL0_4 : Bool) then
          (hist_Circle y5).bind fun yL0_7 =>
          if ((((yL0_7).length : Int) == 0) : Bool) then
            (parrellaw26_alive).bind fun yL0_10 =>
            some yL0_10
          else
            some false
        else
          some false
      else
        some false

def parrellaw26_HistSound (l : List (T_parrelref26_Tx)) : Option ((Bool)) :=
  (parrellaw26_far l).bind fun y2 =>
  if (y2 : Bool) then
    (parrellaw26_alive).bind fun y5 =>
    some y5
  else
    (parrellaw26_theirs l).bind fun y5 =>
    (hist_Order y5).bind fun y7 =>
    if ((y7.2 != 0) : Bool) then
      if ((((y7.1).length : Int) == 0) : Bool) then
        (parrellaw26_alive).bind fun y11 =>
        some y11
      else
        some false
    else
      parrellaw26_HistSound_l0 l y5 y7  big 0

theorem parrellaw26_HistSound_l1_ok {w0 : World} {W : Nat → Prop} {μ0 : Emb} (hμ : ∀ c p, μ0 c = some p → c < 0) (l : List (T_parrelref26_Tx)) (t30 : Int) (y5 : (List (T_hist_Tx))) (y7 : (List (Int)) × (Int)) (k0 : (Int) → Option ((Bool))) (hk0 : ∀ (t30 : Int) (r : (Bool)), k0 t30 = some r → kont Try.prog w0 W μ0 (FnPost Try.prog Try.f5 0 0 (parrellaw26_HistSound_v r) []) (kAt (bodyOf Try.f5) 0) none (parrellaw26_HistSound_T0 l y5 y7 t30) (parrellaw26_HistSound_H0 l y5 y7 t30)) : ∀ (fuel : Nat) (t47 : Int) (r : (Bool)), parrellaw26_HistSound_l1 l t30 y5 y7 k0 fuel t47 = some r → kont Try.prog w0 W μ0 (FnPost Try.prog Try.f5 0 0 (parrellaw26_HistSound_v r) []) (kAt (bodyOf Try.f5) 1) none (parrellaw26_HistSound_T1 l t30 y5 y7 t47) (parrellaw26_HistSound_H1 l t30 y5 y7 t47) := by
  intro fuel
  induction fuel with
  | zero => intro t47 r h; rw [parrellaw26_HistSound_l1] at h; cases h
  | succ fuel ih =>
    intro t47 r h
    rw [parrellaw26_HistSound_l1] at h
    rcases itb_some h with ⟨cL1_1, h⟩ | ⟨cL1_1, h⟩
    · skip
      obtain ⟨gL1_2, h⟩ := guard_some h
      obtain ⟨gL1_3, h⟩ := guard_some h
      rcases itb_some h with ⟨cL1_4, h⟩ | ⟨cL1_4, h⟩
      · skip
        obtain ⟨gL1_5, h⟩ := guard_some h
        rcases itb_some h with ⟨cL1_6, h⟩ | ⟨cL1_6, h⟩
        · skip
          obtain rfl := Option.some.inj h
          exact run_ret mixed (L := []) (n := 28) (s := [.go, .reg [(0, { v := some (.bool true) })], .reg [], .reg [(6, { v := some (.bool true) }), (18, { v := some (.bool true) })], .reg []])
            (a_ (a_ (a_ (a_ tr (a_ (leB cL1_1) tr)) tr) (a_ (a_ (a_ (a_ (Eq.refl 1) gL1_2) tr) (a_ (a_ (lt_ 0 1 rfl) tr) (a_ (a_ tr tr) tr))) (a_ (a_ (a_ tr tr) (a_ (a_ tr tr) (a_ (a_ (a_ (Eq.refl 4) gL1_3) tr) (a_ (a_ tr tr) (a_ (a_ (lt_ 0 1 rfl) tr) (a_ (a_ tr tr) (a_ (a_ tr (a_ (leB cL1_4) tr)) (a_ (a_ tr tr) (a_ (a_ tr tr) (a_ (a_ (a_ (Eq.refl 4) gL1_3) tr) (a_ (a_ tr tr) (a_ (a_ (lt_ 0 1 rfl) tr) (a_ (a_ tr tr) (a_ (a_ tr tr) (a_ (a_ (a_ (Eq.refl 4) gL1_5) tr) (a_ (a_ tr tr) (a_ (a_ (lt_ 0 2 rfl) tr) (a_ (a_ tr tr) (a_ (a_ tr (a_ (leB cL1_6) tr)) tr))))))))))))))))))) (a_ (a_ (a_ tr tr) tr) tr)))) tr) (by kernel_rfl) rfl
        · skip
          exact run_to mixed hμ (L := []) (n := 29) (s := [.go, .reg [(0, { v := some (.bool true) })], .reg [], .reg [(6, { v := some (.bool true) }), (18, { v := some (.bool false) })], .reg []])
            (a_ (a_ (a_ tr (a_ (leB cL1_1) tr)) tr) (a_ (a_ (a_ (a_ (Eq.refl 1) gL1_2) tr) (a_ (a_ (lt_ 0 1 rfl) tr) (a_ (a_ tr tr) tr))) (a_ (a_ (a_ tr tr) (a_ (a_ tr tr) (a_ (a_ (a_ (Eq.refl 4) gL1_3) tr) (a_ (a_ tr tr) (a_ (a_ (lt_ 0 1 rfl) tr) (a_ (a_ tr tr) (a_ (a_ tr (a_ (leB cL1_4) tr)) (a_ (a_ tr tr) (a_ (a_ tr tr) (a_ (a_ (a_ (Eq.refl 4) gL1_3) tr) (a_ (a_ tr tr) (a_ (a_ (lt_ 0 1 rfl) tr) (a_ (a_ tr tr) (a_ (a_ tr tr) (a_ (a_ (a_ (Eq.refl 4) gL1_5) tr) (a_ (a_ tr tr) (a_ (a_ (lt_ 0 2 rfl) tr) (a_ (a_ tr tr) (a_ (a_ tr (a_ (leB cL1_6) tr)) tr))))))))))))))))))) (a_ (a_ (a_ tr tr) (a_ (a_ tr tr) tr)) tr)))) (ih _ r h) (by kernel_rfl) trivial
      · skip
        exact run_to mixed hμ (L := []) (n := 29) (s := [.go, .reg [(0, { v := some (.bool true) })], .reg [], .reg [(6, { v := some (.bool false) })], .reg []])
          (a_ (a_ (a_ tr (a_ (leB cL1_1) tr)) tr) (a_ (a_ (a_ (a_ (Eq.refl 1) gL1_2) tr) (a_ (a_ (lt_ 0 1 rfl) tr) (a_ (a_ tr tr) tr))) (a_ (a_ (a_ tr tr) (a_ (a_ tr tr) (a_ (a_ (a_ (Eq.refl 4) gL1_3) tr) (a_ (a_ tr tr) (a_ (a_ (lt_ 0 1 rfl) tr) (a_ (a_ tr tr) (a_ (a_ tr (a_ (leB cL1_4) tr)) (a_ tr (a_ tr (a_ tr (a_ tr (a_ tr (a_ tr (a_ tr (a_ tr (a_ tr (a_ tr (a_ tr (a_ (a_ tr tr) tr))))))))))))))))))) (a_ (a_ (a_ tr tr) (a_ (a_ tr tr) tr)) tr)))) (ih _ r h) (by kernel_rfl) trivial
    · skip
      exact run_to mixed hμ (L := []) (n := 19) (s := [.go, .reg [(0, { v := some (.bool false) })], .reg []])
        (a_ (a_ (a_ tr (a_ (leB cL1_1) tr)) tr) (a_ (a_ (a_ tr tr) (a_ (a_ tr tr) tr)) tr)) (hk0 _ r h) (by kernel_rfl) trivial

theorem parrellaw26_HistSound_l0_ok {w0 : World} {W : Nat → Prop} {μ0 : Emb} (hμ : ∀ c p, μ0 c = some p → c < 0) (l : List (T_parrelref26_Tx)) (y5 : (List (T_hist_Tx))) (y7 : (List (Int)) × (Int))  : ∀ (fuel : Nat) (t30 : Int) (r : (Bool)), parrellaw26_HistSound_l0 l y5 y7  fuel t30 = some r → kont Try.prog w0 W μ0 (FnPost Try.prog Try.f5 0 0 (parrellaw26_HistSound_v r) []) (kAt (bodyOf Try.f5) 0) none (parrellaw26_HistSound_T0 l y5 y7 t30) (parrellaw26_HistSound_H0 l y5 y7 t30) := by
  intro fuel
  induction fuel with
  | zero => intro t30 r h; rw [parrellaw26_HistSound_l0] at h; cases h
  | succ fuel ih =>
    intro t30 r h
    rw [parrellaw26_HistSound_l0] at h
    rcases itb_some h with ⟨cL0_1, h⟩ | ⟨cL0_1, h⟩
    · skip
      obtain ⟨gL0_2, h⟩ := guard_some h
      rcases itb_some h with ⟨cL0_3, h⟩ | ⟨cL0_3, h⟩
      · skip
        obtain rfl := Option.some.inj h
        exact run_ret mixed (L := []) (n := 29) (s := [.go, .reg [(0, { v := some (.bool true) })], .reg [], .reg [(2, { v := some (.bool true) })], .reg []])
          (a_ (a_ (a_ (a_ tr (a_ (leB cL0_1) tr)) tr) (a_ (a_ (a_ tr tr) (a_ (a_ (a_ (Eq.refl 1) gL0_2) tr) (a_ (a_ (lt_ 0 1 rfl) tr) (a_ (a_ tr tr) (a_ (a_ tr tr) tr))))) (a_ (a_ (a_ tr tr) (a_ (a_ tr tr) (a_ (a_ tr (a_ (leB cL0_3) tr)) (a_ tr (a_ tr (a_ tr (a_ tr (a_ (a_ tr tr) tr)))))))) (a_ (a_ (a_ tr tr) tr) tr)))) tr) (by kernel_rfl) rfl
      · skip
        rcases itb_some h with ⟨cL0_4, h⟩ | ⟨cL0_4, h⟩
        · skip
          obtain rfl := Option.some.inj h
          exact run_ret mixed (L := []) (n := 29) (s := [.go, .reg [(0, { v := some (.bool true) })], .reg [], .reg [(2, { v := some (.bool false) }), (7, { v := some (.bool true) })], .reg []])
            (a_ (a_ (a_ (a_ tr (a_ (leB cL0_1) tr)) tr) (a_ (a_ (a_ tr tr) (a_ (a_ (a_ (Eq.refl 1) gL0_2) tr) (a_ (a_ (lt_ 0 1 rfl) tr) (a_ (a_ tr tr) (a_ (a_ tr tr) tr))))) (a_ (a_ (a_ tr tr) (a_ (a_ tr tr) (a_ (a_ tr (a_ (leB cL0_3) tr)) (a_ (a_ tr tr) (a_ (a_ tr tr) (a_ (a_ tr tr) (a_ (a_ tr tr) (a_ (a_ tr (a_ (leB cL0_4) tr)) tr)))))))) (a_ (a_ (a_ tr tr) tr) tr)))) tr) (by kernel_rfl) rfl
        · skip
          obtain ⟨gL0_5, h⟩ := guard_some h
          exact run_to mixed hμ (L := []) (n := 32) (s := [.go, .reg [(0, { v := some (.bool true) })], .reg [], .reg [(2, { v := some (.bool false) }), (7, { v := some (.bool false) })], .reg [(2, { v := some (.ds 1 ((y7.1.take t30.toNat)).length (rowF (cInt .i64) default (y7.1.take t30.toNat))) })]])
            (a_ (a_ (a_ tr (a_ (leB cL0_1) tr)) tr) (a_ (a_ (a_ tr tr) (a_ (a_ (a_ (Eq.refl 1) gL0_2) tr) (a_ (a_ (lt_ 0 1 rfl) tr) (a_ (a_ tr tr) (a_ (a_ tr tr) tr))))) (a_ (a_ (a_ tr tr) (a_ (a_ tr tr) (a_ (a_ tr (a_ (leB cL0_3) tr)) (a_ (a_ tr tr) (a_ (a_ tr tr) (a_ (a_ tr tr) (a_ (a_ tr tr) (a_ (a_ tr (a_ (leB cL0_4) tr)) tr)))))))) (a_ (a_ (a_ tr tr) (a_ (a_ tr tr) (a_ (a_ (a_ (Eq.refl 1) gL0_5) (a_ (le_take (cInt .i64) default 1 y7.1 t30.toNat (toN_le gL0_5.2.2)) tr)) (a_ (a_ tr tr) (a_ (a_ tr tr) tr))))) tr)))) (parrellaw26_HistSound_l1_ok hμ l t30 y5 y7 (parrellaw26_HistSound_l0 l y5 y7  fuel) (fun t30 r h => ih t30 r h) big _ r h) (by kernel_rfl) trivial
    · skip
      rcases itb_some h with ⟨cL0_2, h⟩ | ⟨cL0_2, h⟩
      · skip
        obtain ⟨yL0_4, eL0_3, h⟩ := bind_some h
        rcases itb_some h with ⟨cL0_5, h⟩ | ⟨cL0_5, h⟩
        · skip
          obtain ⟨yL0_7, eL0_6, h⟩ := bind_some h
          rcases itb_some h with ⟨cL0_8, h⟩ | ⟨cL0_8, h⟩
          · skip
            obtain ⟨yL0_10, eL0_9, h⟩ := bind_some h
            obtain rfl := Option.some.inj h
            exact run_ret mixed (L := []) (n := 19) (s := [.go, .reg [(0, { v := some (.bool false) })], .reg [(5, { v := some (.bool true) }), (8, { call := some (hist_Play_v yL0_4, [], []) }), (10, { v := some (.bool true) }), (12, { call := some (hist_Circle_v yL0_7, [], []) }), (16, { v := some (.bool true) }), (17, { call := some (parrellaw26_alive_v yL0_10, [], []) })]])
              (a_ (a_ (a_ (a_ tr (a_ (leB cL0_1) tr)) tr) (a_ (a_ (a_ tr tr) (a_ (a_ tr tr) (a_ (a_ tr tr) (a_ (a_ tr tr) (a_ (a_ tr tr) (a_ (a_ tr (a_ (leB cL0_2) tr)) (a_ (a_ tr tr) (a_ (a_ tr tr) (a_ (a_ (a_ (hist_Play_tri y5 y7.1 yL0_4 eL0_3) tr) tr) (a_ (a_ tr tr) (a_ (a_ tr (a_ (leB cL0_5) tr)) (a_ (a_ tr tr) (a_ (a_ (a_ (hist_Circle_tri y5 yL0_7 eL0_6) tr) tr) (a_ (a_ tr tr) (a_ (a_ tr tr) (a_ (a_ tr tr) (a_ (a_ tr (a_ (leB cL0_8) tr)) (a_ (a_ (a_ (parrellaw26_alive_tri  yL0_10 eL0_9) tr) tr) (a_ (a_ tr tr) (a_ (a_ tr tr) tr)))))))))))))))))))) tr)) tr) (by kernel_rfl) rfl
          · skip
            obtain rfl := Option.some.inj h
            exact run_ret mixed (L := []) (n := 19) (s := [.go, .reg [(0, { v := some (.bool false) })], .reg [(5, { v := some (.bool true) }), (8, { call := some (hist_Play_v yL0_4, [], []) }), (10, { v := some (.bool true) }), (12, { call := some (hist_Circle_v yL0_7, [], []) }), (16, { v := some (.bool false) })]])
              (a_ (a_ (a_ (a_ tr (a_ (leB cL0_1) tr)) tr) (a_ (a_ (a_ tr tr) (a_ (a_ tr tr) (a_ (a_ tr tr) (a_ (a_ tr tr) (a_ (a_ tr tr) (a_ (a_ tr (a_ (leB cL0_2) tr)) (a_ (a_ tr tr) (a_ (a_ tr tr) (a_ (a_ (a_ (hist_Play_tri y5 y7.1 yL0_4 eL0_3) tr) tr) (a_ (a_ tr tr) (a_ (a_ tr (a_ (leB cL0_5) tr)) (a_ (a_ tr tr) (a_ (a_ (a_ (hist_Circle_tri y5 yL0_7 eL0_6) tr) tr) (a_ (a_ tr tr) (a_ (a_ tr tr) (a_ (a_ tr tr) (a_ (a_ tr (a_ (leB cL0_8) tr)) (a_ tr (a_ (a_ tr tr) (a_ (a_ tr tr) tr)))))))))))))))))))) tr)) tr) (by kernel_rfl) rfl
        · skip
          obtain rfl := Option.some.inj h
          exact run_ret mixed (L := []) (n := 19) (s := [.go, .reg [(0, { v := some (.bool false) })], .reg [(5, { v := some (.bool true) }), (8, { call := some (hist_Play_v yL0_4, [], []) }), (10, { v := some (.bool false) })]])
            (a_ (a_ (a_ (a_ tr (a_ (leB cL0_1) tr)) tr) (a_ (a_ (a_ tr tr) (a_ (a_ tr tr) (a_ (a_ tr tr) (a_ (a_ tr tr) (a_ (a_ tr tr) (a_ (a_ tr (a_ (leB cL0_2) tr)) (a_ (a_ tr tr) (a_ (a_ tr tr) (a_ (a_ (a_ (hist_Play_tri y5 y7.1 yL0_4 eL0_3) tr) tr) (a_ (a_ tr tr) (a_ (a_ tr (a_ (leB cL0_5) tr)) (a_ tr (a_ tr (a_ tr (a_ tr (a_ (a_ tr tr) (a_ (a_ tr tr) (a_ tr (a_ (a_ tr tr) (a_ (a_ tr tr) tr)))))))))))))))))))) tr)) tr) (by kernel_rfl) rfl
      · skip
        obtain rfl := Option.some.inj h
        exact run_ret mixed (L := []) (n := 19) (s := [.go, .reg [(0, { v := some (.bool false) })], .reg [(5, { v := some (.bool false) })]])
          (a_ (a_ (a_ (a_ tr (a_ (leB cL0_1) tr)) tr) (a_ (a_ (a_ tr tr) (a_ (a_ tr tr) (a_ (a_ tr tr) (a_ (a_ tr tr) (a_ (a_ tr tr) (a_ (a_ tr (a_ (leB cL0_2) tr)) (a_ tr (a_ tr (a_ tr (a_ (a_ tr tr) (a_ (a_ tr tr) (a_ tr (a_ tr (a_ tr (a_ tr (a_ (a_ tr tr) (a_ (a_ tr tr) (a_ tr (a_ (a_ tr tr) (a_ (a_ tr tr) tr)))))))))))))))))))) tr)) tr) (by kernel_rfl) rfl

theorem parrellaw26_HistSound_ok (l : List (T_parrelref26_Tx)) (r : (Bool)) (h : parrellaw26_HistSound l = some r) : ∀ σ, Inj 0 σ → FnTri Try.prog 5 (renL σ [.ds 4 (l).length (rowF c_T_parrelref26_Tx default l)]) (preOf σ 0 []) ((parrellaw26_HistSound_v r).ren σ) (upOf σ []) := by
  refine fn_of Try.func5 (by kernel_rfl) (by kernel_rfl) (by kernel_rfl) trivial (by kernel_rfl) trivial (by kernel_rfl) ?_
  intro w0 W μ0 hμ
  unfold parrellaw26_HistSound at h
  obtain ⟨y2, e1, h⟩ := bind_some h
  rcases itb_some h with ⟨c3, h⟩ | ⟨c3, h⟩
  · skip
    obtain ⟨y5, e4, h⟩ := bind_some h
    obtain rfl := Option.some.inj h
    exact run_ret mixed (L := []) (n := 20) (s := [.reg [], .reg [(1, { call := some (parrellaw26_far_v y2, [], []), v := some (.bool true) })], .reg [(0, { call := some (parrellaw26_alive_v y5, [], []) })]])
      (a_ (a_ (a_ (a_ tr tr) tr) (a_ (a_ (a_ tr tr) (a_ (a_ (a_ (parrellaw26_far_tri l y2 e1) tr) (a_ (leB c3) tr)) tr)) (a_ (a_ (a_ (a_ (parrellaw26_alive_tri  y5 e4) tr) tr) (a_ (a_ tr tr) tr)) tr))) tr) (by kernel_rfl) rfl
  · skip
    obtain ⟨y5, e4, h⟩ := bind_some h
    obtain ⟨y7, e6, h⟩ := bind_some h
    rcases itb_some h with ⟨c8, h⟩ | ⟨c8, h⟩
    · skip
      rcases itb_some h with ⟨c9, h⟩ | ⟨c9, h⟩
      · skip
        obtain ⟨y11, e10, h⟩ := bind_some h
        obtain rfl := Option.some.inj h
        exact run_ret mixed (L := []) (n := 32) (s := [.reg [], .reg [(1, { call := some (parrellaw26_far_v y2, [], []), v := some (.bool false) })], .reg [(1, { call := some (parrellaw26_theirs_v y5, [], []) })], .reg [(1, { call := some (hist_Order_v y7, [], []) })], .reg [(1, { v := some (.bool true) })], .reg [(3, { v := some (.bool true) }), (4, { call := some (parrellaw26_alive_v y11, [], []) })]])
          (a_ (a_ (a_ (a_ tr tr) tr) (a_ (a_ (a_ tr tr) (a_ (a_ (a_ (parrellaw26_far_tri l y2 e1) tr) (a_ (leB c3) tr)) tr)) (a_ (a_ (a_ tr tr) (a_ (a_ (a_ (parrellaw26_theirs_tri l y5 e4) tr) tr) (a_ (a_ tr tr) tr))) (a_ (a_ (a_ tr tr) (a_ (a_ (a_ (hist_Order_tri y5 y7 e6) tr) tr) (a_ (a_ tr tr) (a_ (a_ tr tr) (a_ (a_ tr tr) (a_ (a_ tr tr) (a_ (a_ tr tr) tr))))))) (a_ (a_ (a_ tr tr) (a_ (a_ tr (a_ (leB c8) tr)) tr)) (a_ (a_ (a_ tr tr) (a_ (a_ tr tr) (a_ (a_ tr tr) (a_ (a_ tr (a_ (leB c9) tr)) (a_ (a_ (a_ (parrellaw26_alive_tri  y11 e10) tr) tr) (a_ (a_ tr tr) (a_ (a_ tr tr) tr))))))) tr)))))) tr) (by kernel_rfl) rfl
      · skip
        obtain rfl := Option.some.inj h
        exact run_ret mixed (L := []) (n := 32) (s := [.reg [], .reg [(1, { call := some (parrellaw26_far_v y2, [], []), v := some (.bool false) })], .reg [(1, { call := some (parrellaw26_theirs_v y5, [], []) })], .reg [(1, { call := some (hist_Order_v y7, [], []) })], .reg [(1, { v := some (.bool true) })], .reg [(3, { v := some (.bool false) })]])
          (a_ (a_ (a_ (a_ tr tr) tr) (a_ (a_ (a_ tr tr) (a_ (a_ (a_ (parrellaw26_far_tri l y2 e1) tr) (a_ (leB c3) tr)) tr)) (a_ (a_ (a_ tr tr) (a_ (a_ (a_ (parrellaw26_theirs_tri l y5 e4) tr) tr) (a_ (a_ tr tr) tr))) (a_ (a_ (a_ tr tr) (a_ (a_ (a_ (hist_Order_tri y5 y7 e6) tr) tr) (a_ (a_ tr tr) (a_ (a_ tr tr) (a_ (a_ tr tr) (a_ (a_ tr tr) (a_ (a_ tr tr) tr))))))) (a_ (a_ (a_ tr tr) (a_ (a_ tr (a_ (leB c8) tr)) tr)) (a_ (a_ (a_ tr tr) (a_ (a_ tr tr) (a_ (a_ tr tr) (a_ (a_ tr (a_ (leB c9) tr)) (a_ tr (a_ (a_ tr tr) (a_ (a_ tr tr) tr))))))) tr)))))) tr) (by kernel_rfl) rfl
    · skip
      exact run_to mixed hμ (L := []) (n := 36) (s := [.reg [], .reg [(1, { call := some (parrellaw26_far_v y2, [], []), v := some (.bool false) })], .reg [(1, { call := some (parrellaw26_theirs_v y5, [], []) })], .reg [(1, { call := some (hist_Order_v y7, [], []) })], .reg [(1, { v := some (.bool false) })], .reg []])
        (a_ (a_ (a_ tr tr) tr) (a_ (a_ (a_ tr tr) (a_ (a_ (a_ (parrellaw26_far_tri l y2 e1) tr) (a_ (leB c3) tr)) tr)) (a_ (a_ (a_ tr tr) (a_ (a_ (a_ (parrellaw26_theirs_tri l y5 e4) tr) tr) (a_ (a_ tr tr) tr))) (a_ (a_ (a_ tr tr) (a_ (a_ (a_ (hist_Order_tri y5 y7 e6) tr) tr) (a_ (a_ tr tr) (a_ (a_ tr tr) (a_ (a_ tr tr) (a_ (a_ tr tr) (a_ (a_ tr tr) tr))))))) (a_ (a_ (a_ tr tr) (a_ (a_ tr (a_ (leB c8) tr)) tr)) (a_ (a_ (a_ tr tr) (a_ (a_ tr tr) (a_ (a_ tr tr) tr))) tr)))))) (parrellaw26_HistSound_l0_ok hμ l y5 y7  big _ r h) (by kernel_rfl) trivial

theorem parrellaw26_HistSound_tri (l : List (T_parrelref26_Tx)) (r : (Bool)) (h : parrellaw26_HistSound l = some r) : FnTri Try.prog 5 [.ds 4 (l).length (rowF c_T_parrelref26_Tx default l)] [] (parrellaw26_HistSound_v r) [] := FnTri.none (parrellaw26_HistSound_ok l r h) rfl rfl

/-- parrel/parrellaw26.HistCircle -/

def parrellaw26_HistCircle_v (r : (Bool)) : LV := .bool r

def parrellaw26_HistCircle_T2 (l2 : List (T_hist_Tx)) (t111 : Int) (t116 : Int) (l3 : List (T_hist_Tx)) : List LV := [.any, .any, .any, .any, .any, .any, .any, .any, .gs 0 (l2).length, .any, .any, .int .i64 t111, .gs 1 (l3).length, .any, .any, .any, .any, .any, .any, .any, .any, .any, .any, .any, .any, .any, .any, .any, .any, .any, .any, .any, .any, .any, .any, .any, .any, .any, .any, .any, .any, .any, .any, .any, .any, .any, .any, .any, .any, .any, .any, .any, .any, .any, .any, .any, .any, .any, .any, .any, .any, .any, .any, .any, .any, .any, .any, .any, .any, .any, .any, .any, .any, .any, .any, .any, .any, .any, .any, .any, .any, .any, .any, .any, .any, .any, .any, .any, .any, .any, .any, .any, .any, .any, .any, .any, .any, .any, .any, .any, .any, .any, .any, .any, .any, .any, .any, .any, .any, .any, .int .i64 ((l2).length : Int), .int .i64 t111, .any, .any, .gs 0 (l2).length, .int .i64 ((l2).length : Int), .int .i64 t116, .any, .any, .any, .any, .any, .any, .any, .any, .any, .any, .any, .any, .any, .any, .any, .any, .any, .any, .any, .any, .any, .any, .any, .any, .any, .any, .any, .any, .any, .any, .any, .any, .any, .any]

def parrellaw26_HistCircle_H2 (l2 : List (T_hist_Tx)) (t111 : Int) (t116 : Int) (l3 : List (T_hist_Tx)) : Heap := [some (.gr 4 (l2).length (rowF c_T_hist_Tx default l2)), some (.gr 4 (l3).length (rowF c_T_hist_Tx default l3))]

def parrellaw26_HistCircle_T1 (l2 : List (T_hist_Tx)) (t111 : Int) : List LV := [.any, .any, .any, .any, .any, .any, .any, .any, .gs 0 (l2).length, .any, .any, .any, .any, .any, .any, .any, .any, .any, .any, .any, .any, .any, .any, .any, .any, .any, .any, .any, .any, .any, .any, .any, .any, .any, .any, .any, .any, .any, .any, .any, .any, .any, .any, .any, .any, .any, .any, .any, .any, .any, .any, .any, .any, .any, .any, .any, .any, .any, .any, .any, .any, .any, .any, .any, .any, .any, .any, .any, .any, .any, .any, .any, .any, .any, .any, .any, .any, .any, .any, .any, .any, .any, .any, .any, .any, .any, .any, .any, .any, .any, .any, .any, .any, .any, .any, .any, .any, .any, .any, .any, .any, .any, .any, .any, .any, .any, .any, .any, .any, .any, .int .i64 ((l2).length : Int), .int .i64 t111, .any, .any, .any, .any, .any, .any, .any, .any, .any, .any, .any, .any, .any, .any, .any, .any, .any, .any, .any, .any, .any, .any, .any, .any, .any, .any, .any, .any, .any, .any, .any, .any, .any, .any, .any, .any, .any, .any, .any]

def parrellaw26_HistCircle_H1 (l2 : List (T_hist_Tx)) (t111 : Int) : Heap := [some (.gr 4 (l2).length (rowF c_T_hist_Tx default l2))]

def parrellaw26_HistCircle_T0 (l : List (T_parrelref26_Tx)) (y5 : (List (T_hist_Tx))) (y7 : (List (Int))) (t44 : Int) (m : List (Int × Bool)) (l2 : List (T_hist_Tx)) : List LV := [.ds 4 (l).length (rowF c_T_parrelref26_Tx default l), .any, .any, .ds 4 (y5).length (rowF c_T_hist_Tx default y5), .ds 1 (y7).length (rowF (cInt .i64) default y7), .any, .any, .map 0, .gs 1 (l2).length, .any, .any, .any, .any, .any, .any, .any, .any, .any, .any, .any, .any, .any, .any, .any, .any, .any, .any, .any, .any, .any, .any, .any, .any, .any, .any, .any, .any, .any, .any, .any, .any, .any, .ds 1 (y7).length (rowF (cInt .i64) default y7), .int .i64 ((y7).length : Int), .int .i64 t44, .any, .any, .any, .any, .any, .any, .any, .any, .any, .any, .any, .any, .any, .any, .any, .any, .any, .any, .any, .any, .any, .any, .any, .any, .any, .any, .any, .any, .any, .any, .any, .any, .any, .any, .any, .any, .any, .any, .any, .any, .any, .any, .any, .any, .any, .any, .any, .any, .any, .any, .any, .any, .any, .any, .any, .any, .any, .any, .any, .any, .any, .any, .any, .any, .any, .any, .any, .any, .any, .any, .any, .any, .any, .any, .any, .any, .any, .any, .any, .any, .any, .any, .any, .any, .any, .any, .any, .any, .any, .any, .any, .any, .any, .any, .any, .any, .any, .any, .any, .any, .any, .any, .any, .any, .any, .any]

def parrellaw26_HistCircle_H0 (l : List (T_parrelref26_Tx)) (y5 : (List (T_hist_Tx))) (y7 : (List (Int))) (t44 : Int) (m : List (Int × Bool)) (l2 : List (T_hist_Tx)) : Heap := [some (.map false [.int .i64] (encM (LV.int .i64) LV.bool m)), some (.gr 4 (l2).length (rowF c_T_hist_Tx default l2))]

def parrellaw26_HistCircle_l2 (l2 : List (T_hist_Tx)) (t111 : Int) (k1 : (Int) → Option ((Bool))) : Nat → (Int) → (List (T_hist_Tx)) → Option ((Bool))
  | 0, _, _ => none
  | fuel + 1, t116, l3 =>
    if ((decide (t116 < ((l2).length : Int))) : Bool) then
      if 0 ≤ t116 ∧ t116 < (((l2).length : Nat) : Int) then
      if ((t116 != t111) : Bool) then
        if ((l3).length + ([(l2.getD t116.toNat default)]).length) * 64 ≤ 140737488351232 then
        parrellaw26_HistCircle_l2 l2 t111 k1 fuel (IntKind.wrap .i64 (t116 + 1)) (l3 ++ [(l2.getD t116.toNat default)])
        else none
      else
        parrellaw26_HistCircle_l2 l2 t111 k1 fuel (IntKind.wrap .i64 (t116 + 1)) l3
      else none
    else
      (hist_Order l3).bind fun yL2_3 =>
      if ((yL2_3.2 == 11) : Bool) then
        some false
      else
        k1 (IntKind.wrap .i64 (t111 + 1))

def parrellaw26_HistCircle_l1 (l2 : List (T_hist_Tx))  : Nat → (Int) → Option ((Bool))
  | 0, _ => none
  | fuel + 1, t111 =>
    if ((decide (t111 < ((l2).length : Int))) : Bool) then
      parrellaw26_HistCircle_l2 l2 t111 (parrellaw26_HistCircle_l1 l2  fuel) big 0 ([] : List (T_hist_Tx))
    else
      (hist_Order l2).bind fun yL1_3 =>
      if ((yL1_3.2 == 11) : Bool) then
        (parrellaw26_alive).bind fun yL1_6 =>
        some yL1_6
      else
        if ((yL1_3.2 == 6) : Bool) then
          (parrellaw26_alive).bind fun yL1_7 =>
          some yL1_7
        else
          some false

def parrellaw26_HistCircle_l0 (l : List (T_parrelref26_Tx)) (y5 : (List (T_hist_Tx))) (y7 : (List (Int)))  : Nat → (Int) → (List (Int × Bool)) → (List (T_hist_Tx)) → Option ((Bool))
  | 0, _, _, _ => none
  | fuel + 1, t44, m, l2 =>
    if ((decide (t44 < ((y7).length : Int))) : Bool) then
      if 0 ≤ t44 ∧ t44 < (((y7).length : Nat) : Int) then
      if ((decide ((y7.getD t44.toNat default) < 0)) : Bool) then
        some false
      else
        if ((decide (((l).length : Int) ≤ (y7.getD t44.toNat default))) : Bool) then
          some false
        else
          if (((mget m (y7.getD t44.toNat default)).getD default) : Bool) then
            some false
          else
            if 0 ≤ (0 : Int) ∧ (0 : Int) < (((y7).length : Nat) : Int) then
            if ((decide ((y7.getD t44.toNat default) < (y7.getD 0 default))) : Bool) then
              some false
            else
              if 0 ≤ (y7.getD t44.toNat default) ∧ (y7.getD t44.toNat default) < (((y5).length : Nat) : Int) then
              if ((l2).length + ([(y5.getD ((y7.getD t44.toNat default)).toNat default)]).length) * 64 ≤ 140737488351232 then
              if ((decide (0 < t44)) : Bool) then
                if 0 ≤ t44 ∧ t44 < ((((l2 ++ [(y5.getD ((y7.getD t44.toNat default)).toNat default)])).length : Nat) : Int) then
                if ((((l2 ++ [(y5.getD ((y7.getD t44.toNat default)).toNat default)]).getD t44.toNat default).f_End != 0) : Bool) then
                  if 0 ≤ (IntKind.wrap .i64 (t44 - 1)) ∧ (IntKind.wrap .i64 (t44 - 1)) < ((((l2 ++ [(y5.getD ((y7.getD t44.toNat default)).toNat default)])).length : Nat) : Int) then
                  if ((decide (((l2 ++ [(y5.getD ((y7.getD t44.toNat default)).toNat default)]).getD t44.toNat default).f_End < ((l2 ++ [(y5.getD ((y7.getD t44.toNat default)).toNat default)]).getD ((IntKind.wrap .i64 (t44 - 1))).toNat default).f_Begin)) : Bool) then
                    if ((decide (2 < ((y7).length : Int))) : Bool) then
                      some false
                    else
                      parrellaw26_HistCircle_l0 l y5 y7  fuel (IntKind.wrap .i64 (t44 + 1)) (mset m (y7.getD t44.toNat default) true) (l2 ++ [(y5.getD ((y7.getD t44.toNat default)).toNat default)])
                  else
                    parrellaw26_HistCircle_l0 l y5 y7  fuel (IntKind.wrap .i64 (t44 + 1)) (mset m (y7.getD t44.toNat default) true) (l2 ++ [(y5.getD ((y7.getD t44.toNat default)).toNat default)])
                  else none
                else
                  parrellaw26_HistCircle_l0 l y5 y7  fuel (IntKind.wrap .i64 (t44 + 1)) (mset m (y7.getD t44.toNat default) true) (l2 ++ [(y5.getD ((y7.getD t44.toNat default)).toNat default)])
                else none
              else
                parrellaw26_HistCircle_l0 l y5 y7  fuel (IntKind.wrap .i64 (t44 + 1)) (mset m (y7.getD t44.toNat default) true) (l2 ++ [(y5.getD ((y7.getD t44.toNat default)).toNat default)])
              else none
              else none
            else none
      else none
    else
      if ((decide (((y7).length : Int) < 2)) : Bool) then
        some false
      else
        parrellaw26_HistCircle_l1 l2  big 0

def parrellaw26_HistCircle (l : List (T_parrelref26_Tx)) : Option ((Bool)) :=
  (parrellaw26_far l).bind fun y2 =>
  if (y2 : Bool) then
    (parrellaw26_alive).bind fun y5 =>
    some y5
  else
    (parrellaw26_theirs l).bind fun y5 =>
    (hist_Circle y5).bind fun y7 =>
    (hist_Order y5).bind fun y9 =>
    if ((!((y9.2 == 11) == (decide (0 < ((y7).length : Int))))) : Bool) then
      some false
    else
      if ((((y7).length : Int) == 0) : Bool) then
        (parrellaw26_alive).bind fun y13 =>
        some y13
      else
        parrellaw26_HistCircle_l0 l y5 y7  big 0 ([] : List (Int × Bool)) ([] : List (T_hist_Tx))

theorem parrellaw26_HistCircle_l2_ok {w0 : World} {W : Nat → Prop} {μ0 : Emb} (hμ : ∀ c p, μ0 c = some p → c < 0) (l2 : List (T_hist_Tx)) (t111 : Int) (k1 : (Int) → Option ((Bool))) (hk1 : ∀ (t111 : Int) (r : (Bool)), k1 t111 = some r → kont Try.prog w0 W μ0 (FnPost Try.prog Try.f7 0 0 (parrellaw26_HistCircle_v r) []) (kAt (bodyOf Try.f7) 1) none (parrellaw26_HistCircle_T1 l2 t111) (parrellaw26_HistCircle_H1 l2 t111)) : ∀ (fuel : Nat) (t116 : Int) (l3 : List (T_hist_Tx)) (r : (Bool)), parrellaw26_HistCircle_l2 l2 t111 k1 fuel t116 l3 = some r → kont Try.prog w0 W μ0 (FnPost Try.prog Try.f7 0 0 (parrellaw26_HistCircle_v r) []) (kAt (bodyOf Try.f7) 2) none (parrellaw26_HistCircle_T2 l2 t111 t116 l3) (parrellaw26_HistCircle_H2 l2 t111 t116 l3) := by
  intro fuel
  induction fuel with
  | zero => intro t116 l3 r h; rw [parrellaw26_HistCircle_l2] at h; cases h
  | succ fuel ih =>
    intro t116 l3 r h
    rw [parrellaw26_HistCircle_l2] at h
    rcases itb_some h with ⟨cL2_1, h⟩ | ⟨cL2_1, h⟩
    · skip
      obtain ⟨gL2_2, h⟩ := guard_some h
      rcases itb_some h with ⟨cL2_3, h⟩ | ⟨cL2_3, h⟩
      · skip
        obtain ⟨gL2_4, h⟩ := guard_some h
        exact run_to mixed hμ (L := [0, 4]) (n := 30) (s := [.go, .reg [(0, { v := some (.bool true) })], .reg [], .reg [(2, { v := some (.bool true) })], .reg [(2, { os := [(3, .gr 4 ([(l2.getD t116.toNat default)]).length (rowF c_T_hist_Tx default [(l2.getD t116.toNat default)]))], v := some (.gs 3 ([(l2.getD t116.toNat default)]).length) }), (3, { app := 3, os := [(4, .gr 4 ((l3 ++ [(l2.getD t116.toNat default)])).length (rowF c_T_hist_Tx default (l3 ++ [(l2.getD t116.toNat default)])))], v := some (.gs 4 ((l3 ++ [(l2.getD t116.toNat default)])).length) })], .reg []])
          (a_ (a_ (a_ tr (a_ (leB cL2_1) tr)) tr) (a_ (a_ (a_ tr tr) (a_ (a_ (a_ (Eq.refl 4) gL2_2) tr) (a_ (a_ (a_ (ltN gL2_2) (le_ 4 4 rfl)) tr) (a_ (a_ tr tr) (a_ (a_ tr tr) (a_ (a_ (a_ (Eq.refl 4) (a_ (le_ 4 4 rfl) (Eq.refl 0))) tr) tr)))))) (a_ (a_ (a_ tr tr) (a_ (a_ tr tr) (a_ (a_ tr (a_ (leB cL2_3) tr)) tr))) (a_ (a_ (a_ tr tr) (a_ (a_ (a_ tr (le_ 4 4 rfl)) tr) (a_ (a_ (a_ (Eq.refl true) (a_ (Eq.refl 4) (a_ (lt_ 0 4 rfl) (le_ 4 16777216 rfl)))) (a_ (le_sl_gs 3 1 (some 1) rfl) (a_ (sub_lit c_T_hist_Tx default 4 (fun _ => rfl) [(l2.getD t116.toNat default)]) tr))) (a_ (a_ (a_ (a_ (Eq.refl 4) (Nat.le_refl ([(l2.getD t116.toNat default)]).length)) (a_ (a_ (lt_ 0 4 rfl) (a_ (lt_ 0 64 rfl) (a_ gL2_4 (a_ (Eq.refl 4) (Eq.refl true))))) (a_ (Eq.refl 4) (Nat.le_refl (l3).length)))) (a_ (le_gs_app 4 l3 [(l2.getD t116.toNat default)]) (a_ (sub_app c_T_hist_Tx default 4 l3 [(l2.getD t116.toNat default)]) tr))) (a_ (a_ tr tr) tr))))) (a_ (a_ (a_ tr tr) (a_ (a_ tr tr) tr)) tr))))) (ih _ _ r h) (by kernel_rfl) ⟨fun _ _ => rfl, fun _ _ => rfl, trivial⟩
      · skip
        exact run_to mixed hμ (L := [0, 1]) (n := 29) (s := [.go, .reg [(0, { v := some (.bool true) })], .reg [], .reg [(2, { v := some (.bool false) })], .reg []])
          (a_ (a_ (a_ tr (a_ (leB cL2_1) tr)) tr) (a_ (a_ (a_ tr tr) (a_ (a_ (a_ (Eq.refl 4) gL2_2) tr) (a_ (a_ (a_ (ltN gL2_2) (le_ 4 4 rfl)) tr) (a_ (a_ tr tr) (a_ (a_ tr tr) (a_ (a_ (a_ (Eq.refl 4) (a_ (le_ 4 4 rfl) (Eq.refl 0))) tr) tr)))))) (a_ (a_ (a_ tr tr) (a_ (a_ tr tr) (a_ (a_ tr (a_ (leB cL2_3) tr)) tr))) (a_ (a_ (a_ tr tr) (a_ (a_ tr tr) tr)) tr)))) (ih _ _ r h) (by kernel_rfl) ⟨fun _ _ => rfl, fun _ _ => rfl, trivial⟩
    · skip
      obtain ⟨yL2_3, eL2_2, h⟩ := bind_some h
      rcases itb_some h with ⟨cL2_4, h⟩ | ⟨cL2_4, h⟩
      · skip
        obtain rfl := Option.some.inj h
        exact run_ret mixed (L := []) (n := 27) (s := [.go, .reg [(0, { v := some (.bool false) })], .frz 1, .reg [(1, { call := some (hist_Order_v yL2_3, [], []) })], .reg [(1, { v := some (.bool true) })], .reg []])
          (a_ (a_ (a_ (a_ tr (a_ (leB cL2_1) tr)) tr) (a_ (a_ (fz_row (enc := c_T_hist_Tx) (d := default) (fun _ => rfl) l3) (a_ (Nat.le_refl (l3).length) tr)) (a_ (a_ (a_ tr tr) (a_ (a_ (a_ (hist_Order_tri l3 yL2_3 eL2_2) tr) tr) (a_ (a_ tr tr) (a_ (a_ tr tr) (a_ (a_ tr tr) (a_ (a_ tr tr) (a_ (a_ tr tr) tr))))))) (a_ (a_ (a_ tr tr) (a_ (a_ tr (a_ (leB cL2_4) tr)) tr)) (a_ (a_ (a_ tr tr) tr) tr))))) tr) (by kernel_rfl) rfl
      · skip
        exact run_to mixed hμ (L := [0]) (n := 28) (s := [.go, .reg [(0, { v := some (.bool false) })], .frz 1, .reg [(1, { call := some (hist_Order_v yL2_3, [], []) })], .reg [(1, { v := some (.bool false) })], .reg []])
          (a_ (a_ (a_ tr (a_ (leB cL2_1) tr)) tr) (a_ (a_ (fz_row (enc := c_T_hist_Tx) (d := default) (fun _ => rfl) l3) (a_ (Nat.le_refl (l3).length) tr)) (a_ (a_ (a_ tr tr) (a_ (a_ (a_ (hist_Order_tri l3 yL2_3 eL2_2) tr) tr) (a_ (a_ tr tr) (a_ (a_ tr tr) (a_ (a_ tr tr) (a_ (a_ tr tr) (a_ (a_ tr tr) tr))))))) (a_ (a_ (a_ tr tr) (a_ (a_ tr (a_ (leB cL2_4) tr)) tr)) (a_ (a_ (a_ tr tr) (a_ (a_ tr tr) tr)) tr))))) (hk1 _ r h) (by kernel_rfl) ⟨fun _ _ => rfl, trivial⟩

theorem parrellaw26_HistCircle_l1_ok {w0 : World} {W : Nat → Prop} {μ0 : Emb} (hμ : ∀ c p, μ0 c = some p → c < 0) (l2 : List (T_hist_Tx))  : ∀ (fuel : Nat) (t111 : Int) (r : (Bool)), parrellaw26_HistCircle_l1 l2  fuel t111 = some r → kont Try.prog w0 W μ0 (FnPost Try.prog Try.f7 0 0 (parrellaw26_HistCircle_v r) []) (kAt (bodyOf Try.f7) 1) none (parrellaw26_HistCircle_T1 l2 t111) (parrellaw26_HistCircle_H1 l2 t111) := by
  intro fuel
  induction fuel with
  | zero => intro t111 r h; rw [parrellaw26_HistCircle_l1] at h; cases h
  | succ fuel ih =>
    intro t111 r h
    rw [parrellaw26_HistCircle_l1] at h
    rcases itb_some h with ⟨cL1_1, h⟩ | ⟨cL1_1, h⟩
    · skip
      exact run_to mixed hμ (L := [0, 1]) (n := 31) (s := [.go, .reg [(0, { v := some (.bool true) })], .reg [], .void (.gr 4 (([] : List (T_hist_Tx))).length (rowF c_T_hist_Tx default ([] : List (T_hist_Tx)))), .reg [(0, { v := some (.gs 1 (([] : List (T_hist_Tx))).length) })], .reg []])
        (a_ (a_ (a_ tr (a_ (leB cL1_1) tr)) tr) (a_ (a_ (a_ tr tr) (a_ (a_ tr tr) tr)) (a_ (Eq.refl 0) (a_ (a_ (a_ tr (a_ (le_nil_gs 1) tr)) tr) (a_ (a_ (a_ tr tr) (a_ (a_ tr tr) (a_ (a_ tr tr) tr))) tr))))) (parrellaw26_HistCircle_l2_ok hμ l2 t111 (parrellaw26_HistCircle_l1 l2  fuel) (fun t111 r h => ih t111 r h) big _ _ r h) (by kernel_rfl) ⟨fun _ _ => rfl, fun _ _ => rfl, trivial⟩
    · skip
      obtain ⟨yL1_3, eL1_2, h⟩ := bind_some h
      rcases itb_some h with ⟨cL1_4, h⟩ | ⟨cL1_4, h⟩
      · skip
        obtain ⟨yL1_6, eL1_5, h⟩ := bind_some h
        obtain rfl := Option.some.inj h
        exact run_ret mixed (L := []) (n := 23) (s := [.go, .reg [(0, { v := some (.bool false) })], .frz 0, .reg [(1, { call := some (hist_Order_v yL1_3, [], []) })], .reg [(2, { v := some (.bool true) }), (7, { call := some (parrellaw26_alive_v yL1_6, [], []) })]])
          (a_ (a_ (a_ (a_ tr (a_ (leB cL1_1) tr)) tr) (a_ (a_ (fz_row (enc := c_T_hist_Tx) (d := default) (fun _ => rfl) l2) (a_ (Nat.le_refl (l2).length) tr)) (a_ (a_ (a_ tr tr) (a_ (a_ (a_ (hist_Order_tri l2 yL1_3 eL1_2) tr) tr) (a_ (a_ tr tr) (a_ (a_ tr tr) (a_ (a_ tr tr) (a_ (a_ tr tr) (a_ (a_ tr tr) tr))))))) (a_ (a_ (a_ tr tr) (a_ (a_ tr tr) (a_ (a_ tr (a_ (leB cL1_4) tr)) (a_ tr (a_ tr (a_ (a_ tr tr) (a_ (a_ tr tr) (a_ (a_ (a_ (parrellaw26_alive_tri  yL1_6 eL1_5) tr) tr) (a_ (a_ tr tr) (a_ (a_ tr tr) tr)))))))))) tr)))) tr) (by kernel_rfl) rfl
      · skip
        rcases itb_some h with ⟨cL1_5, h⟩ | ⟨cL1_5, h⟩
        · skip
          obtain ⟨yL1_7, eL1_6, h⟩ := bind_some h
          obtain rfl := Option.some.inj h
          exact run_ret mixed (L := []) (n := 23) (s := [.go, .reg [(0, { v := some (.bool false) })], .frz 0, .reg [(1, { call := some (hist_Order_v yL1_3, [], []) })], .reg [(2, { v := some (.bool false) }), (6, { v := some (.bool true) }), (7, { call := some (parrellaw26_alive_v yL1_7, [], []) })]])
            (a_ (a_ (a_ (a_ tr (a_ (leB cL1_1) tr)) tr) (a_ (a_ (fz_row (enc := c_T_hist_Tx) (d := default) (fun _ => rfl) l2) (a_ (Nat.le_refl (l2).length) tr)) (a_ (a_ (a_ tr tr) (a_ (a_ (a_ (hist_Order_tri l2 yL1_3 eL1_2) tr) tr) (a_ (a_ tr tr) (a_ (a_ tr tr) (a_ (a_ tr tr) (a_ (a_ tr tr) (a_ (a_ tr tr) tr))))))) (a_ (a_ (a_ tr tr) (a_ (a_ tr tr) (a_ (a_ tr (a_ (leB cL1_4) tr)) (a_ (a_ tr tr) (a_ (a_ tr tr) (a_ (a_ tr tr) (a_ (a_ tr (a_ (leB cL1_5) tr)) (a_ (a_ (a_ (parrellaw26_alive_tri  yL1_7 eL1_6) tr) tr) (a_ (a_ tr tr) (a_ (a_ tr tr) tr)))))))))) tr)))) tr) (by kernel_rfl) rfl
        · skip
          obtain rfl := Option.some.inj h
          exact run_ret mixed (L := []) (n := 23) (s := [.go, .reg [(0, { v := some (.bool false) })], .frz 0, .reg [(1, { call := some (hist_Order_v yL1_3, [], []) })], .reg [(2, { v := some (.bool false) }), (6, { v := some (.bool false) })]])
            (a_ (a_ (a_ (a_ tr (a_ (leB cL1_1) tr)) tr) (a_ (a_ (fz_row (enc := c_T_hist_Tx) (d := default) (fun _ => rfl) l2) (a_ (Nat.le_refl (l2).length) tr)) (a_ (a_ (a_ tr tr) (a_ (a_ (a_ (hist_Order_tri l2 yL1_3 eL1_2) tr) tr) (a_ (a_ tr tr) (a_ (a_ tr tr) (a_ (a_ tr tr) (a_ (a_ tr tr) (a_ (a_ tr tr) tr))))))) (a_ (a_ (a_ tr tr) (a_ (a_ tr tr) (a_ (a_ tr (a_ (leB cL1_4) tr)) (a_ (a_ tr tr) (a_ (a_ tr tr) (a_ (a_ tr tr) (a_ (a_ tr (a_ (leB cL1_5) tr)) (a_ tr (a_ (a_ tr tr) (a_ (a_ tr tr) tr)))))))))) tr)))) tr) (by kernel_rfl) rfl

theorem parrellaw26_HistCircle_l0_ok {w0 : World} {W : Nat → Prop} {μ0 : Emb} (hμ : ∀ c p, μ0 c = some p → c < 0) (l : List (T_parrelref26_Tx)) (y5 : (List (T_hist_Tx))) (y7 : (List (Int)))  : ∀ (fuel : Nat) (t44 : Int) (m : List (Int × Bool)) (l2 : List (T_hist_Tx)) (r : (Bool)), parrellaw26_HistCircle_l0 l y5 y7  fuel t44 m l2 = some r → kont Try.prog w0 W μ0 (FnPost Try.prog Try.f7 0 0 (parrellaw26_HistCircle_v r) []) (kAt (bodyOf Try.f7) 0) none (parrellaw26_HistCircle_T0 l y5 y7 t44 m l2) (parrellaw26_HistCircle_H0 l y5 y7 t44 m l2) := by
  intro fuel
  induction fuel with
  | zero => intro t44 m l2 r h; rw [parrellaw26_HistCircle_l0] at h; cases h
  | succ fuel ih =>
    intro t44 m l2 r h
    rw [parrellaw26_HistCircle_l0] at h
    rcases itb_some h with ⟨cL0_1, h⟩ | ⟨cL0_1, h⟩
    · skip
      obtain ⟨gL0_2, h⟩ := guard_some h
      rcases itb_some h with ⟨cL0_3, h⟩ | ⟨cL0_3, h⟩
      · skip
        obtain rfl := Option.some.inj h
        exact run_ret mixed (L := []) (n := 29) (s := [.go, .reg [(0, { v := some (.bool true) })], .reg [], .reg [(2, { v := some (.bool true) })], .reg []])
          (a_ (a_ (a_ (a_ tr (a_ (leB cL0_1) tr)) tr) (a_ (a_ (a_ tr tr) (a_ (a_ (a_ (Eq.refl 1) gL0_2) tr) (a_ (a_ (lt_ 0 1 rfl) tr) (a_ (a_ tr tr) (a_ (a_ tr tr) tr))))) (a_ (a_ (a_ tr tr) (a_ (a_ tr tr) (a_ (a_ tr (a_ (leB cL0_3) tr)) (a_ tr (a_ tr (a_ tr (a_ tr (a_ (a_ tr tr) (a_ (a_ tr tr) (a_ tr (a_ tr (a_ tr (a_ (a_ tr tr) (a_ (a_ tr tr) (a_ tr (a_ tr (a_ tr (a_ tr (a_ tr (a_ (a_ tr tr) tr)))))))))))))))))))) (a_ (a_ (a_ tr tr) tr) tr)))) tr) (by kernel_rfl) rfl
      · skip
        rcases itb_some h with ⟨cL0_4, h⟩ | ⟨cL0_4, h⟩
        · skip
          obtain rfl := Option.some.inj h
          exact run_ret mixed (L := []) (n := 29) (s := [.go, .reg [(0, { v := some (.bool true) })], .reg [], .reg [(2, { v := some (.bool false) }), (8, { v := some (.bool true) })], .reg []])
            (a_ (a_ (a_ (a_ tr (a_ (leB cL0_1) tr)) tr) (a_ (a_ (a_ tr tr) (a_ (a_ (a_ (Eq.refl 1) gL0_2) tr) (a_ (a_ (lt_ 0 1 rfl) tr) (a_ (a_ tr tr) (a_ (a_ tr tr) tr))))) (a_ (a_ (a_ tr tr) (a_ (a_ tr tr) (a_ (a_ tr (a_ (leB cL0_3) tr)) (a_ (a_ tr tr) (a_ (a_ tr tr) (a_ (a_ tr tr) (a_ (a_ tr tr) (a_ (a_ tr tr) (a_ (a_ tr (a_ (leB cL0_4) tr)) (a_ tr (a_ tr (a_ tr (a_ (a_ tr tr) (a_ (a_ tr tr) (a_ tr (a_ tr (a_ tr (a_ tr (a_ tr (a_ (a_ tr tr) tr)))))))))))))))))))) (a_ (a_ (a_ tr tr) tr) tr)))) tr) (by kernel_rfl) rfl
        · skip
          rcases itb_some h with ⟨cL0_5, h⟩ | ⟨cL0_5, h⟩
          · skip
            obtain rfl := Option.some.inj h
            exact run_ret mixed (L := []) (n := 29) (s := [.go, .reg [(0, { v := some (.bool true) })], .reg [], .reg [(2, { v := some (.bool false) }), (8, { v := some (.bool false) }), (11, { look := ((mget m (y7.getD t44.toNat default)).map LV.bool), v := some (.bool ((mget m (y7.getD t44.toNat default)).getD default)) }), (13, { v := some (.bool true) })], .reg []])
              (a_ (a_ (a_ (a_ tr (a_ (leB cL0_1) tr)) tr) (a_ (a_ (a_ tr tr) (a_ (a_ (a_ (Eq.refl 1) gL0_2) tr) (a_ (a_ (lt_ 0 1 rfl) tr) (a_ (a_ tr tr) (a_ (a_ tr tr) tr))))) (a_ (a_ (a_ tr tr) (a_ (a_ tr tr) (a_ (a_ tr (a_ (leB cL0_3) tr)) (a_ (a_ tr tr) (a_ (a_ tr tr) (a_ (a_ tr tr) (a_ (a_ tr tr) (a_ (a_ tr tr) (a_ (a_ tr (a_ (leB cL0_4) tr)) (a_ (a_ tr tr) (a_ (a_ tr tr) (a_ (a_ (a_ (Eq.refl true) (findE_enc (LV.int .i64) LV.bool (k_int .i64) m (y7.getD t44.toNat default))) (a_ (le_look LV.bool (mget m (y7.getD t44.toNat default)) default) tr)) (a_ (a_ tr tr) (a_ (a_ tr (a_ (leB cL0_5) tr)) (a_ tr (a_ tr (a_ tr (a_ tr (a_ tr (a_ (a_ tr tr) tr)))))))))))))))))))) (a_ (a_ (a_ tr tr) tr) tr)))) tr) (by kernel_rfl) rfl
          · skip
            obtain ⟨gL0_6, h⟩ := guard_some h
            rcases itb_some h with ⟨cL0_7, h⟩ | ⟨cL0_7, h⟩
            · skip
              obtain rfl := Option.some.inj h
              exact run_ret mixed (L := []) (n := 29) (s := [.go, .reg [(0, { v := some (.bool true) })], .reg [], .reg [(2, { v := some (.bool false) }), (8, { v := some (.bool false) }), (11, { look := ((mget m (y7.getD t44.toNat default)).map LV.bool), v := some (.bool ((mget m (y7.getD t44.toNat default)).getD default)) }), (13, { v := some (.bool false) }), (19, { v := some (.bool true) })], .reg []])
                (a_ (a_ (a_ (a_ tr (a_ (leB cL0_1) tr)) tr) (a_ (a_ (a_ tr tr) (a_ (a_ (a_ (Eq.refl 1) gL0_2) tr) (a_ (a_ (lt_ 0 1 rfl) tr) (a_ (a_ tr tr) (a_ (a_ tr tr) tr))))) (a_ (a_ (a_ tr tr) (a_ (a_ tr tr) (a_ (a_ tr (a_ (leB cL0_3) tr)) (a_ (a_ tr tr) (a_ (a_ tr tr) (a_ (a_ tr tr) (a_ (a_ tr tr) (a_ (a_ tr tr) (a_ (a_ tr (a_ (leB cL0_4) tr)) (a_ (a_ tr tr) (a_ (a_ tr tr) (a_ (a_ (a_ (Eq.refl true) (findE_enc (LV.int .i64) LV.bool (k_int .i64) m (y7.getD t44.toNat default))) (a_ (le_look LV.bool (mget m (y7.getD t44.toNat default)) default) tr)) (a_ (a_ tr tr) (a_ (a_ tr (a_ (leB cL0_5) tr)) (a_ (a_ tr tr) (a_ (a_ tr tr) (a_ (a_ (a_ (Eq.refl 1) gL0_6) tr) (a_ (a_ (lt_ 0 1 rfl) tr) (a_ (a_ tr tr) (a_ (a_ tr (a_ (leB cL0_7) tr)) tr)))))))))))))))))))) (a_ (a_ (a_ tr tr) tr) tr)))) tr) (by kernel_rfl) rfl
            · skip
              obtain ⟨gL0_8, h⟩ := guard_some h
              obtain ⟨gL0_9, h⟩ := guard_some h
              rcases itb_some h with ⟨cL0_10, h⟩ | ⟨cL0_10, h⟩
              · skip
                obtain ⟨gL0_11, h⟩ := guard_some h
                rcases itb_some h with ⟨cL0_12, h⟩ | ⟨cL0_12, h⟩
                · skip
                  obtain ⟨gL0_13, h⟩ := guard_some h
                  rcases itb_some h with ⟨cL0_14, h⟩ | ⟨cL0_14, h⟩
                  · skip
                    rcases itb_some h with ⟨cL0_15, h⟩ | ⟨cL0_15, h⟩
                    · skip
                      obtain rfl := Option.some.inj h
                      exact run_ret mixed (L := []) (n := 44) (s := [.go, .reg [(0, { v := some (.bool true) })], .reg [], .reg [(2, { v := some (.bool false) }), (8, { v := some (.bool false) }), (11, { look := ((mget m (y7.getD t44.toNat default)).map LV.bool), v := some (.bool ((mget m (y7.getD t44.toNat default)).getD default)) }), (13, { v := some (.bool false) }), (19, { v := some (.bool false) })], .reg [(2, { os := [(0, .map false [.int .i64] (encM (LV.int .i64) LV.bool (mset m (y7.getD t44.toNat default) true)))] })], .reg [(5, { os := [(2, .gr 4 ([(y5.getD ((y7.getD t44.toNat default)).toNat default)]).length (rowF c_T_hist_Tx default [(y5.getD ((y7.getD t44.toNat default)).toNat default)]))], v := some (.gs 2 ([(y5.getD ((y7.getD t44.toNat default)).toNat default)]).length) }), (6, { app := 3, os := [(3, .gr 4 ((l2 ++ [(y5.getD ((y7.getD t44.toNat default)).toNat default)])).length (rowF c_T_hist_Tx default (l2 ++ [(y5.getD ((y7.getD t44.toNat default)).toNat default)])))], v := some (.gs 3 ((l2 ++ [(y5.getD ((y7.getD t44.toNat default)).toNat default)])).length) })], .reg [(2, { v := some (.bool true) }), (10, { v := some (.bool true) }), (23, { v := some (.bool true) })], .reg [(2, { v := some (.bool true) })], .reg []])
                        (a_ (a_ (a_ (a_ tr (a_ (leB cL0_1) tr)) tr) (a_ (a_ (a_ tr tr) (a_ (a_ (a_ (Eq.refl 1) gL0_2) tr) (a_ (a_ (lt_ 0 1 rfl) tr) (a_ (a_ tr tr) (a_ (a_ tr tr) tr))))) (a_ (a_ (a_ tr tr) (a_ (a_ tr tr) (a_ (a_ tr (a_ (leB cL0_3) tr)) (a_ (a_ tr tr) (a_ (a_ tr tr) (a_ (a_ tr tr) (a_ (a_ tr tr) (a_ (a_ tr tr) (a_ (a_ tr (a_ (leB cL0_4) tr)) (a_ (a_ tr tr) (a_ (a_ tr tr) (a_ (a_ (a_ (Eq.refl true) (findE_enc (LV.int .i64) LV.bool (k_int .i64) m (y7.getD t44.toNat default))) (a_ (le_look LV.bool (mget m (y7.getD t44.toNat default)) default) tr)) (a_ (a_ tr tr) (a_ (a_ tr (a_ (leB cL0_5) tr)) (a_ (a_ tr tr) (a_ (a_ tr tr) (a_ (a_ (a_ (Eq.refl 1) gL0_6) tr) (a_ (a_ (lt_ 0 1 rfl) tr) (a_ (a_ tr tr) (a_ (a_ tr (a_ (leB cL0_7) tr)) tr)))))))))))))))))))) (a_ (a_ (a_ tr tr) (a_ (a_ tr tr) (a_ (a_ (a_ (Eq.refl true) (Eq.refl true)) (a_ (sub_upd (LV.int .i64) LV.bool (k_int .i64) false [.int .i64] m (y7.getD t44.toNat default) true) tr)) tr))) (a_ (a_ (a_ tr tr) (a_ (a_ tr tr) (a_ (a_ tr tr) (a_ (a_ (a_ (Eq.refl 4) gL0_8) tr) (a_ (a_ (le_ 4 4 rfl) tr) (a_ (a_ (a_ (Eq.refl true) (a_ (Eq.refl 4) (a_ (lt_ 0 4 rfl) (le_ 4 16777216 rfl)))) (a_ (le_sl_gs 2 1 (some 1) rfl) (a_ (sub_lit c_T_hist_Tx default 4 (fun _ => rfl) [(y5.getD ((y7.getD t44.toNat default)).toNat default)]) tr))) (a_ (a_ (a_ (a_ (Eq.refl 4) (Nat.le_refl ([(y5.getD ((y7.getD t44.toNat default)).toNat default)]).length)) (a_ (a_ (lt_ 0 4 rfl) (a_ (lt_ 0 64 rfl) (a_ gL0_9 (a_ (Eq.refl 4) (Eq.refl true))))) (a_ (Eq.refl 4) (Nat.le_refl (l2).length)))) (a_ (le_gs_app 3 l2 [(y5.getD ((y7.getD t44.toNat default)).toNat default)]) (a_ (sub_app c_T_hist_Tx default 4 l2 [(y5.getD ((y7.getD t44.toNat default)).toNat default)]) tr))) (a_ (a_ tr tr) tr)))))))) (a_ (a_ (a_ tr tr) (a_ (a_ tr tr) (a_ (a_ tr (a_ (leB cL0_10) tr)) (a_ (a_ tr tr) (a_ (a_ tr tr) (a_ (a_ (a_ (Eq.refl 4) gL0_11) tr) (a_ (a_ tr tr) (a_ (a_ (a_ (ltN gL0_11) (lt_ 3 4 rfl)) tr) (a_ (a_ tr tr) (a_ (a_ tr tr) (a_ (a_ tr (a_ (leB cL0_12) tr)) (a_ (a_ tr tr) (a_ (a_ tr tr) (a_ (a_ (a_ (Eq.refl 4) gL0_11) tr) (a_ (a_ tr tr) (a_ (a_ (a_ (ltN gL0_11) (lt_ 3 4 rfl)) tr) (a_ (a_ tr tr) (a_ (a_ tr tr) (a_ (a_ tr tr) (a_ (a_ (a_ (Eq.refl 4) gL0_13) tr) (a_ (a_ tr tr) (a_ (a_ (a_ (ltN gL0_13) (lt_ 2 4 rfl)) tr) (a_ (a_ tr tr) (a_ (a_ tr (a_ (leB cL0_14) tr)) tr)))))))))))))))))))))))) (a_ (a_ (a_ tr tr) (a_ (a_ tr tr) (a_ (a_ tr (a_ (leB cL0_15) tr)) tr))) (a_ (a_ (a_ tr tr) tr) tr)))))))) tr) (by kernel_rfl) rfl
                    · skip
                      exact run_to mixed hμ (L := [0, 3]) (n := 45) (s := [.go, .reg [(0, { v := some (.bool true) })], .reg [], .reg [(2, { v := some (.bool false) }), (8, { v := some (.bool false) }), (11, { look := ((mget m (y7.getD t44.toNat default)).map LV.bool), v := some (.bool ((mget m (y7.getD t44.toNat default)).getD default)) }), (13, { v := some (.bool false) }), (19, { v := some (.bool false) })], .reg [(2, { os := [(0, .map false [.int .i64] (encM (LV.int .i64) LV.bool (mset m (y7.getD t44.toNat default) true)))] })], .reg [(5, { os := [(2, .gr 4 ([(y5.getD ((y7.getD t44.toNat default)).toNat default)]).length (rowF c_T_hist_Tx default [(y5.getD ((y7.getD t44.toNat default)).toNat default)]))], v := some (.gs 2 ([(y5.getD ((y7.getD t44.toNat default)).toNat default)]).length) }), (6, { app := 3, os := [(3, .gr 4 ((l2 ++ [(y5.getD ((y7.getD t44.toNat default)).toNat default)])).length (rowF c_T_hist_Tx default (l2 ++ [(y5.getD ((y7.getD t44.toNat default)).toNat default)])))], v := some (.gs 3 ((l2 ++ [(y5.getD ((y7.getD t44.toNat default)).toNat default)])).length) })], .reg [(2, { v := some (.bool true) }), (10, { v := some (.bool true) }), (23, { v := some (.bool true) })], .reg [(2, { v := some (.bool false) })], .reg []])
                        (a_ (a_ (a_ tr (a_ (leB cL0_1) tr)) tr) (a_ (a_ (a_ tr tr) (a_ (a_ (a_ (Eq.refl 1) gL0_2) tr) (a_ (a_ (lt_ 0 1 rfl) tr) (a_ (a_ tr tr) (a_ (a_ tr tr) tr))))) (a_ (a_ (a_ tr tr) (a_ (a_ tr tr) (a_ (a_ tr (a_ (leB cL0_3) tr)) (a_ (a_ tr tr) (a_ (a_ tr tr) (a_ (a_ tr tr) (a_ (a_ tr tr) (a_ (a_ tr tr) (a_ (a_ tr (a_ (leB cL0_4) tr)) (a_ (a_ tr tr) (a_ (a_ tr tr) (a_ (a_ (a_ (Eq.refl true) (findE_enc (LV.int .i64) LV.bool (k_int .i64) m (y7.getD t44.toNat default))) (a_ (le_look LV.bool (mget m (y7.getD t44.toNat default)) default) tr)) (a_ (a_ tr tr) (a_ (a_ tr (a_ (leB cL0_5) tr)) (a_ (a_ tr tr) (a_ (a_ tr tr) (a_ (a_ (a_ (Eq.refl 1) gL0_6) tr) (a_ (a_ (lt_ 0 1 rfl) tr) (a_ (a_ tr tr) (a_ (a_ tr (a_ (leB cL0_7) tr)) tr)))))))))))))))))))) (a_ (a_ (a_ tr tr) (a_ (a_ tr tr) (a_ (a_ (a_ (Eq.refl true) (Eq.refl true)) (a_ (sub_upd (LV.int .i64) LV.bool (k_int .i64) false [.int .i64] m (y7.getD t44.toNat default) true) tr)) tr))) (a_ (a_ (a_ tr tr) (a_ (a_ tr tr) (a_ (a_ tr tr) (a_ (a_ (a_ (Eq.refl 4) gL0_8) tr) (a_ (a_ (le_ 4 4 rfl) tr) (a_ (a_ (a_ (Eq.refl true) (a_ (Eq.refl 4) (a_ (lt_ 0 4 rfl) (le_ 4 16777216 rfl)))) (a_ (le_sl_gs 2 1 (some 1) rfl) (a_ (sub_lit c_T_hist_Tx default 4 (fun _ => rfl) [(y5.getD ((y7.getD t44.toNat default)).toNat default)]) tr))) (a_ (a_ (a_ (a_ (Eq.refl 4) (Nat.le_refl ([(y5.getD ((y7.getD t44.toNat default)).toNat default)]).length)) (a_ (a_ (lt_ 0 4 rfl) (a_ (lt_ 0 64 rfl) (a_ gL0_9 (a_ (Eq.refl 4) (Eq.refl true))))) (a_ (Eq.refl 4) (Nat.le_refl (l2).length)))) (a_ (le_gs_app 3 l2 [(y5.getD ((y7.getD t44.toNat default)).toNat default)]) (a_ (sub_app c_T_hist_Tx default 4 l2 [(y5.getD ((y7.getD t44.toNat default)).toNat default)]) tr))) (a_ (a_ tr tr) tr)))))))) (a_ (a_ (a_ tr tr) (a_ (a_ tr tr) (a_ (a_ tr (a_ (leB cL0_10) tr)) (a_ (a_ tr tr) (a_ (a_ tr tr) (a_ (a_ (a_ (Eq.refl 4) gL0_11) tr) (a_ (a_ tr tr) (a_ (a_ (a_ (ltN gL0_11) (lt_ 3 4 rfl)) tr) (a_ (a_ tr tr) (a_ (a_ tr tr) (a_ (a_ tr (a_ (leB cL0_12) tr)) (a_ (a_ tr tr) (a_ (a_ tr tr) (a_ (a_ (a_ (Eq.refl 4) gL0_11) tr) (a_ (a_ tr tr) (a_ (a_ (a_ (ltN gL0_11) (lt_ 3 4 rfl)) tr) (a_ (a_ tr tr) (a_ (a_ tr tr) (a_ (a_ tr tr) (a_ (a_ (a_ (Eq.refl 4) gL0_13) tr) (a_ (a_ tr tr) (a_ (a_ (a_ (ltN gL0_13) (lt_ 2 4 rfl)) tr) (a_ (a_ tr tr) (a_ (a_ tr (a_ (leB cL0_14) tr)) tr)))))))))))))))))))))))) (a_ (a_ (a_ tr tr) (a_ (a_ tr tr) (a_ (a_ tr (a_ (leB cL0_15) tr)) tr))) (a_ (a_ (a_ tr tr) (a_ (a_ tr tr) tr)) tr)))))))) (ih _ _ _ r h) (by kernel_rfl) ⟨trivial, fun _ _ => rfl, trivial⟩
                  · skip
                    exact run_to mixed hμ (L := [0, 3]) (n := 41) (s := [.go, .reg [(0, { v := some (.bool true) })], .reg [], .reg [(2, { v := some (.bool false) }), (8, { v := some (.bool false) }), (11, { look := ((mget m (y7.getD t44.toNat default)).map LV.bool), v := some (.bool ((mget m (y7.getD t44.toNat default)).getD default)) }), (13, { v := some (.bool false) }), (19, { v := some (.bool false) })], .reg [(2, { os := [(0, .map false [.int .i64] (encM (LV.int .i64) LV.bool (mset m (y7.getD t44.toNat default) true)))] })], .reg [(5, { os := [(2, .gr 4 ([(y5.getD ((y7.getD t44.toNat default)).toNat default)]).length (rowF c_T_hist_Tx default [(y5.getD ((y7.getD t44.toNat default)).toNat default)]))], v := some (.gs 2 ([(y5.getD ((y7.getD t44.toNat default)).toNat default)]).length) }), (6, { app := 3, os := [(3, .gr 4 ((l2 ++ [(y5.getD ((y7.getD t44.toNat default)).toNat default)])).length (rowF c_T_hist_Tx default (l2 ++ [(y5.getD ((y7.getD t44.toNat default)).toNat default)])))], v := some (.gs 3 ((l2 ++ [(y5.getD ((y7.getD t44.toNat default)).toNat default)])).length) })], .reg [(2, { v := some (.bool true) }), (10, { v := some (.bool true) }), (23, { v := some (.bool false) })], .reg []])
                      (a_ (a_ (a_ tr (a_ (leB cL0_1) tr)) tr) (a_ (a_ (a_ tr tr) (a_ (a_ (a_ (Eq.refl 1) gL0_2) tr) (a_ (a_ (lt_ 0 1 rfl) tr) (a_ (a_ tr tr) (a_ (a_ tr tr) tr))))) (a_ (a_ (a_ tr tr) (a_ (a_ tr tr) (a_ (a_ tr (a_ (leB cL0_3) tr)) (a_ (a_ tr tr) (a_ (a_ tr tr) (a_ (a_ tr tr) (a_ (a_ tr tr) (a_ (a_ tr tr) (a_ (a_ tr (a_ (leB cL0_4) tr)) (a_ (a_ tr tr) (a_ (a_ tr tr) (a_ (a_ (a_ (Eq.refl true) (findE_enc (LV.int .i64) LV.bool (k_int .i64) m (y7.getD t44.toNat default))) (a_ (le_look LV.bool (mget m (y7.getD t44.toNat default)) default) tr)) (a_ (a_ tr tr) (a_ (a_ tr (a_ (leB cL0_5) tr)) (a_ (a_ tr tr) (a_ (a_ tr tr) (a_ (a_ (a_ (Eq.refl 1) gL0_6) tr) (a_ (a_ (lt_ 0 1 rfl) tr) (a_ (a_ tr tr) (a_ (a_ tr (a_ (leB cL0_7) tr)) tr)))))))))))))))))))) (a_ (a_ (a_ tr tr) (a_ (a_ tr tr) (a_ (a_ (a_ (Eq.refl true) (Eq.refl true)) (a_ (sub_upd (LV.int .i64) LV.bool (k_int .i64) false [.int .i64] m (y7.getD t44.toNat default) true) tr)) tr))) (a_ (a_ (a_ tr tr) (a_ (a_ tr tr) (a_ (a_ tr tr) (a_ (a_ (a_ (Eq.refl 4) gL0_8) tr) (a_ (a_ (le_ 4 4 rfl) tr) (a_ (a_ (a_ (Eq.refl true) (a_ (Eq.refl 4) (a_ (lt_ 0 4 rfl) (le_ 4 16777216 rfl)))) (a_ (le_sl_gs 2 1 (some 1) rfl) (a_ (sub_lit c_T_hist_Tx default 4 (fun _ => rfl) [(y5.getD ((y7.getD t44.toNat default)).toNat default)]) tr))) (a_ (a_ (a_ (a_ (Eq.refl 4) (Nat.le_refl ([(y5.getD ((y7.getD t44.toNat default)).toNat default)]).length)) (a_ (a_ (lt_ 0 4 rfl) (a_ (lt_ 0 64 rfl) (a_ gL0_9 (a_ (Eq.refl 4) (Eq.refl true))))) (a_ (Eq.refl 4) (Nat.le_refl (l2).length)))) (a_ (le_gs_app 3 l2 [(y5.getD ((y7.getD t44.toNat default)).toNat default)]) (a_ (sub_app c_T_hist_Tx default 4 l2 [(y5.getD ((y7.getD t44.toNat default)).toNat default)]) tr))) (a_ (a_ tr tr) tr)))))))) (a_ (a_ (a_ tr tr) (a_ (a_ tr tr) (a_ (a_ tr (a_ (leB cL0_10) tr)) (a_ (a_ tr tr) (a_ (a_ tr tr) (a_ (a_ (a_ (Eq.refl 4) gL0_11) tr) (a_ (a_ tr tr) (a_ (a_ (a_ (ltN gL0_11) (lt_ 3 4 rfl)) tr) (a_ (a_ tr tr) (a_ (a_ tr tr) (a_ (a_ tr (a_ (leB cL0_12) tr)) (a_ (a_ tr tr) (a_ (a_ tr tr) (a_ (a_ (a_ (Eq.refl 4) gL0_11) tr) (a_ (a_ tr tr) (a_ (a_ (a_ (ltN gL0_11) (lt_ 3 4 rfl)) tr) (a_ (a_ tr tr) (a_ (a_ tr tr) (a_ (a_ tr tr) (a_ (a_ (a_ (Eq.refl 4) gL0_13) tr) (a_ (a_ tr tr) (a_ (a_ (a_ (ltN gL0_13) (lt_ 2 4 rfl)) tr) (a_ (a_ tr tr) (a_ (a_ tr (a_ (leB cL0_14) tr)) tr)))))))))))))))))))))))) (a_ (a_ (a_ tr tr) (a_ (a_ tr tr) tr)) tr))))))) (ih _ _ _ r h) (by kernel_rfl) ⟨trivial, fun _ _ => rfl, trivial⟩
                · skip
                  exact run_to mixed hμ (L := [0, 3]) (n := 41) (s := [.go, .reg [(0, { v := some (.bool true) })], .reg [], .reg [(2, { v := some (.bool false) }), (8, { v := some (.bool false) }), (11, { look := ((mget m (y7.getD t44.toNat default)).map LV.bool), v := some (.bool ((mget m (y7.getD t44.toNat default)).getD default)) }), (13, { v := some (.bool false) }), (19, { v := some (.bool false) })], .reg [(2, { os := [(0, .map false [.int .i64] (encM (LV.int .i64) LV.bool (mset m (y7.getD t44.toNat default) true)))] })], .reg [(5, { os := [(2, .gr 4 ([(y5.getD ((y7.getD t44.toNat default)).toNat default)]).length (rowF c_T_hist_Tx default [(y5.getD ((y7.getD t44.toNat default)).toNat default)]))], v := some (.gs 2 ([(y5.getD ((y7.getD t44.toNat default)).toNat default)]).length) }), (6, { app := 3, os := [(3, .gr 4 ((l2 ++ [(y5.getD ((y7.getD t44.toNat default)).toNat default)])).length (rowF c_T_hist_Tx default (l2 ++ [(y5.getD ((y7.getD t44.toNat default)).toNat default)])))], v := some (.gs 3 ((l2 ++ [(y5.getD ((y7.getD t44.toNat default)).toNat default)])).length) })], .reg [(2, { v := some (.bool true) }), (10, { v := some (.bool false) })], .reg []])
                    (a_ (a_ (a_ tr (a_ (leB cL0_1) tr)) tr) (a_ (a_ (a_ tr tr) (a_ (a_ (a_ (Eq.refl 1) gL0_2) tr) (a_ (a_ (lt_ 0 1 rfl) tr) (a_ (a_ tr tr) (a_ (a_ tr tr) tr))))) (a_ (a_ (a_ tr tr) (a_ (a_ tr tr) (a_ (a_ tr (a_ (leB cL0_3) tr)) (a_ (a_ tr tr) (a_ (a_ tr tr) (a_ (a_ tr tr) (a_ (a_ tr tr) (a_ (a_ tr tr) (a_ (a_ tr (a_ (leB cL0_4) tr)) (a_ (a_ tr tr) (a_ (a_ tr tr) (a_ (a_ (a_ (Eq.refl true) (findE_enc (LV.int .i64) LV.bool (k_int .i64) m (y7.getD t44.toNat default))) (a_ (le_look LV.bool (mget m (y7.getD t44.toNat default)) default) tr)) (a_ (a_ tr tr) (a_ (a_ tr (a_ (leB cL0_5) tr)) (a_ (a_ tr tr) (a_ (a_ tr tr) (a_ (a_ (a_ (Eq.refl 1) gL0_6) tr) (a_ (a_ (lt_ 0 1 rfl) tr) (a_ (a_ tr tr) (a_ (a_ tr (a_ (leB cL0_7) tr)) tr)))))))))))))))))))) (a_ (a_ (a_ tr tr) (a_ (a_ tr tr) (a_ (a_ (a_ (Eq.refl true) (Eq.refl true)) (a_ (sub_upd (LV.int .i64) LV.bool (k_int .i64) false [.int .i64] m (y7.getD t44.toNat default) true) tr)) tr))) (a_ (a_ (a_ tr tr) (a_ (a_ tr tr) (a_ (a_ tr tr) (a_ (a_ (a_ (Eq.refl 4) gL0_8) tr) (a_ (a_ (le_ 4 4 rfl) tr) (a_ (a_ (a_ (Eq.refl true) (a_ (Eq.refl 4) (a_ (lt_ 0 4 rfl) (le_ 4 16777216 rfl)))) (a_ (le_sl_gs 2 1 (some 1) rfl) (a_ (sub_lit c_T_hist_Tx default 4 (fun _ => rfl) [(y5.getD ((y7.getD t44.toNat default)).toNat default)]) tr))) (a_ (a_ (a_ (a_ (Eq.refl 4) (Nat.le_refl ([(y5.getD ((y7.getD t44.toNat default)).toNat default)]).length)) (a_ (a_ (lt_ 0 4 rfl) (a_ (lt_ 0 64 rfl) (a_ gL0_9 (a_ (Eq.refl 4) (Eq.refl true))))) (a_ (Eq.refl 4) (Nat.le_refl (l2).length)))) (a_ (le_gs_app 3 l2 [(y5.getD ((y7.getD t44.toNat default)).toNat default)]) (a_ (sub_app c_T_hist_Tx default 4 l2 [(y5.getD ((y7.getD t44.toNat default)).toNat default)]) tr))) (a_ (a_ tr tr) tr)))))))) (a_ (a_ (a_ tr tr) (a_ (a_ tr tr) (a_ (a_ tr (a_ (leB cL0_10) tr)) (a_ (a_ tr tr) (a_ (a_ tr tr) (a_ (a_ (a_ (Eq.refl 4) gL0_11) tr) (a_ (a_ tr tr) (a_ (a_ (a_ (ltN gL0_11) (lt_ 3 4 rfl)) tr) (a_ (a_ tr tr) (a_ (a_ tr tr) (a_ (a_ tr (a_ (leB cL0_12) tr)) (a_ tr (a_ tr (a_ tr (a_ tr (a_ tr (a_ tr (a_ tr (a_ tr (a_ tr (a_ tr (a_ tr (a_ tr (a_ (a_ tr tr) tr)))))))))))))))))))))))) (a_ (a_ (a_ tr tr) (a_ (a_ tr tr) tr)) tr))))))) (ih _ _ _ r h) (by kernel_rfl) ⟨trivial, fun _ _ => rfl, trivial⟩
              · skip
                exact run_to mixed hμ (L := [0, 3]) (n := 41) (s := [.go, .reg [(0, { v := some (.bool true) })], .reg [], .reg [(2, { v := some (.bool false) }), (8, { v := some (.bool false) }), (11, { look := ((mget m (y7.getD t44.toNat default)).map LV.bool), v := some (.bool ((mget m (y7.getD t44.toNat default)).getD default)) }), (13, { v := some (.bool false) }), (19, { v := some (.bool false) })], .reg [(2, { os := [(0, .map false [.int .i64] (encM (LV.int .i64) LV.bool (mset m (y7.getD t44.toNat default) true)))] })], .reg [(5, { os := [(2, .gr 4 ([(y5.getD ((y7.getD t44.toNat default)).toNat default)]).length (rowF c_T_hist_Tx default [(y5.getD ((y7.getD t44.toNat default)).toNat default)]))], v := some (.gs 2 ([(y5.getD ((y7.getD t44.toNat default)).toNat default)]).length) }), (6, { app := 3, os := [(3, .gr 4 ((l2 ++ [(y5.getD ((y7.getD t44.toNat default)).toNat default)])).length (rowF c_T_hist_Tx default (l2 ++ [(y5.getD ((y7.getD t44.toNat default)).toNat default)])))], v := some (.gs 3 ((l2 ++ [(y5.getD ((y7.getD t44.toNat default)).toNat default)])).length) })], .reg [(2, { v := some (.bool false) })], .reg []])
                  (a_ (a_ (a_ tr (a_ (leB cL0_1) tr)) tr) (a_ (a_ (a_ tr tr) (a_ (a_ (a_ (Eq.refl 1) gL0_2) tr) (a_ (a_ (lt_ 0 1 rfl) tr) (a_ (a_ tr tr) (a_ (a_ tr tr) tr))))) (a_ (a_ (a_ tr tr) (a_ (a_ tr tr) (a_ (a_ tr (a_ (leB cL0_3) tr)) (a_ (a_ tr tr) (a_ (a_ tr tr) (a_ (a_ tr tr) (a_ (a_ tr tr) (a_ (a_ tr tr) (a_ (a_ tr (a_ (leB cL0_4) tr)) (a_ (a_ tr tr) (a_ (a_ tr tr) (a_ (a_ (a_ (Eq.refl true) (findE_enc (LV.int .i64) LV.bool (k_int .i64) m (y7.getD t44.toNat default))) (a_ (le_look LV.bool (mget m (y7.getD t44.toNat default)) default) tr)) (a_ (a_ tr tr) (a_ (a_ tr (a_ (leB cL0_5) tr)) (a_ (a_ tr tr) (a_ (a_ tr tr) (a_ (a_ (a_ (Eq.refl 1) gL0_6) tr) (a_ (a_ (lt_ 0 1 rfl) tr) (a_ (a_ tr tr) (a_ (a_ tr (a_ (leB cL0_7) tr)) tr)))))))))))))))))))) (a_ (a_ (a_ tr tr) (a_ (a_ tr tr) (a_ (a_ (a_ (Eq.refl true) (Eq.refl true)) (a_ (sub_upd (LV.int .i64) LV.bool (k_int .i64) false [.int .i64] m (y7.getD t44.toNat default) true) tr)) tr))) (a_ (a_ (a_ tr tr) (a_ (a_ tr tr) (a_ (a_ tr tr) (a_ (a_ (a_ (Eq.refl 4) gL0_8) tr) (a_ (a_ (le_ 4 4 rfl) tr) (a_ (a_ (a_ (Eq.refl true) (a_ (Eq.refl 4) (a_ (lt_ 0 4 rfl) (le_ 4 16777216 rfl)))) (a_ (le_sl_gs 2 1 (some 1) rfl) (a_ (sub_lit c_T_hist_Tx default 4 (fun _ => rfl) [(y5.getD ((y7.getD t44.toNat default)).toNat default)]) tr))) (a_ (a_ (a_ (a_ (Eq.refl 4) (Nat.le_refl ([(y5.getD ((y7.getD t44.toNat default)).toNat default)]).length)) (a_ (a_ (lt_ 0 4 rfl) (a_ (lt_ 0 64 rfl) (a_ gL0_9 (a_ (Eq.refl 4) (Eq.refl true))))) (a_ (Eq.refl 4) (Nat.le_refl (l2).length)))) (a_ (le_gs_app 3 l2 [(y5.getD ((y7.getD t44.toNat default)).toNat default)]) (a_ (sub_app c_T_hist_Tx default 4 l2 [(y5.getD ((y7.getD t44.toNat default)).toNat default)]) tr))) (a_ (a_ tr tr) tr)))))))) (a_ (a_ (a_ tr tr) (a_ (a_ tr tr) (a_ (a_ tr (a_ (leB cL0_10) tr)) (a_ tr (a_ tr (a_ tr (a_ tr (a_ tr (a_ tr (a_ (a_ tr tr) (a_ (a_ tr tr) (a_ tr (a_ tr (a_ tr (a_ tr (a_ tr (a_ tr (a_ tr (a_ tr (a_ tr (a_ tr (a_ tr (a_ tr (a_ (a_ tr tr) tr)))))))))))))))))))))))) (a_ (a_ (a_ tr tr) (a_ (a_ tr tr) tr)) tr))))))) (ih _ _ _ r h) (by kernel_rfl) ⟨trivial, fun _ _ => rfl, trivial⟩
    · skip
      rcases itb_some h with ⟨cL0_2, h⟩ | ⟨cL0_2, h⟩
      · skip
        obtain rfl := Option.some.inj h
        exact run_ret mixed (L := []) (n := 24) (s := [.go, .reg [(0, { v := some (.bool false) })], .reg [(2, { v := some (.bool true) })], .reg []])
          (a_ (a_ (a_ (a_ tr (a_ (leB cL0_1) tr)) tr) (a_ (a_ (a_ tr tr) (a_ (a_ tr tr) (a_ (a_ tr (a_ (leB cL0_2) tr)) tr))) (a_ (a_ (a_ tr tr) tr) tr))) tr) (by kernel_rfl) rfl
      · skip
        exact run_to mixed hμ (L := [1]) (n := 28) (s := [.go, .reg [(0, { v := some (.bool false) })], .reg [(2, { v := some (.bool false) })], .reg []])
          (a_ (a_ (a_ tr (a_ (leB cL0_1) tr)) tr) (a_ (a_ (a_ tr tr) (a_ (a_ tr tr) (a_ (a_ tr (a_ (leB cL0_2) tr)) tr))) (a_ (a_ (a_ tr tr) (a_ (a_ tr tr) (a_ (a_ tr tr) tr))) tr))) (parrellaw26_HistCircle_l1_ok hμ l2  big _ r h) (by kernel_rfl) ⟨fun _ _ => rfl, trivial⟩

theorem parrellaw26_HistCircle_ok (l : List (T_parrelref26_Tx)) (r : (Bool)) (h : parrellaw26_HistCircle l = some r) : ∀ σ, Inj 0 σ → FnTri Try.prog 7 (renL σ [.ds 4 (l).length (rowF c_T_parrelref26_Tx default l)]) (preOf σ 0 []) ((parrellaw26_HistCircle_v r).ren σ) (upOf σ []) := by
  refine fn_of Try.func7 (by kernel_rfl) (by kernel_rfl) (by kernel_rfl) trivial (by kernel_rfl) trivial (by kernel_rfl) ?_
  intro w0 W μ0 hμ
  unfold parrellaw26_HistCircle at h
  obtain ⟨y2, e1, h⟩ := bind_some h
  rcases itb_some h with ⟨c3, h⟩ | ⟨c3, h⟩
  · skip
    obtain ⟨y5, e4, h⟩ := bind_some h
    obtain rfl := Option.some.inj h
    exact run_ret mixed (L := []) (n := 20) (s := [.reg [], .reg [(1, { call := some (parrellaw26_far_v y2, [], []), v := some (.bool true) })], .reg [(0, { call := some (parrellaw26_alive_v y5, [], []) })]])
      (a_ (a_ (a_ (a_ tr tr) tr) (a_ (a_ (a_ tr tr) (a_ (a_ (a_ (parrellaw26_far_tri l y2 e1) tr) (a_ (leB c3) tr)) tr)) (a_ (a_ (a_ (a_ (parrellaw26_alive_tri  y5 e4) tr) tr) (a_ (a_ tr tr) tr)) tr))) tr) (by kernel_rfl) rfl
  · skip
    obtain ⟨y5, e4, h⟩ := bind_some h
    obtain ⟨y7, e6, h⟩ := bind_some h
    obtain ⟨y9, e8, h⟩ := bind_some h
    rcases itb_some h with ⟨c10, h⟩ | ⟨c10, h⟩
    · skip
      obtain rfl := Option.some.inj h
      exact run_ret mixed (L := []) (n := 35) (s := [.reg [], .reg [(1, { call := some (parrellaw26_far_v y2, [], []), v := some (.bool false) })], .reg [(1, { call := some (parrellaw26_theirs_v y5, [], []) })], .reg [(1, { call := some (hist_Circle_v y7, [], []) })], .reg [(1, { call := some (hist_Order_v y9, [], []) })], .reg [(5, { v := some (.bool true) })], .reg []])
        (a_ (a_ (a_ (a_ tr tr) tr) (a_ (a_ (a_ tr tr) (a_ (a_ (a_ (parrellaw26_far_tri l y2 e1) tr) (a_ (leB c3) tr)) tr)) (a_ (a_ (a_ tr tr) (a_ (a_ (a_ (parrellaw26_theirs_tri l y5 e4) tr) tr) (a_ (a_ tr tr) tr))) (a_ (a_ (a_ tr tr) (a_ (a_ (a_ (hist_Circle_tri y5 y7 e6) tr) tr) (a_ (a_ tr tr) tr))) (a_ (a_ (a_ tr tr) (a_ (a_ (a_ (hist_Order_tri y5 y9 e8) tr) tr) (a_ (a_ tr tr) (a_ (a_ tr tr) (a_ (a_ tr tr) (a_ (a_ tr tr) (a_ (a_ tr tr) tr))))))) (a_ (a_ (a_ tr tr) (a_ (a_ tr tr) (a_ (a_ tr tr) (a_ (a_ tr tr) (a_ (a_ tr tr) (a_ (a_ tr (a_ (leB c10) tr)) tr)))))) (a_ (a_ (a_ tr tr) tr) tr))))))) tr) (by kernel_rfl) rfl
    · skip
      rcases itb_some h with ⟨c11, h⟩ | ⟨c11, h⟩
      · skip
        obtain ⟨y13, e12, h⟩ := bind_some h
        obtain rfl := Option.some.inj h
        exact run_ret mixed (L := []) (n := 41) (s := [.reg [], .reg [(1, { call := some (parrellaw26_far_v y2, [], []), v := some (.bool false) })], .reg [(1, { call := some (parrellaw26_theirs_v y5, [], []) })], .reg [(1, { call := some (hist_Circle_v y7, [], []) })], .reg [(1, { call := some (hist_Order_v y9, [], []) })], .reg [(5, { v := some (.bool false) })], .reg [(2, { v := some (.bool true) })], .reg [(0, { call := some (parrellaw26_alive_v y13, [], []) })]])
          (a_ (a_ (a_ (a_ tr tr) tr) (a_ (a_ (a_ tr tr) (a_ (a_ (a_ (parrellaw26_far_tri l y2 e1) tr) (a_ (leB c3) tr)) tr)) (a_ (a_ (a_ tr tr) (a_ (a_ (a_ (parrellaw26_theirs_tri l y5 e4) tr) tr) (a_ (a_ tr tr) tr))) (a_ (a_ (a_ tr tr) (a_ (a_ (a_ (hist_Circle_tri y5 y7 e6) tr) tr) (a_ (a_ tr tr) tr))) (a_ (a_ (a_ tr tr) (a_ (a_ (a_ (hist_Order_tri y5 y9 e8) tr) tr) (a_ (a_ tr tr) (a_ (a_ tr tr) (a_ (a_ tr tr) (a_ (a_ tr tr) (a_ (a_ tr tr) tr))))))) (a_ (a_ (a_ tr tr) (a_ (a_ tr tr) (a_ (a_ tr tr) (a_ (a_ tr tr) (a_ (a_ tr tr) (a_ (a_ tr (a_ (leB c10) tr)) tr)))))) (a_ (a_ (a_ tr tr) (a_ (a_ tr tr) (a_ (a_ tr (a_ (leB c11) tr)) tr))) (a_ (a_ (a_ (a_ (parrellaw26_alive_tri  y13 e12) tr) tr) (a_ (a_ tr tr) tr)) tr)))))))) tr) (by kernel_rfl) rfl
      · skip
        exact run_to mixed hμ (L := [0, 1]) (n := 52) (s := [.reg [], .reg [(1, { call := some (parrellaw26_far_v y2, [], []), v := some (.bool false) })], .reg [(1, { call := some (parrellaw26_theirs_v y5, [], []) })], .reg [(1, { call := some (hist_Circle_v y7, [], []) })], .reg [(1, { call := some (hist_Order_v y9, [], []) })], .reg [(5, { v := some (.bool false) })], .reg [(2, { v := some (.bool false) })], .reg [], .void (.gr 4 (([] : List (T_hist_Tx))).length (rowF c_T_hist_Tx default ([] : List (T_hist_Tx)))), .reg [(0, { v := some (.gs 1 (([] : List (T_hist_Tx))).length) })], .reg []])
          (a_ (a_ (a_ tr tr) tr) (a_ (a_ (a_ tr tr) (a_ (a_ (a_ (parrellaw26_far_tri l y2 e1) tr) (a_ (leB c3) tr)) tr)) (a_ (a_ (a_ tr tr) (a_ (a_ (a_ (parrellaw26_theirs_tri l y5 e4) tr) tr) (a_ (a_ tr tr) tr))) (a_ (a_ (a_ tr tr) (a_ (a_ (a_ (hist_Circle_tri y5 y7 e6) tr) tr) (a_ (a_ tr tr) tr))) (a_ (a_ (a_ tr tr) (a_ (a_ (a_ (hist_Order_tri y5 y9 e8) tr) tr) (a_ (a_ tr tr) (a_ (a_ tr tr) (a_ (a_ tr tr) (a_ (a_ tr tr) (a_ (a_ tr tr) tr))))))) (a_ (a_ (a_ tr tr) (a_ (a_ tr tr) (a_ (a_ tr tr) (a_ (a_ tr tr) (a_ (a_ tr tr) (a_ (a_ tr (a_ (leB c10) tr)) tr)))))) (a_ (a_ (a_ tr tr) (a_ (a_ tr tr) (a_ (a_ tr (a_ (leB c11) tr)) tr))) (a_ (a_ (a_ tr tr) (a_ (a_ tr tr) tr)) (a_ (Eq.refl 0) (a_ (a_ (a_ tr (a_ (le_nil_gs 1) tr)) tr) (a_ (a_ (a_ tr tr) (a_ (a_ tr tr) (a_ (a_ tr tr) tr))) tr))))))))))) (parrellaw26_HistCircle_l0_ok hμ l y5 y7  big _ _ _ r h) (by kernel_rfl) ⟨trivial, fun _ _ => rfl, trivial⟩

theorem parrellaw26_HistCircle_tri (l : List (T_parrelref26_Tx)) (r : (Bool)) (h : parrellaw26_HistCircle l = some r) : FnTri Try.prog 7 [.ds 4 (l).length (rowF c_T_parrelref26_Tx default l)] [] (parrellaw26_HistCircle_v r) [] := FnTri.none (parrellaw26_HistCircle_ok l r h) rfl rfl

end Go.Proofs.Ytofkaccoofafmaa.Wk
