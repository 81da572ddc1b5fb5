/- Printed by tr.py: Go functions as Lean functions, with the proofs that they walk so. -/
import Derived.Test.YtfjdnnoflmpdeaaDoorStagWc
namespace Go.Proofs.YtfjdnnoflmpdeaaDoor.Wk
open Go Go.Cn Go.RowKit
set_option maxRecDepth 100000
set_option maxHeartbeats 4000000
set_option linter.unusedVariables false
set_option linter.unusedSimpArgs false
noncomputable section
/-- parrel/parrelref05.count -/

def parrelref05_count_v (r : (Bool)) : LV := .bool r

def parrelref05_count (x_n : Int) : Option ((Bool)) :=
  if ((decide (1 ≤ x_n)) : Bool) then
    some (decide (x_n ≤ 2147483647))
  else
    some false

theorem parrelref05_count_ok (x_n : Int) (r : (Bool)) (h : parrelref05_count x_n = some r) : ∀ σ, Inj 0 σ → FnTri Tryd.prog 45 (renL σ [.int .u32 x_n]) (preOf σ 0 []) ((parrelref05_count_v r).ren σ) (upOf σ []) := by
  refine fn_of Tryd.func45 (by kernel_rfl) (by kernel_rfl) (by kernel_rfl) trivial (by kernel_rfl) trivial (by kernel_rfl) ?_
  intro w0 W μ0 hμ
  unfold parrelref05_count at h
  rcases itb_some h with ⟨c1, h⟩ | ⟨c1, h⟩
  · skip
    obtain rfl := Option.some.inj h
    exact run_ret mixed (L := []) (n := 15) (s := [.reg [], .reg [(2, { v := some (.bool true) })]])
      (a_ (a_ (r1_ tr) (a_ (r2_ (a_ (a_ tr (a_ (leB c1) tr)) (r4_ tr))) tr)) tr) (by as_aux_lemma => kernel_rfl) rfl
  · skip
    obtain rfl := Option.some.inj h
    exact run_ret mixed (L := []) (n := 15) (s := [.reg [], .reg [(2, { v := some (.bool false) })]])
      (a_ (a_ (r1_ tr) (a_ (r2_ (a_ (a_ tr (a_ (leB c1) tr)) (t2_ (r2_ tr)))) tr)) tr) (by as_aux_lemma => kernel_rfl) rfl

theorem parrelref05_count_tri (x_n : Int) (r : (Bool)) (h : parrelref05_count x_n = some r) : FnTri Tryd.prog 45 [.int .u32 x_n] [] (parrelref05_count_v r) [] := FnTri.none (parrelref05_count_ok x_n r h) rfl rfl

/-- parrel/parrelref05.TxMay -/

def parrelref05_TxMay_v (r : (Bool)) : LV := .bool r

def parrelref05_TxMay (t : T_api_Tx) : Option ((Bool)) :=
  if ((decide (t.f_Node < 8)) : Bool) then
    (parrelref05_count t.f_Boot).bind fun y3 =>
    if (y3 : Bool) then
      (parrelref05_count t.f_Num).bind fun y6 =>
      some y6
    else
      some false
  else
    some false

theorem parrelref05_TxMay_ok (t : T_api_Tx) (r : (Bool)) (h : parrelref05_TxMay t = some r) : ∀ σ, Inj 0 σ → FnTri Tryd.prog 32 (renL σ [v_T_api_Tx t]) (preOf σ 0 []) ((parrelref05_TxMay_v r).ren σ) (upOf σ []) := by
  refine fn_of Tryd.func32 (by kernel_rfl) (by kernel_rfl) (by kernel_rfl) trivial (by kernel_rfl) trivial (by kernel_rfl) ?_
  intro w0 W μ0 hμ
  unfold parrelref05_TxMay at h
  rcases itb_some h with ⟨c1, h⟩ | ⟨c1, h⟩
  · skip
    obtain ⟨y3, e2, h⟩ := bind_some h
    rcases itb_some h with ⟨c4, h⟩ | ⟨c4, h⟩
    · skip
      obtain ⟨y6, e5, h⟩ := bind_some h
      obtain rfl := Option.some.inj h
      exact run_ret mixed (L := []) (n := 15) (s := [.reg [], .reg [(3, { v := some (.bool true) }), (6, { call := some (parrelref05_count_v y3, [], []) }), (8, { v := some (.bool true) }), (11, { call := some (parrelref05_count_v y6, [], []) })]])
        (a_ (a_ (r2_ tr) (a_ (r1_ (a_ (a_ (a_ tr (lt_ 0 3 rfl)) tr) (r1_ (a_ (a_ tr (a_ (leB c1) tr)) (r1_ (a_ (a_ (a_ tr (lt_ 1 3 rfl)) tr) (a_ (a_ (a_ (parrelref05_count_tri t.f_Boot y3 e2) tr) tr) (r1_ (a_ (a_ tr (a_ (leB c4) tr)) (r1_ (a_ (a_ (a_ tr (lt_ 2 3 rfl)) tr) (a_ (a_ (a_ (parrelref05_count_tri t.f_Num y6 e5) tr) tr) (r2_ tr))))))))))))) tr)) tr) (by as_aux_lemma => kernel_rfl) rfl
    · skip
      obtain rfl := Option.some.inj h
      exact run_ret mixed (L := []) (n := 15) (s := [.reg [], .reg [(3, { v := some (.bool true) }), (6, { call := some (parrelref05_count_v y3, [], []) }), (8, { v := some (.bool false) })]])
        (a_ (a_ (r2_ tr) (a_ (r1_ (a_ (a_ (a_ tr (lt_ 0 3 rfl)) tr) (r1_ (a_ (a_ tr (a_ (leB c1) tr)) (r1_ (a_ (a_ (a_ tr (lt_ 1 3 rfl)) tr) (a_ (a_ (a_ (parrelref05_count_tri t.f_Boot y3 e2) tr) tr) (r1_ (a_ (a_ tr (a_ (leB c4) tr)) (a_ tr (t2_ (r2_ tr)))))))))))) tr)) tr) (by as_aux_lemma => kernel_rfl) rfl
  · skip
    obtain rfl := Option.some.inj h
    exact run_ret mixed (L := []) (n := 15) (s := [.reg [], .reg [(3, { v := some (.bool false) })]])
      (a_ (a_ (r2_ tr) (a_ (r1_ (a_ (a_ (a_ tr (lt_ 0 3 rfl)) tr) (r1_ (a_ (a_ tr (a_ (leB c1) tr)) (a_ tr (t2_ (r2_ (a_ tr (t2_ (r2_ tr)))))))))) tr)) tr) (by as_aux_lemma => kernel_rfl) rfl

theorem parrelref05_TxMay_tri (t : T_api_Tx) (r : (Bool)) (h : parrelref05_TxMay t = some r) : FnTri Tryd.prog 32 [v_T_api_Tx t] [] (parrelref05_TxMay_v r) [] := FnTri.none (parrelref05_TxMay_ok t r h) rfl rfl

/-- parrel/parrelref05.RegMay -/

def parrelref05_RegMay_v (r : (Bool)) : LV := .bool r

def parrelref05_RegMay (g : T_api_Reg) : Option ((Bool)) :=
  (parrelref05_count g.f_Boot).bind fun y2 =>
  if (y2 : Bool) then
    (parrelref05_count g.f_N).bind fun y5 =>
    some y5
  else
    some false

theorem parrelref05_RegMay_ok (g : T_api_Reg) (r : (Bool)) (h : parrelref05_RegMay g = some r) : ∀ σ, Inj 0 σ → FnTri Tryd.prog 33 (renL σ [v_T_api_Reg g]) (preOf σ 0 []) ((parrelref05_RegMay_v r).ren σ) (upOf σ []) := by
  refine fn_of Tryd.func33 (by kernel_rfl) (by kernel_rfl) (by kernel_rfl) trivial (by kernel_rfl) trivial (by kernel_rfl) ?_
  intro w0 W μ0 hμ
  unfold parrelref05_RegMay at h
  obtain ⟨y2, e1, h⟩ := bind_some h
  rcases itb_some h with ⟨c3, h⟩ | ⟨c3, h⟩
  · skip
    obtain ⟨y5, e4, h⟩ := bind_some h
    obtain rfl := Option.some.inj h
    exact run_ret mixed (L := []) (n := 15) (s := [.reg [], .reg [(2, { call := some (parrelref05_count_v y2, [], []) }), (3, { v := some (.bool true) }), (6, { call := some (parrelref05_count_v y5, [], []) })]])
      (a_ (a_ (r2_ tr) (a_ (r1_ (a_ (a_ (a_ tr (lt_ 0 2 rfl)) tr) (a_ (a_ (a_ (parrelref05_count_tri g.f_Boot y2 e1) tr) tr) (a_ (a_ tr (a_ (leB c3) tr)) (r1_ (a_ (a_ (a_ tr (lt_ 1 2 rfl)) tr) (a_ (a_ (a_ (parrelref05_count_tri g.f_N y5 e4) tr) tr) (r2_ tr)))))))) tr)) tr) (by as_aux_lemma => kernel_rfl) rfl
  · skip
    obtain rfl := Option.some.inj h
    exact run_ret mixed (L := []) (n := 15) (s := [.reg [], .reg [(2, { call := some (parrelref05_count_v y2, [], []) }), (3, { v := some (.bool false) })]])
      (a_ (a_ (r2_ tr) (a_ (r1_ (a_ (a_ (a_ tr (lt_ 0 2 rfl)) tr) (a_ (a_ (a_ (parrelref05_count_tri g.f_Boot y2 e1) tr) tr) (a_ (a_ tr (a_ (leB c3) tr)) (a_ tr (t2_ (r2_ tr))))))) tr)) tr) (by as_aux_lemma => kernel_rfl) rfl

theorem parrelref05_RegMay_tri (g : T_api_Reg) (r : (Bool)) (h : parrelref05_RegMay g = some r) : FnTri Tryd.prog 33 [v_T_api_Reg g] [] (parrelref05_RegMay_v r) [] := FnTri.none (parrelref05_RegMay_ok g r h) rfl rfl

/-- parrel/parrelref05.Name -/

def parrelref05_Name_v (r : (List UInt8) × (Bool)) : LV := .tup [.str r.1, .bool r.2]

def parrelref05_Name_T1 (x_k : A8 (Int)) (x_n : Int) (i : Int) : List LV := [.any, .ptr 0 0 0, .any, .any, .int .i64 x_n, .int .i64 i, .any, .any, .any, .any, .any, .any, .any, .any, .any, .any, .any, .any, .any, .any, .any, .any, .any, .any, .any, .any, .any, .any, .any, .any]

def parrelref05_Name_H1 (x_k : A8 (Int)) (x_n : Int) (i : Int) : Heap := [some (.var [.int .u8 x_k.a0, .int .u8 x_k.a1, .int .u8 x_k.a2, .int .u8 x_k.a3, .int .u8 x_k.a4, .int .u8 x_k.a5, .int .u8 x_k.a6, .int .u8 x_k.a7])]

def parrelref05_Name_T0 (x_k : A8 (Int)) (x_n : Int) : List LV := [.any, .ptr 0 0 0, .any, .any, .int .i64 x_n, .any, .any, .any, .any, .any, .any, .any, .any, .any, .any, .any, .any, .any, .any, .any, .any, .any, .any, .any, .any, .any, .any, .any, .any, .any]

def parrelref05_Name_H0 (x_k : A8 (Int)) (x_n : Int) : Heap := [some (.var [.int .u8 x_k.a0, .int .u8 x_k.a1, .int .u8 x_k.a2, .int .u8 x_k.a3, .int .u8 x_k.a4, .int .u8 x_k.a5, .int .u8 x_k.a6, .int .u8 x_k.a7])]

def parrelref05_Name_l1 (x_k : A8 (Int)) (x_n : Int)  : Nat → (Int) → Option ((List UInt8) × (Bool))
  | 0, _ => none
  | fuel + 1, i =>
    if ((decide (i < 8)) : Bool) then
      if 0 ≤ i ∧ i < 8 then
      if (((A8.get x_k i.toNat) != 0) : Bool) then
        some ([], false)
      else
        parrelref05_Name_l1 x_k x_n  fuel (IntKind.wrap .i64 (i + 1))
      else none
    else
      if ((x_n == 0) : Bool) then
        some ([], false)
      else
        if 0 ≤ (0 : Int) ∧ 0 ≤ x_n ∧ x_n ≤ 8 then
        some ((strI (([x_k.a0, x_k.a1, x_k.a2, x_k.a3, x_k.a4, x_k.a5, x_k.a6, x_k.a7] : List Int).take (x_n.toNat))), true)
        else none

def parrelref05_Name_l0 (x_k : A8 (Int))  : Nat → (Int) → Option ((List UInt8) × (Bool))
  | 0, _ => none
  | fuel + 1, x_n =>
    if ((decide (x_n < 8)) : Bool) then
      if 0 ≤ x_n ∧ x_n < 8 then
      if (((A8.get x_k x_n.toNat) != 0) : Bool) then
        parrelref05_Name_l0 x_k  fuel (IntKind.wrap .i64 (x_n + 1))
      else
        parrelref05_Name_l1 x_k x_n  big x_n
      else none
    else
      parrelref05_Name_l1 x_k x_n  big x_n

def parrelref05_Name (x_k : A8 (Int)) : Option ((List UInt8) × (Bool)) :=
  parrelref05_Name_l0 x_k  big 0

theorem parrelref05_Name_l1_ok {w0 : World} {W : Nat → Prop} {μ0 : Emb} (hμ : ∀ c p, μ0 c = some p → c < 0) (x_k : A8 (Int)) (x_n : Int)  : ∀ (fuel : Nat) (i : Int) (r : (List UInt8) × (Bool)), parrelref05_Name_l1 x_k x_n  fuel i = some r → kont Tryd.prog w0 W μ0 (FnPost Tryd.prog Tryd.f60 0 0 (parrelref05_Name_v r) []) (kAt (bodyOf Tryd.f60) 1) none (parrelref05_Name_T1 x_k x_n i) (parrelref05_Name_H1 x_k x_n i) := by
  intro fuel
  induction fuel with
  | zero => intro i r h; rw [parrelref05_Name_l1] at h; cases h
  | succ fuel ih =>
    intro i r h
    rw [parrelref05_Name_l1] at h
    rcases itb_some h with ⟨cL1_1, h⟩ | ⟨cL1_1, h⟩
    · skip
      obtain ⟨gL1_2, h⟩ := guard_some h
      rcases itb_some h with ⟨cL1_3, h⟩ | ⟨cL1_3, h⟩
      · skip
        obtain rfl := Option.some.inj h
        exact run_ret mixed (L := []) (n := 25) (s := [.go, .reg [(1, { v := some (.bool true) })], .reg [(2, { v := some (.int .u8 (A8.get x_k i.toNat)) }), (3, { v := some (.bool true) })], .reg []])
          (a_ (a_ (r1_ (a_ (a_ tr (a_ (leB cL1_1) tr)) tr)) (a_ (r1_ (a_ (a_ gL1_2 tr) (a_ (a_ (a_ tr (arrLt (len := 8) gL1_2 0 1 8 rfl rfl)) (a_ (ld8s (cInt .u8) 1 (fun _ => rfl) x_k [] [] 0 rfl i.toNat (lt8N gL1_2) (le_ (0 + 1) 1 rfl)) tr)) (a_ (a_ tr (a_ (leB cL1_3) tr)) tr)))) (a_ (r2_ tr) tr))) tr) (by as_aux_lemma => kernel_rfl) rfl
      · skip
        exact run_to mixed hμ (L := [0]) (n := 26) (s := [.go, .reg [(1, { v := some (.bool true) })], .reg [(2, { v := some (.int .u8 (A8.get x_k i.toNat)) }), (3, { v := some (.bool false) })], .reg []])
          (a_ (r1_ (a_ (a_ tr (a_ (leB cL1_1) tr)) tr)) (a_ (r1_ (a_ (a_ gL1_2 tr) (a_ (a_ (a_ tr (arrLt (len := 8) gL1_2 0 1 8 rfl rfl)) (a_ (ld8s (cInt .u8) 1 (fun _ => rfl) x_k [] [] 0 rfl i.toNat (lt8N gL1_2) (le_ (0 + 1) 1 rfl)) tr)) (a_ (a_ tr (a_ (leB cL1_3) tr)) tr)))) (a_ (r1_ (r2_ tr)) tr))) (ih _ r h) (by as_aux_lemma => kernel_rfl) ⟨rfl, trivial⟩
    · skip
      rcases itb_some h with ⟨cL1_2, h⟩ | ⟨cL1_2, h⟩
      · skip
        obtain rfl := Option.some.inj h
        exact run_ret mixed (L := []) (n := 24) (s := [.go, .reg [(1, { v := some (.bool false) })], .reg [(1, { v := some (.bool true) })], .reg []])
          (a_ (a_ (r1_ (a_ (a_ tr (a_ (leB cL1_1) tr)) tr)) (a_ (r1_ (a_ (a_ tr (a_ (leB cL1_2) tr)) tr)) (a_ (r2_ tr) tr))) tr) (by as_aux_lemma => kernel_rfl) rfl
      · skip
        obtain ⟨gL1_3, h⟩ := guard_some h
        obtain rfl := Option.some.inj h
        exact run_ret mixed (L := []) (n := 25) (s := [.go, .reg [(1, { v := some (.bool false) })], .reg [(1, { v := some (.bool false) })], .reg [(2, { v := some (.str (strI (([x_k.a0, x_k.a1, x_k.a2, x_k.a3, x_k.a4, x_k.a5, x_k.a6, x_k.a7] : List Int).take (x_n.toNat)))) })]])
          (a_ (a_ (r1_ (a_ (a_ tr (a_ (leB cL1_1) tr)) tr)) (a_ (r1_ (a_ (a_ tr (a_ (leB cL1_2) tr)) tr)) (a_ (r1_ (a_ (a_ gL1_3 tr) (a_ (a_ (arr_ob [x_k.a0, x_k.a1, x_k.a2, x_k.a3, x_k.a4, x_k.a5, x_k.a6, x_k.a7] (x_n.toNat) 8 (toN_le (n := 8) gL1_3.2.2) rfl) (a_ (le_arr [x_k.a0, x_k.a1, x_k.a2, x_k.a3, x_k.a4, x_k.a5, x_k.a6, x_k.a7] (x_n.toNat) 8 (toN_le (n := 8) gL1_3.2.2) rfl) tr)) (r2_ tr)))) tr))) tr) (by as_aux_lemma => kernel_rfl) rfl

theorem parrelref05_Name_l0_ok {w0 : World} {W : Nat → Prop} {μ0 : Emb} (hμ : ∀ c p, μ0 c = some p → c < 0) (x_k : A8 (Int))  : ∀ (fuel : Nat) (x_n : Int) (r : (List UInt8) × (Bool)), parrelref05_Name_l0 x_k  fuel x_n = some r → kont Tryd.prog w0 W μ0 (FnPost Tryd.prog Tryd.f60 0 0 (parrelref05_Name_v r) []) (kAt (bodyOf Tryd.f60) 0) none (parrelref05_Name_T0 x_k x_n) (parrelref05_Name_H0 x_k x_n) := by
  intro fuel
  induction fuel with
  | zero => intro x_n r h; rw [parrelref05_Name_l0] at h; cases h
  | succ fuel ih =>
    intro x_n r h
    rw [parrelref05_Name_l0] at h
    rcases itb_some h with ⟨cL0_1, h⟩ | ⟨cL0_1, h⟩
    · skip
      obtain ⟨gL0_2, h⟩ := guard_some h
      rcases itb_some h with ⟨cL0_3, h⟩ | ⟨cL0_3, h⟩
      · skip
        exact run_to mixed hμ (L := [0]) (n := 20) (s := [.go, .reg [(2, { v := some (.bool true) }), (5, { v := some (.int .u8 (A8.get x_k x_n.toNat)) }), (7, { v := some (.bool true) })], .reg []])
          (a_ (r2_ (a_ (a_ tr (a_ (leB cL0_1) tr)) (r1_ (a_ (a_ gL0_2 tr) (a_ (a_ (a_ tr (arrLt (len := 8) gL0_2 0 1 8 rfl rfl)) (a_ (ld8s (cInt .u8) 1 (fun _ => rfl) x_k [] [] 0 rfl x_n.toNat (lt8N gL0_2) (le_ (0 + 1) 1 rfl)) tr)) (r1_ (a_ (a_ tr (a_ (leB cL0_3) tr)) tr))))))) (a_ (r1_ (r2_ tr)) tr)) (ih _ r h) (by as_aux_lemma => kernel_rfl) ⟨rfl, trivial⟩
      · skip
        exact run_to mixed hμ (L := [0]) (n := 22) (s := [.go, .reg [(2, { v := some (.bool true) }), (5, { v := some (.int .u8 (A8.get x_k x_n.toNat)) }), (7, { v := some (.bool false) })], .reg []])
          (a_ (r2_ (a_ (a_ tr (a_ (leB cL0_1) tr)) (r1_ (a_ (a_ gL0_2 tr) (a_ (a_ (a_ tr (arrLt (len := 8) gL0_2 0 1 8 rfl rfl)) (a_ (ld8s (cInt .u8) 1 (fun _ => rfl) x_k [] [] 0 rfl x_n.toNat (lt8N gL0_2) (le_ (0 + 1) 1 rfl)) tr)) (r1_ (a_ (a_ tr (a_ (leB cL0_3) tr)) tr))))))) (a_ (r2_ tr) tr)) (parrelref05_Name_l1_ok hμ x_k x_n  big _ r h) (by as_aux_lemma => kernel_rfl) ⟨rfl, trivial⟩
    · skip
      exact run_to mixed hμ (L := [0]) (n := 22) (s := [.go, .reg [(2, { v := some (.bool false) })], .reg []])
        (a_ (r2_ (a_ (a_ tr (a_ (leB cL0_1) tr)) (t4_ (r1_ tr)))) (a_ (r2_ tr) tr)) (parrelref05_Name_l1_ok hμ x_k x_n  big _ r h) (by as_aux_lemma => kernel_rfl) ⟨rfl, trivial⟩

theorem parrelref05_Name_ok (x_k : A8 (Int)) (r : (List UInt8) × (Bool)) (h : parrelref05_Name x_k = some r) : ∀ σ, Inj 0 σ → FnTri Tryd.prog 60 (renL σ [.agg [.int .u8 x_k.a0, .int .u8 x_k.a1, .int .u8 x_k.a2, .int .u8 x_k.a3, .int .u8 x_k.a4, .int .u8 x_k.a5, .int .u8 x_k.a6, .int .u8 x_k.a7]]) (preOf σ 0 []) ((parrelref05_Name_v r).ren σ) (upOf σ []) := by
  refine fn_of Tryd.func60 (by kernel_rfl) (by kernel_rfl) (by kernel_rfl) trivial (by kernel_rfl) trivial (by kernel_rfl) ?_
  intro w0 W μ0 hμ
  unfold parrelref05_Name at h
  exact run_to mixed hμ (L := [0]) (n := 18) (s := [.reg [], .reg []])
    (a_ (r1_ (r2_ tr)) (a_ (r1_ tr) tr)) (parrelref05_Name_l0_ok hμ x_k  big _ r h) (by as_aux_lemma => kernel_rfl) ⟨rfl, trivial⟩

theorem parrelref05_Name_tri (x_k : A8 (Int)) (r : (List UInt8) × (Bool)) (h : parrelref05_Name x_k = some r) : FnTri Tryd.prog 60 [.agg [.int .u8 x_k.a0, .int .u8 x_k.a1, .int .u8 x_k.a2, .int .u8 x_k.a3, .int .u8 x_k.a4, .int .u8 x_k.a5, .int .u8 x_k.a6, .int .u8 x_k.a7]] [] (parrelref05_Name_v r) [] := FnTri.none (parrelref05_Name_ok x_k r h) rfl rfl

/-- parrel/parrelref10.KeyMay -/

def parrelref10_KeyMay_v (r : (Bool)) : LV := .bool r

def parrelref10_KeyMay (x_k : A8 (Int)) : Option ((Bool)) :=
  (parrelref05_Name x_k).bind fun y2 =>
  some y2.2

theorem parrelref10_KeyMay_ok (x_k : A8 (Int)) (r : (Bool)) (h : parrelref10_KeyMay x_k = some r) : ∀ σ, Inj 0 σ → FnTri Tryd.prog 46 (renL σ [.agg [.int .u8 x_k.a0, .int .u8 x_k.a1, .int .u8 x_k.a2, .int .u8 x_k.a3, .int .u8 x_k.a4, .int .u8 x_k.a5, .int .u8 x_k.a6, .int .u8 x_k.a7]]) (preOf σ 0 []) ((parrelref10_KeyMay_v r).ren σ) (upOf σ []) := by
  refine fn_of Tryd.func46 (by kernel_rfl) (by kernel_rfl) (by kernel_rfl) trivial (by kernel_rfl) trivial (by kernel_rfl) ?_
  intro w0 W μ0 hμ
  unfold parrelref10_KeyMay at h
  obtain ⟨y2, e1, h⟩ := bind_some h
  obtain rfl := Option.some.inj h
  exact run_ret mixed (L := []) (n := 18) (s := [.reg [], .reg [(1, { call := some (parrelref05_Name_v y2, [], []) })], .reg []])
    (a_ (a_ (r2_ tr) (a_ (a_ (a_ (a_ tr (le_ 8 8 rfl)) tr) (a_ (a_ (a_ (parrelref05_Name_tri x_k y2 e1) tr) tr) (r1_ (r4_ tr)))) (a_ (r2_ tr) tr))) tr) (by as_aux_lemma => kernel_rfl) rfl

theorem parrelref10_KeyMay_tri (x_k : A8 (Int)) (r : (Bool)) (h : parrelref10_KeyMay x_k = some r) : FnTri Tryd.prog 46 [.agg [.int .u8 x_k.a0, .int .u8 x_k.a1, .int .u8 x_k.a2, .int .u8 x_k.a3, .int .u8 x_k.a4, .int .u8 x_k.a5, .int .u8 x_k.a6, .int .u8 x_k.a7]] [] (parrelref10_KeyMay_v r) [] := FnTri.none (parrelref10_KeyMay_ok x_k r h) rfl rfl

/-- parrel/parrelref06.Total -/

def parrelref06_Total_v (r : (Int)) : LV := .int .i64 r

def parrelref06_Total_T0 (c : T_api_Config) (x_n : Int) (i : Int) : List LV := [.any, .ptr 0 0 0, .any, .int .i64 x_n, .int .i64 i, .any, .any, .any, .any, .any, .any, .any, .any, .any, .any, .any, .any]

def parrelref06_Total_H0 (c : T_api_Config) (x_n : Int) (i : Int) : Heap := [some (.var (c_T_api_Config c))]

def parrelref06_Total_l0 (c : T_api_Config)  : Nat → (Int) → (Int) → Option ((Int))
  | 0, _, _ => none
  | fuel + 1, x_n, i =>
    if ((decide (i < 8)) : Bool) then
      if 0 ≤ i ∧ i < 8 then
      parrelref06_Total_l0 c  fuel (IntKind.wrap .i64 (x_n + (IntKind.wrap .i64 (A8.get c.f_Votes i.toNat)))) (IntKind.wrap .i64 (i + 1))
      else none
    else
      some x_n

def parrelref06_Total (c : T_api_Config) : Option ((Int)) :=
  parrelref06_Total_l0 c  big 0 0

theorem parrelref06_Total_l0_ok {w0 : World} {W : Nat → Prop} {μ0 : Emb} (hμ : ∀ c p, μ0 c = some p → c < 0) (c : T_api_Config)  : ∀ (fuel : Nat) (x_n : Int) (i : Int) (r : (Int)), parrelref06_Total_l0 c  fuel x_n i = some r → kont Tryd.prog w0 W μ0 (FnPost Tryd.prog Tryd.f75 0 0 (parrelref06_Total_v r) []) (kAt (bodyOf Tryd.f75) 0) none (parrelref06_Total_T0 c x_n i) (parrelref06_Total_H0 c x_n i) := by
  intro fuel
  induction fuel with
  | zero => intro x_n i r h; rw [parrelref06_Total_l0] at h; cases h
  | succ fuel ih =>
    intro x_n i r h
    rw [parrelref06_Total_l0] at h
    rcases itb_some h with ⟨cL0_1, h⟩ | ⟨cL0_1, h⟩
    · skip
      obtain ⟨gL0_2, h⟩ := guard_some h
      exact run_to mixed hμ (L := [0]) (n := 23) (s := [.go, .reg [(1, { v := some (.bool true) })], .reg [(4, { v := some (.int .u8 (A8.get c.f_Votes i.toNat)) })], .reg []])
        (a_ (r1_ (a_ (a_ tr (a_ (leB cL0_1) tr)) tr)) (a_ (r1_ (r2_ (a_ (a_ gL0_2 tr) (a_ (a_ (a_ tr (arrLt (len := 8) gL0_2 3 1 11 rfl rfl)) (a_ (ld8s (cInt .u8) 1 (fun _ => rfl) c.f_Votes [.int .u32 c.f_Epoch, .int .u8 c.f_R, .int .u8 c.f_W] [] 3 rfl i.toNat (lt8N gL0_2) (le_ (0 + 1) 1 rfl)) tr)) (r1_ (r2_ tr)))))) (a_ (r1_ (r2_ tr)) tr))) (ih _ _ r h) (by as_aux_lemma => kernel_rfl) ⟨rfl, trivial⟩
    · skip
      obtain rfl := Option.some.inj h
      exact run_ret mixed (L := []) (n := 19) (s := [.go, .reg [(1, { v := some (.bool false) })], .reg []])
        (a_ (a_ (r1_ (a_ (a_ tr (a_ (leB cL0_1) tr)) tr)) (a_ (r2_ tr) tr)) tr) (by as_aux_lemma => kernel_rfl) rfl

theorem parrelref06_Total_ok (c : T_api_Config) (r : (Int)) (h : parrelref06_Total c = some r) : ∀ σ, Inj 0 σ → FnTri Tryd.prog 75 (renL σ [v_T_api_Config c]) (preOf σ 0 []) ((parrelref06_Total_v r).ren σ) (upOf σ []) := by
  refine fn_of Tryd.func75 (by kernel_rfl) (by kernel_rfl) (by kernel_rfl) trivial (by kernel_rfl) trivial (by kernel_rfl) ?_
  intro w0 W μ0 hμ
  unfold parrelref06_Total at h
  exact run_to mixed hμ (L := [0]) (n := 21) (s := [.reg [], .reg [], .reg []])
    (a_ (r2_ tr) (a_ (r1_ tr) (a_ (r1_ tr) tr))) (parrelref06_Total_l0_ok hμ c  big _ _ r h) (by as_aux_lemma => kernel_rfl) ⟨rfl, trivial⟩

theorem parrelref06_Total_tri (c : T_api_Config) (r : (Int)) (h : parrelref06_Total c = some r) : FnTri Tryd.prog 75 [v_T_api_Config c] [] (parrelref06_Total_v r) [] := FnTri.none (parrelref06_Total_ok c r h) rfl rfl

/-- parrel/parrelref06.May -/

def parrelref06_May_v (r : (Bool)) : LV := .bool r

def parrelref06_May_T0 (c : T_api_Config) (y2 : (Int)) (i : Int) : List LV := [.any, .ptr 0 0 0, .any, .int .i64 y2, .int .i64 (IntKind.wrap .i64 c.f_R), .int .i64 (IntKind.wrap .i64 c.f_W), .int .i64 i, .any, .any, .any, .any, .any, .any, .any, .any, .any, .any, .any, .any, .any, .any, .any, .any, .any, .any, .any, .any, .any, .any, .any, .any, .any, .any, .any, .any, .any, .any, .any, .any, .any, .any, .any, .any, .any, .any, .any, .any, .any, .any, .any, .any, .any, .any, .any, .any, .any, .any, .any, .any, .any, .any, .any, .any]

def parrelref06_May_H0 (c : T_api_Config) (y2 : (Int)) (i : Int) : Heap := [some (.var (c_T_api_Config c))]

def parrelref06_May_l0 (c : T_api_Config) (y2 : (Int))  : Nat → (Int) → Option ((Bool))
  | 0, _ => none
  | fuel + 1, i =>
    if ((decide (i < 8)) : Bool) then
      if 0 ≤ i ∧ i < 8 then
      if ((decide (15 < (A8.get c.f_Votes i.toNat))) : Bool) then
        some false
      else
        parrelref06_May_l0 c y2  fuel (IntKind.wrap .i64 (i + 1))
      else none
    else
      if ((decide (1 ≤ c.f_Epoch)) : Bool) then
        if ((decide (c.f_Epoch ≤ 2147483647)) : Bool) then
          if ((decide (1 ≤ (IntKind.wrap .i64 c.f_R))) : Bool) then
            if ((decide (1 ≤ (IntKind.wrap .i64 c.f_W))) : Bool) then
              if ((decide ((IntKind.wrap .i64 c.f_R) ≤ y2)) : Bool) then
                if ((decide ((IntKind.wrap .i64 c.f_W) ≤ y2)) : Bool) then
                  if ((decide (y2 < (IntKind.wrap .i64 ((IntKind.wrap .i64 c.f_R) + (IntKind.wrap .i64 c.f_W))))) : Bool) then
                    some (decide (y2 < (IntKind.wrap .i64 (2 * (IntKind.wrap .i64 c.f_W)))))
                  else
                    some false
                else
                  some false
              else
                some false
            else
              some false
          else
            some false
        else
          some false
      else
        some false

def parrelref06_May (c : T_api_Config) : Option ((Bool)) :=
  (parrelref06_Total c).bind fun y2 =>
  parrelref06_May_l0 c y2  big 0

theorem parrelref06_May_l0_ok {w0 : World} {W : Nat → Prop} {μ0 : Emb} (hμ : ∀ c p, μ0 c = some p → c < 0) (c : T_api_Config) (y2 : (Int))  : ∀ (fuel : Nat) (i : Int) (r : (Bool)), parrelref06_May_l0 c y2  fuel i = some r → kont Tryd.prog w0 W μ0 (FnPost Tryd.prog Tryd.f61 0 0 (parrelref06_May_v r) []) (kAt (bodyOf Tryd.f61) 0) none (parrelref06_May_T0 c y2 i) (parrelref06_May_H0 c y2 i) := by
  intro fuel
  induction fuel with
  | zero => intro i r h; rw [parrelref06_May_l0] at h; cases h
  | succ fuel ih =>
    intro i r h
    rw [parrelref06_May_l0] at h
    rcases itb_some h with ⟨cL0_1, h⟩ | ⟨cL0_1, h⟩
    · skip
      obtain ⟨gL0_2, h⟩ := guard_some h
      rcases itb_some h with ⟨cL0_3, h⟩ | ⟨cL0_3, h⟩
      · skip
        obtain rfl := Option.some.inj h
        exact run_ret mixed (L := []) (n := 25) (s := [.go, .reg [(1, { v := some (.bool true) })], .reg [(3, { v := some (.int .u8 (A8.get c.f_Votes i.toNat)) }), (4, { v := some (.bool true) })], .reg []])
          (a_ (a_ (r1_ (a_ (a_ tr (a_ (leB cL0_1) tr)) tr)) (a_ (r2_ (a_ (a_ gL0_2 tr) (a_ (a_ (a_ tr (arrLt (len := 8) gL0_2 3 1 11 rfl rfl)) (a_ (ld8s (cInt .u8) 1 (fun _ => rfl) c.f_Votes [.int .u32 c.f_Epoch, .int .u8 c.f_R, .int .u8 c.f_W] [] 3 rfl i.toNat (lt8N gL0_2) (le_ (0 + 1) 1 rfl)) tr)) (a_ (a_ tr (a_ (leB cL0_3) tr)) tr)))) (a_ (r1_ tr) tr))) tr) (by as_aux_lemma => kernel_rfl) rfl
      · skip
        exact run_to mixed hμ (L := [0]) (n := 26) (s := [.go, .reg [(1, { v := some (.bool true) })], .reg [(3, { v := some (.int .u8 (A8.get c.f_Votes i.toNat)) }), (4, { v := some (.bool false) })], .reg []])
          (a_ (r1_ (a_ (a_ tr (a_ (leB cL0_1) tr)) tr)) (a_ (r2_ (a_ (a_ gL0_2 tr) (a_ (a_ (a_ tr (arrLt (len := 8) gL0_2 3 1 11 rfl rfl)) (a_ (ld8s (cInt .u8) 1 (fun _ => rfl) c.f_Votes [.int .u32 c.f_Epoch, .int .u8 c.f_R, .int .u8 c.f_W] [] 3 rfl i.toNat (lt8N gL0_2) (le_ (0 + 1) 1 rfl)) tr)) (a_ (a_ tr (a_ (leB cL0_3) tr)) tr)))) (a_ (r1_ (r2_ tr)) tr))) (ih _ r h) (by as_aux_lemma => kernel_rfl) ⟨rfl, trivial⟩
    · skip
      rcases itb_some h with ⟨cL0_2, h⟩ | ⟨cL0_2, h⟩
      · skip
        rcases itb_some h with ⟨cL0_3, h⟩ | ⟨cL0_3, h⟩
        · skip
          rcases itb_some h with ⟨cL0_4, h⟩ | ⟨cL0_4, h⟩
          · skip
            rcases itb_some h with ⟨cL0_5, h⟩ | ⟨cL0_5, h⟩
            · skip
              rcases itb_some h with ⟨cL0_6, h⟩ | ⟨cL0_6, h⟩
              · skip
                rcases itb_some h with ⟨cL0_7, h⟩ | ⟨cL0_7, h⟩
                · skip
                  rcases itb_some h with ⟨cL0_8, h⟩ | ⟨cL0_8, h⟩
                  · skip
                    obtain rfl := Option.some.inj h
                    exact run_ret mixed (L := []) (n := 19) (s := [.go, .reg [(1, { v := some (.bool false) })], .reg [(3, { v := some (.bool true) }), (8, { v := some (.bool true) }), (12, { v := some (.bool true) }), (16, { v := some (.bool true) }), (21, { v := some (.bool true) }), (26, { v := some (.bool true) }), (33, { v := some (.bool true) })]])
                      (a_ (a_ (r1_ (a_ (a_ tr (a_ (leB cL0_1) tr)) tr)) (a_ (r1_ (a_ (a_ (a_ tr (lt_ 0 11 rfl)) tr) (r1_ (a_ (a_ tr (a_ (leB cL0_2) tr)) (r1_ (a_ (a_ (a_ tr (lt_ 0 11 rfl)) tr) (r2_ (a_ (a_ tr (a_ (leB cL0_3) tr)) (r1_ (r2_ (a_ (a_ tr (a_ (leB cL0_4) tr)) (r1_ (r2_ (a_ (a_ tr (a_ (leB cL0_5) tr)) (r4_ (a_ (a_ tr (a_ (leB cL0_6) tr)) (r4_ (a_ (a_ tr (a_ (leB cL0_7) tr)) (r2_ (r4_ (a_ (a_ tr (a_ (leB cL0_8) tr)) (r2_ (r4_ tr))))))))))))))))))))))) tr)) tr) (by as_aux_lemma => kernel_rfl) rfl
                  · skip
                    obtain rfl := Option.some.inj h
                    exact run_ret mixed (L := []) (n := 19) (s := [.go, .reg [(1, { v := some (.bool false) })], .reg [(3, { v := some (.bool true) }), (8, { v := some (.bool true) }), (12, { v := some (.bool true) }), (16, { v := some (.bool true) }), (21, { v := some (.bool true) }), (26, { v := some (.bool true) }), (33, { v := some (.bool false) })]])
                      (a_ (a_ (r1_ (a_ (a_ tr (a_ (leB cL0_1) tr)) tr)) (a_ (r1_ (a_ (a_ (a_ tr (lt_ 0 11 rfl)) tr) (r1_ (a_ (a_ tr (a_ (leB cL0_2) tr)) (r1_ (a_ (a_ (a_ tr (lt_ 0 11 rfl)) tr) (r2_ (a_ (a_ tr (a_ (leB cL0_3) tr)) (r1_ (r2_ (a_ (a_ tr (a_ (leB cL0_4) tr)) (r1_ (r2_ (a_ (a_ tr (a_ (leB cL0_5) tr)) (r4_ (a_ (a_ tr (a_ (leB cL0_6) tr)) (r4_ (a_ (a_ tr (a_ (leB cL0_7) tr)) (r2_ (r4_ (a_ (a_ tr (a_ (leB cL0_8) tr)) (t4_ (r2_ tr))))))))))))))))))))))) tr)) tr) (by as_aux_lemma => kernel_rfl) rfl
                · skip
                  obtain rfl := Option.some.inj h
                  exact run_ret mixed (L := []) (n := 19) (s := [.go, .reg [(1, { v := some (.bool false) })], .reg [(3, { v := some (.bool true) }), (8, { v := some (.bool true) }), (12, { v := some (.bool true) }), (16, { v := some (.bool true) }), (21, { v := some (.bool true) }), (26, { v := some (.bool false) })]])
                    (a_ (a_ (r1_ (a_ (a_ tr (a_ (leB cL0_1) tr)) tr)) (a_ (r1_ (a_ (a_ (a_ tr (lt_ 0 11 rfl)) tr) (r1_ (a_ (a_ tr (a_ (leB cL0_2) tr)) (r1_ (a_ (a_ (a_ tr (lt_ 0 11 rfl)) tr) (r2_ (a_ (a_ tr (a_ (leB cL0_3) tr)) (r1_ (r2_ (a_ (a_ tr (a_ (leB cL0_4) tr)) (r1_ (r2_ (a_ (a_ tr (a_ (leB cL0_5) tr)) (r4_ (a_ (a_ tr (a_ (leB cL0_6) tr)) (r4_ (a_ (a_ tr (a_ (leB cL0_7) tr)) (a_ tr (t4_ (r2_ (t4_ (r2_ tr))))))))))))))))))))))) tr)) tr) (by as_aux_lemma => kernel_rfl) rfl
              · skip
                obtain rfl := Option.some.inj h
                exact run_ret mixed (L := []) (n := 19) (s := [.go, .reg [(1, { v := some (.bool false) })], .reg [(3, { v := some (.bool true) }), (8, { v := some (.bool true) }), (12, { v := some (.bool true) }), (16, { v := some (.bool true) }), (21, { v := some (.bool false) })]])
                  (a_ (a_ (r1_ (a_ (a_ tr (a_ (leB cL0_1) tr)) tr)) (a_ (r1_ (a_ (a_ (a_ tr (lt_ 0 11 rfl)) tr) (r1_ (a_ (a_ tr (a_ (leB cL0_2) tr)) (r1_ (a_ (a_ (a_ tr (lt_ 0 11 rfl)) tr) (r2_ (a_ (a_ tr (a_ (leB cL0_3) tr)) (r1_ (r2_ (a_ (a_ tr (a_ (leB cL0_4) tr)) (r1_ (r2_ (a_ (a_ tr (a_ (leB cL0_5) tr)) (r4_ (a_ (a_ tr (a_ (leB cL0_6) tr)) (a_ tr (t2_ (r2_ (a_ tr (t4_ (r2_ (t4_ (r2_ tr)))))))))))))))))))))))) tr)) tr) (by as_aux_lemma => kernel_rfl) rfl
            · skip
              obtain rfl := Option.some.inj h
              exact run_ret mixed (L := []) (n := 19) (s := [.go, .reg [(1, { v := some (.bool false) })], .reg [(3, { v := some (.bool true) }), (8, { v := some (.bool true) }), (12, { v := some (.bool true) }), (16, { v := some (.bool false) })]])
                (a_ (a_ (r1_ (a_ (a_ tr (a_ (leB cL0_1) tr)) tr)) (a_ (r1_ (a_ (a_ (a_ tr (lt_ 0 11 rfl)) tr) (r1_ (a_ (a_ tr (a_ (leB cL0_2) tr)) (r1_ (a_ (a_ (a_ tr (lt_ 0 11 rfl)) tr) (r2_ (a_ (a_ tr (a_ (leB cL0_3) tr)) (r1_ (r2_ (a_ (a_ tr (a_ (leB cL0_4) tr)) (r1_ (r2_ (a_ (a_ tr (a_ (leB cL0_5) tr)) (a_ tr (t2_ (r2_ (a_ tr (t2_ (r2_ (a_ tr (t4_ (r2_ (t4_ (r2_ tr))))))))))))))))))))))))) tr)) tr) (by as_aux_lemma => kernel_rfl) rfl
          · skip
            obtain rfl := Option.some.inj h
            exact run_ret mixed (L := []) (n := 19) (s := [.go, .reg [(1, { v := some (.bool false) })], .reg [(3, { v := some (.bool true) }), (8, { v := some (.bool true) }), (12, { v := some (.bool false) })]])
              (a_ (a_ (r1_ (a_ (a_ tr (a_ (leB cL0_1) tr)) tr)) (a_ (r1_ (a_ (a_ (a_ tr (lt_ 0 11 rfl)) tr) (r1_ (a_ (a_ tr (a_ (leB cL0_2) tr)) (r1_ (a_ (a_ (a_ tr (lt_ 0 11 rfl)) tr) (r2_ (a_ (a_ tr (a_ (leB cL0_3) tr)) (r1_ (r2_ (a_ (a_ tr (a_ (leB cL0_4) tr)) (t2_ (r2_ (a_ tr (t2_ (r2_ (a_ tr (t2_ (r2_ (a_ tr (t4_ (r2_ (t4_ (r2_ tr)))))))))))))))))))))))) tr)) tr) (by as_aux_lemma => kernel_rfl) rfl
        · skip
          obtain rfl := Option.some.inj h
          exact run_ret mixed (L := []) (n := 19) (s := [.go, .reg [(1, { v := some (.bool false) })], .reg [(3, { v := some (.bool true) }), (8, { v := some (.bool false) })]])
            (a_ (a_ (r1_ (a_ (a_ tr (a_ (leB cL0_1) tr)) tr)) (a_ (r1_ (a_ (a_ (a_ tr (lt_ 0 11 rfl)) tr) (r1_ (a_ (a_ tr (a_ (leB cL0_2) tr)) (r1_ (a_ (a_ (a_ tr (lt_ 0 11 rfl)) tr) (r2_ (a_ (a_ tr (a_ (leB cL0_3) tr)) (t2_ (r2_ (t2_ (r2_ (a_ tr (t2_ (r2_ (a_ tr (t2_ (r2_ (a_ tr (t4_ (r2_ (t4_ (r2_ tr))))))))))))))))))))))) tr)) tr) (by as_aux_lemma => kernel_rfl) rfl
      · skip
        obtain rfl := Option.some.inj h
        exact run_ret mixed (L := []) (n := 19) (s := [.go, .reg [(1, { v := some (.bool false) })], .reg [(3, { v := some (.bool false) })]])
          (a_ (a_ (r1_ (a_ (a_ tr (a_ (leB cL0_1) tr)) tr)) (a_ (r1_ (a_ (a_ (a_ tr (lt_ 0 11 rfl)) tr) (r1_ (a_ (a_ tr (a_ (leB cL0_2) tr)) (a_ tr (t2_ (r2_ (t2_ (r2_ (t2_ (r2_ (a_ tr (t2_ (r2_ (a_ tr (t2_ (r2_ (a_ tr (t4_ (r2_ (t4_ (r2_ tr)))))))))))))))))))))) tr)) tr) (by as_aux_lemma => kernel_rfl) rfl

theorem parrelref06_May_ok (c : T_api_Config) (r : (Bool)) (h : parrelref06_May c = some r) : ∀ σ, Inj 0 σ → FnTri Tryd.prog 61 (renL σ [v_T_api_Config c]) (preOf σ 0 []) ((parrelref06_May_v r).ren σ) (upOf σ []) := by
  refine fn_of Tryd.func61 (by kernel_rfl) (by kernel_rfl) (by kernel_rfl) trivial (by kernel_rfl) trivial (by kernel_rfl) ?_
  intro w0 W μ0 hμ
  unfold parrelref06_May at h
  obtain ⟨y2, e1, h⟩ := bind_some h
  exact run_to mixed hμ (L := [0]) (n := 21) (s := [.reg [], .reg [(1, { call := some (parrelref06_Total_v y2, [], []) })], .reg []])
    (a_ (r2_ tr) (a_ (a_ (a_ (a_ tr (le_ 11 11 rfl)) tr) (a_ (a_ (a_ (parrelref06_Total_tri c y2 e1) tr) tr) (r1_ (a_ (a_ (a_ tr (lt_ 1 11 rfl)) tr) (r2_ (a_ (a_ (a_ tr (lt_ 2 11 rfl)) tr) (r4_ tr))))))) (a_ (r1_ tr) tr))) (parrelref06_May_l0_ok hμ c y2  big _ r h) (by as_aux_lemma => kernel_rfl) ⟨rfl, trivial⟩

theorem parrelref06_May_tri (c : T_api_Config) (r : (Bool)) (h : parrelref06_May c = some r) : FnTri Tryd.prog 61 [v_T_api_Config c] [] (parrelref06_May_v r) [] := FnTri.none (parrelref06_May_ok c r h) rfl rfl

/-- parrel/parrelref10.ItemMay -/

def parrelref10_ItemMay_v (r : (Bool)) : LV := .bool r

def parrelref10_ItemMay (i : T_api_Item) : Option ((Bool)) :=
  if ((decide (i.f_Version ≤ 2147483647)) : Bool) then
    if ((decide (((i.f_Value).length : Int) ≤ 64)) : Bool) then
      (parrelref06_May i.f_Conf).bind fun y4 =>
      some y4
    else
      some false
  else
    some false

theorem parrelref10_ItemMay_ok (i : T_api_Item) (r : (Bool)) (h : parrelref10_ItemMay i = some r) : ∀ σ, Inj 0 σ → FnTri Tryd.prog 47 (renL σ [v_T_api_Item i]) (preOf σ 0 []) ((parrelref10_ItemMay_v r).ren σ) (upOf σ []) := by
  refine fn_of Tryd.func47 (by kernel_rfl) (by kernel_rfl) (by kernel_rfl) trivial (by kernel_rfl) trivial (by kernel_rfl) ?_
  intro w0 W μ0 hμ
  unfold parrelref10_ItemMay at h
  rcases itb_some h with ⟨c1, h⟩ | ⟨c1, h⟩
  · skip
    rcases itb_some h with ⟨c2, h⟩ | ⟨c2, h⟩
    · skip
      obtain ⟨y4, e3, h⟩ := bind_some h
      obtain rfl := Option.some.inj h
      exact run_ret mixed (L := []) (n := 15) (s := [.reg [], .reg [(3, { v := some (.bool true) }), (9, { v := some (.bool true) }), (12, { call := some (parrelref06_May_v y4, [], []) })]])
        (a_ (a_ (r2_ tr) (a_ (r1_ (a_ (a_ (a_ tr (lt_ 0 13 rfl)) tr) (r1_ (a_ (a_ tr (a_ (leB c1) tr)) (r1_ (a_ (a_ (a_ tr (lt_ 1 13 rfl)) tr) (r1_ (r2_ (a_ (a_ tr (a_ (leB c2) tr)) (r1_ (a_ (a_ (a_ tr (le_ 13 13 rfl)) tr) (a_ (a_ (a_ (parrelref06_May_tri i.f_Conf y4 e3) tr) tr) (r2_ tr))))))))))))) tr)) tr) (by as_aux_lemma => kernel_rfl) rfl
    · skip
      obtain rfl := Option.some.inj h
      exact run_ret mixed (L := []) (n := 15) (s := [.reg [], .reg [(3, { v := some (.bool true) }), (9, { v := some (.bool false) })]])
        (a_ (a_ (r2_ tr) (a_ (r1_ (a_ (a_ (a_ tr (lt_ 0 13 rfl)) tr) (r1_ (a_ (a_ tr (a_ (leB c1) tr)) (r1_ (a_ (a_ (a_ tr (lt_ 1 13 rfl)) tr) (r1_ (r2_ (a_ (a_ tr (a_ (leB c2) tr)) (a_ tr (t2_ (r2_ tr)))))))))))) tr)) tr) (by as_aux_lemma => kernel_rfl) rfl
  · skip
    obtain rfl := Option.some.inj h
    exact run_ret mixed (L := []) (n := 15) (s := [.reg [], .reg [(3, { v := some (.bool false) })]])
      (a_ (a_ (r2_ tr) (a_ (r1_ (a_ (a_ (a_ tr (lt_ 0 13 rfl)) tr) (r1_ (a_ (a_ tr (a_ (leB c1) tr)) (t4_ (r2_ (a_ tr (t2_ (r2_ tr))))))))) tr)) tr) (by as_aux_lemma => kernel_rfl) rfl

theorem parrelref10_ItemMay_tri (i : T_api_Item) (r : (Bool)) (h : parrelref10_ItemMay i = some r) : FnTri Tryd.prog 47 [v_T_api_Item i] [] (parrelref10_ItemMay_v r) [] := FnTri.none (parrelref10_ItemMay_ok i r h) rfl rfl

/-- parrel/parrelref05.first -/

def parrelref05_first_v (r : (Int)) : LV := .int .i64 r

def parrelref05_first_T0 (a : List (Int)) (b : List (Int)) (i : Int) : List LV := [.ds 1 (a).length (rowF (cInt .u32) default a), .ds 1 (b).length (rowF (cInt .u32) default b), .any, .any, .any, .int .i64 i, .any, .any, .any, .any, .any, .any, .any, .any, .any, .any, .any, .any, .any, .any, .any, .any, .any, .any, .any, .any, .any, .any, .any, .any]

def parrelref05_first_H0 (a : List (Int)) (b : List (Int)) (i : Int) : Heap := []

def parrelref05_first_l0 (a : List (Int)) (b : List (Int))  : Nat → (Int) → Option ((Int))
  | 0, _ => none
  | fuel + 1, i =>
    if ((decide (i < ((a).length : Int))) : Bool) then
      if 0 ≤ i ∧ i < (((a).length : Nat) : Int) then
      if 0 ≤ i ∧ i < (((b).length : Nat) : Int) then
      if ((decide ((a.getD i.toNat default) < (b.getD i.toNat default))) : Bool) then
        some (-1)
      else
        if ((decide ((b.getD i.toNat default) < (a.getD i.toNat default))) : Bool) then
          some 1
        else
          parrelref05_first_l0 a b  fuel (IntKind.wrap .i64 (i + 1))
      else none
      else none
    else
      some 0

def parrelref05_first (a : List (Int)) (b : List (Int)) : Option ((Int)) :=
  parrelref05_first_l0 a b  big 0

theorem parrelref05_first_l0_ok {w0 : World} {W : Nat → Prop} {μ0 : Emb} (hμ : ∀ c p, μ0 c = some p → c < 0) (a : List (Int)) (b : List (Int))  : ∀ (fuel : Nat) (i : Int) (r : (Int)), parrelref05_first_l0 a b  fuel i = some r → kont Tryd.prog w0 W μ0 (FnPost Tryd.prog Tryd.f49 0 0 (parrelref05_first_v r) []) (kAt (bodyOf Tryd.f49) 0) none (parrelref05_first_T0 a b i) (parrelref05_first_H0 a b i) := by
  intro fuel
  induction fuel with
  | zero => intro i r h; rw [parrelref05_first_l0] at h; cases h
  | succ fuel ih =>
    intro i r h
    rw [parrelref05_first_l0] at h
    rcases itb_some h with ⟨cL0_1, h⟩ | ⟨cL0_1, h⟩
    · skip
      obtain ⟨gL0_2, h⟩ := guard_some h
      obtain ⟨gL0_3, h⟩ := guard_some h
      rcases itb_some h with ⟨cL0_4, h⟩ | ⟨cL0_4, h⟩
      · skip
        obtain rfl := Option.some.inj h
        exact run_ret mixed (L := []) (n := 26) (s := [.go, .reg [(3, { v := some (.bool true) })], .reg [(8, { v := some (.bool true) })], .reg []])
          (a_ (a_ (r1_ (r2_ (a_ (a_ tr (a_ (leB cL0_1) tr)) tr))) (a_ (r2_ (a_ (a_ (a_ (Eq.refl 1) gL0_2) tr) (a_ (a_ (lt_ 0 1 rfl) tr) (r2_ (a_ (a_ (a_ (Eq.refl 1) gL0_3) tr) (a_ (a_ (lt_ 0 1 rfl) tr) (a_ (a_ tr (a_ (leB cL0_4) tr)) tr))))))) (a_ (r1_ tr) tr))) tr) (by as_aux_lemma => kernel_rfl) rfl
      · skip
        rcases itb_some h with ⟨cL0_5, h⟩ | ⟨cL0_5, h⟩
        · skip
          obtain rfl := Option.some.inj h
          exact run_ret mixed (L := []) (n := 31) (s := [.go, .reg [(3, { v := some (.bool true) })], .reg [(8, { v := some (.bool false) })], .reg [(8, { v := some (.bool true) })], .reg []])
            (a_ (a_ (r1_ (r2_ (a_ (a_ tr (a_ (leB cL0_1) tr)) tr))) (a_ (r2_ (a_ (a_ (a_ (Eq.refl 1) gL0_2) tr) (a_ (a_ (lt_ 0 1 rfl) tr) (r2_ (a_ (a_ (a_ (Eq.refl 1) gL0_3) tr) (a_ (a_ (lt_ 0 1 rfl) tr) (a_ (a_ tr (a_ (leB cL0_4) tr)) tr))))))) (a_ (r2_ (a_ (a_ (a_ (Eq.refl 1) gL0_2) tr) (a_ (a_ (lt_ 0 1 rfl) tr) (r2_ (a_ (a_ (a_ (Eq.refl 1) gL0_3) tr) (a_ (a_ (lt_ 0 1 rfl) tr) (a_ (a_ tr (a_ (leB cL0_5) tr)) tr))))))) (a_ (r1_ tr) tr)))) tr) (by as_aux_lemma => kernel_rfl) rfl
        · skip
          exact run_to mixed hμ (L := []) (n := 32) (s := [.go, .reg [(3, { v := some (.bool true) })], .reg [(8, { v := some (.bool false) })], .reg [(8, { v := some (.bool false) })], .reg []])
            (a_ (r1_ (r2_ (a_ (a_ tr (a_ (leB cL0_1) tr)) tr))) (a_ (r2_ (a_ (a_ (a_ (Eq.refl 1) gL0_2) tr) (a_ (a_ (lt_ 0 1 rfl) tr) (r2_ (a_ (a_ (a_ (Eq.refl 1) gL0_3) tr) (a_ (a_ (lt_ 0 1 rfl) tr) (a_ (a_ tr (a_ (leB cL0_4) tr)) tr))))))) (a_ (r2_ (a_ (a_ (a_ (Eq.refl 1) gL0_2) tr) (a_ (a_ (lt_ 0 1 rfl) tr) (r2_ (a_ (a_ (a_ (Eq.refl 1) gL0_3) tr) (a_ (a_ (lt_ 0 1 rfl) tr) (a_ (a_ tr (a_ (leB cL0_5) tr)) tr))))))) (a_ (r1_ (r2_ tr)) tr)))) (ih _ r h) (by as_aux_lemma => kernel_rfl) trivial
    · skip
      obtain rfl := Option.some.inj h
      exact run_ret mixed (L := []) (n := 19) (s := [.go, .reg [(3, { v := some (.bool false) })], .reg []])
        (a_ (a_ (r1_ (r2_ (a_ (a_ tr (a_ (leB cL0_1) tr)) tr))) (a_ (r1_ tr) tr)) tr) (by as_aux_lemma => kernel_rfl) rfl

theorem parrelref05_first_ok (a : List (Int)) (b : List (Int)) (r : (Int)) (h : parrelref05_first a b = some r) : ∀ σ, Inj 0 σ → FnTri Tryd.prog 49 (renL σ [.ds 1 (a).length (rowF (cInt .u32) default a), .ds 1 (b).length (rowF (cInt .u32) default b)]) (preOf σ 0 []) ((parrelref05_first_v r).ren σ) (upOf σ []) := by
  refine fn_of Tryd.func49 (by kernel_rfl) (by kernel_rfl) (by kernel_rfl) trivial (by kernel_rfl) trivial (by kernel_rfl) ?_
  intro w0 W μ0 hμ
  unfold parrelref05_first at h
  exact run_to mixed hμ (L := []) (n := 18) (s := [.reg [], .reg []])
    (a_ (r1_ tr) (a_ (r1_ tr) tr)) (parrelref05_first_l0_ok hμ a b  big _ r h) (by as_aux_lemma => kernel_rfl) trivial

theorem parrelref05_first_tri (a : List (Int)) (b : List (Int)) (r : (Int)) (h : parrelref05_first a b = some r) : FnTri Tryd.prog 49 [.ds 1 (a).length (rowF (cInt .u32) default a), .ds 1 (b).length (rowF (cInt .u32) default b)] [] (parrelref05_first_v r) [] := FnTri.none (parrelref05_first_ok a b r h) rfl rfl

/-- parrel/parrelref05.Keys -/

def parrelref05_Keys_v (r : (Int)) : LV := .int .i64 r

def parrelref05_Keys_T0 (a : A8 (Int)) (b : A8 (Int)) (i : Int) (l : List (Int)) (l2 : List (Int)) : List LV := [.any, .any, .ptr 0 0 0, .ptr 1 0 0, .any, .gs 2 (l).length, .gs 3 (l2).length, .int .i64 i, .any, .any, .any, .any, .any, .any, .any, .any, .any, .any, .any, .any, .any, .any, .any, .any, .any, .any, .any, .any, .any]

def parrelref05_Keys_H0 (a : A8 (Int)) (b : A8 (Int)) (i : Int) (l : List (Int)) (l2 : List (Int)) : Heap := [some (.var [.int .u8 a.a0, .int .u8 a.a1, .int .u8 a.a2, .int .u8 a.a3, .int .u8 a.a4, .int .u8 a.a5, .int .u8 a.a6, .int .u8 a.a7]), some (.var [.int .u8 b.a0, .int .u8 b.a1, .int .u8 b.a2, .int .u8 b.a3, .int .u8 b.a4, .int .u8 b.a5, .int .u8 b.a6, .int .u8 b.a7]), some (.gr 1 (l).length (rowF (cInt .u32) default l)), some (.gr 1 (l2).length (rowF (cInt .u32) default l2))]

def parrelref05_Keys_l0 (a : A8 (Int)) (b : A8 (Int))  : Nat → (Int) → (List (Int)) → (List (Int)) → Option ((Int))
  | 0, _, _, _ => none
  | fuel + 1, i, l, l2 =>
    if ((decide (i < 8)) : Bool) then
      if 0 ≤ i ∧ i < 8 then
      if ((l).length + (([(IntKind.wrap .u32 (A8.get a i.toNat))] : List (Int))).length) * 4 ≤ 140737488351232 then
      if ((l2).length + (([(IntKind.wrap .u32 (A8.get b i.toNat))] : List (Int))).length) * 4 ≤ 140737488351232 then
      parrelref05_Keys_l0 a b  fuel (IntKind.wrap .i64 (i + 1)) (l ++ ([(IntKind.wrap .u32 (A8.get a i.toNat))] : List (Int))) (l2 ++ ([(IntKind.wrap .u32 (A8.get b i.toNat))] : List (Int)))
      else none
      else none
      else none
    else
      (parrelref05_first l l2).bind fun yL0_3 =>
      some yL0_3

def parrelref05_Keys (a : A8 (Int)) (b : A8 (Int)) : Option ((Int)) :=
  parrelref05_Keys_l0 a b  big 0 ([] : List (Int)) ([] : List (Int))

theorem parrelref05_Keys_l0_ok {w0 : World} {W : Nat → Prop} {μ0 : Emb} (hμ : ∀ c p, μ0 c = some p → c < 0) (a : A8 (Int)) (b : A8 (Int))  : ∀ (fuel : Nat) (i : Int) (l : List (Int)) (l2 : List (Int)) (r : (Int)), parrelref05_Keys_l0 a b  fuel i l l2 = some r → kont Tryd.prog w0 W μ0 (FnPost Tryd.prog Tryd.f48 0 0 (parrelref05_Keys_v r) []) (kAt (bodyOf Tryd.f48) 0) none (parrelref05_Keys_T0 a b i l l2) (parrelref05_Keys_H0 a b i l l2) := by
  intro fuel
  induction fuel with
  | zero => intro i l l2 r h; rw [parrelref05_Keys_l0] at h; cases h
  | succ fuel ih =>
    intro i l l2 r h
    rw [parrelref05_Keys_l0] at h
    rcases itb_some h with ⟨cL0_1, h⟩ | ⟨cL0_1, h⟩
    · skip
      obtain ⟨gL0_2, h⟩ := guard_some h
      obtain ⟨gL0_3, h⟩ := guard_some h
      obtain ⟨gL0_4, h⟩ := guard_some h
      exact run_to mixed hμ (L := [0, 1, 5, 7]) (n := 26) (s := [.go, .reg [(1, { v := some (.bool true) })], .reg [(3, { v := some (.int .u8 (A8.get a i.toNat)) }), (5, { os := [(4, .gr 1 (([(IntKind.wrap .u32 (A8.get a i.toNat))] : List (Int))).length (rowF (cInt .u32) default ([(IntKind.wrap .u32 (A8.get a i.toNat))] : List (Int))))], v := some (.gs 4 (([(IntKind.wrap .u32 (A8.get a i.toNat))] : List (Int))).length) }), (6, { app := 3, os := [(5, .gr 1 ((l ++ ([(IntKind.wrap .u32 (A8.get a i.toNat))] : List (Int)))).length (rowF (cInt .u32) default (l ++ ([(IntKind.wrap .u32 (A8.get a i.toNat))] : List (Int)))))], v := some (.gs 5 ((l ++ ([(IntKind.wrap .u32 (A8.get a i.toNat))] : List (Int)))).length) })], .reg [(3, { v := some (.int .u8 (A8.get b i.toNat)) }), (5, { os := [(6, .gr 1 (([(IntKind.wrap .u32 (A8.get b i.toNat))] : List (Int))).length (rowF (cInt .u32) default ([(IntKind.wrap .u32 (A8.get b i.toNat))] : List (Int))))], v := some (.gs 6 (([(IntKind.wrap .u32 (A8.get b i.toNat))] : List (Int))).length) }), (6, { app := 3, os := [(7, .gr 1 ((l2 ++ ([(IntKind.wrap .u32 (A8.get b i.toNat))] : List (Int)))).length (rowF (cInt .u32) default (l2 ++ ([(IntKind.wrap .u32 (A8.get b i.toNat))] : List (Int)))))], v := some (.gs 7 ((l2 ++ ([(IntKind.wrap .u32 (A8.get b i.toNat))] : List (Int)))).length) })], .reg []])
        (a_ (r1_ (a_ (a_ tr (a_ (leB cL0_1) tr)) tr)) (a_ (r2_ (a_ (a_ gL0_2 tr) (a_ (a_ (a_ tr (arrLt (len := 8) gL0_2 0 1 8 rfl rfl)) (a_ (ld8s (cInt .u8) 1 (fun _ => rfl) a [] [] 0 rfl i.toNat (lt8N gL0_2) (le_ (0 + 1) 1 rfl)) tr)) (r1_ (a_ (a_ (a_ (Eq.refl true) (a_ (Eq.refl 1) (a_ (lt_ 0 1 rfl) (le_ 1 16777216 rfl)))) (a_ (le_sl_gs 4 1 (some 1) rfl) (a_ (sub_lit (cInt .u32) default 1 (fun _ => rfl) ([(IntKind.wrap .u32 (A8.get a i.toNat))] : List (Int))) tr))) (a_ (a_ (a_ (a_ (Eq.refl 1) (Nat.le_refl (([(IntKind.wrap .u32 (A8.get a i.toNat))] : List (Int))).length)) (a_ (a_ (lt_ 0 1 rfl) (a_ (lt_ 0 4 rfl) (a_ gL0_3 (a_ (Eq.refl 1) (Eq.refl true))))) (a_ (Eq.refl 1) (Nat.le_refl (l).length)))) (a_ (le_gs_app 5 l ([(IntKind.wrap .u32 (A8.get a i.toNat))] : List (Int))) (a_ (sub_app (cInt .u32) default 1 l ([(IntKind.wrap .u32 (A8.get a i.toNat))] : List (Int))) tr))) (r1_ tr))))))) (a_ (r2_ (a_ (a_ gL0_2 tr) (a_ (a_ (a_ tr (arrLt (len := 8) gL0_2 0 1 8 rfl rfl)) (a_ (ld8s (cInt .u8) 1 (fun _ => rfl) b [] [] 0 rfl i.toNat (lt8N gL0_2) (le_ (0 + 1) 1 rfl)) tr)) (r1_ (a_ (a_ (a_ (Eq.refl true) (a_ (Eq.refl 1) (a_ (lt_ 0 1 rfl) (le_ 1 16777216 rfl)))) (a_ (le_sl_gs 6 1 (some 1) rfl) (a_ (sub_lit (cInt .u32) default 1 (fun _ => rfl) ([(IntKind.wrap .u32 (A8.get b i.toNat))] : List (Int))) tr))) (a_ (a_ (a_ (a_ (Eq.refl 1) (Nat.le_refl (([(IntKind.wrap .u32 (A8.get b i.toNat))] : List (Int))).length)) (a_ (a_ (lt_ 0 1 rfl) (a_ (lt_ 0 4 rfl) (a_ gL0_4 (a_ (Eq.refl 1) (Eq.refl true))))) (a_ (Eq.refl 1) (Nat.le_refl (l2).length)))) (a_ (le_gs_app 7 l2 ([(IntKind.wrap .u32 (A8.get b i.toNat))] : List (Int))) (a_ (sub_app (cInt .u32) default 1 l2 ([(IntKind.wrap .u32 (A8.get b i.toNat))] : List (Int))) tr))) (r1_ tr))))))) (a_ (r1_ (r2_ tr)) tr)))) (ih _ _ _ r h) (by as_aux_lemma => kernel_rfl) ⟨rfl, rfl, fun _ _ => rfl, fun _ _ => rfl, trivial⟩
    · skip
      obtain ⟨yL0_3, eL0_2, h⟩ := bind_some h
      obtain rfl := Option.some.inj h
      exact run_ret mixed (L := []) (n := 21) (s := [.go, .reg [(1, { v := some (.bool false) })], .frz 2, .frz 3, .reg [(2, { call := some (parrelref05_first_v yL0_3, [], []) })]])
        (a_ (a_ (r1_ (a_ (a_ tr (a_ (leB cL0_1) tr)) tr)) (a_ (a_ (fz_row (enc := (cInt .u32)) (d := default) (fun _ => rfl) l) (a_ (Nat.le_refl (l).length) tr)) (a_ (a_ (fz_row (enc := (cInt .u32)) (d := default) (fun _ => rfl) l2) (a_ (Nat.le_refl (l2).length) tr)) (a_ (r2_ (a_ (a_ (a_ (parrelref05_first_tri l l2 yL0_3 eL0_2) tr) tr) (r1_ tr))) tr)))) tr) (by as_aux_lemma => kernel_rfl) rfl

theorem parrelref05_Keys_ok (a : A8 (Int)) (b : A8 (Int)) (r : (Int)) (h : parrelref05_Keys a b = some r) : ∀ σ, Inj 0 σ → FnTri Tryd.prog 48 (renL σ [.agg [.int .u8 a.a0, .int .u8 a.a1, .int .u8 a.a2, .int .u8 a.a3, .int .u8 a.a4, .int .u8 a.a5, .int .u8 a.a6, .int .u8 a.a7], .agg [.int .u8 b.a0, .int .u8 b.a1, .int .u8 b.a2, .int .u8 b.a3, .int .u8 b.a4, .int .u8 b.a5, .int .u8 b.a6, .int .u8 b.a7]]) (preOf σ 0 []) ((parrelref05_Keys_v r).ren σ) (upOf σ []) := by
  refine fn_of Tryd.func48 (by kernel_rfl) (by kernel_rfl) (by kernel_rfl) trivial (by kernel_rfl) trivial (by kernel_rfl) ?_
  intro w0 W μ0 hμ
  unfold parrelref05_Keys at h
  exact run_to mixed hμ (L := [0, 1, 2, 3]) (n := 23) (s := [.reg [], .void (.gr 1 (([] : List (Int))).length (rowF (cInt .u32) default ([] : List (Int)))), .void (.gr 1 (([] : List (Int))).length (rowF (cInt .u32) default ([] : List (Int)))), .reg [(0, { v := some (.gs 2 (([] : List (Int))).length) }), (1, { v := some (.gs 3 (([] : List (Int))).length) })], .reg []])
    (a_ (r1_ (r2_ tr)) (a_ (Eq.refl 0) (a_ (Eq.refl 0) (a_ (a_ (a_ tr (a_ (le_nil_gs 2) tr)) (a_ (a_ tr (a_ (le_nil_gs 3) tr)) tr)) (a_ (r1_ tr) tr))))) (parrelref05_Keys_l0_ok hμ a b  big _ _ _ r h) (by as_aux_lemma => kernel_rfl) ⟨rfl, rfl, fun _ _ => rfl, fun _ _ => rfl, trivial⟩

theorem parrelref05_Keys_tri (a : A8 (Int)) (b : A8 (Int)) (r : (Int)) (h : parrelref05_Keys a b = some r) : FnTri Tryd.prog 48 [.agg [.int .u8 a.a0, .int .u8 a.a1, .int .u8 a.a2, .int .u8 a.a3, .int .u8 a.a4, .int .u8 a.a5, .int .u8 a.a6, .int .u8 a.a7], .agg [.int .u8 b.a0, .int .u8 b.a1, .int .u8 b.a2, .int .u8 b.a3, .int .u8 b.a4, .int .u8 b.a5, .int .u8 b.a6, .int .u8 b.a7]] [] (parrelref05_Keys_v r) [] := FnTri.none (parrelref05_Keys_ok a b r h) rfl rfl

/-- parrel/parrelref10.WritesMay -/

def parrelref10_WritesMay_v (r : (Bool)) : LV := .bool r

def parrelref10_WritesMay_T0 (l : List (T_api_Write)) (i : Int) : List LV := [.ds 21 (l).length (rowF c_T_api_Write default l), .any, .any, .int .i64 i, .any, .any, .any, .any, .any, .any, .any, .any, .any, .any, .any, .any, .any, .any, .any, .any, .any, .any, .any, .any, .any, .any, .any, .any, .any, .any, .any, .any, .any, .any, .any, .any, .any, .any, .any, .any, .any, .any, .any, .any, .any, .any, .any, .any]

def parrelref10_WritesMay_H0 (l : List (T_api_Write)) (i : Int) : Heap := []

def parrelref10_WritesMay_l0 (l : List (T_api_Write))  : Nat → (Int) → Option ((Bool))
  | 0, _ => none
  | fuel + 1, i =>
    if ((decide (i < ((l).length : Int))) : Bool) then
      if 0 ≤ i ∧ i < (((l).length : Nat) : Int) then
      (parrelref10_KeyMay (l.getD i.toNat default).f_Key).bind fun yL0_4 =>
      if ((!yL0_4) : Bool) then
        some false
      else
        (parrelref10_ItemMay (l.getD i.toNat default).f_Item).bind fun yL0_7 =>
        if ((!yL0_7) : Bool) then
          some false
        else
          if ((decide (0 < i)) : Bool) then
            if 0 ≤ (IntKind.wrap .i64 (i - 1)) ∧ (IntKind.wrap .i64 (i - 1)) < (((l).length : Nat) : Int) then
            (parrelref05_Keys (l.getD ((IntKind.wrap .i64 (i - 1))).toNat default).f_Key (l.getD i.toNat default).f_Key).bind fun yL0_12 =>
            if ((decide (0 ≤ yL0_12)) : Bool) then
              some false
            else
              parrelref10_WritesMay_l0 l  fuel (IntKind.wrap .i64 (i + 1))
            else none
          else
            parrelref10_WritesMay_l0 l  fuel (IntKind.wrap .i64 (i + 1))
      else none
    else
      some (decide (((l).length : Int) ≤ 16))

def parrelref10_WritesMay (l : List (T_api_Write)) : Option ((Bool)) :=
  parrelref10_WritesMay_l0 l  big 0

theorem parrelref10_WritesMay_l0_ok {w0 : World} {W : Nat → Prop} {μ0 : Emb} (hμ : ∀ c p, μ0 c = some p → c < 0) (l : List (T_api_Write))  : ∀ (fuel : Nat) (i : Int) (r : (Bool)), parrelref10_WritesMay_l0 l  fuel i = some r → kont Tryd.prog w0 W μ0 (FnPost Tryd.prog Tryd.f34 0 0 (parrelref10_WritesMay_v r) []) (kAt (bodyOf Tryd.f34) 0) none (parrelref10_WritesMay_T0 l i) (parrelref10_WritesMay_H0 l i) := by
  intro fuel
  induction fuel with
  | zero => intro i r h; rw [parrelref10_WritesMay_l0] at h; cases h
  | succ fuel ih =>
    intro i r h
    rw [parrelref10_WritesMay_l0] at h
    rcases itb_some h with ⟨cL0_1, h⟩ | ⟨cL0_1, h⟩
    · skip
      obtain ⟨gL0_2, h⟩ := guard_some h
      obtain ⟨yL0_4, eL0_3, h⟩ := bind_some h
      rcases itb_some h with ⟨cL0_5, h⟩ | ⟨cL0_5, h⟩
      · skip
        obtain rfl := Option.some.inj h
        exact run_ret mixed (L := []) (n := 25) (s := [.go, .reg [(3, { v := some (.bool true) })], .reg [(5, { call := some (parrelref10_KeyMay_v yL0_4, [], []) }), (7, { v := some (.bool true) })], .reg []])
          (a_ (a_ (r1_ (r2_ (a_ (a_ tr (a_ (leB cL0_1) tr)) tr))) (a_ (r2_ (a_ (a_ (a_ (Eq.refl 21) gL0_2) tr) (r1_ (a_ (a_ (le_ 8 21 rfl) tr) (a_ (a_ (a_ (parrelref10_KeyMay_tri (l.getD i.toNat default).f_Key yL0_4 eL0_3) tr) tr) (r1_ (a_ (a_ tr (a_ (leB cL0_5) tr)) (a_ tr (t2_ (t4_ (r2_ (a_ tr (t8_ (t8_ (r1_ tr))))))))))))))) (a_ (r1_ tr) tr))) tr) (by as_aux_lemma => kernel_rfl) rfl
      · skip
        obtain ⟨yL0_7, eL0_6, h⟩ := bind_some h
        rcases itb_some h with ⟨cL0_8, h⟩ | ⟨cL0_8, h⟩
        · skip
          obtain rfl := Option.some.inj h
          exact run_ret mixed (L := []) (n := 25) (s := [.go, .reg [(3, { v := some (.bool true) })], .reg [(5, { call := some (parrelref10_KeyMay_v yL0_4, [], []) }), (7, { v := some (.bool false) }), (13, { call := some (parrelref10_ItemMay_v yL0_7, [], []) }), (16, { v := some (.bool true) })], .reg []])
            (a_ (a_ (r1_ (r2_ (a_ (a_ tr (a_ (leB cL0_1) tr)) tr))) (a_ (r2_ (a_ (a_ (a_ (Eq.refl 21) gL0_2) tr) (r1_ (a_ (a_ (le_ 8 21 rfl) tr) (a_ (a_ (a_ (parrelref10_KeyMay_tri (l.getD i.toNat default).f_Key yL0_4 eL0_3) tr) tr) (r1_ (a_ (a_ tr (a_ (leB cL0_5) tr)) (r2_ (a_ (a_ (a_ (Eq.refl 21) gL0_2) tr) (r1_ (a_ (a_ (le_ 13 13 rfl) tr) (a_ (a_ (a_ (parrelref10_ItemMay_tri (l.getD i.toNat default).f_Item yL0_7 eL0_6) tr) tr) (r2_ (a_ (a_ tr (a_ (leB cL0_8) tr)) (a_ tr (t8_ (t8_ (r1_ tr)))))))))))))))))) (a_ (r1_ tr) tr))) tr) (by as_aux_lemma => kernel_rfl) rfl
        · skip
          rcases itb_some h with ⟨cL0_9, h⟩ | ⟨cL0_9, h⟩
          · skip
            obtain ⟨gL0_10, h⟩ := guard_some h
            obtain ⟨yL0_12, eL0_11, h⟩ := bind_some h
            rcases itb_some h with ⟨cL0_13, h⟩ | ⟨cL0_13, h⟩
            · skip
              obtain rfl := Option.some.inj h
              exact run_ret mixed (L := []) (n := 25) (s := [.go, .reg [(3, { v := some (.bool true) })], .reg [(5, { call := some (parrelref10_KeyMay_v yL0_4, [], []) }), (7, { v := some (.bool false) }), (13, { call := some (parrelref10_ItemMay_v yL0_7, [], []) }), (16, { v := some (.bool false) }), (19, { v := some (.bool true) }), (31, { call := some (parrelref05_Keys_v yL0_12, [], []) }), (34, { v := some (.bool true) })], .reg []])
                (a_ (a_ (r1_ (r2_ (a_ (a_ tr (a_ (leB cL0_1) tr)) tr))) (a_ (r2_ (a_ (a_ (a_ (Eq.refl 21) gL0_2) tr) (r1_ (a_ (a_ (le_ 8 21 rfl) tr) (a_ (a_ (a_ (parrelref10_KeyMay_tri (l.getD i.toNat default).f_Key yL0_4 eL0_3) tr) tr) (r1_ (a_ (a_ tr (a_ (leB cL0_5) tr)) (r2_ (a_ (a_ (a_ (Eq.refl 21) gL0_2) tr) (r1_ (a_ (a_ (le_ 13 13 rfl) tr) (a_ (a_ (a_ (parrelref10_ItemMay_tri (l.getD i.toNat default).f_Item yL0_7 eL0_6) tr) tr) (r2_ (a_ (a_ tr (a_ (leB cL0_8) tr)) (r2_ (a_ (a_ tr (a_ (leB cL0_9) tr)) (r1_ (r2_ (a_ (a_ (a_ (Eq.refl 21) gL0_10) tr) (r1_ (a_ (a_ (le_ 8 21 rfl) tr) (r2_ (a_ (a_ (a_ (Eq.refl 21) gL0_2) tr) (r1_ (a_ (a_ (le_ 8 21 rfl) tr) (a_ (a_ (a_ (parrelref05_Keys_tri (l.getD ((IntKind.wrap .i64 (i - 1))).toNat default).f_Key (l.getD i.toNat default).f_Key yL0_12 eL0_11) tr) tr) (r2_ (a_ (a_ tr (a_ (leB cL0_13) tr)) tr)))))))))))))))))))))))))))) (a_ (r1_ tr) tr))) tr) (by as_aux_lemma => kernel_rfl) rfl
            · skip
              exact run_to mixed hμ (L := []) (n := 26) (s := [.go, .reg [(3, { v := some (.bool true) })], .reg [(5, { call := some (parrelref10_KeyMay_v yL0_4, [], []) }), (7, { v := some (.bool false) }), (13, { call := some (parrelref10_ItemMay_v yL0_7, [], []) }), (16, { v := some (.bool false) }), (19, { v := some (.bool true) }), (31, { call := some (parrelref05_Keys_v yL0_12, [], []) }), (34, { v := some (.bool false) })], .reg []])
                (a_ (r1_ (r2_ (a_ (a_ tr (a_ (leB cL0_1) tr)) tr))) (a_ (r2_ (a_ (a_ (a_ (Eq.refl 21) gL0_2) tr) (r1_ (a_ (a_ (le_ 8 21 rfl) tr) (a_ (a_ (a_ (parrelref10_KeyMay_tri (l.getD i.toNat default).f_Key yL0_4 eL0_3) tr) tr) (r1_ (a_ (a_ tr (a_ (leB cL0_5) tr)) (r2_ (a_ (a_ (a_ (Eq.refl 21) gL0_2) tr) (r1_ (a_ (a_ (le_ 13 13 rfl) tr) (a_ (a_ (a_ (parrelref10_ItemMay_tri (l.getD i.toNat default).f_Item yL0_7 eL0_6) tr) tr) (r2_ (a_ (a_ tr (a_ (leB cL0_8) tr)) (r2_ (a_ (a_ tr (a_ (leB cL0_9) tr)) (r1_ (r2_ (a_ (a_ (a_ (Eq.refl 21) gL0_10) tr) (r1_ (a_ (a_ (le_ 8 21 rfl) tr) (r2_ (a_ (a_ (a_ (Eq.refl 21) gL0_2) tr) (r1_ (a_ (a_ (le_ 8 21 rfl) tr) (a_ (a_ (a_ (parrelref05_Keys_tri (l.getD ((IntKind.wrap .i64 (i - 1))).toNat default).f_Key (l.getD i.toNat default).f_Key yL0_12 eL0_11) tr) tr) (r2_ (a_ (a_ tr (a_ (leB cL0_13) tr)) tr)))))))))))))))))))))))))))) (a_ (r1_ (r2_ tr)) tr))) (ih _ r h) (by as_aux_lemma => kernel_rfl) trivial
          · skip
            exact run_to mixed hμ (L := []) (n := 26) (s := [.go, .reg [(3, { v := some (.bool true) })], .reg [(5, { call := some (parrelref10_KeyMay_v yL0_4, [], []) }), (7, { v := some (.bool false) }), (13, { call := some (parrelref10_ItemMay_v yL0_7, [], []) }), (16, { v := some (.bool false) }), (19, { v := some (.bool false) })], .reg []])
              (a_ (r1_ (r2_ (a_ (a_ tr (a_ (leB cL0_1) tr)) tr))) (a_ (r2_ (a_ (a_ (a_ (Eq.refl 21) gL0_2) tr) (r1_ (a_ (a_ (le_ 8 21 rfl) tr) (a_ (a_ (a_ (parrelref10_KeyMay_tri (l.getD i.toNat default).f_Key yL0_4 eL0_3) tr) tr) (r1_ (a_ (a_ tr (a_ (leB cL0_5) tr)) (r2_ (a_ (a_ (a_ (Eq.refl 21) gL0_2) tr) (r1_ (a_ (a_ (le_ 13 13 rfl) tr) (a_ (a_ (a_ (parrelref10_ItemMay_tri (l.getD i.toNat default).f_Item yL0_7 eL0_6) tr) tr) (r2_ (a_ (a_ tr (a_ (leB cL0_8) tr)) (r2_ (a_ (a_ tr (a_ (leB cL0_9) tr)) (a_ tr (t4_ (t8_ (r2_ tr)))))))))))))))))))) (a_ (r1_ (r2_ tr)) tr))) (ih _ r h) (by as_aux_lemma => kernel_rfl) trivial
    · skip
      obtain rfl := Option.some.inj h
      exact run_ret mixed (L := []) (n := 19) (s := [.go, .reg [(3, { v := some (.bool false) })], .reg []])
        (a_ (a_ (r1_ (r2_ (a_ (a_ tr (a_ (leB cL0_1) tr)) tr))) (a_ (r4_ tr) tr)) tr) (by as_aux_lemma => kernel_rfl) rfl

theorem parrelref10_WritesMay_ok (l : List (T_api_Write)) (r : (Bool)) (h : parrelref10_WritesMay l = some r) : ∀ σ, Inj 0 σ → FnTri Tryd.prog 34 (renL σ [.ds 21 (l).length (rowF c_T_api_Write default l)]) (preOf σ 0 []) ((parrelref10_WritesMay_v r).ren σ) (upOf σ []) := by
  refine fn_of Tryd.func34 (by kernel_rfl) (by kernel_rfl) (by kernel_rfl) trivial (by kernel_rfl) trivial (by kernel_rfl) ?_
  intro w0 W μ0 hμ
  unfold parrelref10_WritesMay at h
  exact run_to mixed hμ (L := []) (n := 18) (s := [.reg [], .reg []])
    (a_ (r1_ tr) (a_ (r1_ tr) tr)) (parrelref10_WritesMay_l0_ok hμ l  big _ r h) (by as_aux_lemma => kernel_rfl) trivial

theorem parrelref10_WritesMay_tri (l : List (T_api_Write)) (r : (Bool)) (h : parrelref10_WritesMay l = some r) : FnTri Tryd.prog 34 [.ds 21 (l).length (rowF c_T_api_Write default l)] [] (parrelref10_WritesMay_v r) [] := FnTri.none (parrelref10_WritesMay_ok l r h) rfl rfl

/-- parrel/parrelref05.numbers -/

def parrelref05_numbers_v (r : (List (Int))) : LV := .ds 1 (r).length (rowF (cInt .u32) default r)

def parrelref05_numbers (t : T_api_Tx) : Option ((List (Int))) :=
  some ([(IntKind.wrap .u32 t.f_Node), t.f_Boot, t.f_Num] : List (Int))

theorem parrelref05_numbers_ok (t : T_api_Tx) (r : (List (Int))) (h : parrelref05_numbers t = some r) : ∀ σ, Inj 0 σ → FnTri Tryd.prog 50 (renL σ [v_T_api_Tx t]) (preOf σ 0 []) ((parrelref05_numbers_v r).ren σ) (upOf σ []) := by
  refine fn_of Tryd.func50 (by kernel_rfl) (by kernel_rfl) (by kernel_rfl) trivial (by kernel_rfl) trivial (by kernel_rfl) ?_
  intro w0 W μ0 hμ
  unfold parrelref05_numbers at h
  obtain rfl := Option.some.inj h
  exact run_ret mixed (L := []) (n := 16) (s := [.reg [(1, { v := some (.ds 1 (([] : List (Int))).length (rowF (cInt .u32) default ([] : List (Int)))) })], .reg [(7, { os := [(1, .gr 1 (([(IntKind.wrap .u32 t.f_Node), t.f_Boot, t.f_Num] : List (Int))).length (rowF (cInt .u32) default ([(IntKind.wrap .u32 t.f_Node), t.f_Boot, t.f_Num] : List (Int))))], v := some (.gs 1 (([(IntKind.wrap .u32 t.f_Node), t.f_Boot, t.f_Num] : List (Int))).length) })], .frz 1])
    (a_ (a_ (r1_ (a_ (a_ tr (a_ (le_nil_ds 1 (rowF (cInt .u32) default [])) tr)) tr)) (a_ (r1_ (a_ (a_ (a_ tr (lt_ 0 3 rfl)) tr) (r2_ (a_ (a_ (a_ tr (lt_ 1 3 rfl)) tr) (r1_ (a_ (a_ (a_ tr (lt_ 2 3 rfl)) tr) (a_ (a_ (a_ (Eq.refl true) (a_ (Eq.refl 1) (a_ (lt_ 0 1 rfl) (le_ 3 16777216 rfl)))) (a_ (le_sl_gs 1 3 (some 3) rfl) (a_ (sub_lit (cInt .u32) default 1 (fun _ => rfl) ([(IntKind.wrap .u32 t.f_Node), t.f_Boot, t.f_Num] : List (Int))) tr))) (r1_ tr)))))))) (a_ (a_ (fz_row (enc := (cInt .u32)) (d := default) (fun _ => rfl) ([(IntKind.wrap .u32 t.f_Node), t.f_Boot, t.f_Num] : List (Int))) (a_ (Nat.le_refl (([(IntKind.wrap .u32 t.f_Node), t.f_Boot, t.f_Num] : List (Int))).length) (a_ (Nat.le_refl (([(IntKind.wrap .u32 t.f_Node), t.f_Boot, t.f_Num] : List (Int))).length) tr))) tr))) tr) (by as_aux_lemma => kernel_rfl) rfl

theorem parrelref05_numbers_tri (t : T_api_Tx) (r : (List (Int))) (h : parrelref05_numbers t = some r) : FnTri Tryd.prog 50 [v_T_api_Tx t] [] (parrelref05_numbers_v r) [] := FnTri.none (parrelref05_numbers_ok t r h) rfl rfl

/-- parrel/parrelref05.Txs -/

def parrelref05_Txs_v (r : (Int)) : LV := .int .i64 r

def parrelref05_Txs (a : T_api_Tx) (b : T_api_Tx) : Option ((Int)) :=
  (parrelref05_numbers a).bind fun y2 =>
  (parrelref05_numbers b).bind fun y4 =>
  (parrelref05_first y2 y4).bind fun y6 =>
  some y6

theorem parrelref05_Txs_ok (a : T_api_Tx) (b : T_api_Tx) (r : (Int)) (h : parrelref05_Txs a b = some r) : ∀ σ, Inj 0 σ → FnTri Tryd.prog 35 (renL σ [v_T_api_Tx a, v_T_api_Tx b]) (preOf σ 0 []) ((parrelref05_Txs_v r).ren σ) (upOf σ []) := by
  refine fn_of Tryd.func35 (by kernel_rfl) (by kernel_rfl) (by kernel_rfl) trivial (by kernel_rfl) trivial (by kernel_rfl) ?_
  intro w0 W μ0 hμ
  unfold parrelref05_Txs at h
  obtain ⟨y2, e1, h⟩ := bind_some h
  obtain ⟨y4, e3, h⟩ := bind_some h
  obtain ⟨y6, e5, h⟩ := bind_some h
  obtain rfl := Option.some.inj h
  exact run_ret mixed (L := []) (n := 15) (s := [.reg [], .reg [(1, { call := some (parrelref05_numbers_v y2, [], []) }), (3, { call := some (parrelref05_numbers_v y4, [], []) }), (4, { call := some (parrelref05_first_v y6, [], []) })]])
    (a_ (a_ (r1_ (r2_ tr)) (a_ (a_ (a_ (a_ tr (le_ 3 3 rfl)) tr) (a_ (a_ (a_ (parrelref05_numbers_tri a y2 e1) tr) tr) (a_ (a_ (a_ tr (le_ 3 3 rfl)) tr) (a_ (a_ (a_ (parrelref05_numbers_tri b y4 e3) tr) tr) (a_ (a_ (a_ (parrelref05_first_tri y2 y4 y6 e5) tr) tr) (r1_ tr)))))) tr)) tr) (by as_aux_lemma => kernel_rfl) rfl

theorem parrelref05_Txs_tri (a : T_api_Tx) (b : T_api_Tx) (r : (Int)) (h : parrelref05_Txs a b = some r) : FnTri Tryd.prog 35 [v_T_api_Tx a, v_T_api_Tx b] [] (parrelref05_Txs_v r) [] := FnTri.none (parrelref05_Txs_ok a b r h) rfl rfl

end
end Go.Proofs.YtfjdnnoflmpdeaaDoor.Wk
