/- Printed by tr.py: Go functions as Lean functions, with the proofs that they walk so. -/
import Derived.Test.YtbggiflihpjocaaProg
import Derived.Test.YtbggiflihpjocaaCnW
namespace Go.Proofs.Ytbggiflihpjocaa.Wk
open Go Go.Cn
set_option maxRecDepth 100000
set_option maxHeartbeats 4000000
set_option linter.unusedVariables false
set_option linter.unusedSimpArgs false
theorem mixed : Try.prog.follows .mixedOrders = true := by kernel_rfl
structure T_api_Tx where
  f_Node : Int
  f_Boot : Int
  f_Num : Int
  deriving DecidableEq, Inhabited

def c_T_api_Tx (x : T_api_Tx) : List LV := [.int .u8 x.f_Node, .int .u32 x.f_Boot, .int .u32 x.f_Num]

def v_T_api_Tx (x : T_api_Tx) : LV := .agg (c_T_api_Tx x)

theorem x_T_api_Tx (a b : T_api_Tx) : a = b ↔ a.f_Node = b.f_Node ∧ a.f_Boot = b.f_Boot ∧ a.f_Num = b.f_Num := by
  cases a; cases b; simp

theorem k_T_api_Tx (a b : T_api_Tx) : eqK (v_T_api_Tx a) (v_T_api_Tx b) = decide (a = b) := by
  rw [Bool.eq_iff_iff, decide_eq_true_eq]
  simp only [x_T_api_Tx, v_T_api_Tx, c_T_api_Tx, eqK, eqCs, eqC, Bool.and_eq_true, beq_iff_eq, and_assoc, and_true]

structure T_api_Stamp where
  f_Time : Int
  f_Tx : T_api_Tx
  deriving DecidableEq, Inhabited

def c_T_api_Stamp (x : T_api_Stamp) : List LV := [.int .u32 x.f_Time, .int .u8 x.f_Tx.f_Node, .int .u32 x.f_Tx.f_Boot, .int .u32 x.f_Tx.f_Num]

def v_T_api_Stamp (x : T_api_Stamp) : LV := .agg (c_T_api_Stamp x)

theorem x_T_api_Stamp (a b : T_api_Stamp) : a = b ↔ a.f_Time = b.f_Time ∧ a.f_Tx = b.f_Tx := by
  cases a; cases b; simp

theorem k_T_api_Stamp (a b : T_api_Stamp) : eqK (v_T_api_Stamp a) (v_T_api_Stamp b) = decide (a = b) := by
  rw [Bool.eq_iff_iff, decide_eq_true_eq]
  simp only [x_T_api_Stamp, x_T_api_Tx, v_T_api_Stamp, c_T_api_Stamp, eqK, eqCs, eqC, Bool.and_eq_true, beq_iff_eq, and_assoc, and_true]

theorem ext81 (l : List UInt8) (c : Int) : ExtTri Try.prog 81 [.str l, .int .u8 c] (.int .i64 (Lib.indexByte l c.toNat.toUInt8)) := ext_indexByte Try.func81 (by kernel_rfl) (by kernel_rfl) (by kernel_rfl) (by kernel_rfl) l c

/-- cmp.isNaN[uint8] -/

def cmp_isNaN_uint8_v (r : (Bool)) : LV := .bool r

def cmp_isNaN_uint8 (x : Int) : Option ((Bool)) :=
  some (x != x)

theorem cmp_isNaN_uint8_ok (x : Int) (r : (Bool)) (h : cmp_isNaN_uint8 x = some r) : ∀ σ, Inj 0 σ → FnTri Try.prog 61 (renL σ [.int .u8 x]) (preOf σ 0 []) ((cmp_isNaN_uint8_v r).ren σ) (upOf σ []) := by
  refine fn_of Try.func61 (by kernel_rfl) (by kernel_rfl) (by kernel_rfl) trivial (by kernel_rfl) trivial (by kernel_rfl) ?_
  intro w0 W μ0 hμ
  unfold cmp_isNaN_uint8 at h
  obtain rfl := Option.some.inj h
  exact run_ret mixed (L := []) (n := 15) (s := [.reg [], .reg []])
    (a_ (a_ (a_ (a_ tr tr) tr) (a_ (a_ (a_ tr tr) (a_ (a_ tr tr) (a_ (a_ tr tr) (a_ (a_ tr tr) tr)))) tr)) tr) (by kernel_rfl) rfl

theorem cmp_isNaN_uint8_tri (x : Int) (r : (Bool)) (h : cmp_isNaN_uint8 x = some r) : FnTri Try.prog 61 [.int .u8 x] [] (cmp_isNaN_uint8_v r) [] := FnTri.none (cmp_isNaN_uint8_ok x r h) rfl rfl

/-- cmp.Compare[uint8] -/

def cmp_Compare_uint8_v (r : (Int)) : LV := .int .i64 r

def cmp_Compare_uint8 (x : Int) (y : Int) : Option ((Int)) :=
  (cmp_isNaN_uint8 x).bind fun y2 =>
  (cmp_isNaN_uint8 y).bind fun y4 =>
  if (y2 : Bool) then
    if (y4 : Bool) then
      some 0
    else
      some (-1)
  else
    if (y4 : Bool) then
      some 1
    else
      if ((decide (x < y)) : Bool) then
        some (-1)
      else
        if ((decide (y < x)) : Bool) then
          some 1
        else
          some 0

theorem cmp_Compare_uint8_ok (x : Int) (y : Int) (r : (Int)) (h : cmp_Compare_uint8 x y = some r) : ∀ σ, Inj 0 σ → FnTri Try.prog 45 (renL σ [.int .u8 x, .int .u8 y]) (preOf σ 0 []) ((cmp_Compare_uint8_v r).ren σ) (upOf σ []) := by
  refine fn_of Try.func45 (by kernel_rfl) (by kernel_rfl) (by kernel_rfl) trivial (by kernel_rfl) trivial (by kernel_rfl) ?_
  intro w0 W μ0 hμ
  unfold cmp_Compare_uint8 at h
  obtain ⟨y2, e1, h⟩ := bind_some h
  obtain ⟨y4, e3, h⟩ := bind_some h
  rcases itb_some h with ⟨c5, h⟩ | ⟨c5, h⟩
  · skip
    rcases itb_some h with ⟨c6, h⟩ | ⟨c6, h⟩
    · skip
      obtain rfl := Option.some.inj h
      exact run_ret mixed (L := []) (n := 31) (s := [.reg [], .reg [(1, { call := some (cmp_isNaN_uint8_v y2, [], []) })], .reg [(1, { call := some (cmp_isNaN_uint8_v y4, [], []) })], .reg [(0, { v := some (.bool true) })], .reg [(0, { v := some (.bool true) })], .reg []])
        (a_ (a_ (a_ (a_ tr tr) tr) (a_ (a_ (a_ tr tr) (a_ (a_ (a_ (cmp_isNaN_uint8_tri x y2 e1) tr) tr) (a_ (a_ tr tr) tr))) (a_ (a_ (a_ tr tr) (a_ (a_ (a_ (cmp_isNaN_uint8_tri y y4 e3) tr) tr) (a_ (a_ tr tr) tr))) (a_ (a_ (a_ tr (a_ (leB c5) tr)) tr) (a_ (a_ (a_ tr (a_ (leB c6) tr)) tr) (a_ (a_ (a_ tr tr) tr) tr)))))) tr) (by kernel_rfl) rfl
    · skip
      obtain rfl := Option.some.inj h
      exact run_ret mixed (L := []) (n := 32) (s := [.reg [], .reg [(1, { call := some (cmp_isNaN_uint8_v y2, [], []) })], .reg [(1, { call := some (cmp_isNaN_uint8_v y4, [], []) })], .reg [(0, { v := some (.bool true) })], .reg [(0, { v := some (.bool false) })], .reg []])
        (a_ (a_ (a_ (a_ tr tr) tr) (a_ (a_ (a_ tr tr) (a_ (a_ (a_ (cmp_isNaN_uint8_tri x y2 e1) tr) tr) (a_ (a_ tr tr) tr))) (a_ (a_ (a_ tr tr) (a_ (a_ (a_ (cmp_isNaN_uint8_tri y y4 e3) tr) tr) (a_ (a_ tr tr) tr))) (a_ (a_ (a_ tr (a_ (leB c5) tr)) tr) (a_ (a_ (a_ tr (a_ (leB c6) tr)) tr) (a_ (a_ (a_ tr tr) tr) tr)))))) tr) (by kernel_rfl) rfl
  · skip
    rcases itb_some h with ⟨c6, h⟩ | ⟨c6, h⟩
    · skip
      obtain rfl := Option.some.inj h
      exact run_ret mixed (L := []) (n := 32) (s := [.reg [], .reg [(1, { call := some (cmp_isNaN_uint8_v y2, [], []) })], .reg [(1, { call := some (cmp_isNaN_uint8_v y4, [], []) })], .reg [(0, { v := some (.bool false) })], .reg [(0, { v := some (.bool true) })], .reg []])
        (a_ (a_ (a_ (a_ tr tr) tr) (a_ (a_ (a_ tr tr) (a_ (a_ (a_ (cmp_isNaN_uint8_tri x y2 e1) tr) tr) (a_ (a_ tr tr) tr))) (a_ (a_ (a_ tr tr) (a_ (a_ (a_ (cmp_isNaN_uint8_tri y y4 e3) tr) tr) (a_ (a_ tr tr) tr))) (a_ (a_ (a_ tr (a_ (leB c5) tr)) tr) (a_ (a_ (a_ tr (a_ (leB c6) tr)) tr) (a_ (a_ (a_ tr tr) tr) tr)))))) tr) (by kernel_rfl) rfl
    · skip
      rcases itb_some h with ⟨c7, h⟩ | ⟨c7, h⟩
      · skip
        obtain rfl := Option.some.inj h
        exact run_ret mixed (L := []) (n := 38) (s := [.reg [], .reg [(1, { call := some (cmp_isNaN_uint8_v y2, [], []) })], .reg [(1, { call := some (cmp_isNaN_uint8_v y4, [], []) })], .reg [(0, { v := some (.bool false) })], .reg [(0, { v := some (.bool false) })], .reg [(2, { v := some (.bool true) })], .reg []])
          (a_ (a_ (a_ (a_ tr tr) tr) (a_ (a_ (a_ tr tr) (a_ (a_ (a_ (cmp_isNaN_uint8_tri x y2 e1) tr) tr) (a_ (a_ tr tr) tr))) (a_ (a_ (a_ tr tr) (a_ (a_ (a_ (cmp_isNaN_uint8_tri y y4 e3) tr) tr) (a_ (a_ tr tr) tr))) (a_ (a_ (a_ tr (a_ (leB c5) tr)) tr) (a_ (a_ (a_ tr (a_ (leB c6) tr)) tr) (a_ (a_ (a_ tr tr) (a_ (a_ tr tr) (a_ (a_ tr (a_ (leB c7) tr)) tr))) (a_ (a_ (a_ tr tr) tr) tr))))))) tr) (by kernel_rfl) rfl
      · skip
        rcases itb_some h with ⟨c8, h⟩ | ⟨c8, h⟩
        · skip
          obtain rfl := Option.some.inj h
          exact run_ret mixed (L := []) (n := 44) (s := [.reg [], .reg [(1, { call := some (cmp_isNaN_uint8_v y2, [], []) })], .reg [(1, { call := some (cmp_isNaN_uint8_v y4, [], []) })], .reg [(0, { v := some (.bool false) })], .reg [(0, { v := some (.bool false) })], .reg [(2, { v := some (.bool false) })], .reg [(2, { v := some (.bool true) })], .reg []])
            (a_ (a_ (a_ (a_ tr tr) tr) (a_ (a_ (a_ tr tr) (a_ (a_ (a_ (cmp_isNaN_uint8_tri x y2 e1) tr) tr) (a_ (a_ tr tr) tr))) (a_ (a_ (a_ tr tr) (a_ (a_ (a_ (cmp_isNaN_uint8_tri y y4 e3) tr) tr) (a_ (a_ tr tr) tr))) (a_ (a_ (a_ tr (a_ (leB c5) tr)) tr) (a_ (a_ (a_ tr (a_ (leB c6) tr)) tr) (a_ (a_ (a_ tr tr) (a_ (a_ tr tr) (a_ (a_ tr (a_ (leB c7) tr)) tr))) (a_ (a_ (a_ tr tr) (a_ (a_ tr tr) (a_ (a_ tr (a_ (leB c8) tr)) tr))) (a_ (a_ (a_ tr tr) tr) tr)))))))) tr) (by kernel_rfl) rfl
        · skip
          obtain rfl := Option.some.inj h
          exact run_ret mixed (L := []) (n := 45) (s := [.reg [], .reg [(1, { call := some (cmp_isNaN_uint8_v y2, [], []) })], .reg [(1, { call := some (cmp_isNaN_uint8_v y4, [], []) })], .reg [(0, { v := some (.bool false) })], .reg [(0, { v := some (.bool false) })], .reg [(2, { v := some (.bool false) })], .reg [(2, { v := some (.bool false) })], .reg []])
            (a_ (a_ (a_ (a_ tr tr) tr) (a_ (a_ (a_ tr tr) (a_ (a_ (a_ (cmp_isNaN_uint8_tri x y2 e1) tr) tr) (a_ (a_ tr tr) tr))) (a_ (a_ (a_ tr tr) (a_ (a_ (a_ (cmp_isNaN_uint8_tri y y4 e3) tr) tr) (a_ (a_ tr tr) tr))) (a_ (a_ (a_ tr (a_ (leB c5) tr)) tr) (a_ (a_ (a_ tr (a_ (leB c6) tr)) tr) (a_ (a_ (a_ tr tr) (a_ (a_ tr tr) (a_ (a_ tr (a_ (leB c7) tr)) tr))) (a_ (a_ (a_ tr tr) (a_ (a_ tr tr) (a_ (a_ tr (a_ (leB c8) tr)) tr))) (a_ (a_ (a_ tr tr) tr) tr)))))))) tr) (by kernel_rfl) rfl

theorem cmp_Compare_uint8_tri (x : Int) (y : Int) (r : (Int)) (h : cmp_Compare_uint8 x y = some r) : FnTri Try.prog 45 [.int .u8 x, .int .u8 y] [] (cmp_Compare_uint8_v r) [] := FnTri.none (cmp_Compare_uint8_ok x y r h) rfl rfl

/-- slices.Compare[[]byte,byte] -/

def slices_Compare_byte_byte_v (r : (Int)) : LV := .int .i64 r

def slices_Compare_byte_byte_up (s1 : A8 (Int)) (s2 : A8 (Int)) (r : (Int)) : Upd := [(0, some (.var [.int .u8 s1.a0, .int .u8 s1.a1, .int .u8 s1.a2, .int .u8 s1.a3, .int .u8 s1.a4, .int .u8 s1.a5, .int .u8 s1.a6, .int .u8 s1.a7])), (1, some (.var [.int .u8 s2.a0, .int .u8 s2.a1, .int .u8 s2.a2, .int .u8 s2.a3, .int .u8 s2.a4, .int .u8 s2.a5, .int .u8 s2.a6, .int .u8 s2.a7]))]

def slices_Compare_byte_byte_objs (s1 : A8 (Int)) (s2 : A8 (Int)) : List LO := [.var [.int .u8 s1.a0, .int .u8 s1.a1, .int .u8 s1.a2, .int .u8 s1.a3, .int .u8 s1.a4, .int .u8 s1.a5, .int .u8 s1.a6, .int .u8 s1.a7], .var [.int .u8 s2.a0, .int .u8 s2.a1, .int .u8 s2.a2, .int .u8 s2.a3, .int .u8 s2.a4, .int .u8 s2.a5, .int .u8 s2.a6, .int .u8 s2.a7]]

def slices_Compare_byte_byte_T0 (s1 : A8 (Int)) (s2 : A8 (Int)) (t11 : Int) : List LV := [.sl 0 0 0 true 8 (some 8), .sl 1 0 0 true 8 (some 8), .any, .any, .any, .any, .any, .any, .any, .sl 0 0 0 true 8 (some 8), .int .i64 8, .int .i64 t11, .any, .any, .any, .any, .any, .any, .any, .any, .any, .any, .any, .any, .any, .any, .any, .any, .any, .any, .any, .any, .any, .any, .any, .any]

def slices_Compare_byte_byte_H0 (s1 : A8 (Int)) (s2 : A8 (Int)) (t11 : Int) : Heap := [some (.var [.int .u8 s1.a0, .int .u8 s1.a1, .int .u8 s1.a2, .int .u8 s1.a3, .int .u8 s1.a4, .int .u8 s1.a5, .int .u8 s1.a6, .int .u8 s1.a7]), some (.var [.int .u8 s2.a0, .int .u8 s2.a1, .int .u8 s2.a2, .int .u8 s2.a3, .int .u8 s2.a4, .int .u8 s2.a5, .int .u8 s2.a6, .int .u8 s2.a7])]

def slices_Compare_byte_byte_l0 (s1 : A8 (Int)) (s2 : A8 (Int))  : Nat → (Int) → Option ((Int))
  | 0, _ => none
  | fuel + 1, t11 =>
    if ((decide (t11 < 8)) : Bool) then
      if 0 ≤ t11 ∧ t11 < 8 then
      if ((decide (8 ≤ t11)) : Bool) then
        some 1
      else
        (cmp_Compare_uint8 (A8.get s1 t11.toNat) (A8.get s2 t11.toNat)).bind fun yL0_5 =>
        if ((yL0_5 != 0) : Bool) then
          some yL0_5
        else
          slices_Compare_byte_byte_l0 s1 s2  fuel (IntKind.wrap .i64 (t11 + 1))
      else none
    else
      some 0

def slices_Compare_byte_byte (s1 : A8 (Int)) (s2 : A8 (Int)) : Option ((Int)) :=
  slices_Compare_byte_byte_l0 s1 s2  big 0

theorem slices_Compare_byte_byte_l0_ok {w0 : World} {W : Nat → Prop} {μ0 : Emb} (hμ : ∀ c p, μ0 c = some p → c < 2) (s1 : A8 (Int)) (s2 : A8 (Int))  : ∀ (fuel : Nat) (t11 : Int) (r : (Int)), slices_Compare_byte_byte_l0 s1 s2  fuel t11 = some r → kont Try.prog w0 W μ0 (FnPost Try.prog Try.f42 2 2 (slices_Compare_byte_byte_v r) (slices_Compare_byte_byte_up s1 s2 r)) (kAt (bodyOf Try.f42) 0) none (slices_Compare_byte_byte_T0 s1 s2 t11) (slices_Compare_byte_byte_H0 s1 s2 t11) := by
  intro fuel
  induction fuel with
  | zero => intro t11 r h; rw [slices_Compare_byte_byte_l0] at h; cases h
  | succ fuel ih =>
    intro t11 r h
    rw [slices_Compare_byte_byte_l0] at h
    rcases itb_some h with ⟨cL0_1, h⟩ | ⟨cL0_1, h⟩
    · skip
      obtain ⟨gL0_2, h⟩ := guard_some h
      rcases itb_some h with ⟨cL0_3, h⟩ | ⟨cL0_3, h⟩
      · skip
        obtain rfl := Option.some.inj h
        exact run_ret mixed (L := []) (n := 29) (s := [.go, .reg [(0, { v := some (.bool true) })], .reg [(2, { v := some (.int .u8 (A8.get s1 t11.toNat)) })], .reg [(3, { v := some (.bool true) })], .reg []])
          (a_ (a_ (a_ (a_ tr (a_ (leB cL0_1) tr)) tr) (a_ (a_ (a_ tr tr) (a_ (a_ gL0_2 tr) (a_ (a_ (a_ tr (arrLt (len := 8) gL0_2 0 1 8 rfl rfl)) (a_ (ld8s (cInt .u8) 1 (fun _ => rfl) s1 [] [] 0 rfl t11.toNat (lt8N gL0_2) (le_ (0 + 1) 1 rfl)) tr)) (a_ (a_ tr tr) (a_ (a_ tr tr) tr))))) (a_ (a_ (a_ tr tr) (a_ (a_ tr tr) (a_ (a_ tr tr) (a_ (a_ tr (a_ (leB cL0_3) tr)) tr)))) (a_ (a_ (a_ tr tr) tr) tr)))) tr) (by kernel_rfl) rfl
      · skip
        obtain ⟨yL0_5, eL0_4, h⟩ := bind_some h
        rcases itb_some h with ⟨cL0_6, h⟩ | ⟨cL0_6, h⟩
        · skip
          obtain rfl := Option.some.inj h
          exact run_ret mixed (L := []) (n := 40) (s := [.go, .reg [(0, { v := some (.bool true) })], .reg [(2, { v := some (.int .u8 (A8.get s1 t11.toNat)) })], .reg [(3, { v := some (.bool false) })], .reg [(3, { v := some (.int .u8 (A8.get s2 t11.toNat)) })], .reg [(2, { call := some (cmp_Compare_uint8_v yL0_5, [], []) })], .reg [(1, { v := some (.bool true) })], .reg []])
            (a_ (a_ (a_ (a_ tr (a_ (leB cL0_1) tr)) tr) (a_ (a_ (a_ tr tr) (a_ (a_ gL0_2 tr) (a_ (a_ (a_ tr (arrLt (len := 8) gL0_2 0 1 8 rfl rfl)) (a_ (ld8s (cInt .u8) 1 (fun _ => rfl) s1 [] [] 0 rfl t11.toNat (lt8N gL0_2) (le_ (0 + 1) 1 rfl)) tr)) (a_ (a_ tr tr) (a_ (a_ tr tr) tr))))) (a_ (a_ (a_ tr tr) (a_ (a_ tr tr) (a_ (a_ tr tr) (a_ (a_ tr (a_ (leB cL0_3) tr)) tr)))) (a_ (a_ (a_ tr tr) (a_ (a_ tr tr) (a_ (a_ gL0_2 tr) (a_ (a_ (a_ tr (arrLt (len := 8) gL0_2 0 1 8 rfl rfl)) (a_ (ld8s (cInt .u8) 1 (fun _ => rfl) s2 [] [] 0 rfl t11.toNat (lt8N gL0_2) (le_ (0 + 1) 1 rfl)) tr)) (a_ (a_ tr tr) tr))))) (a_ (a_ (a_ tr tr) (a_ (a_ tr tr) (a_ (a_ (a_ (cmp_Compare_uint8_tri (A8.get s1 t11.toNat) (A8.get s2 t11.toNat) yL0_5 eL0_4) tr) tr) (a_ (a_ tr tr) tr)))) (a_ (a_ (a_ tr tr) (a_ (a_ tr (a_ (leB cL0_6) tr)) tr)) (a_ (a_ (a_ tr tr) (a_ (a_ tr tr) tr)) tr))))))) tr) (by kernel_rfl) rfl
        · skip
          exact run_to mixed hμ (L := []) (n := 41) (s := [.go, .reg [(0, { v := some (.bool true) })], .reg [(2, { v := some (.int .u8 (A8.get s1 t11.toNat)) })], .reg [(3, { v := some (.bool false) })], .reg [(3, { v := some (.int .u8 (A8.get s2 t11.toNat)) })], .reg [(2, { call := some (cmp_Compare_uint8_v yL0_5, [], []) })], .reg [(1, { v := some (.bool false) })], .reg []])
            (a_ (a_ (a_ tr (a_ (leB cL0_1) tr)) tr) (a_ (a_ (a_ tr tr) (a_ (a_ gL0_2 tr) (a_ (a_ (a_ tr (arrLt (len := 8) gL0_2 0 1 8 rfl rfl)) (a_ (ld8s (cInt .u8) 1 (fun _ => rfl) s1 [] [] 0 rfl t11.toNat (lt8N gL0_2) (le_ (0 + 1) 1 rfl)) tr)) (a_ (a_ tr tr) (a_ (a_ tr tr) tr))))) (a_ (a_ (a_ tr tr) (a_ (a_ tr tr) (a_ (a_ tr tr) (a_ (a_ tr (a_ (leB cL0_3) tr)) tr)))) (a_ (a_ (a_ tr tr) (a_ (a_ tr tr) (a_ (a_ gL0_2 tr) (a_ (a_ (a_ tr (arrLt (len := 8) gL0_2 0 1 8 rfl rfl)) (a_ (ld8s (cInt .u8) 1 (fun _ => rfl) s2 [] [] 0 rfl t11.toNat (lt8N gL0_2) (le_ (0 + 1) 1 rfl)) tr)) (a_ (a_ tr tr) tr))))) (a_ (a_ (a_ tr tr) (a_ (a_ tr tr) (a_ (a_ (a_ (cmp_Compare_uint8_tri (A8.get s1 t11.toNat) (A8.get s2 t11.toNat) yL0_5 eL0_4) tr) tr) (a_ (a_ tr tr) tr)))) (a_ (a_ (a_ tr tr) (a_ (a_ tr (a_ (leB cL0_6) tr)) tr)) (a_ (a_ (a_ tr tr) (a_ (a_ tr tr) tr)) tr))))))) (ih _ r h) (by kernel_rfl) ⟨rfl, rfl, trivial⟩
    · skip
      obtain rfl := Option.some.inj h
      exact run_ret mixed (L := []) (n := 25) (s := [.go, .reg [(0, { v := some (.bool false) })], .reg [], .reg []])
        (a_ (a_ (a_ (a_ tr (a_ (leB cL0_1) tr)) tr) (a_ (a_ (a_ tr tr) (a_ (a_ tr tr) (a_ (a_ tr tr) (a_ (a_ tr tr) (a_ (a_ tr tr) tr))))) (a_ (a_ (a_ tr tr) tr) tr))) tr) (by kernel_rfl) rfl

theorem slices_Compare_byte_byte_ok (s1 : A8 (Int)) (s2 : A8 (Int)) (r : (Int)) (h : slices_Compare_byte_byte s1 s2 = some r) : ∀ σ, Inj 2 σ → FnTri Try.prog 42 (renL σ [.sl 0 0 0 true 8 (some 8), .sl 1 0 0 true 8 (some 8)]) (preOf σ 0 (slices_Compare_byte_byte_objs s1 s2)) ((slices_Compare_byte_byte_v r).ren σ) (upOf σ (slices_Compare_byte_byte_up s1 s2 r)) := by
  refine fn_of Try.func42 (by kernel_rfl) (by kernel_rfl) (by kernel_rfl) ⟨rfl, rfl, trivial⟩ (by kernel_rfl) ⟨rfl, rfl, trivial⟩ (by kernel_rfl) ?_
  intro w0 W μ0 hμ
  unfold slices_Compare_byte_byte at h
  exact run_to mixed hμ (L := []) (n := 18) (s := [.reg [], .reg []])
    (a_ (a_ (a_ tr tr) tr) (a_ (a_ (a_ tr tr) (a_ (a_ tr tr) (a_ (a_ tr tr) tr))) tr)) (slices_Compare_byte_byte_l0_ok hμ s1 s2  big _ r h) (by kernel_rfl) ⟨rfl, rfl, trivial⟩

/-- parrel/ids.Keys -/

def ids_Keys_v (r : (Int)) : LV := .int .i64 r

def ids_Keys (a : A8 (Int)) (b : A8 (Int)) : Option ((Int)) :=
  (slices_Compare_byte_byte a b).bind fun y2 =>
  some y2

theorem ids_Keys_ok (a : A8 (Int)) (b : A8 (Int)) (r : (Int)) (h : ids_Keys a b = some r) : ∀ σ, Inj 0 σ → FnTri Try.prog 15 (renL σ [.agg [.int .u8 a.a0, .int .u8 a.a1, .int .u8 a.a2, .int .u8 a.a3, .int .u8 a.a4, .int .u8 a.a5, .int .u8 a.a6, .int .u8 a.a7], .agg [.int .u8 b.a0, .int .u8 b.a1, .int .u8 b.a2, .int .u8 b.a3, .int .u8 b.a4, .int .u8 b.a5, .int .u8 b.a6, .int .u8 b.a7]]) (preOf σ 0 []) ((ids_Keys_v r).ren σ) (upOf σ []) := by
  refine fn_of Try.func15 (by kernel_rfl) (by kernel_rfl) (by kernel_rfl) trivial (by kernel_rfl) trivial (by kernel_rfl) ?_
  intro w0 W μ0 hμ
  unfold ids_Keys at h
  obtain ⟨y2, e1, h⟩ := bind_some h
  obtain rfl := Option.some.inj h
  exact run_ret mixed (L := []) (n := 15) (s := [.reg [], .reg [(2, { call := some ((slices_Compare_byte_byte_v y2).ren (sel [0, 1]), preOf (sel [0, 1]) 0 (slices_Compare_byte_byte_objs a b), upOf (sel [0, 1]) (slices_Compare_byte_byte_up a b y2)) })]])
    (a_ (a_ (a_ (a_ tr tr) (a_ (a_ tr tr) (a_ (a_ tr tr) tr))) (a_ (a_ (a_ (a_ (lei_ 0 0 rfl) (a_ (lei_ 0 8 rfl) (lei_ 8 8 rfl))) tr) (a_ (a_ (a_ (lei_ 0 0 rfl) (a_ (lei_ 0 8 rfl) (lei_ 8 8 rfl))) tr) (a_ (a_ (a_ (slices_Compare_byte_byte_ok a b y2 e1 (sel [0, 1]) (sel_inj rfl rfl)) (a_ (LO.Le.refl (.var [.int .u8 a.a0, .int .u8 a.a1, .int .u8 a.a2, .int .u8 a.a3, .int .u8 a.a4, .int .u8 a.a5, .int .u8 a.a6, .int .u8 a.a7])) (a_ (LO.Le.refl (.var [.int .u8 b.a0, .int .u8 b.a1, .int .u8 b.a2, .int .u8 b.a3, .int .u8 b.a4, .int .u8 b.a5, .int .u8 b.a6, .int .u8 b.a7])) tr))) tr) (a_ (a_ tr tr) tr)))) tr)) tr) (by kernel_rfl) rfl

theorem ids_Keys_tri (a : A8 (Int)) (b : A8 (Int)) (r : (Int)) (h : ids_Keys a b = some r) : FnTri Try.prog 15 [.agg [.int .u8 a.a0, .int .u8 a.a1, .int .u8 a.a2, .int .u8 a.a3, .int .u8 a.a4, .int .u8 a.a5, .int .u8 a.a6, .int .u8 a.a7], .agg [.int .u8 b.a0, .int .u8 b.a1, .int .u8 b.a2, .int .u8 b.a3, .int .u8 b.a4, .int .u8 b.a5, .int .u8 b.a6, .int .u8 b.a7]] [] (ids_Keys_v r) [] := FnTri.none (ids_Keys_ok a b r h) rfl rfl

/-- parrel/parrelref05.first -/

def parrelref05_first_v (r : (Int)) : LV := .int .i64 r

def parrelref05_first_T0 (a : List (Int)) (b : List (Int)) (i : Int) : List LV := [.ds 1 (a).length (rowF (cInt .u32) default a), .ds 1 (b).length (rowF (cInt .u32) default b), .any, .any, .any, .int .i64 i, .any, .any, .any, .any, .any, .any, .any, .any, .any, .any, .any, .any, .any, .any, .any, .any, .any, .any, .any, .any, .any, .any, .any, .any]

def parrelref05_first_H0 (a : List (Int)) (b : List (Int)) (i : Int) : Heap := []

def parrelref05_first_l0 (a : List (Int)) (b : List (Int))  : Nat → (Int) → Option ((Int))
  | 0, _ => none
  | fuel + 1, i =>
    if ((decide (i < ((a).length : Int))) : Bool) then
      if 0 ≤ i ∧ i < ((a).length : Nat) then
      if 0 ≤ i ∧ i < ((b).length : Nat) then
      if ((decide ((a.getD i.toNat default) < (b.getD i.toNat default))) : Bool) then
        some (-1)
      else
        if ((decide ((b.getD i.toNat default) < (a.getD i.toNat default))) : Bool) then
          some 1
        else
          parrelref05_first_l0 a b  fuel (IntKind.wrap .i64 (i + 1))
      else none
      else none
    else
      some 0

def parrelref05_first (a : List (Int)) (b : List (Int)) : Option ((Int)) :=
  parrelref05_first_l0 a b  big 0

theorem parrelref05_first_l0_ok {w0 : World} {W : Nat → Prop} {μ0 : Emb} (hμ : ∀ c p, μ0 c = some p → c < 0) (a : List (Int)) (b : List (Int))  : ∀ (fuel : Nat) (i : Int) (r : (Int)), parrelref05_first_l0 a b  fuel i = some r → kont Try.prog w0 W μ0 (FnPost Try.prog Try.f43 0 0 (parrelref05_first_v r) []) (kAt (bodyOf Try.f43) 0) none (parrelref05_first_T0 a b i) (parrelref05_first_H0 a b i) := by
  intro fuel
  induction fuel with
  | zero => intro i r h; rw [parrelref05_first_l0] at h; cases h
  | succ fuel ih =>
    intro i r h
    rw [parrelref05_first_l0] at h
    rcases itb_some h with ⟨cL0_1, h⟩ | ⟨cL0_1, h⟩
    · skip
      obtain ⟨gL0_2, h⟩ := guard_some h
      obtain ⟨gL0_3, h⟩ := guard_some h
      rcases itb_some h with ⟨cL0_4, h⟩ | ⟨cL0_4, h⟩
      · skip
        obtain rfl := Option.some.inj h
        exact run_ret mixed (L := []) (n := 26) (s := [.go, .reg [(3, { v := some (.bool true) })], .reg [(8, { v := some (.bool true) })], .reg []])
          (a_ (a_ (a_ (a_ tr tr) (a_ (a_ tr tr) (a_ (a_ tr tr) (a_ (a_ tr (a_ (leB cL0_1) tr)) tr)))) (a_ (a_ (a_ tr tr) (a_ (a_ tr tr) (a_ (a_ (a_ (Eq.refl 1) gL0_2) tr) (a_ (a_ (lt_ 0 1 rfl) tr) (a_ (a_ tr tr) (a_ (a_ tr tr) (a_ (a_ (a_ (Eq.refl 1) gL0_3) tr) (a_ (a_ (lt_ 0 1 rfl) tr) (a_ (a_ tr (a_ (leB cL0_4) tr)) tr))))))))) (a_ (a_ (a_ tr tr) tr) tr))) tr) (by kernel_rfl) rfl
      · skip
        rcases itb_some h with ⟨cL0_5, h⟩ | ⟨cL0_5, h⟩
        · skip
          obtain rfl := Option.some.inj h
          exact run_ret mixed (L := []) (n := 31) (s := [.go, .reg [(3, { v := some (.bool true) })], .reg [(8, { v := some (.bool false) })], .reg [(8, { v := some (.bool true) })], .reg []])
            (a_ (a_ (a_ (a_ tr tr) (a_ (a_ tr tr) (a_ (a_ tr tr) (a_ (a_ tr (a_ (leB cL0_1) tr)) tr)))) (a_ (a_ (a_ tr tr) (a_ (a_ tr tr) (a_ (a_ (a_ (Eq.refl 1) gL0_2) tr) (a_ (a_ (lt_ 0 1 rfl) tr) (a_ (a_ tr tr) (a_ (a_ tr tr) (a_ (a_ (a_ (Eq.refl 1) gL0_3) tr) (a_ (a_ (lt_ 0 1 rfl) tr) (a_ (a_ tr (a_ (leB cL0_4) tr)) tr))))))))) (a_ (a_ (a_ tr tr) (a_ (a_ tr tr) (a_ (a_ (a_ (Eq.refl 1) gL0_2) tr) (a_ (a_ (lt_ 0 1 rfl) tr) (a_ (a_ tr tr) (a_ (a_ tr tr) (a_ (a_ (a_ (Eq.refl 1) gL0_3) tr) (a_ (a_ (lt_ 0 1 rfl) tr) (a_ (a_ tr (a_ (leB cL0_5) tr)) tr))))))))) (a_ (a_ (a_ tr tr) tr) tr)))) tr) (by kernel_rfl) rfl
        · skip
          exact run_to mixed hμ (L := []) (n := 32) (s := [.go, .reg [(3, { v := some (.bool true) })], .reg [(8, { v := some (.bool false) })], .reg [(8, { v := some (.bool false) })], .reg []])
            (a_ (a_ (a_ tr tr) (a_ (a_ tr tr) (a_ (a_ tr tr) (a_ (a_ tr (a_ (leB cL0_1) tr)) tr)))) (a_ (a_ (a_ tr tr) (a_ (a_ tr tr) (a_ (a_ (a_ (Eq.refl 1) gL0_2) tr) (a_ (a_ (lt_ 0 1 rfl) tr) (a_ (a_ tr tr) (a_ (a_ tr tr) (a_ (a_ (a_ (Eq.refl 1) gL0_3) tr) (a_ (a_ (lt_ 0 1 rfl) tr) (a_ (a_ tr (a_ (leB cL0_4) tr)) tr))))))))) (a_ (a_ (a_ tr tr) (a_ (a_ tr tr) (a_ (a_ (a_ (Eq.refl 1) gL0_2) tr) (a_ (a_ (lt_ 0 1 rfl) tr) (a_ (a_ tr tr) (a_ (a_ tr tr) (a_ (a_ (a_ (Eq.refl 1) gL0_3) tr) (a_ (a_ (lt_ 0 1 rfl) tr) (a_ (a_ tr (a_ (leB cL0_5) tr)) tr))))))))) (a_ (a_ (a_ tr tr) (a_ (a_ tr tr) (a_ (a_ tr tr) tr))) tr)))) (ih _ r h) (by kernel_rfl) trivial
    · skip
      obtain rfl := Option.some.inj h
      exact run_ret mixed (L := []) (n := 19) (s := [.go, .reg [(3, { v := some (.bool false) })], .reg []])
        (a_ (a_ (a_ (a_ tr tr) (a_ (a_ tr tr) (a_ (a_ tr tr) (a_ (a_ tr (a_ (leB cL0_1) tr)) tr)))) (a_ (a_ (a_ tr tr) tr) tr)) tr) (by kernel_rfl) rfl

theorem parrelref05_first_ok (a : List (Int)) (b : List (Int)) (r : (Int)) (h : parrelref05_first a b = some r) : ∀ σ, Inj 0 σ → FnTri Try.prog 43 (renL σ [.ds 1 (a).length (rowF (cInt .u32) default a), .ds 1 (b).length (rowF (cInt .u32) default b)]) (preOf σ 0 []) ((parrelref05_first_v r).ren σ) (upOf σ []) := by
  refine fn_of Try.func43 (by kernel_rfl) (by kernel_rfl) (by kernel_rfl) trivial (by kernel_rfl) trivial (by kernel_rfl) ?_
  intro w0 W μ0 hμ
  unfold parrelref05_first at h
  exact run_to mixed hμ (L := []) (n := 18) (s := [.reg [], .reg []])
    (a_ (a_ (a_ tr tr) tr) (a_ (a_ (a_ tr tr) tr) tr)) (parrelref05_first_l0_ok hμ a b  big _ r h) (by kernel_rfl) trivial

theorem parrelref05_first_tri (a : List (Int)) (b : List (Int)) (r : (Int)) (h : parrelref05_first a b = some r) : FnTri Try.prog 43 [.ds 1 (a).length (rowF (cInt .u32) default a), .ds 1 (b).length (rowF (cInt .u32) default b)] [] (parrelref05_first_v r) [] := FnTri.none (parrelref05_first_ok a b r h) rfl rfl

/-- parrel/parrelref05.Keys -/

def parrelref05_Keys_v (r : (Int)) : LV := .int .i64 r

def parrelref05_Keys_T0 (a : A8 (Int)) (b : A8 (Int)) (i : Int) (l : List (Int)) (l2 : List (Int)) : List LV := [.any, .any, .ptr 0 0 0, .ptr 1 0 0, .any, .gs 2 (l).length, .gs 3 (l2).length, .int .i64 i, .any, .any, .any, .any, .any, .any, .any, .any, .any, .any, .any, .any, .any, .any, .any, .any, .any, .any, .any, .any, .any]

def parrelref05_Keys_H0 (a : A8 (Int)) (b : A8 (Int)) (i : Int) (l : List (Int)) (l2 : List (Int)) : Heap := [some (.var [.int .u8 a.a0, .int .u8 a.a1, .int .u8 a.a2, .int .u8 a.a3, .int .u8 a.a4, .int .u8 a.a5, .int .u8 a.a6, .int .u8 a.a7]), some (.var [.int .u8 b.a0, .int .u8 b.a1, .int .u8 b.a2, .int .u8 b.a3, .int .u8 b.a4, .int .u8 b.a5, .int .u8 b.a6, .int .u8 b.a7]), some (.gr 1 (l).length (rowF (cInt .u32) default l)), some (.gr 1 (l2).length (rowF (cInt .u32) default l2))]

def parrelref05_Keys_l0 (a : A8 (Int)) (b : A8 (Int))  : Nat → (Int) → (List (Int)) → (List (Int)) → Option ((Int))
  | 0, _, _, _ => none
  | fuel + 1, i, l, l2 =>
    if ((decide (i < 8)) : Bool) then
      if 0 ≤ i ∧ i < 8 then
      if ((l).length + ([(IntKind.wrap .u32 (A8.get a i.toNat))]).length) * 4 ≤ 140737488351232 then
      if ((l2).length + ([(IntKind.wrap .u32 (A8.get b i.toNat))]).length) * 4 ≤ 140737488351232 then
      parrelref05_Keys_l0 a b  fuel (IntKind.wrap .i64 (i + 1)) (l ++ [(IntKind.wrap .u32 (A8.get a i.toNat))]) (l2 ++ [(IntKind.wrap .u32 (A8.get b i.toNat))])
      else none
      else none
      else none
    else
      (parrelref05_first l l2).bind fun yL0_3 =>
      some yL0_3

def parrelref05_Keys (a : A8 (Int)) (b : A8 (Int)) : Option ((Int)) :=
  parrelref05_Keys_l0 a b  big 0 ([] : List (Int)) ([] : List (Int))

theorem parrelref05_Keys_l0_ok {w0 : World} {W : Nat → Prop} {μ0 : Emb} (hμ : ∀ c p, μ0 c = some p → c < 0) (a : A8 (Int)) (b : A8 (Int))  : ∀ (fuel : Nat) (i : Int) (l : List (Int)) (l2 : List (Int)) (r : (Int)), parrelref05_Keys_l0 a b  fuel i l l2 = some r → kont Try.prog w0 W μ0 (FnPost Try.prog Try.f16 0 0 (parrelref05_Keys_v r) []) (kAt (bodyOf Try.f16) 0) none (parrelref05_Keys_T0 a b i l l2) (parrelref05_Keys_H0 a b i l l2) := by
  intro fuel
  induction fuel with
  | zero => intro i l l2 r h; rw [parrelref05_Keys_l0] at h; cases h
  | succ fuel ih =>
    intro i l l2 r h
    rw [parrelref05_Keys_l0] at h
    rcases itb_some h with ⟨cL0_1, h⟩ | ⟨cL0_1, h⟩
    · skip
      obtain ⟨gL0_2, h⟩ := guard_some h
      obtain ⟨gL0_3, h⟩ := guard_some h
      obtain ⟨gL0_4, h⟩ := guard_some h
      exact run_to mixed hμ (L := [0, 1, 5, 7]) (n := 26) (s := [.go, .reg [(1, { v := some (.bool true) })], .reg [(3, { v := some (.int .u8 (A8.get a i.toNat)) }), (5, { os := [(4, .gr 1 ([(IntKind.wrap .u32 (A8.get a i.toNat))]).length (rowF (cInt .u32) default [(IntKind.wrap .u32 (A8.get a i.toNat))]))], v := some (.gs 4 ([(IntKind.wrap .u32 (A8.get a i.toNat))]).length) }), (6, { app := 3, os := [(5, .gr 1 ((l ++ [(IntKind.wrap .u32 (A8.get a i.toNat))])).length (rowF (cInt .u32) default (l ++ [(IntKind.wrap .u32 (A8.get a i.toNat))])))], v := some (.gs 5 ((l ++ [(IntKind.wrap .u32 (A8.get a i.toNat))])).length) })], .reg [(3, { v := some (.int .u8 (A8.get b i.toNat)) }), (5, { os := [(6, .gr 1 ([(IntKind.wrap .u32 (A8.get b i.toNat))]).length (rowF (cInt .u32) default [(IntKind.wrap .u32 (A8.get b i.toNat))]))], v := some (.gs 6 ([(IntKind.wrap .u32 (A8.get b i.toNat))]).length) }), (6, { app := 3, os := [(7, .gr 1 ((l2 ++ [(IntKind.wrap .u32 (A8.get b i.toNat))])).length (rowF (cInt .u32) default (l2 ++ [(IntKind.wrap .u32 (A8.get b i.toNat))])))], v := some (.gs 7 ((l2 ++ [(IntKind.wrap .u32 (A8.get b i.toNat))])).length) })], .reg []])
        (a_ (a_ (a_ tr tr) (a_ (a_ tr (a_ (leB cL0_1) tr)) tr)) (a_ (a_ (a_ tr tr) (a_ (a_ tr tr) (a_ (a_ gL0_2 tr) (a_ (a_ (a_ tr (arrLt (len := 8) gL0_2 0 1 8 rfl rfl)) (a_ (ld8s (cInt .u8) 1 (fun _ => rfl) a [] [] 0 rfl i.toNat (lt8N gL0_2) (le_ (0 + 1) 1 rfl)) tr)) (a_ (a_ tr tr) (a_ (a_ (a_ (Eq.refl true) (a_ (Eq.refl 1) (a_ (lt_ 0 1 rfl) (le_ 1 16777216 rfl)))) (a_ (le_sl_gs 4 1 (some 1) rfl) (a_ (sub_lit (cInt .u32) default 1 (fun _ => rfl) [(IntKind.wrap .u32 (A8.get a i.toNat))]) tr))) (a_ (a_ (a_ (a_ (Eq.refl 1) (Nat.le_refl ([(IntKind.wrap .u32 (A8.get a i.toNat))]).length)) (a_ (a_ (lt_ 0 1 rfl) (a_ (lt_ 0 4 rfl) (a_ gL0_3 (a_ (Eq.refl 1) (Eq.refl true))))) (a_ (Eq.refl 1) (Nat.le_refl (l).length)))) (a_ (le_gs_app 5 l [(IntKind.wrap .u32 (A8.get a i.toNat))]) (a_ (sub_app (cInt .u32) default 1 l [(IntKind.wrap .u32 (A8.get a i.toNat))]) tr))) (a_ (a_ tr tr) tr)))))))) (a_ (a_ (a_ tr tr) (a_ (a_ tr tr) (a_ (a_ gL0_2 tr) (a_ (a_ (a_ tr (arrLt (len := 8) gL0_2 0 1 8 rfl rfl)) (a_ (ld8s (cInt .u8) 1 (fun _ => rfl) b [] [] 0 rfl i.toNat (lt8N gL0_2) (le_ (0 + 1) 1 rfl)) tr)) (a_ (a_ tr tr) (a_ (a_ (a_ (Eq.refl true) (a_ (Eq.refl 1) (a_ (lt_ 0 1 rfl) (le_ 1 16777216 rfl)))) (a_ (le_sl_gs 6 1 (some 1) rfl) (a_ (sub_lit (cInt .u32) default 1 (fun _ => rfl) [(IntKind.wrap .u32 (A8.get b i.toNat))]) tr))) (a_ (a_ (a_ (a_ (Eq.refl 1) (Nat.le_refl ([(IntKind.wrap .u32 (A8.get b i.toNat))]).length)) (a_ (a_ (lt_ 0 1 rfl) (a_ (lt_ 0 4 rfl) (a_ gL0_4 (a_ (Eq.refl 1) (Eq.refl true))))) (a_ (Eq.refl 1) (Nat.le_refl (l2).length)))) (a_ (le_gs_app 7 l2 [(IntKind.wrap .u32 (A8.get b i.toNat))]) (a_ (sub_app (cInt .u32) default 1 l2 [(IntKind.wrap .u32 (A8.get b i.toNat))]) tr))) (a_ (a_ tr tr) tr)))))))) (a_ (a_ (a_ tr tr) (a_ (a_ tr tr) (a_ (a_ tr tr) tr))) tr)))) (ih _ _ _ r h) (by kernel_rfl) ⟨rfl, rfl, fun _ _ => rfl, fun _ _ => rfl, trivial⟩
    · skip
      obtain ⟨yL0_3, eL0_2, h⟩ := bind_some h
      obtain rfl := Option.some.inj h
      exact run_ret mixed (L := []) (n := 21) (s := [.go, .reg [(1, { v := some (.bool false) })], .frz 2, .frz 3, .reg [(2, { call := some (parrelref05_first_v yL0_3, [], []) })]])
        (a_ (a_ (a_ (a_ tr tr) (a_ (a_ tr (a_ (leB cL0_1) tr)) tr)) (a_ (a_ (fz_row (enc := (cInt .u32)) (d := default) (fun _ => rfl) l) (a_ (Nat.le_refl (l).length) tr)) (a_ (a_ (fz_row (enc := (cInt .u32)) (d := default) (fun _ => rfl) l2) (a_ (Nat.le_refl (l2).length) tr)) (a_ (a_ (a_ tr tr) (a_ (a_ tr tr) (a_ (a_ (a_ (parrelref05_first_tri l l2 yL0_3 eL0_2) tr) tr) (a_ (a_ tr tr) tr)))) tr)))) tr) (by kernel_rfl) rfl

theorem parrelref05_Keys_ok (a : A8 (Int)) (b : A8 (Int)) (r : (Int)) (h : parrelref05_Keys a b = some r) : ∀ σ, Inj 0 σ → FnTri Try.prog 16 (renL σ [.agg [.int .u8 a.a0, .int .u8 a.a1, .int .u8 a.a2, .int .u8 a.a3, .int .u8 a.a4, .int .u8 a.a5, .int .u8 a.a6, .int .u8 a.a7], .agg [.int .u8 b.a0, .int .u8 b.a1, .int .u8 b.a2, .int .u8 b.a3, .int .u8 b.a4, .int .u8 b.a5, .int .u8 b.a6, .int .u8 b.a7]]) (preOf σ 0 []) ((parrelref05_Keys_v r).ren σ) (upOf σ []) := by
  refine fn_of Try.func16 (by kernel_rfl) (by kernel_rfl) (by kernel_rfl) trivial (by kernel_rfl) trivial (by kernel_rfl) ?_
  intro w0 W μ0 hμ
  unfold parrelref05_Keys at h
  exact run_to mixed hμ (L := [0, 1, 2, 3]) (n := 23) (s := [.reg [], .void (.gr 1 (([] : List (Int))).length (rowF (cInt .u32) default ([] : List (Int)))), .void (.gr 1 (([] : List (Int))).length (rowF (cInt .u32) default ([] : List (Int)))), .reg [(0, { v := some (.gs 2 (([] : List (Int))).length) }), (1, { v := some (.gs 3 (([] : List (Int))).length) })], .reg []])
    (a_ (a_ (a_ tr tr) (a_ (a_ tr tr) (a_ (a_ tr tr) tr))) (a_ (Eq.refl 0) (a_ (Eq.refl 0) (a_ (a_ (a_ tr (a_ (le_nil_gs 2) tr)) (a_ (a_ tr (a_ (le_nil_gs 3) tr)) tr)) (a_ (a_ (a_ tr tr) tr) tr))))) (parrelref05_Keys_l0_ok hμ a b  big _ _ _ r h) (by kernel_rfl) ⟨rfl, rfl, fun _ _ => rfl, fun _ _ => rfl, trivial⟩

theorem parrelref05_Keys_tri (a : A8 (Int)) (b : A8 (Int)) (r : (Int)) (h : parrelref05_Keys a b = some r) : FnTri Try.prog 16 [.agg [.int .u8 a.a0, .int .u8 a.a1, .int .u8 a.a2, .int .u8 a.a3, .int .u8 a.a4, .int .u8 a.a5, .int .u8 a.a6, .int .u8 a.a7], .agg [.int .u8 b.a0, .int .u8 b.a1, .int .u8 b.a2, .int .u8 b.a3, .int .u8 b.a4, .int .u8 b.a5, .int .u8 b.a6, .int .u8 b.a7]] [] (parrelref05_Keys_v r) [] := FnTri.none (parrelref05_Keys_ok a b r h) rfl rfl

/-- cmp.isNaN[uint32] -/

def cmp_isNaN_uint32_v (r : (Bool)) : LV := .bool r

def cmp_isNaN_uint32 (x : Int) : Option ((Bool)) :=
  some (x != x)

theorem cmp_isNaN_uint32_ok (x : Int) (r : (Bool)) (h : cmp_isNaN_uint32 x = some r) : ∀ σ, Inj 0 σ → FnTri Try.prog 62 (renL σ [.int .u32 x]) (preOf σ 0 []) ((cmp_isNaN_uint32_v r).ren σ) (upOf σ []) := by
  refine fn_of Try.func62 (by kernel_rfl) (by kernel_rfl) (by kernel_rfl) trivial (by kernel_rfl) trivial (by kernel_rfl) ?_
  intro w0 W μ0 hμ
  unfold cmp_isNaN_uint32 at h
  obtain rfl := Option.some.inj h
  exact run_ret mixed (L := []) (n := 15) (s := [.reg [], .reg []])
    (a_ (a_ (a_ (a_ tr tr) tr) (a_ (a_ (a_ tr tr) (a_ (a_ tr tr) (a_ (a_ tr tr) (a_ (a_ tr tr) tr)))) tr)) tr) (by kernel_rfl) rfl

theorem cmp_isNaN_uint32_tri (x : Int) (r : (Bool)) (h : cmp_isNaN_uint32 x = some r) : FnTri Try.prog 62 [.int .u32 x] [] (cmp_isNaN_uint32_v r) [] := FnTri.none (cmp_isNaN_uint32_ok x r h) rfl rfl

/-- cmp.Compare[uint32] -/

def cmp_Compare_uint32_v (r : (Int)) : LV := .int .i64 r

def cmp_Compare_uint32 (x : Int) (y : Int) : Option ((Int)) :=
  (cmp_isNaN_uint32 x).bind fun y2 =>
  (cmp_isNaN_uint32 y).bind fun y4 =>
  if (y2 : Bool) then
    if (y4 : Bool) then
      some 0
    else
      some (-1)
  else
    if (y4 : Bool) then
      some 1
    else
      if ((decide (x < y)) : Bool) then
        some (-1)
      else
        if ((decide (y < x)) : Bool) then
          some 1
        else
          some 0

theorem cmp_Compare_uint32_ok (x : Int) (y : Int) (r : (Int)) (h : cmp_Compare_uint32 x y = some r) : ∀ σ, Inj 0 σ → FnTri Try.prog 46 (renL σ [.int .u32 x, .int .u32 y]) (preOf σ 0 []) ((cmp_Compare_uint32_v r).ren σ) (upOf σ []) := by
  refine fn_of Try.func46 (by kernel_rfl) (by kernel_rfl) (by kernel_rfl) trivial (by kernel_rfl) trivial (by kernel_rfl) ?_
  intro w0 W μ0 hμ
  unfold cmp_Compare_uint32 at h
  obtain ⟨y2, e1, h⟩ := bind_some h
  obtain ⟨y4, e3, h⟩ := bind_some h
  rcases itb_some h with ⟨c5, h⟩ | ⟨c5, h⟩
  · skip
    rcases itb_some h with ⟨c6, h⟩ | ⟨c6, h⟩
    · skip
      obtain rfl := Option.some.inj h
      exact run_ret mixed (L := []) (n := 31) (s := [.reg [], .reg [(1, { call := some (cmp_isNaN_uint32_v y2, [], []) })], .reg [(1, { call := some (cmp_isNaN_uint32_v y4, [], []) })], .reg [(0, { v := some (.bool true) })], .reg [(0, { v := some (.bool true) })], .reg []])
        (a_ (a_ (a_ (a_ tr tr) tr) (a_ (a_ (a_ tr tr) (a_ (a_ (a_ (cmp_isNaN_uint32_tri x y2 e1) tr) tr) (a_ (a_ tr tr) tr))) (a_ (a_ (a_ tr tr) (a_ (a_ (a_ (cmp_isNaN_uint32_tri y y4 e3) tr) tr) (a_ (a_ tr tr) tr))) (a_ (a_ (a_ tr (a_ (leB c5) tr)) tr) (a_ (a_ (a_ tr (a_ (leB c6) tr)) tr) (a_ (a_ (a_ tr tr) tr) tr)))))) tr) (by kernel_rfl) rfl
    · skip
      obtain rfl := Option.some.inj h
      exact run_ret mixed (L := []) (n := 32) (s := [.reg [], .reg [(1, { call := some (cmp_isNaN_uint32_v y2, [], []) })], .reg [(1, { call := some (cmp_isNaN_uint32_v y4, [], []) })], .reg [(0, { v := some (.bool true) })], .reg [(0, { v := some (.bool false) })], .reg []])
        (a_ (a_ (a_ (a_ tr tr) tr) (a_ (a_ (a_ tr tr) (a_ (a_ (a_ (cmp_isNaN_uint32_tri x y2 e1) tr) tr) (a_ (a_ tr tr) tr))) (a_ (a_ (a_ tr tr) (a_ (a_ (a_ (cmp_isNaN_uint32_tri y y4 e3) tr) tr) (a_ (a_ tr tr) tr))) (a_ (a_ (a_ tr (a_ (leB c5) tr)) tr) (a_ (a_ (a_ tr (a_ (leB c6) tr)) tr) (a_ (a_ (a_ tr tr) tr) tr)))))) tr) (by kernel_rfl) rfl
  · skip
    rcases itb_some h with ⟨c6, h⟩ | ⟨c6, h⟩
    · skip
      obtain rfl := Option.some.inj h
      exact run_ret mixed (L := []) (n := 32) (s := [.reg [], .reg [(1, { call := some (cmp_isNaN_uint32_v y2, [], []) })], .reg [(1, { call := some (cmp_isNaN_uint32_v y4, [], []) })], .reg [(0, { v := some (.bool false) })], .reg [(0, { v := some (.bool true) })], .reg []])
        (a_ (a_ (a_ (a_ tr tr) tr) (a_ (a_ (a_ tr tr) (a_ (a_ (a_ (cmp_isNaN_uint32_tri x y2 e1) tr) tr) (a_ (a_ tr tr) tr))) (a_ (a_ (a_ tr tr) (a_ (a_ (a_ (cmp_isNaN_uint32_tri y y4 e3) tr) tr) (a_ (a_ tr tr) tr))) (a_ (a_ (a_ tr (a_ (leB c5) tr)) tr) (a_ (a_ (a_ tr (a_ (leB c6) tr)) tr) (a_ (a_ (a_ tr tr) tr) tr)))))) tr) (by kernel_rfl) rfl
    · skip
      rcases itb_some h with ⟨c7, h⟩ | ⟨c7, h⟩
      · skip
        obtain rfl := Option.some.inj h
        exact run_ret mixed (L := []) (n := 38) (s := [.reg [], .reg [(1, { call := some (cmp_isNaN_uint32_v y2, [], []) })], .reg [(1, { call := some (cmp_isNaN_uint32_v y4, [], []) })], .reg [(0, { v := some (.bool false) })], .reg [(0, { v := some (.bool false) })], .reg [(2, { v := some (.bool true) })], .reg []])
          (a_ (a_ (a_ (a_ tr tr) tr) (a_ (a_ (a_ tr tr) (a_ (a_ (a_ (cmp_isNaN_uint32_tri x y2 e1) tr) tr) (a_ (a_ tr tr) tr))) (a_ (a_ (a_ tr tr) (a_ (a_ (a_ (cmp_isNaN_uint32_tri y y4 e3) tr) tr) (a_ (a_ tr tr) tr))) (a_ (a_ (a_ tr (a_ (leB c5) tr)) tr) (a_ (a_ (a_ tr (a_ (leB c6) tr)) tr) (a_ (a_ (a_ tr tr) (a_ (a_ tr tr) (a_ (a_ tr (a_ (leB c7) tr)) tr))) (a_ (a_ (a_ tr tr) tr) tr))))))) tr) (by kernel_rfl) rfl
      · skip
        rcases itb_some h with ⟨c8, h⟩ | ⟨c8, h⟩
        · skip
          obtain rfl := Option.some.inj h
          exact run_ret mixed (L := []) (n := 44) (s := [.reg [], .reg [(1, { call := some (cmp_isNaN_uint32_v y2, [], []) })], .reg [(1, { call := some (cmp_isNaN_uint32_v y4, [], []) })], .reg [(0, { v := some (.bool false) })], .reg [(0, { v := some (.bool false) })], .reg [(2, { v := some (.bool false) })], .reg [(2, { v := some (.bool true) })], .reg []])
            (a_ (a_ (a_ (a_ tr tr) tr) (a_ (a_ (a_ tr tr) (a_ (a_ (a_ (cmp_isNaN_uint32_tri x y2 e1) tr) tr) (a_ (a_ tr tr) tr))) (a_ (a_ (a_ tr tr) (a_ (a_ (a_ (cmp_isNaN_uint32_tri y y4 e3) tr) tr) (a_ (a_ tr tr) tr))) (a_ (a_ (a_ tr (a_ (leB c5) tr)) tr) (a_ (a_ (a_ tr (a_ (leB c6) tr)) tr) (a_ (a_ (a_ tr tr) (a_ (a_ tr tr) (a_ (a_ tr (a_ (leB c7) tr)) tr))) (a_ (a_ (a_ tr tr) (a_ (a_ tr tr) (a_ (a_ tr (a_ (leB c8) tr)) tr))) (a_ (a_ (a_ tr tr) tr) tr)))))))) tr) (by kernel_rfl) rfl
        · skip
          obtain rfl := Option.some.inj h
          exact run_ret mixed (L := []) (n := 45) (s := [.reg [], .reg [(1, { call := some (cmp_isNaN_uint32_v y2, [], []) })], .reg [(1, { call := some (cmp_isNaN_uint32_v y4, [], []) })], .reg [(0, { v := some (.bool false) })], .reg [(0, { v := some (.bool false) })], .reg [(2, { v := some (.bool false) })], .reg [(2, { v := some (.bool false) })], .reg []])
            (a_ (a_ (a_ (a_ tr tr) tr) (a_ (a_ (a_ tr tr) (a_ (a_ (a_ (cmp_isNaN_uint32_tri x y2 e1) tr) tr) (a_ (a_ tr tr) tr))) (a_ (a_ (a_ tr tr) (a_ (a_ (a_ (cmp_isNaN_uint32_tri y y4 e3) tr) tr) (a_ (a_ tr tr) tr))) (a_ (a_ (a_ tr (a_ (leB c5) tr)) tr) (a_ (a_ (a_ tr (a_ (leB c6) tr)) tr) (a_ (a_ (a_ tr tr) (a_ (a_ tr tr) (a_ (a_ tr (a_ (leB c7) tr)) tr))) (a_ (a_ (a_ tr tr) (a_ (a_ tr tr) (a_ (a_ tr (a_ (leB c8) tr)) tr))) (a_ (a_ (a_ tr tr) tr) tr)))))))) tr) (by kernel_rfl) rfl

theorem cmp_Compare_uint32_tri (x : Int) (y : Int) (r : (Int)) (h : cmp_Compare_uint32 x y = some r) : FnTri Try.prog 46 [.int .u32 x, .int .u32 y] [] (cmp_Compare_uint32_v r) [] := FnTri.none (cmp_Compare_uint32_ok x y r h) rfl rfl

/-- cmp.Or[int] -/

def cmp_Or_int_v (r : (Int)) : LV := .int .i64 r

def cmp_Or_int_T0 (vals : List (Int)) (t8 : Int) : List LV := [.any, .any, .any, .int .i64 0, .any, .any, .ds 1 (vals).length (rowF (cInt .i64) default vals), .int .i64 ((vals).length : Int), .int .i64 t8, .any, .any, .any, .any, .any, .any, .any, .any, .any]

def cmp_Or_int_H0 (vals : List (Int)) (t8 : Int) : Heap := []

def cmp_Or_int_l0 (vals : List (Int))  : Nat → (Int) → Option ((Int))
  | 0, _ => none
  | fuel + 1, t8 =>
    if ((decide (t8 < ((vals).length : Int))) : Bool) then
      if 0 ≤ t8 ∧ t8 < ((vals).length : Nat) then
      if (((vals.getD t8.toNat default) != 0) : Bool) then
        some (vals.getD t8.toNat default)
      else
        cmp_Or_int_l0 vals  fuel (IntKind.wrap .i64 (t8 + 1))
      else none
    else
      some 0

def cmp_Or_int (vals : List (Int)) : Option ((Int)) :=
  cmp_Or_int_l0 vals  big 0

theorem cmp_Or_int_l0_ok {w0 : World} {W : Nat → Prop} {μ0 : Emb} (hμ : ∀ c p, μ0 c = some p → c < 0) (vals : List (Int))  : ∀ (fuel : Nat) (t8 : Int) (r : (Int)), cmp_Or_int_l0 vals  fuel t8 = some r → kont Try.prog w0 W μ0 (FnPost Try.prog Try.f44 0 0 (cmp_Or_int_v r) []) (kAt (bodyOf Try.f44) 0) none (cmp_Or_int_T0 vals t8) (cmp_Or_int_H0 vals t8) := by
  intro fuel
  induction fuel with
  | zero => intro t8 r h; rw [cmp_Or_int_l0] at h; cases h
  | succ fuel ih =>
    intro t8 r h
    rw [cmp_Or_int_l0] at h
    rcases itb_some h with ⟨cL0_1, h⟩ | ⟨cL0_1, h⟩
    · skip
      obtain ⟨gL0_2, h⟩ := guard_some h
      rcases itb_some h with ⟨cL0_3, h⟩ | ⟨cL0_3, h⟩
      · skip
        obtain rfl := Option.some.inj h
        exact run_ret mixed (L := []) (n := 28) (s := [.go, .reg [(0, { v := some (.bool true) })], .reg [], .reg [(2, { v := some (.bool true) })], .reg []])
          (a_ (a_ (a_ (a_ tr (a_ (leB cL0_1) tr)) tr) (a_ (a_ (a_ (a_ (Eq.refl 1) gL0_2) tr) (a_ (a_ (lt_ 0 1 rfl) tr) (a_ (a_ tr tr) tr))) (a_ (a_ (a_ tr tr) (a_ (a_ tr tr) (a_ (a_ tr (a_ (leB cL0_3) tr)) tr))) (a_ (a_ (a_ tr tr) (a_ (a_ tr tr) tr)) tr)))) tr) (by kernel_rfl) rfl
      · skip
        exact run_to mixed hμ (L := []) (n := 29) (s := [.go, .reg [(0, { v := some (.bool true) })], .reg [], .reg [(2, { v := some (.bool false) })], .reg []])
          (a_ (a_ (a_ tr (a_ (leB cL0_1) tr)) tr) (a_ (a_ (a_ (a_ (Eq.refl 1) gL0_2) tr) (a_ (a_ (lt_ 0 1 rfl) tr) (a_ (a_ tr tr) tr))) (a_ (a_ (a_ tr tr) (a_ (a_ tr tr) (a_ (a_ tr (a_ (leB cL0_3) tr)) tr))) (a_ (a_ (a_ tr tr) (a_ (a_ tr tr) tr)) tr)))) (ih _ r h) (by kernel_rfl) trivial
    · skip
      obtain rfl := Option.some.inj h
      exact run_ret mixed (L := []) (n := 19) (s := [.go, .reg [(0, { v := some (.bool false) })], .reg []])
        (a_ (a_ (a_ (a_ tr (a_ (leB cL0_1) tr)) tr) (a_ (a_ (a_ tr tr) (a_ (a_ tr tr) tr)) tr)) tr) (by kernel_rfl) rfl

theorem cmp_Or_int_ok (vals : List (Int)) (r : (Int)) (h : cmp_Or_int vals = some r) : ∀ σ, Inj 0 σ → FnTri Try.prog 44 (renL σ [.ds 1 (vals).length (rowF (cInt .i64) default vals)]) (preOf σ 0 []) ((cmp_Or_int_v r).ren σ) (upOf σ []) := by
  refine fn_of Try.func44 (by kernel_rfl) (by kernel_rfl) (by kernel_rfl) trivial (by kernel_rfl) trivial (by kernel_rfl) ?_
  intro w0 W μ0 hμ
  unfold cmp_Or_int at h
  exact run_to mixed hμ (L := []) (n := 21) (s := [.reg [], .reg [], .reg []])
    (a_ (a_ (a_ tr tr) tr) (a_ (a_ (a_ tr tr) tr) (a_ (a_ (a_ tr tr) (a_ (a_ tr tr) (a_ (a_ tr tr) tr))) tr))) (cmp_Or_int_l0_ok hμ vals  big _ r h) (by kernel_rfl) trivial

theorem cmp_Or_int_tri (vals : List (Int)) (r : (Int)) (h : cmp_Or_int vals = some r) : FnTri Try.prog 44 [.ds 1 (vals).length (rowF (cInt .i64) default vals)] [] (cmp_Or_int_v r) [] := FnTri.none (cmp_Or_int_ok vals r h) rfl rfl

/-- parrel/ids.Txs -/

def ids_Txs_v (r : (Int)) : LV := .int .i64 r

def ids_Txs (a : T_api_Tx) (b : T_api_Tx) : Option ((Int)) :=
  (cmp_Compare_uint8 a.f_Node b.f_Node).bind fun y2 =>
  (cmp_Compare_uint32 a.f_Boot b.f_Boot).bind fun y4 =>
  (cmp_Compare_uint32 a.f_Num b.f_Num).bind fun y6 =>
  (cmp_Or_int ([y2, y4, y6])).bind fun y8 =>
  some y8

theorem ids_Txs_ok (a : T_api_Tx) (b : T_api_Tx) (r : (Int)) (h : ids_Txs a b = some r) : ∀ σ, Inj 0 σ → FnTri Try.prog 17 (renL σ [v_T_api_Tx a, v_T_api_Tx b]) (preOf σ 0 []) ((ids_Txs_v r).ren σ) (upOf σ []) := by
  refine fn_of Try.func17 (by kernel_rfl) (by kernel_rfl) (by kernel_rfl) trivial (by kernel_rfl) trivial (by kernel_rfl) ?_
  intro w0 W μ0 hμ
  unfold ids_Txs at h
  obtain ⟨y2, e1, h⟩ := bind_some h
  obtain ⟨y4, e3, h⟩ := bind_some h
  obtain ⟨y6, e5, h⟩ := bind_some h
  obtain ⟨y8, e7, h⟩ := bind_some h
  obtain rfl := Option.some.inj h
  exact run_ret mixed (L := []) (n := 15) (s := [.reg [], .reg [(4, { call := some (cmp_Compare_uint8_v y2, [], []) }), (9, { call := some (cmp_Compare_uint32_v y4, [], []) }), (14, { call := some (cmp_Compare_uint32_v y6, [], []) }), (15, { os := [(2, .gr 1 ([y2, y4, y6]).length (rowF (cInt .i64) default [y2, y4, y6]))], v := some (.gs 2 ([y2, y4, y6]).length), fz := true }), (16, { call := some (cmp_Or_int_v y8, [], []) })]])
    (a_ (a_ (a_ (a_ tr tr) (a_ (a_ tr tr) (a_ (a_ tr tr) tr))) (a_ (a_ (a_ tr tr) (a_ (a_ (a_ tr (lt_ 0 3 rfl)) tr) (a_ (a_ tr tr) (a_ (a_ (a_ tr (lt_ 0 3 rfl)) tr) (a_ (a_ (a_ (cmp_Compare_uint8_tri a.f_Node b.f_Node y2 e1) tr) tr) (a_ (a_ tr tr) (a_ (a_ (a_ tr (lt_ 1 3 rfl)) tr) (a_ (a_ tr tr) (a_ (a_ (a_ tr (lt_ 1 3 rfl)) tr) (a_ (a_ (a_ (cmp_Compare_uint32_tri a.f_Boot b.f_Boot y4 e3) tr) tr) (a_ (a_ tr tr) (a_ (a_ (a_ tr (lt_ 2 3 rfl)) tr) (a_ (a_ tr tr) (a_ (a_ (a_ tr (lt_ 2 3 rfl)) tr) (a_ (a_ (a_ (cmp_Compare_uint32_tri a.f_Num b.f_Num y6 e5) tr) tr) (a_ (a_ (a_ (a_ (Eq.refl true) (a_ (Eq.refl 1) (a_ (lt_ 0 1 rfl) (le_ 3 16777216 rfl)))) (a_ (le_sl_gs 2 3 (some 3) rfl) (a_ (sub_lit (cInt .i64) default 1 (fun _ => rfl) [y2, y4, y6]) tr))) (a_ (Nat.le_refl ([y2, y4, y6]).length) (fz_row (enc := (cInt .i64)) (d := default) (fun _ => rfl) [y2, y4, y6]))) (a_ (a_ (a_ (cmp_Or_int_tri ([y2, y4, y6]) y8 e7) tr) tr) (a_ (a_ tr tr) tr)))))))))))))))))) tr)) tr) (by kernel_rfl) rfl

theorem ids_Txs_tri (a : T_api_Tx) (b : T_api_Tx) (r : (Int)) (h : ids_Txs a b = some r) : FnTri Try.prog 17 [v_T_api_Tx a, v_T_api_Tx b] [] (ids_Txs_v r) [] := FnTri.none (ids_Txs_ok a b r h) rfl rfl

/-- parrel/parrelref05.numbers -/

def parrelref05_numbers_v (r : (List (Int))) : LV := .ds 1 (r).length (rowF (cInt .u32) default r)

def parrelref05_numbers (t : T_api_Tx) : Option ((List (Int))) :=
  some [(IntKind.wrap .u32 t.f_Node), t.f_Boot, t.f_Num]

theorem parrelref05_numbers_ok (t : T_api_Tx) (r : (List (Int))) (h : parrelref05_numbers t = some r) : ∀ σ, Inj 0 σ → FnTri Try.prog 47 (renL σ [v_T_api_Tx t]) (preOf σ 0 []) ((parrelref05_numbers_v r).ren σ) (upOf σ []) := by
  refine fn_of Try.func47 (by kernel_rfl) (by kernel_rfl) (by kernel_rfl) trivial (by kernel_rfl) trivial (by kernel_rfl) ?_
  intro w0 W μ0 hμ
  unfold parrelref05_numbers at h
  obtain rfl := Option.some.inj h
  exact run_ret mixed (L := []) (n := 16) (s := [.reg [(1, { v := some (.ds 1 (([] : List (Int))).length (rowF (cInt .u32) default ([] : List (Int)))) })], .reg [(7, { os := [(1, .gr 1 ([(IntKind.wrap .u32 t.f_Node), t.f_Boot, t.f_Num]).length (rowF (cInt .u32) default [(IntKind.wrap .u32 t.f_Node), t.f_Boot, t.f_Num]))], v := some (.gs 1 ([(IntKind.wrap .u32 t.f_Node), t.f_Boot, t.f_Num]).length) })], .frz 1])
    (a_ (a_ (a_ (a_ tr tr) (a_ (a_ tr (a_ (le_nil_ds 1 (rowF (cInt .u32) default [])) tr)) tr)) (a_ (a_ (a_ tr tr) (a_ (a_ (a_ tr (lt_ 0 3 rfl)) tr) (a_ (a_ tr tr) (a_ (a_ tr tr) (a_ (a_ (a_ tr (lt_ 1 3 rfl)) tr) (a_ (a_ tr tr) (a_ (a_ (a_ tr (lt_ 2 3 rfl)) tr) (a_ (a_ (a_ (Eq.refl true) (a_ (Eq.refl 1) (a_ (lt_ 0 1 rfl) (le_ 3 16777216 rfl)))) (a_ (le_sl_gs 1 3 (some 3) rfl) (a_ (sub_lit (cInt .u32) default 1 (fun _ => rfl) [(IntKind.wrap .u32 t.f_Node), t.f_Boot, t.f_Num]) tr))) (a_ (a_ tr tr) tr))))))))) (a_ (a_ (fz_row (enc := (cInt .u32)) (d := default) (fun _ => rfl) [(IntKind.wrap .u32 t.f_Node), t.f_Boot, t.f_Num]) (a_ (Nat.le_refl ([(IntKind.wrap .u32 t.f_Node), t.f_Boot, t.f_Num]).length) (a_ (Nat.le_refl ([(IntKind.wrap .u32 t.f_Node), t.f_Boot, t.f_Num]).length) tr))) tr))) tr) (by kernel_rfl) rfl

theorem parrelref05_numbers_tri (t : T_api_Tx) (r : (List (Int))) (h : parrelref05_numbers t = some r) : FnTri Try.prog 47 [v_T_api_Tx t] [] (parrelref05_numbers_v r) [] := FnTri.none (parrelref05_numbers_ok t r h) rfl rfl

/-- parrel/parrelref05.Txs -/

def parrelref05_Txs_v (r : (Int)) : LV := .int .i64 r

def parrelref05_Txs (a : T_api_Tx) (b : T_api_Tx) : Option ((Int)) :=
  (parrelref05_numbers a).bind fun y2 =>
  (parrelref05_numbers b).bind fun y4 =>
  (parrelref05_first y2 y4).bind fun y6 =>
  some y6

theorem parrelref05_Txs_ok (a : T_api_Tx) (b : T_api_Tx) (r : (Int)) (h : parrelref05_Txs a b = some r) : ∀ σ, Inj 0 σ → FnTri Try.prog 18 (renL σ [v_T_api_Tx a, v_T_api_Tx b]) (preOf σ 0 []) ((parrelref05_Txs_v r).ren σ) (upOf σ []) := by
  refine fn_of Try.func18 (by kernel_rfl) (by kernel_rfl) (by kernel_rfl) trivial (by kernel_rfl) trivial (by kernel_rfl) ?_
  intro w0 W μ0 hμ
  unfold parrelref05_Txs at h
  obtain ⟨y2, e1, h⟩ := bind_some h
  obtain ⟨y4, e3, h⟩ := bind_some h
  obtain ⟨y6, e5, h⟩ := bind_some h
  obtain rfl := Option.some.inj h
  exact run_ret mixed (L := []) (n := 15) (s := [.reg [], .reg [(1, { call := some (parrelref05_numbers_v y2, [], []) }), (3, { call := some (parrelref05_numbers_v y4, [], []) }), (4, { call := some (parrelref05_first_v y6, [], []) })]])
    (a_ (a_ (a_ (a_ tr tr) (a_ (a_ tr tr) (a_ (a_ tr tr) tr))) (a_ (a_ (a_ (a_ tr (le_ 3 3 rfl)) tr) (a_ (a_ (a_ (parrelref05_numbers_tri a y2 e1) tr) tr) (a_ (a_ (a_ tr (le_ 3 3 rfl)) tr) (a_ (a_ (a_ (parrelref05_numbers_tri b y4 e3) tr) tr) (a_ (a_ (a_ (parrelref05_first_tri y2 y4 y6 e5) tr) tr) (a_ (a_ tr tr) tr)))))) tr)) tr) (by kernel_rfl) rfl

theorem parrelref05_Txs_tri (a : T_api_Tx) (b : T_api_Tx) (r : (Int)) (h : parrelref05_Txs a b = some r) : FnTri Try.prog 18 [v_T_api_Tx a, v_T_api_Tx b] [] (parrelref05_Txs_v r) [] := FnTri.none (parrelref05_Txs_ok a b r h) rfl rfl

/-- parrel/ids.Stamps -/

def ids_Stamps_v (r : (Int)) : LV := .int .i64 r

def ids_Stamps (a : T_api_Stamp) (b : T_api_Stamp) : Option ((Int)) :=
  (cmp_Compare_uint32 a.f_Time b.f_Time).bind fun y2 =>
  (ids_Txs a.f_Tx b.f_Tx).bind fun y4 =>
  (cmp_Or_int ([y2, y4])).bind fun y6 =>
  some y6

theorem ids_Stamps_ok (a : T_api_Stamp) (b : T_api_Stamp) (r : (Int)) (h : ids_Stamps a b = some r) : ∀ σ, Inj 0 σ → FnTri Try.prog 19 (renL σ [v_T_api_Stamp a, v_T_api_Stamp b]) (preOf σ 0 []) ((ids_Stamps_v r).ren σ) (upOf σ []) := by
  refine fn_of Try.func19 (by kernel_rfl) (by kernel_rfl) (by kernel_rfl) trivial (by kernel_rfl) trivial (by kernel_rfl) ?_
  intro w0 W μ0 hμ
  unfold ids_Stamps at h
  obtain ⟨y2, e1, h⟩ := bind_some h
  obtain ⟨y4, e3, h⟩ := bind_some h
  obtain ⟨y6, e5, h⟩ := bind_some h
  obtain rfl := Option.some.inj h
  exact run_ret mixed (L := []) (n := 15) (s := [.reg [], .reg [(4, { call := some (cmp_Compare_uint32_v y2, [], []) }), (9, { call := some (ids_Txs_v y4, [], []) }), (10, { os := [(2, .gr 1 ([y2, y4]).length (rowF (cInt .i64) default [y2, y4]))], v := some (.gs 2 ([y2, y4]).length), fz := true }), (11, { call := some (cmp_Or_int_v y6, [], []) })]])
    (a_ (a_ (a_ (a_ tr tr) (a_ (a_ tr tr) (a_ (a_ tr tr) tr))) (a_ (a_ (a_ tr tr) (a_ (a_ (a_ tr (lt_ 0 4 rfl)) tr) (a_ (a_ tr tr) (a_ (a_ (a_ tr (lt_ 0 4 rfl)) tr) (a_ (a_ (a_ (cmp_Compare_uint32_tri a.f_Time b.f_Time y2 e1) tr) tr) (a_ (a_ tr tr) (a_ (a_ (a_ tr (le_ 4 4 rfl)) tr) (a_ (a_ tr tr) (a_ (a_ (a_ tr (le_ 4 4 rfl)) tr) (a_ (a_ (a_ (ids_Txs_tri a.f_Tx b.f_Tx y4 e3) tr) tr) (a_ (a_ (a_ (a_ (Eq.refl true) (a_ (Eq.refl 1) (a_ (lt_ 0 1 rfl) (le_ 2 16777216 rfl)))) (a_ (le_sl_gs 2 2 (some 2) rfl) (a_ (sub_lit (cInt .i64) default 1 (fun _ => rfl) [y2, y4]) tr))) (a_ (Nat.le_refl ([y2, y4]).length) (fz_row (enc := (cInt .i64)) (d := default) (fun _ => rfl) [y2, y4]))) (a_ (a_ (a_ (cmp_Or_int_tri ([y2, y4]) y6 e5) tr) tr) (a_ (a_ tr tr) tr))))))))))))) tr)) tr) (by kernel_rfl) rfl

theorem ids_Stamps_tri (a : T_api_Stamp) (b : T_api_Stamp) (r : (Int)) (h : ids_Stamps a b = some r) : FnTri Try.prog 19 [v_T_api_Stamp a, v_T_api_Stamp b] [] (ids_Stamps_v r) [] := FnTri.none (ids_Stamps_ok a b r h) rfl rfl

/-- parrel/parrelref05.Stamps -/

def parrelref05_Stamps_v (r : (Int)) : LV := .int .i64 r

def parrelref05_Stamps (a : T_api_Stamp) (b : T_api_Stamp) : Option ((Int)) :=
  (parrelref05_numbers a.f_Tx).bind fun y2 =>
  if (([a.f_Time]).length + (y2).length) * 4 ≤ 140737488351232 then
  (parrelref05_numbers b.f_Tx).bind fun y5 =>
  if (([b.f_Time]).length + (y5).length) * 4 ≤ 140737488351232 then
  (parrelref05_first ([a.f_Time] ++ y2) ([b.f_Time] ++ y5)).bind fun y8 =>
  some y8
  else none
  else none

theorem parrelref05_Stamps_ok (a : T_api_Stamp) (b : T_api_Stamp) (r : (Int)) (h : parrelref05_Stamps a b = some r) : ∀ σ, Inj 0 σ → FnTri Try.prog 20 (renL σ [v_T_api_Stamp a, v_T_api_Stamp b]) (preOf σ 0 []) ((parrelref05_Stamps_v r).ren σ) (upOf σ []) := by
  refine fn_of Try.func20 (by kernel_rfl) (by kernel_rfl) (by kernel_rfl) trivial (by kernel_rfl) trivial (by kernel_rfl) ?_
  intro w0 W μ0 hμ
  unfold parrelref05_Stamps at h
  obtain ⟨y2, e1, h⟩ := bind_some h
  obtain ⟨g3, h⟩ := guard_some h
  obtain ⟨y5, e4, h⟩ := bind_some h
  obtain ⟨g6, h⟩ := guard_some h
  obtain ⟨y8, e7, h⟩ := bind_some h
  obtain rfl := Option.some.inj h
  exact run_ret mixed (L := []) (n := 15) (s := [.reg [], .reg [(2, { os := [(2, .gr 1 ([a.f_Time]).length (rowF (cInt .u32) default [a.f_Time]))], v := some (.gs 2 ([a.f_Time]).length) }), (5, { call := some (parrelref05_numbers_v y2, [], []) }), (6, { app := 3, os := [(3, .gr 1 (([a.f_Time] ++ y2)).length (rowF (cInt .u32) default ([a.f_Time] ++ y2)))], v := some (.gs 3 (([a.f_Time] ++ y2)).length), fz := true }), (9, { os := [(4, .gr 1 ([b.f_Time]).length (rowF (cInt .u32) default [b.f_Time]))], v := some (.gs 4 ([b.f_Time]).length) }), (12, { call := some (parrelref05_numbers_v y5, [], []) }), (13, { app := 3, os := [(5, .gr 1 (([b.f_Time] ++ y5)).length (rowF (cInt .u32) default ([b.f_Time] ++ y5)))], v := some (.gs 5 (([b.f_Time] ++ y5)).length), fz := true }), (14, { call := some (parrelref05_first_v y8, [], []) })]])
    (a_ (a_ (a_ (a_ tr tr) (a_ (a_ tr tr) (a_ (a_ tr tr) tr))) (a_ (a_ (a_ tr tr) (a_ (a_ (a_ tr (lt_ 0 4 rfl)) tr) (a_ (a_ (a_ (Eq.refl true) (a_ (Eq.refl 1) (a_ (lt_ 0 1 rfl) (le_ 1 16777216 rfl)))) (a_ (le_sl_gs 2 1 (some 1) rfl) (a_ (sub_lit (cInt .u32) default 1 (fun _ => rfl) [a.f_Time]) tr))) (a_ (a_ tr tr) (a_ (a_ (a_ tr (le_ 4 4 rfl)) tr) (a_ (a_ (a_ (parrelref05_numbers_tri a.f_Tx y2 e1) tr) tr) (a_ (a_ (a_ (a_ (Eq.refl 1) (a_ (a_ (lt_ 0 1 rfl) (a_ (lt_ 0 4 rfl) (a_ g3 (a_ (Eq.refl 1) (Eq.refl true))))) (a_ (Eq.refl 1) (Nat.le_refl ([a.f_Time]).length)))) (a_ (le_gs_app 3 [a.f_Time] y2) (a_ (sub_app (cInt .u32) default 1 [a.f_Time] y2) tr))) (a_ (Nat.le_refl (([a.f_Time] ++ y2)).length) (fz_row (enc := (cInt .u32)) (d := default) (fun _ => rfl) ([a.f_Time] ++ y2)))) (a_ (a_ tr tr) (a_ (a_ (a_ tr (lt_ 0 4 rfl)) tr) (a_ (a_ (a_ (Eq.refl true) (a_ (Eq.refl 1) (a_ (lt_ 0 1 rfl) (le_ 1 16777216 rfl)))) (a_ (le_sl_gs 4 1 (some 1) rfl) (a_ (sub_lit (cInt .u32) default 1 (fun _ => rfl) [b.f_Time]) tr))) (a_ (a_ tr tr) (a_ (a_ (a_ tr (le_ 4 4 rfl)) tr) (a_ (a_ (a_ (parrelref05_numbers_tri b.f_Tx y5 e4) tr) tr) (a_ (a_ (a_ (a_ (Eq.refl 1) (a_ (a_ (lt_ 0 1 rfl) (a_ (lt_ 0 4 rfl) (a_ g6 (a_ (Eq.refl 1) (Eq.refl true))))) (a_ (Eq.refl 1) (Nat.le_refl ([b.f_Time]).length)))) (a_ (le_gs_app 5 [b.f_Time] y5) (a_ (sub_app (cInt .u32) default 1 [b.f_Time] y5) tr))) (a_ (Nat.le_refl (([b.f_Time] ++ y5)).length) (fz_row (enc := (cInt .u32)) (d := default) (fun _ => rfl) ([b.f_Time] ++ y5)))) (a_ (a_ (a_ (parrelref05_first_tri ([a.f_Time] ++ y2) ([b.f_Time] ++ y5) y8 e7) tr) tr) (a_ (a_ tr tr) tr)))))))))))))))) tr)) tr) (by kernel_rfl) rfl

theorem parrelref05_Stamps_tri (a : T_api_Stamp) (b : T_api_Stamp) (r : (Int)) (h : parrelref05_Stamps a b = some r) : FnTri Try.prog 20 [v_T_api_Stamp a, v_T_api_Stamp b] [] (parrelref05_Stamps_v r) [] := FnTri.none (parrelref05_Stamps_ok a b r h) rfl rfl

/-- internal/stringslite.IndexByte -/

def internal_stringslite_IndexByte_v (r : (Int)) : LV := .int .i64 r

def internal_stringslite_IndexByte (s : List UInt8) (c : Int) : Option ((Int)) :=
  some (Lib.indexByte s (c).toNat.toUInt8)

theorem internal_stringslite_IndexByte_ok (s : List UInt8) (c : Int) (r : (Int)) (h : internal_stringslite_IndexByte s c = some r) : ∀ σ, Inj 0 σ → FnTri Try.prog 73 (renL σ [.str s, .int .u8 c]) (preOf σ 0 []) ((internal_stringslite_IndexByte_v r).ren σ) (upOf σ []) := by
  refine fn_of Try.func73 (by kernel_rfl) (by kernel_rfl) (by kernel_rfl) trivial (by kernel_rfl) trivial (by kernel_rfl) ?_
  intro w0 W μ0 hμ
  unfold internal_stringslite_IndexByte at h
  obtain rfl := Option.some.inj h
  exact run_ret mixed (L := []) (n := 15) (s := [.reg [], .reg [(2, { ext := some (.int .i64 (Lib.indexByte s (c).toNat.toUInt8)) })]])
    (a_ (a_ (a_ (a_ tr tr) tr) (a_ (a_ (a_ tr tr) (a_ (a_ tr tr) (a_ (a_ (ext81 s c) tr) (a_ (a_ tr tr) tr)))) tr)) tr) (by kernel_rfl) rfl

theorem internal_stringslite_IndexByte_tri (s : List UInt8) (c : Int) (r : (Int)) (h : internal_stringslite_IndexByte s c = some r) : FnTri Try.prog 73 [.str s, .int .u8 c] [] (internal_stringslite_IndexByte_v r) [] := FnTri.none (internal_stringslite_IndexByte_ok s c r h) rfl rfl

/-- strings.IndexByte -/

def strings_IndexByte_v (r : (Int)) : LV := .int .i64 r

def strings_IndexByte (s : List UInt8) (c : Int) : Option ((Int)) :=
  (internal_stringslite_IndexByte s c).bind fun y2 =>
  some y2

theorem strings_IndexByte_ok (s : List UInt8) (c : Int) (r : (Int)) (h : strings_IndexByte s c = some r) : ∀ σ, Inj 0 σ → FnTri Try.prog 60 (renL σ [.str s, .int .u8 c]) (preOf σ 0 []) ((strings_IndexByte_v r).ren σ) (upOf σ []) := by
  refine fn_of Try.func60 (by kernel_rfl) (by kernel_rfl) (by kernel_rfl) trivial (by kernel_rfl) trivial (by kernel_rfl) ?_
  intro w0 W μ0 hμ
  unfold strings_IndexByte at h
  obtain ⟨y2, e1, h⟩ := bind_some h
  obtain rfl := Option.some.inj h
  exact run_ret mixed (L := []) (n := 15) (s := [.reg [], .reg [(2, { call := some (internal_stringslite_IndexByte_v y2, [], []) })]])
    (a_ (a_ (a_ (a_ tr tr) tr) (a_ (a_ (a_ tr tr) (a_ (a_ tr tr) (a_ (a_ (a_ (internal_stringslite_IndexByte_tri s c y2 e1) tr) tr) (a_ (a_ tr tr) tr)))) tr)) tr) (by kernel_rfl) rfl

theorem strings_IndexByte_tri (s : List UInt8) (c : Int) (r : (Int)) (h : strings_IndexByte s c = some r) : FnTri Try.prog 60 [.str s, .int .u8 c] [] (strings_IndexByte_v r) [] := FnTri.none (strings_IndexByte_ok s c r h) rfl rfl

/-- parrel/ids.KeyOf -/

def ids_KeyOf_v (r : (A8 (Int)) × (Int)) : LV := .tup [.agg [.int .u8 r.1.a0, .int .u8 r.1.a1, .int .u8 r.1.a2, .int .u8 r.1.a3, .int .u8 r.1.a4, .int .u8 r.1.a5, .int .u8 r.1.a6, .int .u8 r.1.a7], .int .i64 r.2]

def ids_KeyOf (s : List UInt8) : Option ((A8 (Int)) × (Int)) :=
  if ((s == []) : Bool) then
    some ((A8.mk 0 0 0 0 0 0 0 0), 1)
  else
    if ((decide (8 < ((s).length : Int))) : Bool) then
      some ((A8.mk 0 0 0 0 0 0 0 0), 1)
    else
      (strings_IndexByte s 0).bind fun y4 =>
      if ((decide (0 ≤ y4)) : Bool) then
        some ((A8.mk 0 0 0 0 0 0 0 0), 1)
      else
        some ((A8.mk (if 0 < (s).length then ((s.getD 0 0).toNat : Int) else 0) (if 1 < (s).length then ((s.getD 1 0).toNat : Int) else 0) (if 2 < (s).length then ((s.getD 2 0).toNat : Int) else 0) (if 3 < (s).length then ((s.getD 3 0).toNat : Int) else 0) (if 4 < (s).length then ((s.getD 4 0).toNat : Int) else 0) (if 5 < (s).length then ((s.getD 5 0).toNat : Int) else 0) (if 6 < (s).length then ((s.getD 6 0).toNat : Int) else 0) (if 7 < (s).length then ((s.getD 7 0).toNat : Int) else 0)), 0)

theorem ids_KeyOf_ok (s : List UInt8) (r : (A8 (Int)) × (Int)) (h : ids_KeyOf s = some r) : ∀ σ, Inj 0 σ → FnTri Try.prog 41 (renL σ [.str s]) (preOf σ 0 []) ((ids_KeyOf_v r).ren σ) (upOf σ []) := by
  refine fn_of Try.func41 (by kernel_rfl) (by kernel_rfl) (by kernel_rfl) trivial (by kernel_rfl) trivial (by kernel_rfl) ?_
  intro w0 W μ0 hμ
  unfold ids_KeyOf at h
  rcases itb_some h with ⟨c1, h⟩ | ⟨c1, h⟩
  · skip
    obtain rfl := Option.some.inj h
    exact run_ret mixed (L := []) (n := 23) (s := [.reg [], .reg [], .reg [(2, { v := some (.bool true) })], .reg []])
      (a_ (a_ (a_ (a_ tr tr) (a_ (a_ tr tr) tr)) (a_ (a_ (a_ tr tr) tr) (a_ (a_ (a_ tr tr) (a_ (a_ tr tr) (a_ (a_ tr (a_ (leB c1) tr)) (a_ tr (a_ tr (a_ tr (a_ (a_ tr tr) (a_ (a_ tr tr) (a_ tr (a_ tr (a_ tr (a_ (a_ tr tr) tr)))))))))))) (a_ (a_ (a_ (a_ tr (le_ 8 8 rfl)) tr) (a_ (a_ (a_ (Eq.refl 8) (a_ (le_ 8 8 rfl) (Eq.refl 0))) tr) (a_ (a_ tr tr) tr))) tr)))) (a_ (a_ tr (le_ 8 8 rfl)) tr)) (by kernel_rfl) rfl
  · skip
    rcases itb_some h with ⟨c2, h⟩ | ⟨c2, h⟩
    · skip
      obtain rfl := Option.some.inj h
      exact run_ret mixed (L := []) (n := 23) (s := [.reg [], .reg [], .reg [(2, { v := some (.bool false) }), (7, { v := some (.bool true) })], .reg []])
        (a_ (a_ (a_ (a_ tr tr) (a_ (a_ tr tr) tr)) (a_ (a_ (a_ tr tr) tr) (a_ (a_ (a_ tr tr) (a_ (a_ tr tr) (a_ (a_ tr (a_ (leB c1) tr)) (a_ (a_ tr tr) (a_ (a_ tr tr) (a_ (a_ tr tr) (a_ (a_ tr tr) (a_ (a_ tr (a_ (leB c2) tr)) (a_ tr (a_ tr (a_ tr (a_ (a_ tr tr) tr)))))))))))) (a_ (a_ (a_ (a_ tr (le_ 8 8 rfl)) tr) (a_ (a_ (a_ (Eq.refl 8) (a_ (le_ 8 8 rfl) (Eq.refl 0))) tr) (a_ (a_ tr tr) tr))) tr)))) (a_ (a_ tr (le_ 8 8 rfl)) tr)) (by kernel_rfl) rfl
    · skip
      obtain ⟨y4, e3, h⟩ := bind_some h
      rcases itb_some h with ⟨c5, h⟩ | ⟨c5, h⟩
      · skip
        obtain rfl := Option.some.inj h
        exact run_ret mixed (L := []) (n := 23) (s := [.reg [], .reg [], .reg [(2, { v := some (.bool false) }), (7, { v := some (.bool false) }), (9, { call := some (strings_IndexByte_v y4, [], []) }), (11, { v := some (.bool true) })], .reg []])
          (a_ (a_ (a_ (a_ tr tr) (a_ (a_ tr tr) tr)) (a_ (a_ (a_ tr tr) tr) (a_ (a_ (a_ tr tr) (a_ (a_ tr tr) (a_ (a_ tr (a_ (leB c1) tr)) (a_ (a_ tr tr) (a_ (a_ tr tr) (a_ (a_ tr tr) (a_ (a_ tr tr) (a_ (a_ tr (a_ (leB c2) tr)) (a_ (a_ tr tr) (a_ (a_ (a_ (strings_IndexByte_tri s 0 y4 e3) tr) tr) (a_ (a_ tr tr) (a_ (a_ tr (a_ (leB c5) tr)) tr)))))))))))) (a_ (a_ (a_ (a_ tr (le_ 8 8 rfl)) tr) (a_ (a_ (a_ (Eq.refl 8) (a_ (le_ 8 8 rfl) (Eq.refl 0))) tr) (a_ (a_ tr tr) tr))) tr)))) (a_ (a_ tr (le_ 8 8 rfl)) tr)) (by kernel_rfl) rfl
      · skip
        obtain rfl := Option.some.inj h
        exact run_ret mixed (L := []) (n := 27) (s := [.reg [], .reg [], .reg [(2, { v := some (.bool false) }), (7, { v := some (.bool false) }), (9, { call := some (strings_IndexByte_v y4, [], []) }), (11, { v := some (.bool false) })], .reg [], .reg []])
          (a_ (a_ (a_ (a_ tr tr) (a_ (a_ tr tr) tr)) (a_ (a_ (a_ tr tr) tr) (a_ (a_ (a_ tr tr) (a_ (a_ tr tr) (a_ (a_ tr (a_ (leB c1) tr)) (a_ (a_ tr tr) (a_ (a_ tr tr) (a_ (a_ tr tr) (a_ (a_ tr tr) (a_ (a_ tr (a_ (leB c2) tr)) (a_ (a_ tr tr) (a_ (a_ (a_ (strings_IndexByte_tri s 0 y4 e3) tr) tr) (a_ (a_ tr tr) (a_ (a_ tr (a_ (leB c5) tr)) tr)))))))))))) (a_ (a_ (a_ (a_ (lei_ 0 0 rfl) (a_ (lei_ 0 8 rfl) (lei_ 8 8 rfl))) tr) (a_ (a_ tr tr) (a_ (a_ (a_ (Eq.refl 1) (a_ (Eq.refl 0) (a_ (le_ 8 8 rfl) (Eq.refl true)))) tr) tr))) (a_ (a_ (a_ (a_ tr (le_ 8 8 rfl)) tr) (a_ (a_ (a_ (Eq.refl 8) (a_ (le_ 8 8 rfl) (Eq.refl 0))) tr) (a_ (a_ tr tr) tr))) tr))))) (a_ (a_ tr (le_ 8 8 rfl)) tr)) (by kernel_rfl) rfl

theorem ids_KeyOf_tri (s : List UInt8) (r : (A8 (Int)) × (Int)) (h : ids_KeyOf s = some r) : FnTri Try.prog 41 [.str s] [] (ids_KeyOf_v r) [] := FnTri.none (ids_KeyOf_ok s r h) rfl rfl

/-- parrel/ids.New -/

def ids_New_v (r : (List (T_api_Tx × Bool))) : LV := .ptr 0 0 0

def ids_New_up  (r : (List (T_api_Tx × Bool))) : Upd := [(0, some (.var [.map 1])), (1, some (.map true [.int .u8, .int .u32, .int .u32] (encM v_T_api_Tx LV.bool r)))]

def ids_New  : Option ((List (T_api_Tx × Bool))) :=
  some ([] : List (T_api_Tx × Bool))

theorem ids_New_ok  (r : (List (T_api_Tx × Bool))) (h : ids_New  = some r) : ∀ σ, Inj 2 σ → FnTri Try.prog 30 (renL σ []) (preOf σ 0 []) ((ids_New_v r).ren σ) (upOf σ (ids_New_up  r)) := by
  refine fn_of Try.func30 (by kernel_rfl) (by kernel_rfl) (by kernel_rfl) trivial (by kernel_rfl) ⟨rfl, trivial, trivial⟩ (by kernel_rfl) ?_
  intro w0 W μ0 hμ
  unfold ids_New at h
  obtain rfl := Option.some.inj h
  exact run_ret mixed (L := [1, 0]) (n := 15) (s := [.reg [], .reg []])
    (a_ (a_ (a_ (a_ tr tr) tr) (a_ (a_ (a_ tr tr) (a_ (a_ (Eq.refl true) tr) (a_ (a_ tr tr) (a_ (a_ tr tr) tr)))) tr)) tr) (by kernel_rfl) rfl

/-- (*parrel/ids.Set).Add -/

def ids_Set_Add_v (r : (Bool) × (List (T_api_Tx × Bool))) : LV := .bool r.1

def ids_Set_Add_up (m : List (T_api_Tx × Bool)) (t : T_api_Tx) (r : (Bool) × (List (T_api_Tx × Bool))) : Upd := [(0, some (.var [.map 1])), (1, some (.map true [.int .u8, .int .u32, .int .u32] (encM v_T_api_Tx LV.bool r.2)))]

def ids_Set_Add_objs (m : List (T_api_Tx × Bool)) (t : T_api_Tx) : List LO := [.var [.map 1], .map true [.int .u8, .int .u32, .int .u32] (encM v_T_api_Tx LV.bool m)]

def ids_Set_Add (m : List (T_api_Tx × Bool)) (t : T_api_Tx) : Option ((Bool) × (List (T_api_Tx × Bool))) :=
  if (((mget m t).getD default) : Bool) then
    some (false, m)
  else
    some (true, (mset m t true))

theorem ids_Set_Add_ok (m : List (T_api_Tx × Bool)) (t : T_api_Tx) (r : (Bool) × (List (T_api_Tx × Bool))) (h : ids_Set_Add m t = some r) : ∀ σ, Inj 2 σ → FnTri Try.prog 31 (renL σ [.ptr 0 0 0, v_T_api_Tx t]) (preOf σ 0 (ids_Set_Add_objs m t)) ((ids_Set_Add_v r).ren σ) (upOf σ (ids_Set_Add_up m t r)) := by
  refine fn_of Try.func31 (by kernel_rfl) (by kernel_rfl) (by kernel_rfl) ⟨rfl, trivial, trivial⟩ (by kernel_rfl) ⟨rfl, trivial, trivial⟩ (by kernel_rfl) ?_
  intro w0 W μ0 hμ
  unfold ids_Set_Add at h
  rcases itb_some h with ⟨c1, h⟩ | ⟨c1, h⟩
  · skip
    obtain rfl := Option.some.inj h
    exact run_ret mixed (L := []) (n := 20) (s := [.reg [], .reg [(15, { look := ((mget m t).map LV.bool), v := some (.bool ((mget m t).getD default)) }), (16, { v := some (.bool true) })], .reg []])
      (a_ (a_ (a_ (a_ tr tr) (a_ (a_ tr tr) tr)) (a_ (a_ (a_ tr tr) (a_ (a_ tr tr) (a_ (a_ tr tr) (a_ (a_ tr tr) (a_ (a_ tr tr) (a_ (a_ tr tr) (a_ (a_ (a_ tr (lt_ 0 1 rfl)) tr) (a_ (a_ tr tr) (a_ (a_ tr tr) (a_ (a_ tr tr) (a_ (a_ tr tr) (a_ (a_ tr tr) (a_ (a_ tr tr) (a_ (a_ (a_ tr (lt_ 0 1 rfl)) tr) (a_ (a_ (a_ tr (le_ 3 3 rfl)) tr) (a_ (a_ (a_ (Eq.refl true) (findE_enc v_T_api_Tx LV.bool k_T_api_Tx m t)) (a_ (le_look LV.bool (mget m t) default) tr)) (a_ (a_ tr (a_ (leB c1) tr)) tr))))))))))))))))) (a_ (a_ (a_ tr tr) tr) tr))) tr) (by kernel_rfl) rfl
  · skip
    obtain rfl := Option.some.inj h
    exact run_ret mixed (L := []) (n := 24) (s := [.reg [], .reg [(15, { look := ((mget m t).map LV.bool), v := some (.bool ((mget m t).getD default)) }), (16, { v := some (.bool false) })], .reg [(5, { os := [(1, .map true [.int .u8, .int .u32, .int .u32] (encM v_T_api_Tx LV.bool (mset m t true)))] })], .reg []])
      (a_ (a_ (a_ (a_ tr tr) (a_ (a_ tr tr) tr)) (a_ (a_ (a_ tr tr) (a_ (a_ tr tr) (a_ (a_ tr tr) (a_ (a_ tr tr) (a_ (a_ tr tr) (a_ (a_ tr tr) (a_ (a_ (a_ tr (lt_ 0 1 rfl)) tr) (a_ (a_ tr tr) (a_ (a_ tr tr) (a_ (a_ tr tr) (a_ (a_ tr tr) (a_ (a_ tr tr) (a_ (a_ tr tr) (a_ (a_ (a_ tr (lt_ 0 1 rfl)) tr) (a_ (a_ (a_ tr (le_ 3 3 rfl)) tr) (a_ (a_ (a_ (Eq.refl true) (findE_enc v_T_api_Tx LV.bool k_T_api_Tx m t)) (a_ (le_look LV.bool (mget m t) default) tr)) (a_ (a_ tr (a_ (leB c1) tr)) tr))))))))))))))))) (a_ (a_ (a_ tr tr) (a_ (a_ tr tr) (a_ (a_ tr tr) (a_ (a_ (a_ tr (lt_ 0 1 rfl)) tr) (a_ (a_ (a_ tr (le_ 3 3 rfl)) tr) (a_ (a_ (a_ (Eq.refl true) (Eq.refl true)) (a_ (sub_upd v_T_api_Tx LV.bool k_T_api_Tx true [.int .u8, .int .u32, .int .u32] m t true) tr)) tr)))))) (a_ (a_ (a_ tr tr) tr) tr)))) tr) (by kernel_rfl) rfl

/-- (*parrel/ids.Set).Has -/

def ids_Set_Has_v (r : (Bool)) : LV := .bool r

def ids_Set_Has_up (m : List (T_api_Tx × Bool)) (t : T_api_Tx) (r : (Bool)) : Upd := [(0, some (.var [.map 1])), (1, some (.map true [.int .u8, .int .u32, .int .u32] (encM v_T_api_Tx LV.bool m)))]

def ids_Set_Has_objs (m : List (T_api_Tx × Bool)) (t : T_api_Tx) : List LO := [.var [.map 1], .map true [.int .u8, .int .u32, .int .u32] (encM v_T_api_Tx LV.bool m)]

def ids_Set_Has (m : List (T_api_Tx × Bool)) (t : T_api_Tx) : Option ((Bool)) :=
  some ((mget m t).getD default)

theorem ids_Set_Has_ok (m : List (T_api_Tx × Bool)) (t : T_api_Tx) (r : (Bool)) (h : ids_Set_Has m t = some r) : ∀ σ, Inj 2 σ → FnTri Try.prog 35 (renL σ [.ptr 0 0 0, v_T_api_Tx t]) (preOf σ 0 (ids_Set_Has_objs m t)) ((ids_Set_Has_v r).ren σ) (upOf σ (ids_Set_Has_up m t r)) := by
  refine fn_of Try.func35 (by kernel_rfl) (by kernel_rfl) (by kernel_rfl) ⟨rfl, trivial, trivial⟩ (by kernel_rfl) ⟨rfl, trivial, trivial⟩ (by kernel_rfl) ?_
  intro w0 W μ0 hμ
  unfold ids_Set_Has at h
  obtain rfl := Option.some.inj h
  exact run_ret mixed (L := []) (n := 15) (s := [.reg [], .reg [(8, { look := ((mget m t).map LV.bool), v := some (.bool ((mget m t).getD default)) })]])
    (a_ (a_ (a_ (a_ tr tr) (a_ (a_ tr tr) tr)) (a_ (a_ (a_ tr tr) (a_ (a_ tr tr) (a_ (a_ tr tr) (a_ (a_ tr tr) (a_ (a_ tr tr) (a_ (a_ tr tr) (a_ (a_ (a_ tr (lt_ 0 1 rfl)) tr) (a_ (a_ (a_ tr (le_ 3 3 rfl)) tr) (a_ (a_ (a_ (Eq.refl true) (findE_enc v_T_api_Tx LV.bool k_T_api_Tx m t)) (a_ (le_look LV.bool (mget m t) default) tr)) (a_ (a_ tr tr) (a_ (a_ tr tr) tr))))))))))) tr)) tr) (by kernel_rfl) rfl

/-- parrel/ids.isCount -/

def ids_isCount_v (r : (Bool)) : LV := .bool r

def ids_isCount (x_n : Int) : Option ((Bool)) :=
  some (decide ((IntKind.wrap .u32 (x_n - 1)) < 2147483647))

theorem ids_isCount_ok (x_n : Int) (r : (Bool)) (h : ids_isCount x_n = some r) : ∀ σ, Inj 0 σ → FnTri Try.prog 39 (renL σ [.int .u32 x_n]) (preOf σ 0 []) ((ids_isCount_v r).ren σ) (upOf σ []) := by
  refine fn_of Try.func39 (by kernel_rfl) (by kernel_rfl) (by kernel_rfl) trivial (by kernel_rfl) trivial (by kernel_rfl) ?_
  intro w0 W μ0 hμ
  unfold ids_isCount at h
  obtain rfl := Option.some.inj h
  exact run_ret mixed (L := []) (n := 15) (s := [.reg [], .reg []])
    (a_ (a_ (a_ (a_ tr tr) tr) (a_ (a_ (a_ tr tr) (a_ (a_ tr tr) (a_ (a_ tr tr) (a_ (a_ tr tr) tr)))) tr)) tr) (by kernel_rfl) rfl

theorem ids_isCount_tri (x_n : Int) (r : (Bool)) (h : ids_isCount x_n = some r) : FnTri Try.prog 39 [.int .u32 x_n] [] (ids_isCount_v r) [] := FnTri.none (ids_isCount_ok x_n r h) rfl rfl

/-- parrel/ids.TxMay -/

def ids_TxMay_v (r : (Bool)) : LV := .bool r

def ids_TxMay (t : T_api_Tx) : Option ((Bool)) :=
  if ((decide (t.f_Node < 8)) : Bool) then
    (ids_isCount t.f_Boot).bind fun y3 =>
    if (y3 : Bool) then
      (ids_isCount t.f_Num).bind fun y6 =>
      some y6
    else
      some false
  else
    some false

theorem ids_TxMay_ok (t : T_api_Tx) (r : (Bool)) (h : ids_TxMay t = some r) : ∀ σ, Inj 0 σ → FnTri Try.prog 8 (renL σ [v_T_api_Tx t]) (preOf σ 0 []) ((ids_TxMay_v r).ren σ) (upOf σ []) := by
  refine fn_of Try.func8 (by kernel_rfl) (by kernel_rfl) (by kernel_rfl) trivial (by kernel_rfl) trivial (by kernel_rfl) ?_
  intro w0 W μ0 hμ
  unfold ids_TxMay at h
  rcases itb_some h with ⟨c1, h⟩ | ⟨c1, h⟩
  · skip
    obtain ⟨y3, e2, h⟩ := bind_some h
    rcases itb_some h with ⟨c4, h⟩ | ⟨c4, h⟩
    · skip
      obtain ⟨y6, e5, h⟩ := bind_some h
      obtain rfl := Option.some.inj h
      exact run_ret mixed (L := []) (n := 15) (s := [.reg [], .reg [(3, { v := some (.bool true) }), (6, { call := some (ids_isCount_v y3, [], []) }), (8, { v := some (.bool true) }), (11, { call := some (ids_isCount_v y6, [], []) })]])
        (a_ (a_ (a_ (a_ tr tr) (a_ (a_ tr tr) tr)) (a_ (a_ (a_ tr tr) (a_ (a_ (a_ tr (lt_ 0 3 rfl)) tr) (a_ (a_ tr tr) (a_ (a_ tr (a_ (leB c1) tr)) (a_ (a_ tr tr) (a_ (a_ (a_ tr (lt_ 1 3 rfl)) tr) (a_ (a_ (a_ (ids_isCount_tri t.f_Boot y3 e2) tr) tr) (a_ (a_ tr tr) (a_ (a_ tr (a_ (leB c4) tr)) (a_ (a_ tr tr) (a_ (a_ (a_ tr (lt_ 2 3 rfl)) tr) (a_ (a_ (a_ (ids_isCount_tri t.f_Num y6 e5) tr) tr) (a_ (a_ tr tr) (a_ (a_ tr tr) tr)))))))))))))) tr)) tr) (by kernel_rfl) rfl
    · skip
      obtain rfl := Option.some.inj h
      exact run_ret mixed (L := []) (n := 15) (s := [.reg [], .reg [(3, { v := some (.bool true) }), (6, { call := some (ids_isCount_v y3, [], []) }), (8, { v := some (.bool false) })]])
        (a_ (a_ (a_ (a_ tr tr) (a_ (a_ tr tr) tr)) (a_ (a_ (a_ tr tr) (a_ (a_ (a_ tr (lt_ 0 3 rfl)) tr) (a_ (a_ tr tr) (a_ (a_ tr (a_ (leB c1) tr)) (a_ (a_ tr tr) (a_ (a_ (a_ tr (lt_ 1 3 rfl)) tr) (a_ (a_ (a_ (ids_isCount_tri t.f_Boot y3 e2) tr) tr) (a_ (a_ tr tr) (a_ (a_ tr (a_ (leB c4) tr)) (a_ tr (a_ tr (a_ tr (a_ (a_ tr tr) (a_ (a_ tr tr) tr)))))))))))))) tr)) tr) (by kernel_rfl) rfl
  · skip
    obtain rfl := Option.some.inj h
    exact run_ret mixed (L := []) (n := 15) (s := [.reg [], .reg [(3, { v := some (.bool false) })]])
      (a_ (a_ (a_ (a_ tr tr) (a_ (a_ tr tr) tr)) (a_ (a_ (a_ tr tr) (a_ (a_ (a_ tr (lt_ 0 3 rfl)) tr) (a_ (a_ tr tr) (a_ (a_ tr (a_ (leB c1) tr)) (a_ tr (a_ tr (a_ tr (a_ (a_ tr tr) (a_ (a_ tr tr) (a_ tr (a_ tr (a_ tr (a_ (a_ tr tr) (a_ (a_ tr tr) tr)))))))))))))) tr)) tr) (by kernel_rfl) rfl

theorem ids_TxMay_tri (t : T_api_Tx) (r : (Bool)) (h : ids_TxMay t = some r) : FnTri Try.prog 8 [v_T_api_Tx t] [] (ids_TxMay_v r) [] := FnTri.none (ids_TxMay_ok t r h) rfl rfl

/-- parrel/parrellaw05.alive -/

def parrellaw05_alive_v (r : (Bool)) : LV := .bool r

def parrellaw05_alive  : Option ((Bool)) :=
  (ids_KeyOf ([97, 98] : List UInt8)).bind fun y2 =>
  (ids_New).bind fun y4 =>
  if ((decide (y2.1 = (A8.mk 97 98 0 0 0 0 0 0))) : Bool) then
    if ((y2.2 == 0) : Bool) then
      (ids_Set_Add y4 (T_api_Tx.mk 1 2 3)).bind fun y8 =>
      if (y8.1 : Bool) then
        (ids_Set_Has y8.2 (T_api_Tx.mk 1 2 3)).bind fun y11 =>
        if (y11 : Bool) then
          (ids_Set_Add y8.2 (T_api_Tx.mk 1 2 3)).bind fun y14 =>
          if ((!y14.1) : Bool) then
            (ids_TxMay (T_api_Tx.mk 1 2 3)).bind fun y17 =>
            some y17
          else
            some false
        else
          some false
      else
        some false
    else
      some false
  else
    some false

theorem parrellaw05_alive_ok  (r : (Bool)) (h : parrellaw05_alive  = some r) : ∀ σ, Inj 0 σ → FnTri Try.prog 14 (renL σ []) (preOf σ 0 []) ((parrellaw05_alive_v r).ren σ) (upOf σ []) := by
  refine fn_of Try.func14 (by kernel_rfl) (by kernel_rfl) (by kernel_rfl) trivial (by kernel_rfl) trivial (by kernel_rfl) ?_
  intro w0 W μ0 hμ
  unfold parrellaw05_alive at h
  obtain ⟨y2, e1, h⟩ := bind_some h
  obtain ⟨y4, e3, h⟩ := bind_some h
  rcases itb_some h with ⟨c5, h⟩ | ⟨c5, h⟩
  · skip
    rcases itb_some h with ⟨c6, h⟩ | ⟨c6, h⟩
    · skip
      obtain ⟨y8, e7, h⟩ := bind_some h
      rcases itb_some h with ⟨c9, h⟩ | ⟨c9, h⟩
      · skip
        obtain ⟨y11, e10, h⟩ := bind_some h
        rcases itb_some h with ⟨c12, h⟩ | ⟨c12, h⟩
        · skip
          obtain ⟨y14, e13, h⟩ := bind_some h
          rcases itb_some h with ⟨c15, h⟩ | ⟨c15, h⟩
          · skip
            obtain ⟨y17, e16, h⟩ := bind_some h
            obtain rfl := Option.some.inj h
            exact run_ret mixed (L := []) (n := 24) (s := [.reg [], .reg [(0, { call := some (ids_KeyOf_v y2, [], []) })], .reg [(0, { call := some ((ids_New_v y4).ren (sel [1, 2]), preOf (sel [1, 2]) 0 [], upOf (sel [1, 2]) (ids_New_up  y4)) })], .reg [], .reg [(2, { v := some (.bool (decide (y2.1 = (A8.mk 97 98 0 0 0 0 0 0)))) }), (3, { v := some (.bool true) }), (7, { v := some (.bool true) }), (14, { call := some ((ids_Set_Add_v y8).ren (sel [1, 2]), preOf (sel [1, 2]) 0 (ids_Set_Add_objs y4 (T_api_Tx.mk 1 2 3)), upOf (sel [1, 2]) (ids_Set_Add_up y4 (T_api_Tx.mk 1 2 3) y8)) }), (16, { v := some (.bool true) }), (19, { call := some ((ids_Set_Has_v y11).ren (sel [1, 2]), preOf (sel [1, 2]) 0 (ids_Set_Has_objs y8.2 (T_api_Tx.mk 1 2 3)), upOf (sel [1, 2]) (ids_Set_Has_up y8.2 (T_api_Tx.mk 1 2 3) y11)) }), (21, { v := some (.bool true) }), (24, { call := some ((ids_Set_Add_v y14).ren (sel [1, 2]), preOf (sel [1, 2]) 0 (ids_Set_Add_objs y8.2 (T_api_Tx.mk 1 2 3)), upOf (sel [1, 2]) (ids_Set_Add_up y8.2 (T_api_Tx.mk 1 2 3) y14)) }), (27, { v := some (.bool true) }), (29, { call := some (ids_TxMay_v y17, [], []) })]])
              (a_ (a_ (a_ (a_ tr tr) tr) (a_ (a_ (a_ (a_ (ids_KeyOf_tri ([97, 98] : List UInt8) y2 e1) tr) tr) (a_ (a_ tr tr) (a_ (a_ tr tr) (a_ (a_ tr tr) (a_ (a_ tr tr) (a_ (a_ (a_ (Eq.refl 8) (a_ (le_ 8 8 rfl) (Eq.refl 0))) tr) (a_ (a_ tr tr) tr))))))) (a_ (a_ (a_ (a_ (ids_New_ok  y4 e3 (sel [1, 2]) (sel_inj rfl rfl)) tr) tr) (a_ (a_ tr tr) tr)) (a_ (a_ (a_ (Eq.refl true) tr) (a_ (a_ tr tr) (a_ (a_ (a_ (Eq.refl 3) (a_ (le_ 3 3 rfl) (Eq.refl 0))) tr) tr))) (a_ (a_ (a_ (a_ tr (le_ 8 8 rfl)) tr) (a_ (a_ (Eq.refl true) tr) (a_ (a_ tr (a_ (leB ((k_arr8 .u8) y2.1 (A8.mk 97 98 0 0 0 0 0 0))) tr)) (a_ (a_ tr (a_ (leB c5) tr)) (a_ (a_ tr tr) (a_ (a_ tr tr) (a_ (a_ tr tr) (a_ (a_ tr (a_ (leB c6) tr)) (a_ (a_ tr tr) (a_ (a_ tr tr) (a_ (a_ tr tr) (a_ (a_ tr tr) (a_ (a_ tr tr) (a_ (a_ (a_ tr (le_ 3 3 rfl)) tr) (a_ (a_ (a_ (ids_Set_Add_ok y4 (T_api_Tx.mk 1 2 3) y8 e7 (sel [1, 2]) (sel_inj rfl rfl)) (a_ (LO.Le.refl (.var [.map 2])) (a_ (LO.Le.refl (.map true [.int .u8, .int .u32, .int .u32] (encM v_T_api_Tx LV.bool y4))) tr))) tr) (a_ (a_ tr tr) (a_ (a_ tr (a_ (leB c9) tr)) (a_ (a_ tr tr) (a_ (a_ (a_ tr (le_ 3 3 rfl)) tr) (a_ (a_ (a_ (ids_Set_Has_ok y8.2 (T_api_Tx.mk 1 2 3) y11 e10 (sel [1, 2]) (sel_inj rfl rfl)) (a_ (LO.Le.refl (.var [.map 2])) (a_ (LO.Le.refl (.map true [.int .u8, .int .u32, .int .u32] (encM v_T_api_Tx LV.bool y8.2))) tr))) tr) (a_ (a_ tr tr) (a_ (a_ tr (a_ (leB c12) tr)) (a_ (a_ tr tr) (a_ (a_ (a_ tr (le_ 3 3 rfl)) tr) (a_ (a_ (a_ (ids_Set_Add_ok y8.2 (T_api_Tx.mk 1 2 3) y14 e13 (sel [1, 2]) (sel_inj rfl rfl)) (a_ (LO.Le.refl (.var [.map 2])) (a_ (LO.Le.refl (.map true [.int .u8, .int .u32, .int .u32] (encM v_T_api_Tx LV.bool y8.2))) tr))) tr) (a_ (a_ tr tr) (a_ (a_ tr tr) (a_ (a_ tr (a_ (leB c15) tr)) (a_ (a_ (a_ tr (le_ 3 3 rfl)) tr) (a_ (a_ (a_ (ids_TxMay_tri (T_api_Tx.mk 1 2 3) y17 e16) tr) tr) (a_ (a_ tr tr) (a_ (a_ tr tr) tr)))))))))))))))))))))))))))))))) tr))))) tr) (by kernel_rfl) rfl
          · skip
            obtain rfl := Option.some.inj h
            exact run_ret mixed (L := []) (n := 24) (s := [.reg [], .reg [(0, { call := some (ids_KeyOf_v y2, [], []) })], .reg [(0, { call := some ((ids_New_v y4).ren (sel [1, 2]), preOf (sel [1, 2]) 0 [], upOf (sel [1, 2]) (ids_New_up  y4)) })], .reg [], .reg [(2, { v := some (.bool (decide (y2.1 = (A8.mk 97 98 0 0 0 0 0 0)))) }), (3, { v := some (.bool true) }), (7, { v := some (.bool true) }), (14, { call := some ((ids_Set_Add_v y8).ren (sel [1, 2]), preOf (sel [1, 2]) 0 (ids_Set_Add_objs y4 (T_api_Tx.mk 1 2 3)), upOf (sel [1, 2]) (ids_Set_Add_up y4 (T_api_Tx.mk 1 2 3) y8)) }), (16, { v := some (.bool true) }), (19, { call := some ((ids_Set_Has_v y11).ren (sel [1, 2]), preOf (sel [1, 2]) 0 (ids_Set_Has_objs y8.2 (T_api_Tx.mk 1 2 3)), upOf (sel [1, 2]) (ids_Set_Has_up y8.2 (T_api_Tx.mk 1 2 3) y11)) }), (21, { v := some (.bool true) }), (24, { call := some ((ids_Set_Add_v y14).ren (sel [1, 2]), preOf (sel [1, 2]) 0 (ids_Set_Add_objs y8.2 (T_api_Tx.mk 1 2 3)), upOf (sel [1, 2]) (ids_Set_Add_up y8.2 (T_api_Tx.mk 1 2 3) y14)) }), (27, { v := some (.bool false) })]])
              (a_ (a_ (a_ (a_ tr tr) tr) (a_ (a_ (a_ (a_ (ids_KeyOf_tri ([97, 98] : List UInt8) y2 e1) tr) tr) (a_ (a_ tr tr) (a_ (a_ tr tr) (a_ (a_ tr tr) (a_ (a_ tr tr) (a_ (a_ (a_ (Eq.refl 8) (a_ (le_ 8 8 rfl) (Eq.refl 0))) tr) (a_ (a_ tr tr) tr))))))) (a_ (a_ (a_ (a_ (ids_New_ok  y4 e3 (sel [1, 2]) (sel_inj rfl rfl)) tr) tr) (a_ (a_ tr tr) tr)) (a_ (a_ (a_ (Eq.refl true) tr) (a_ (a_ tr tr) (a_ (a_ (a_ (Eq.refl 3) (a_ (le_ 3 3 rfl) (Eq.refl 0))) tr) tr))) (a_ (a_ (a_ (a_ tr (le_ 8 8 rfl)) tr) (a_ (a_ (Eq.refl true) tr) (a_ (a_ tr (a_ (leB ((k_arr8 .u8) y2.1 (A8.mk 97 98 0 0 0 0 0 0))) tr)) (a_ (a_ tr (a_ (leB c5) tr)) (a_ (a_ tr tr) (a_ (a_ tr tr) (a_ (a_ tr tr) (a_ (a_ tr (a_ (leB c6) tr)) (a_ (a_ tr tr) (a_ (a_ tr tr) (a_ (a_ tr tr) (a_ (a_ tr tr) (a_ (a_ tr tr) (a_ (a_ (a_ tr (le_ 3 3 rfl)) tr) (a_ (a_ (a_ (ids_Set_Add_ok y4 (T_api_Tx.mk 1 2 3) y8 e7 (sel [1, 2]) (sel_inj rfl rfl)) (a_ (LO.Le.refl (.var [.map 2])) (a_ (LO.Le.refl (.map true [.int .u8, .int .u32, .int .u32] (encM v_T_api_Tx LV.bool y4))) tr))) tr) (a_ (a_ tr tr) (a_ (a_ tr (a_ (leB c9) tr)) (a_ (a_ tr tr) (a_ (a_ (a_ tr (le_ 3 3 rfl)) tr) (a_ (a_ (a_ (ids_Set_Has_ok y8.2 (T_api_Tx.mk 1 2 3) y11 e10 (sel [1, 2]) (sel_inj rfl rfl)) (a_ (LO.Le.refl (.var [.map 2])) (a_ (LO.Le.refl (.map true [.int .u8, .int .u32, .int .u32] (encM v_T_api_Tx LV.bool y8.2))) tr))) tr) (a_ (a_ tr tr) (a_ (a_ tr (a_ (leB c12) tr)) (a_ (a_ tr tr) (a_ (a_ (a_ tr (le_ 3 3 rfl)) tr) (a_ (a_ (a_ (ids_Set_Add_ok y8.2 (T_api_Tx.mk 1 2 3) y14 e13 (sel [1, 2]) (sel_inj rfl rfl)) (a_ (LO.Le.refl (.var [.map 2])) (a_ (LO.Le.refl (.map true [.int .u8, .int .u32, .int .u32] (encM v_T_api_Tx LV.bool y8.2))) tr))) tr) (a_ (a_ tr tr) (a_ (a_ tr tr) (a_ (a_ tr (a_ (leB c15) tr)) (a_ tr (a_ tr (a_ (a_ tr tr) (a_ (a_ tr tr) tr)))))))))))))))))))))))))))))))) tr))))) tr) (by kernel_rfl) rfl
        · skip
          obtain rfl := Option.some.inj h
          exact run_ret mixed (L := []) (n := 24) (s := [.reg [], .reg [(0, { call := some (ids_KeyOf_v y2, [], []) })], .reg [(0, { call := some ((ids_New_v y4).ren (sel [1, 2]), preOf (sel [1, 2]) 0 [], upOf (sel [1, 2]) (ids_New_up  y4)) })], .reg [], .reg [(2, { v := some (.bool (decide (y2.1 = (A8.mk 97 98 0 0 0 0 0 0)))) }), (3, { v := some (.bool true) }), (7, { v := some (.bool true) }), (14, { call := some ((ids_Set_Add_v y8).ren (sel [1, 2]), preOf (sel [1, 2]) 0 (ids_Set_Add_objs y4 (T_api_Tx.mk 1 2 3)), upOf (sel [1, 2]) (ids_Set_Add_up y4 (T_api_Tx.mk 1 2 3) y8)) }), (16, { v := some (.bool true) }), (19, { call := some ((ids_Set_Has_v y11).ren (sel [1, 2]), preOf (sel [1, 2]) 0 (ids_Set_Has_objs y8.2 (T_api_Tx.mk 1 2 3)), upOf (sel [1, 2]) (ids_Set_Has_up y8.2 (T_api_Tx.mk 1 2 3) y11)) }), (21, { v := some (.bool false) })]])
            (a_ (a_ (a_ (a_ tr tr) tr) (a_ (a_ (a_ (a_ (ids_KeyOf_tri ([97, 98] : List UInt8) y2 e1) tr) tr) (a_ (a_ tr tr) (a_ (a_ tr tr) (a_ (a_ tr tr) (a_ (a_ tr tr) (a_ (a_ (a_ (Eq.refl 8) (a_ (le_ 8 8 rfl) (Eq.refl 0))) tr) (a_ (a_ tr tr) tr))))))) (a_ (a_ (a_ (a_ (ids_New_ok  y4 e3 (sel [1, 2]) (sel_inj rfl rfl)) tr) tr) (a_ (a_ tr tr) tr)) (a_ (a_ (a_ (Eq.refl true) tr) (a_ (a_ tr tr) (a_ (a_ (a_ (Eq.refl 3) (a_ (le_ 3 3 rfl) (Eq.refl 0))) tr) tr))) (a_ (a_ (a_ (a_ tr (le_ 8 8 rfl)) tr) (a_ (a_ (Eq.refl true) tr) (a_ (a_ tr (a_ (leB ((k_arr8 .u8) y2.1 (A8.mk 97 98 0 0 0 0 0 0))) tr)) (a_ (a_ tr (a_ (leB c5) tr)) (a_ (a_ tr tr) (a_ (a_ tr tr) (a_ (a_ tr tr) (a_ (a_ tr (a_ (leB c6) tr)) (a_ (a_ tr tr) (a_ (a_ tr tr) (a_ (a_ tr tr) (a_ (a_ tr tr) (a_ (a_ tr tr) (a_ (a_ (a_ tr (le_ 3 3 rfl)) tr) (a_ (a_ (a_ (ids_Set_Add_ok y4 (T_api_Tx.mk 1 2 3) y8 e7 (sel [1, 2]) (sel_inj rfl rfl)) (a_ (LO.Le.refl (.var [.map 2])) (a_ (LO.Le.refl (.map true [.int .u8, .int .u32, .int .u32] (encM v_T_api_Tx LV.bool y4))) tr))) tr) (a_ (a_ tr tr) (a_ (a_ tr (a_ (leB c9) tr)) (a_ (a_ tr tr) (a_ (a_ (a_ tr (le_ 3 3 rfl)) tr) (a_ (a_ (a_ (ids_Set_Has_ok y8.2 (T_api_Tx.mk 1 2 3) y11 e10 (sel [1, 2]) (sel_inj rfl rfl)) (a_ (LO.Le.refl (.var [.map 2])) (a_ (LO.Le.refl (.map true [.int .u8, .int .u32, .int .u32] (encM v_T_api_Tx LV.bool y8.2))) tr))) tr) (a_ (a_ tr tr) (a_ (a_ tr (a_ (leB c12) tr)) (a_ tr (a_ tr (a_ tr (a_ tr (a_ (a_ tr tr) (a_ (a_ tr tr) (a_ tr (a_ tr (a_ (a_ tr tr) (a_ (a_ tr tr) tr)))))))))))))))))))))))))))))))) tr))))) tr) (by kernel_rfl) rfl
      · skip
        obtain rfl := Option.some.inj h
        exact run_ret mixed (L := []) (n := 24) (s := [.reg [], .reg [(0, { call := some (ids_KeyOf_v y2, [], []) })], .reg [(0, { call := some ((ids_New_v y4).ren (sel [1, 2]), preOf (sel [1, 2]) 0 [], upOf (sel [1, 2]) (ids_New_up  y4)) })], .reg [], .reg [(2, { v := some (.bool (decide (y2.1 = (A8.mk 97 98 0 0 0 0 0 0)))) }), (3, { v := some (.bool true) }), (7, { v := some (.bool true) }), (14, { call := some ((ids_Set_Add_v y8).ren (sel [1, 2]), preOf (sel [1, 2]) 0 (ids_Set_Add_objs y4 (T_api_Tx.mk 1 2 3)), upOf (sel [1, 2]) (ids_Set_Add_up y4 (T_api_Tx.mk 1 2 3) y8)) }), (16, { v := some (.bool false) })]])
          (a_ (a_ (a_ (a_ tr tr) tr) (a_ (a_ (a_ (a_ (ids_KeyOf_tri ([97, 98] : List UInt8) y2 e1) tr) tr) (a_ (a_ tr tr) (a_ (a_ tr tr) (a_ (a_ tr tr) (a_ (a_ tr tr) (a_ (a_ (a_ (Eq.refl 8) (a_ (le_ 8 8 rfl) (Eq.refl 0))) tr) (a_ (a_ tr tr) tr))))))) (a_ (a_ (a_ (a_ (ids_New_ok  y4 e3 (sel [1, 2]) (sel_inj rfl rfl)) tr) tr) (a_ (a_ tr tr) tr)) (a_ (a_ (a_ (Eq.refl true) tr) (a_ (a_ tr tr) (a_ (a_ (a_ (Eq.refl 3) (a_ (le_ 3 3 rfl) (Eq.refl 0))) tr) tr))) (a_ (a_ (a_ (a_ tr (le_ 8 8 rfl)) tr) (a_ (a_ (Eq.refl true) tr) (a_ (a_ tr (a_ (leB ((k_arr8 .u8) y2.1 (A8.mk 97 98 0 0 0 0 0 0))) tr)) (a_ (a_ tr (a_ (leB c5) tr)) (a_ (a_ tr tr) (a_ (a_ tr tr) (a_ (a_ tr tr) (a_ (a_ tr (a_ (leB c6) tr)) (a_ (a_ tr tr) (a_ (a_ tr tr) (a_ (a_ tr tr) (a_ (a_ tr tr) (a_ (a_ tr tr) (a_ (a_ (a_ tr (le_ 3 3 rfl)) tr) (a_ (a_ (a_ (ids_Set_Add_ok y4 (T_api_Tx.mk 1 2 3) y8 e7 (sel [1, 2]) (sel_inj rfl rfl)) (a_ (LO.Le.refl (.var [.map 2])) (a_ (LO.Le.refl (.map true [.int .u8, .int .u32, .int .u32] (encM v_T_api_Tx LV.bool y4))) tr))) tr) (a_ (a_ tr tr) (a_ (a_ tr (a_ (leB c9) tr)) (a_ tr (a_ tr (a_ tr (a_ (a_ tr tr) (a_ (a_ tr tr) (a_ tr (a_ tr (a_ tr (a_ tr (a_ (a_ tr tr) (a_ (a_ tr tr) (a_ tr (a_ tr (a_ (a_ tr tr) (a_ (a_ tr tr) tr)))))))))))))))))))))))))))))))) tr))))) tr) (by kernel_rfl) rfl
    · skip
      obtain rfl := Option.some.inj h
      exact run_ret mixed (L := []) (n := 24) (s := [.reg [], .reg [(0, { call := some (ids_KeyOf_v y2, [], []) })], .reg [(0, { call := some ((ids_New_v y4).ren (sel [1, 2]), preOf (sel [1, 2]) 0 [], upOf (sel [1, 2]) (ids_New_up  y4)) })], .reg [], .reg [(2, { v := some (.bool (decide (y2.1 = (A8.mk 97 98 0 0 0 0 0 0)))) }), (3, { v := some (.bool true) }), (7, { v := some (.bool false) })]])
        (a_ (a_ (a_ (a_ tr tr) tr) (a_ (a_ (a_ (a_ (ids_KeyOf_tri ([97, 98] : List UInt8) y2 e1) tr) tr) (a_ (a_ tr tr) (a_ (a_ tr tr) (a_ (a_ tr tr) (a_ (a_ tr tr) (a_ (a_ (a_ (Eq.refl 8) (a_ (le_ 8 8 rfl) (Eq.refl 0))) tr) (a_ (a_ tr tr) tr))))))) (a_ (a_ (a_ (a_ (ids_New_ok  y4 e3 (sel [1, 2]) (sel_inj rfl rfl)) tr) tr) (a_ (a_ tr tr) tr)) (a_ (a_ (a_ (Eq.refl true) tr) (a_ (a_ tr tr) (a_ (a_ (a_ (Eq.refl 3) (a_ (le_ 3 3 rfl) (Eq.refl 0))) tr) tr))) (a_ (a_ (a_ (a_ tr (le_ 8 8 rfl)) tr) (a_ (a_ (Eq.refl true) tr) (a_ (a_ tr (a_ (leB ((k_arr8 .u8) y2.1 (A8.mk 97 98 0 0 0 0 0 0))) tr)) (a_ (a_ tr (a_ (leB c5) tr)) (a_ (a_ tr tr) (a_ (a_ tr tr) (a_ (a_ tr tr) (a_ (a_ tr (a_ (leB c6) tr)) (a_ tr (a_ tr (a_ (a_ tr tr) (a_ (a_ tr tr) (a_ tr (a_ tr (a_ tr (a_ (a_ tr tr) (a_ (a_ tr tr) (a_ tr (a_ tr (a_ tr (a_ (a_ tr tr) (a_ (a_ tr tr) (a_ tr (a_ tr (a_ tr (a_ tr (a_ (a_ tr tr) (a_ (a_ tr tr) (a_ tr (a_ tr (a_ (a_ tr tr) (a_ (a_ tr tr) tr)))))))))))))))))))))))))))))))) tr))))) tr) (by kernel_rfl) rfl
  · skip
    obtain rfl := Option.some.inj h
    exact run_ret mixed (L := []) (n := 24) (s := [.reg [], .reg [(0, { call := some (ids_KeyOf_v y2, [], []) })], .reg [(0, { call := some ((ids_New_v y4).ren (sel [1, 2]), preOf (sel [1, 2]) 0 [], upOf (sel [1, 2]) (ids_New_up  y4)) })], .reg [], .reg [(2, { v := some (.bool (decide (y2.1 = (A8.mk 97 98 0 0 0 0 0 0)))) }), (3, { v := some (.bool false) })]])
      (a_ (a_ (a_ (a_ tr tr) tr) (a_ (a_ (a_ (a_ (ids_KeyOf_tri ([97, 98] : List UInt8) y2 e1) tr) tr) (a_ (a_ tr tr) (a_ (a_ tr tr) (a_ (a_ tr tr) (a_ (a_ tr tr) (a_ (a_ (a_ (Eq.refl 8) (a_ (le_ 8 8 rfl) (Eq.refl 0))) tr) (a_ (a_ tr tr) tr))))))) (a_ (a_ (a_ (a_ (ids_New_ok  y4 e3 (sel [1, 2]) (sel_inj rfl rfl)) tr) tr) (a_ (a_ tr tr) tr)) (a_ (a_ (a_ (Eq.refl true) tr) (a_ (a_ tr tr) (a_ (a_ (a_ (Eq.refl 3) (a_ (le_ 3 3 rfl) (Eq.refl 0))) tr) tr))) (a_ (a_ (a_ (a_ tr (le_ 8 8 rfl)) tr) (a_ (a_ (Eq.refl true) tr) (a_ (a_ tr (a_ (leB ((k_arr8 .u8) y2.1 (A8.mk 97 98 0 0 0 0 0 0))) tr)) (a_ (a_ tr (a_ (leB c5) tr)) (a_ tr (a_ tr (a_ (a_ tr tr) (a_ (a_ tr tr) (a_ tr (a_ tr (a_ (a_ tr tr) (a_ (a_ tr tr) (a_ tr (a_ tr (a_ tr (a_ (a_ tr tr) (a_ (a_ tr tr) (a_ tr (a_ tr (a_ tr (a_ (a_ tr tr) (a_ (a_ tr tr) (a_ tr (a_ tr (a_ tr (a_ tr (a_ (a_ tr tr) (a_ (a_ tr tr) (a_ tr (a_ tr (a_ (a_ tr tr) (a_ (a_ tr tr) tr)))))))))))))))))))))))))))))))) tr))))) tr) (by kernel_rfl) rfl

theorem parrellaw05_alive_tri  (r : (Bool)) (h : parrellaw05_alive  = some r) : FnTri Try.prog 14 [] [] (parrellaw05_alive_v r) [] := FnTri.none (parrellaw05_alive_ok  r h) rfl rfl

/-- parrel/parrellaw05.IdsOrder -/

def parrellaw05_IdsOrder_v (r : (Bool)) : LV := .bool r

def parrellaw05_IdsOrder (a : T_api_Stamp) (b : T_api_Stamp) (x_k : A2 (A8 (Int))) : Option ((Bool)) :=
  (ids_Keys x_k.a0 x_k.a1).bind fun y2 =>
  (parrelref05_Keys x_k.a0 x_k.a1).bind fun y4 =>
  if ((y2 == y4) : Bool) then
    (ids_Txs a.f_Tx b.f_Tx).bind fun y7 =>
    (parrelref05_Txs a.f_Tx b.f_Tx).bind fun y9 =>
    if ((y7 == y9) : Bool) then
      (ids_Stamps a b).bind fun y12 =>
      (parrelref05_Stamps a b).bind fun y14 =>
      if ((y12 == y14) : Bool) then
        (parrellaw05_alive).bind fun y17 =>
        some y17
      else
        some false
    else
      some false
  else
    some false

theorem parrellaw05_IdsOrder_ok (a : T_api_Stamp) (b : T_api_Stamp) (x_k : A2 (A8 (Int))) (r : (Bool)) (h : parrellaw05_IdsOrder a b x_k = some r) : ∀ σ, Inj 0 σ → FnTri Try.prog 4 (renL σ [v_T_api_Stamp a, v_T_api_Stamp b, .agg [.int .u8 x_k.a0.a0, .int .u8 x_k.a0.a1, .int .u8 x_k.a0.a2, .int .u8 x_k.a0.a3, .int .u8 x_k.a0.a4, .int .u8 x_k.a0.a5, .int .u8 x_k.a0.a6, .int .u8 x_k.a0.a7, .int .u8 x_k.a1.a0, .int .u8 x_k.a1.a1, .int .u8 x_k.a1.a2, .int .u8 x_k.a1.a3, .int .u8 x_k.a1.a4, .int .u8 x_k.a1.a5, .int .u8 x_k.a1.a6, .int .u8 x_k.a1.a7]]) (preOf σ 0 []) ((parrellaw05_IdsOrder_v r).ren σ) (upOf σ []) := by
  refine fn_of Try.func4 (by kernel_rfl) (by kernel_rfl) (by kernel_rfl) trivial (by kernel_rfl) trivial (by kernel_rfl) ?_
  intro w0 W μ0 hμ
  unfold parrellaw05_IdsOrder at h
  obtain ⟨y2, e1, h⟩ := bind_some h
  obtain ⟨y4, e3, h⟩ := bind_some h
  rcases itb_some h with ⟨c5, h⟩ | ⟨c5, h⟩
  · skip
    obtain ⟨y7, e6, h⟩ := bind_some h
    obtain ⟨y9, e8, h⟩ := bind_some h
    rcases itb_some h with ⟨c10, h⟩ | ⟨c10, h⟩
    · skip
      obtain ⟨y12, e11, h⟩ := bind_some h
      obtain ⟨y14, e13, h⟩ := bind_some h
      rcases itb_some h with ⟨c15, h⟩ | ⟨c15, h⟩
      · skip
        obtain ⟨y17, e16, h⟩ := bind_some h
        obtain rfl := Option.some.inj h
        exact run_ret mixed (L := []) (n := 15) (s := [.reg [], .reg [(4, { call := some (ids_Keys_v y2, [], []) }), (9, { call := some (parrelref05_Keys_v y4, [], []) }), (11, { v := some (.bool true) }), (16, { call := some (ids_Txs_v y7, [], []) }), (21, { call := some (parrelref05_Txs_v y9, [], []) }), (24, { v := some (.bool true) }), (27, { call := some (ids_Stamps_v y12, [], []) }), (30, { call := some (parrelref05_Stamps_v y14, [], []) }), (33, { v := some (.bool true) }), (34, { call := some (parrellaw05_alive_v y17, [], []) })]])
          (a_ (a_ (a_ (a_ tr tr) (a_ (a_ tr tr) (a_ (a_ tr tr) (a_ (a_ tr tr) tr)))) (a_ (a_ (a_ (a_ (lei_ 0 0 rfl) (lti_ 0 2 rfl)) tr) (a_ (a_ (a_ tr (le_ 8 16 rfl)) tr) (a_ (a_ (a_ (lei_ 0 1 rfl) (lti_ 1 2 rfl)) tr) (a_ (a_ (a_ tr (le_ 16 16 rfl)) tr) (a_ (a_ (a_ (ids_Keys_tri x_k.a0 x_k.a1 y2 e1) tr) tr) (a_ (a_ (a_ (lei_ 0 0 rfl) (lti_ 0 2 rfl)) tr) (a_ (a_ (a_ tr (le_ 8 16 rfl)) tr) (a_ (a_ (a_ (lei_ 0 1 rfl) (lti_ 1 2 rfl)) tr) (a_ (a_ (a_ tr (le_ 16 16 rfl)) tr) (a_ (a_ (a_ (parrelref05_Keys_tri x_k.a0 x_k.a1 y4 e3) tr) tr) (a_ (a_ tr tr) (a_ (a_ tr (a_ (leB c5) tr)) (a_ (a_ tr tr) (a_ (a_ (a_ tr (le_ 4 4 rfl)) tr) (a_ (a_ tr tr) (a_ (a_ (a_ tr (le_ 4 4 rfl)) tr) (a_ (a_ (a_ (ids_Txs_tri a.f_Tx b.f_Tx y7 e6) tr) tr) (a_ (a_ tr tr) (a_ (a_ (a_ tr (le_ 4 4 rfl)) tr) (a_ (a_ tr tr) (a_ (a_ (a_ tr (le_ 4 4 rfl)) tr) (a_ (a_ (a_ (parrelref05_Txs_tri a.f_Tx b.f_Tx y9 e8) tr) tr) (a_ (a_ tr tr) (a_ (a_ tr tr) (a_ (a_ tr (a_ (leB c10) tr)) (a_ (a_ (a_ tr (le_ 4 4 rfl)) tr) (a_ (a_ (a_ tr (le_ 4 4 rfl)) tr) (a_ (a_ (a_ (ids_Stamps_tri a b y12 e11) tr) tr) (a_ (a_ (a_ tr (le_ 4 4 rfl)) tr) (a_ (a_ (a_ tr (le_ 4 4 rfl)) tr) (a_ (a_ (a_ (parrelref05_Stamps_tri a b y14 e13) tr) tr) (a_ (a_ tr tr) (a_ (a_ tr tr) (a_ (a_ tr (a_ (leB c15) tr)) (a_ (a_ (a_ (parrellaw05_alive_tri  y17 e16) tr) tr) (a_ (a_ tr tr) (a_ (a_ tr tr) tr))))))))))))))))))))))))))))))))))))) tr)) tr) (by kernel_rfl) rfl
      · skip
        obtain rfl := Option.some.inj h
        exact run_ret mixed (L := []) (n := 15) (s := [.reg [], .reg [(4, { call := some (ids_Keys_v y2, [], []) }), (9, { call := some (parrelref05_Keys_v y4, [], []) }), (11, { v := some (.bool true) }), (16, { call := some (ids_Txs_v y7, [], []) }), (21, { call := some (parrelref05_Txs_v y9, [], []) }), (24, { v := some (.bool true) }), (27, { call := some (ids_Stamps_v y12, [], []) }), (30, { call := some (parrelref05_Stamps_v y14, [], []) }), (33, { v := some (.bool false) })]])
          (a_ (a_ (a_ (a_ tr tr) (a_ (a_ tr tr) (a_ (a_ tr tr) (a_ (a_ tr tr) tr)))) (a_ (a_ (a_ (a_ (lei_ 0 0 rfl) (lti_ 0 2 rfl)) tr) (a_ (a_ (a_ tr (le_ 8 16 rfl)) tr) (a_ (a_ (a_ (lei_ 0 1 rfl) (lti_ 1 2 rfl)) tr) (a_ (a_ (a_ tr (le_ 16 16 rfl)) tr) (a_ (a_ (a_ (ids_Keys_tri x_k.a0 x_k.a1 y2 e1) tr) tr) (a_ (a_ (a_ (lei_ 0 0 rfl) (lti_ 0 2 rfl)) tr) (a_ (a_ (a_ tr (le_ 8 16 rfl)) tr) (a_ (a_ (a_ (lei_ 0 1 rfl) (lti_ 1 2 rfl)) tr) (a_ (a_ (a_ tr (le_ 16 16 rfl)) tr) (a_ (a_ (a_ (parrelref05_Keys_tri x_k.a0 x_k.a1 y4 e3) tr) tr) (a_ (a_ tr tr) (a_ (a_ tr (a_ (leB c5) tr)) (a_ (a_ tr tr) (a_ (a_ (a_ tr (le_ 4 4 rfl)) tr) (a_ (a_ tr tr) (a_ (a_ (a_ tr (le_ 4 4 rfl)) tr) (a_ (a_ (a_ (ids_Txs_tri a.f_Tx b.f_Tx y7 e6) tr) tr) (a_ (a_ tr tr) (a_ (a_ (a_ tr (le_ 4 4 rfl)) tr) (a_ (a_ tr tr) (a_ (a_ (a_ tr (le_ 4 4 rfl)) tr) (a_ (a_ (a_ (parrelref05_Txs_tri a.f_Tx b.f_Tx y9 e8) tr) tr) (a_ (a_ tr tr) (a_ (a_ tr tr) (a_ (a_ tr (a_ (leB c10) tr)) (a_ (a_ (a_ tr (le_ 4 4 rfl)) tr) (a_ (a_ (a_ tr (le_ 4 4 rfl)) tr) (a_ (a_ (a_ (ids_Stamps_tri a b y12 e11) tr) tr) (a_ (a_ (a_ tr (le_ 4 4 rfl)) tr) (a_ (a_ (a_ tr (le_ 4 4 rfl)) tr) (a_ (a_ (a_ (parrelref05_Stamps_tri a b y14 e13) tr) tr) (a_ (a_ tr tr) (a_ (a_ tr tr) (a_ (a_ tr (a_ (leB c15) tr)) (a_ tr (a_ (a_ tr tr) (a_ (a_ tr tr) tr))))))))))))))))))))))))))))))))))))) tr)) tr) (by kernel_rfl) rfl
    · skip
      obtain rfl := Option.some.inj h
      exact run_ret mixed (L := []) (n := 15) (s := [.reg [], .reg [(4, { call := some (ids_Keys_v y2, [], []) }), (9, { call := some (parrelref05_Keys_v y4, [], []) }), (11, { v := some (.bool true) }), (16, { call := some (ids_Txs_v y7, [], []) }), (21, { call := some (parrelref05_Txs_v y9, [], []) }), (24, { v := some (.bool false) })]])
        (a_ (a_ (a_ (a_ tr tr) (a_ (a_ tr tr) (a_ (a_ tr tr) (a_ (a_ tr tr) tr)))) (a_ (a_ (a_ (a_ (lei_ 0 0 rfl) (lti_ 0 2 rfl)) tr) (a_ (a_ (a_ tr (le_ 8 16 rfl)) tr) (a_ (a_ (a_ (lei_ 0 1 rfl) (lti_ 1 2 rfl)) tr) (a_ (a_ (a_ tr (le_ 16 16 rfl)) tr) (a_ (a_ (a_ (ids_Keys_tri x_k.a0 x_k.a1 y2 e1) tr) tr) (a_ (a_ (a_ (lei_ 0 0 rfl) (lti_ 0 2 rfl)) tr) (a_ (a_ (a_ tr (le_ 8 16 rfl)) tr) (a_ (a_ (a_ (lei_ 0 1 rfl) (lti_ 1 2 rfl)) tr) (a_ (a_ (a_ tr (le_ 16 16 rfl)) tr) (a_ (a_ (a_ (parrelref05_Keys_tri x_k.a0 x_k.a1 y4 e3) tr) tr) (a_ (a_ tr tr) (a_ (a_ tr (a_ (leB c5) tr)) (a_ (a_ tr tr) (a_ (a_ (a_ tr (le_ 4 4 rfl)) tr) (a_ (a_ tr tr) (a_ (a_ (a_ tr (le_ 4 4 rfl)) tr) (a_ (a_ (a_ (ids_Txs_tri a.f_Tx b.f_Tx y7 e6) tr) tr) (a_ (a_ tr tr) (a_ (a_ (a_ tr (le_ 4 4 rfl)) tr) (a_ (a_ tr tr) (a_ (a_ (a_ tr (le_ 4 4 rfl)) tr) (a_ (a_ (a_ (parrelref05_Txs_tri a.f_Tx b.f_Tx y9 e8) tr) tr) (a_ (a_ tr tr) (a_ (a_ tr tr) (a_ (a_ tr (a_ (leB c10) tr)) (a_ tr (a_ tr (a_ tr (a_ tr (a_ tr (a_ tr (a_ tr (a_ (a_ tr tr) (a_ (a_ tr tr) (a_ tr (a_ (a_ tr tr) (a_ (a_ tr tr) tr))))))))))))))))))))))))))))))))))))) tr)) tr) (by kernel_rfl) rfl
  · skip
    obtain rfl := Option.some.inj h
    exact run_ret mixed (L := []) (n := 15) (s := [.reg [], .reg [(4, { call := some (ids_Keys_v y2, [], []) }), (9, { call := some (parrelref05_Keys_v y4, [], []) }), (11, { v := some (.bool false) })]])
      (a_ (a_ (a_ (a_ tr tr) (a_ (a_ tr tr) (a_ (a_ tr tr) (a_ (a_ tr tr) tr)))) (a_ (a_ (a_ (a_ (lei_ 0 0 rfl) (lti_ 0 2 rfl)) tr) (a_ (a_ (a_ tr (le_ 8 16 rfl)) tr) (a_ (a_ (a_ (lei_ 0 1 rfl) (lti_ 1 2 rfl)) tr) (a_ (a_ (a_ tr (le_ 16 16 rfl)) tr) (a_ (a_ (a_ (ids_Keys_tri x_k.a0 x_k.a1 y2 e1) tr) tr) (a_ (a_ (a_ (lei_ 0 0 rfl) (lti_ 0 2 rfl)) tr) (a_ (a_ (a_ tr (le_ 8 16 rfl)) tr) (a_ (a_ (a_ (lei_ 0 1 rfl) (lti_ 1 2 rfl)) tr) (a_ (a_ (a_ tr (le_ 16 16 rfl)) tr) (a_ (a_ (a_ (parrelref05_Keys_tri x_k.a0 x_k.a1 y4 e3) tr) tr) (a_ (a_ tr tr) (a_ (a_ tr (a_ (leB c5) tr)) (a_ tr (a_ tr (a_ tr (a_ tr (a_ tr (a_ tr (a_ tr (a_ tr (a_ tr (a_ tr (a_ tr (a_ (a_ tr tr) (a_ (a_ tr tr) (a_ tr (a_ tr (a_ tr (a_ tr (a_ tr (a_ tr (a_ tr (a_ (a_ tr tr) (a_ (a_ tr tr) (a_ tr (a_ (a_ tr tr) (a_ (a_ tr tr) tr))))))))))))))))))))))))))))))))))))) tr)) tr) (by kernel_rfl) rfl

theorem parrellaw05_IdsOrder_tri (a : T_api_Stamp) (b : T_api_Stamp) (x_k : A2 (A8 (Int))) (r : (Bool)) (h : parrellaw05_IdsOrder a b x_k = some r) : FnTri Try.prog 4 [v_T_api_Stamp a, v_T_api_Stamp b, .agg [.int .u8 x_k.a0.a0, .int .u8 x_k.a0.a1, .int .u8 x_k.a0.a2, .int .u8 x_k.a0.a3, .int .u8 x_k.a0.a4, .int .u8 x_k.a0.a5, .int .u8 x_k.a0.a6, .int .u8 x_k.a0.a7, .int .u8 x_k.a1.a0, .int .u8 x_k.a1.a1, .int .u8 x_k.a1.a2, .int .u8 x_k.a1.a3, .int .u8 x_k.a1.a4, .int .u8 x_k.a1.a5, .int .u8 x_k.a1.a6, .int .u8 x_k.a1.a7]] [] (parrellaw05_IdsOrder_v r) [] := FnTri.none (parrellaw05_IdsOrder_ok a b x_k r h) rfl rfl

/-- parrel/parrellaw05.IdsOrders$1 -/

def parrellaw05_IdsOrders_L1_v (r : (Bool)) : LV := .bool r

def parrellaw05_IdsOrders_L1 (x : Int) (y : Int) (z : Int) (back : Int) (same : Bool) : Option ((Bool)) :=
  if ((x == (IntKind.wrap .i64 (0 - back))) : Bool) then
    if (((x == 0) == same) : Bool) then
      if ((decide (0 < x)) : Bool) then
        if ((decide (x < 0)) : Bool) then
          some true
        else
          if ((decide (y < 0)) : Bool) then
            some true
          else
            some (decide (0 ≤ z))
      else
        if ((decide (0 < y)) : Bool) then
          if ((decide (x < 0)) : Bool) then
            some true
          else
            if ((decide (y < 0)) : Bool) then
              some true
            else
              some (decide (0 ≤ z))
        else
          if ((decide (z ≤ 0)) : Bool) then
            if ((decide (x < 0)) : Bool) then
              some true
            else
              if ((decide (y < 0)) : Bool) then
                some true
              else
                some (decide (0 ≤ z))
          else
            some false
    else
      some false
  else
    some false

theorem parrellaw05_IdsOrders_L1_ok (x : Int) (y : Int) (z : Int) (back : Int) (same : Bool) (r : (Bool)) (h : parrellaw05_IdsOrders_L1 x y z back same = some r) : ∀ σ, Inj 0 σ → FnTri Try.prog 21 (renL σ [.int .i64 x, .int .i64 y, .int .i64 z, .int .i64 back, .bool same]) (preOf σ 0 []) ((parrellaw05_IdsOrders_L1_v r).ren σ) (upOf σ []) := by
  refine fn_of Try.func21 (by kernel_rfl) (by kernel_rfl) (by kernel_rfl) trivial (by kernel_rfl) trivial (by kernel_rfl) ?_
  intro w0 W μ0 hμ
  unfold parrellaw05_IdsOrders_L1 at h
  rcases itb_some h with ⟨c1, h⟩ | ⟨c1, h⟩
  · skip
    rcases itb_some h with ⟨c2, h⟩ | ⟨c2, h⟩
    · skip
      rcases itb_some h with ⟨c3, h⟩ | ⟨c3, h⟩
      · skip
        rcases itb_some h with ⟨c4, h⟩ | ⟨c4, h⟩
        · skip
          obtain rfl := Option.some.inj h
          exact run_ret mixed (L := []) (n := 15) (s := [.reg [], .reg [(4, { v := some (.bool true) }), (10, { v := some (.bool true) }), (13, { v := some (.bool true) }), (25, { v := some (.bool true) })]])
            (a_ (a_ (a_ (a_ tr tr) tr) (a_ (a_ (a_ tr tr) (a_ (a_ tr tr) (a_ (a_ tr tr) (a_ (a_ tr tr) (a_ (a_ tr (a_ (leB c1) tr)) (a_ (a_ tr tr) (a_ (a_ tr tr) (a_ (a_ tr tr) (a_ (a_ tr tr) (a_ (a_ tr tr) (a_ (a_ tr (a_ (leB c2) tr)) (a_ (a_ tr tr) (a_ (a_ tr tr) (a_ (a_ tr (a_ (leB c3) tr)) (a_ tr (a_ tr (a_ (a_ tr tr) (a_ (a_ tr tr) (a_ tr (a_ tr (a_ (a_ tr tr) (a_ (a_ tr tr) (a_ (a_ tr tr) (a_ (a_ tr tr) (a_ (a_ tr tr) (a_ (a_ tr (a_ (leB c4) tr)) (a_ tr (a_ tr (a_ (a_ tr tr) (a_ (a_ tr tr) (a_ tr (a_ tr (a_ (a_ tr tr) (a_ (a_ tr tr) (a_ (a_ tr tr) tr))))))))))))))))))))))))))))))))))) tr)) tr) (by kernel_rfl) rfl
        · skip
          rcases itb_some h with ⟨c5, h⟩ | ⟨c5, h⟩
          · skip
            obtain rfl := Option.some.inj h
            exact run_ret mixed (L := []) (n := 15) (s := [.reg [], .reg [(4, { v := some (.bool true) }), (10, { v := some (.bool true) }), (13, { v := some (.bool true) }), (25, { v := some (.bool false) }), (29, { v := some (.bool true) })]])
              (a_ (a_ (a_ (a_ tr tr) tr) (a_ (a_ (a_ tr tr) (a_ (a_ tr tr) (a_ (a_ tr tr) (a_ (a_ tr tr) (a_ (a_ tr (a_ (leB c1) tr)) (a_ (a_ tr tr) (a_ (a_ tr tr) (a_ (a_ tr tr) (a_ (a_ tr tr) (a_ (a_ tr tr) (a_ (a_ tr (a_ (leB c2) tr)) (a_ (a_ tr tr) (a_ (a_ tr tr) (a_ (a_ tr (a_ (leB c3) tr)) (a_ tr (a_ tr (a_ (a_ tr tr) (a_ (a_ tr tr) (a_ tr (a_ tr (a_ (a_ tr tr) (a_ (a_ tr tr) (a_ (a_ tr tr) (a_ (a_ tr tr) (a_ (a_ tr tr) (a_ (a_ tr (a_ (leB c4) tr)) (a_ (a_ tr tr) (a_ (a_ tr tr) (a_ (a_ tr tr) (a_ (a_ tr (a_ (leB c5) tr)) (a_ tr (a_ tr (a_ (a_ tr tr) (a_ (a_ tr tr) (a_ (a_ tr tr) tr))))))))))))))))))))))))))))))))))) tr)) tr) (by kernel_rfl) rfl
          · skip
            obtain rfl := Option.some.inj h
            exact run_ret mixed (L := []) (n := 15) (s := [.reg [], .reg [(4, { v := some (.bool true) }), (10, { v := some (.bool true) }), (13, { v := some (.bool true) }), (25, { v := some (.bool false) }), (29, { v := some (.bool false) })]])
              (a_ (a_ (a_ (a_ tr tr) tr) (a_ (a_ (a_ tr tr) (a_ (a_ tr tr) (a_ (a_ tr tr) (a_ (a_ tr tr) (a_ (a_ tr (a_ (leB c1) tr)) (a_ (a_ tr tr) (a_ (a_ tr tr) (a_ (a_ tr tr) (a_ (a_ tr tr) (a_ (a_ tr tr) (a_ (a_ tr (a_ (leB c2) tr)) (a_ (a_ tr tr) (a_ (a_ tr tr) (a_ (a_ tr (a_ (leB c3) tr)) (a_ tr (a_ tr (a_ (a_ tr tr) (a_ (a_ tr tr) (a_ tr (a_ tr (a_ (a_ tr tr) (a_ (a_ tr tr) (a_ (a_ tr tr) (a_ (a_ tr tr) (a_ (a_ tr tr) (a_ (a_ tr (a_ (leB c4) tr)) (a_ (a_ tr tr) (a_ (a_ tr tr) (a_ (a_ tr tr) (a_ (a_ tr (a_ (leB c5) tr)) (a_ (a_ tr tr) (a_ (a_ tr tr) (a_ (a_ tr tr) (a_ (a_ tr tr) (a_ (a_ tr tr) tr))))))))))))))))))))))))))))))))))) tr)) tr) (by kernel_rfl) rfl
      · skip
        rcases itb_some h with ⟨c4, h⟩ | ⟨c4, h⟩
        · skip
          rcases itb_some h with ⟨c5, h⟩ | ⟨c5, h⟩
          · skip
            obtain rfl := Option.some.inj h
            exact run_ret mixed (L := []) (n := 15) (s := [.reg [], .reg [(4, { v := some (.bool true) }), (10, { v := some (.bool true) }), (13, { v := some (.bool false) }), (17, { v := some (.bool true) }), (25, { v := some (.bool true) })]])
              (a_ (a_ (a_ (a_ tr tr) tr) (a_ (a_ (a_ tr tr) (a_ (a_ tr tr) (a_ (a_ tr tr) (a_ (a_ tr tr) (a_ (a_ tr (a_ (leB c1) tr)) (a_ (a_ tr tr) (a_ (a_ tr tr) (a_ (a_ tr tr) (a_ (a_ tr tr) (a_ (a_ tr tr) (a_ (a_ tr (a_ (leB c2) tr)) (a_ (a_ tr tr) (a_ (a_ tr tr) (a_ (a_ tr (a_ (leB c3) tr)) (a_ (a_ tr tr) (a_ (a_ tr tr) (a_ (a_ tr tr) (a_ (a_ tr (a_ (leB c4) tr)) (a_ tr (a_ tr (a_ (a_ tr tr) (a_ (a_ tr tr) (a_ (a_ tr tr) (a_ (a_ tr tr) (a_ (a_ tr tr) (a_ (a_ tr (a_ (leB c5) tr)) (a_ tr (a_ tr (a_ (a_ tr tr) (a_ (a_ tr tr) (a_ tr (a_ tr (a_ (a_ tr tr) (a_ (a_ tr tr) (a_ (a_ tr tr) tr))))))))))))))))))))))))))))))))))) tr)) tr) (by kernel_rfl) rfl
          · skip
            rcases itb_some h with ⟨c6, h⟩ | ⟨c6, h⟩
            · skip
              obtain rfl := Option.some.inj h
              exact run_ret mixed (L := []) (n := 15) (s := [.reg [], .reg [(4, { v := some (.bool true) }), (10, { v := some (.bool true) }), (13, { v := some (.bool false) }), (17, { v := some (.bool true) }), (25, { v := some (.bool false) }), (29, { v := some (.bool true) })]])
                (a_ (a_ (a_ (a_ tr tr) tr) (a_ (a_ (a_ tr tr) (a_ (a_ tr tr) (a_ (a_ tr tr) (a_ (a_ tr tr) (a_ (a_ tr (a_ (leB c1) tr)) (a_ (a_ tr tr) (a_ (a_ tr tr) (a_ (a_ tr tr) (a_ (a_ tr tr) (a_ (a_ tr tr) (a_ (a_ tr (a_ (leB c2) tr)) (a_ (a_ tr tr) (a_ (a_ tr tr) (a_ (a_ tr (a_ (leB c3) tr)) (a_ (a_ tr tr) (a_ (a_ tr tr) (a_ (a_ tr tr) (a_ (a_ tr (a_ (leB c4) tr)) (a_ tr (a_ tr (a_ (a_ tr tr) (a_ (a_ tr tr) (a_ (a_ tr tr) (a_ (a_ tr tr) (a_ (a_ tr tr) (a_ (a_ tr (a_ (leB c5) tr)) (a_ (a_ tr tr) (a_ (a_ tr tr) (a_ (a_ tr tr) (a_ (a_ tr (a_ (leB c6) tr)) (a_ tr (a_ tr (a_ (a_ tr tr) (a_ (a_ tr tr) (a_ (a_ tr tr) tr))))))))))))))))))))))))))))))))))) tr)) tr) (by kernel_rfl) rfl
            · skip
              obtain rfl := Option.some.inj h
              exact run_ret mixed (L := []) (n := 15) (s := [.reg [], .reg [(4, { v := some (.bool true) }), (10, { v := some (.bool true) }), (13, { v := some (.bool false) }), (17, { v := some (.bool true) }), (25, { v := some (.bool false) }), (29, { v := some (.bool false) })]])
                (a_ (a_ (a_ (a_ tr tr) tr) (a_ (a_ (a_ tr tr) (a_ (a_ tr tr) (a_ (a_ tr tr) (a_ (a_ tr tr) (a_ (a_ tr (a_ (leB c1) tr)) (a_ (a_ tr tr) (a_ (a_ tr tr) (a_ (a_ tr tr) (a_ (a_ tr tr) (a_ (a_ tr tr) (a_ (a_ tr (a_ (leB c2) tr)) (a_ (a_ tr tr) (a_ (a_ tr tr) (a_ (a_ tr (a_ (leB c3) tr)) (a_ (a_ tr tr) (a_ (a_ tr tr) (a_ (a_ tr tr) (a_ (a_ tr (a_ (leB c4) tr)) (a_ tr (a_ tr (a_ (a_ tr tr) (a_ (a_ tr tr) (a_ (a_ tr tr) (a_ (a_ tr tr) (a_ (a_ tr tr) (a_ (a_ tr (a_ (leB c5) tr)) (a_ (a_ tr tr) (a_ (a_ tr tr) (a_ (a_ tr tr) (a_ (a_ tr (a_ (leB c6) tr)) (a_ (a_ tr tr) (a_ (a_ tr tr) (a_ (a_ tr tr) (a_ (a_ tr tr) (a_ (a_ tr tr) tr))))))))))))))))))))))))))))))))))) tr)) tr) (by kernel_rfl) rfl
        · skip
          rcases itb_some h with ⟨c5, h⟩ | ⟨c5, h⟩
          · skip
            rcases itb_some h with ⟨c6, h⟩ | ⟨c6, h⟩
            · skip
              obtain rfl := Option.some.inj h
              exact run_ret mixed (L := []) (n := 15) (s := [.reg [], .reg [(4, { v := some (.bool true) }), (10, { v := some (.bool true) }), (13, { v := some (.bool false) }), (17, { v := some (.bool false) }), (22, { v := some (.bool true) }), (25, { v := some (.bool true) })]])
                (a_ (a_ (a_ (a_ tr tr) tr) (a_ (a_ (a_ tr tr) (a_ (a_ tr tr) (a_ (a_ tr tr) (a_ (a_ tr tr) (a_ (a_ tr (a_ (leB c1) tr)) (a_ (a_ tr tr) (a_ (a_ tr tr) (a_ (a_ tr tr) (a_ (a_ tr tr) (a_ (a_ tr tr) (a_ (a_ tr (a_ (leB c2) tr)) (a_ (a_ tr tr) (a_ (a_ tr tr) (a_ (a_ tr (a_ (leB c3) tr)) (a_ (a_ tr tr) (a_ (a_ tr tr) (a_ (a_ tr tr) (a_ (a_ tr (a_ (leB c4) tr)) (a_ (a_ tr tr) (a_ (a_ tr tr) (a_ (a_ tr tr) (a_ (a_ tr tr) (a_ (a_ tr (a_ (leB c5) tr)) (a_ (a_ tr tr) (a_ (a_ tr tr) (a_ (a_ tr (a_ (leB c6) tr)) (a_ tr (a_ tr (a_ (a_ tr tr) (a_ (a_ tr tr) (a_ tr (a_ tr (a_ (a_ tr tr) (a_ (a_ tr tr) (a_ (a_ tr tr) tr))))))))))))))))))))))))))))))))))) tr)) tr) (by kernel_rfl) rfl
            · skip
              rcases itb_some h with ⟨c7, h⟩ | ⟨c7, h⟩
              · skip
                obtain rfl := Option.some.inj h
                exact run_ret mixed (L := []) (n := 15) (s := [.reg [], .reg [(4, { v := some (.bool true) }), (10, { v := some (.bool true) }), (13, { v := some (.bool false) }), (17, { v := some (.bool false) }), (22, { v := some (.bool true) }), (25, { v := some (.bool false) }), (29, { v := some (.bool true) })]])
                  (a_ (a_ (a_ (a_ tr tr) tr) (a_ (a_ (a_ tr tr) (a_ (a_ tr tr) (a_ (a_ tr tr) (a_ (a_ tr tr) (a_ (a_ tr (a_ (leB c1) tr)) (a_ (a_ tr tr) (a_ (a_ tr tr) (a_ (a_ tr tr) (a_ (a_ tr tr) (a_ (a_ tr tr) (a_ (a_ tr (a_ (leB c2) tr)) (a_ (a_ tr tr) (a_ (a_ tr tr) (a_ (a_ tr (a_ (leB c3) tr)) (a_ (a_ tr tr) (a_ (a_ tr tr) (a_ (a_ tr tr) (a_ (a_ tr (a_ (leB c4) tr)) (a_ (a_ tr tr) (a_ (a_ tr tr) (a_ (a_ tr tr) (a_ (a_ tr tr) (a_ (a_ tr (a_ (leB c5) tr)) (a_ (a_ tr tr) (a_ (a_ tr tr) (a_ (a_ tr (a_ (leB c6) tr)) (a_ (a_ tr tr) (a_ (a_ tr tr) (a_ (a_ tr tr) (a_ (a_ tr (a_ (leB c7) tr)) (a_ tr (a_ tr (a_ (a_ tr tr) (a_ (a_ tr tr) (a_ (a_ tr tr) tr))))))))))))))))))))))))))))))))))) tr)) tr) (by kernel_rfl) rfl
              · skip
                obtain rfl := Option.some.inj h
                exact run_ret mixed (L := []) (n := 15) (s := [.reg [], .reg [(4, { v := some (.bool true) }), (10, { v := some (.bool true) }), (13, { v := some (.bool false) }), (17, { v := some (.bool false) }), (22, { v := some (.bool true) }), (25, { v := some (.bool false) }), (29, { v := some (.bool false) })]])
                  (a_ (a_ (a_ (a_ tr tr) tr) (a_ (a_ (a_ tr tr) (a_ (a_ tr tr) (a_ (a_ tr tr) (a_ (a_ tr tr) (a_ (a_ tr (a_ (leB c1) tr)) (a_ (a_ tr tr) (a_ (a_ tr tr) (a_ (a_ tr tr) (a_ (a_ tr tr) (a_ (a_ tr tr) (a_ (a_ tr (a_ (leB c2) tr)) (a_ (a_ tr tr) (a_ (a_ tr tr) (a_ (a_ tr (a_ (leB c3) tr)) (a_ (a_ tr tr) (a_ (a_ tr tr) (a_ (a_ tr tr) (a_ (a_ tr (a_ (leB c4) tr)) (a_ (a_ tr tr) (a_ (a_ tr tr) (a_ (a_ tr tr) (a_ (a_ tr tr) (a_ (a_ tr (a_ (leB c5) tr)) (a_ (a_ tr tr) (a_ (a_ tr tr) (a_ (a_ tr (a_ (leB c6) tr)) (a_ (a_ tr tr) (a_ (a_ tr tr) (a_ (a_ tr tr) (a_ (a_ tr (a_ (leB c7) tr)) (a_ (a_ tr tr) (a_ (a_ tr tr) (a_ (a_ tr tr) (a_ (a_ tr tr) (a_ (a_ tr tr) tr))))))))))))))))))))))))))))))))))) tr)) tr) (by kernel_rfl) rfl
          · skip
            obtain rfl := Option.some.inj h
            exact run_ret mixed (L := []) (n := 15) (s := [.reg [], .reg [(4, { v := some (.bool true) }), (10, { v := some (.bool true) }), (13, { v := some (.bool false) }), (17, { v := some (.bool false) }), (22, { v := some (.bool false) })]])
              (a_ (a_ (a_ (a_ tr tr) tr) (a_ (a_ (a_ tr tr) (a_ (a_ tr tr) (a_ (a_ tr tr) (a_ (a_ tr tr) (a_ (a_ tr (a_ (leB c1) tr)) (a_ (a_ tr tr) (a_ (a_ tr tr) (a_ (a_ tr tr) (a_ (a_ tr tr) (a_ (a_ tr tr) (a_ (a_ tr (a_ (leB c2) tr)) (a_ (a_ tr tr) (a_ (a_ tr tr) (a_ (a_ tr (a_ (leB c3) tr)) (a_ (a_ tr tr) (a_ (a_ tr tr) (a_ (a_ tr tr) (a_ (a_ tr (a_ (leB c4) tr)) (a_ (a_ tr tr) (a_ (a_ tr tr) (a_ (a_ tr tr) (a_ (a_ tr tr) (a_ (a_ tr (a_ (leB c5) tr)) (a_ tr (a_ tr (a_ tr (a_ tr (a_ tr (a_ tr (a_ tr (a_ tr (a_ tr (a_ tr (a_ (a_ tr tr) (a_ (a_ tr tr) tr))))))))))))))))))))))))))))))))))) tr)) tr) (by kernel_rfl) rfl
    · skip
      obtain rfl := Option.some.inj h
      exact run_ret mixed (L := []) (n := 15) (s := [.reg [], .reg [(4, { v := some (.bool true) }), (10, { v := some (.bool false) })]])
        (a_ (a_ (a_ (a_ tr tr) tr) (a_ (a_ (a_ tr tr) (a_ (a_ tr tr) (a_ (a_ tr tr) (a_ (a_ tr tr) (a_ (a_ tr (a_ (leB c1) tr)) (a_ (a_ tr tr) (a_ (a_ tr tr) (a_ (a_ tr tr) (a_ (a_ tr tr) (a_ (a_ tr tr) (a_ (a_ tr (a_ (leB c2) tr)) (a_ tr (a_ tr (a_ tr (a_ tr (a_ tr (a_ tr (a_ tr (a_ tr (a_ tr (a_ tr (a_ (a_ tr tr) (a_ (a_ tr tr) (a_ tr (a_ tr (a_ tr (a_ tr (a_ tr (a_ tr (a_ tr (a_ tr (a_ tr (a_ tr (a_ (a_ tr tr) (a_ (a_ tr tr) tr))))))))))))))))))))))))))))))))))) tr)) tr) (by kernel_rfl) rfl
  · skip
    obtain rfl := Option.some.inj h
    exact run_ret mixed (L := []) (n := 15) (s := [.reg [], .reg [(4, { v := some (.bool false) })]])
      (a_ (a_ (a_ (a_ tr tr) tr) (a_ (a_ (a_ tr tr) (a_ (a_ tr tr) (a_ (a_ tr tr) (a_ (a_ tr tr) (a_ (a_ tr (a_ (leB c1) tr)) (a_ tr (a_ tr (a_ tr (a_ tr (a_ (a_ tr tr) (a_ (a_ tr tr) (a_ tr (a_ tr (a_ tr (a_ tr (a_ tr (a_ tr (a_ tr (a_ tr (a_ tr (a_ tr (a_ (a_ tr tr) (a_ (a_ tr tr) (a_ tr (a_ tr (a_ tr (a_ tr (a_ tr (a_ tr (a_ tr (a_ tr (a_ tr (a_ tr (a_ (a_ tr tr) (a_ (a_ tr tr) tr))))))))))))))))))))))))))))))))))) tr)) tr) (by kernel_rfl) rfl

theorem parrellaw05_IdsOrders_L1_tri (x : Int) (y : Int) (z : Int) (back : Int) (same : Bool) (r : (Bool)) (h : parrellaw05_IdsOrders_L1 x y z back same = some r) : FnTri Try.prog 21 [.int .i64 x, .int .i64 y, .int .i64 z, .int .i64 back, .bool same] [] (parrellaw05_IdsOrders_L1_v r) [] := FnTri.none (parrellaw05_IdsOrders_L1_ok x y z back same r h) rfl rfl

/-- parrel/parrellaw05.IdsOrders$2 -/

def parrellaw05_IdsOrders_L2_v (r : (A8 (Int))) : LV := .agg [.int .u8 r.a0, .int .u8 r.a1, .int .u8 r.a2, .int .u8 r.a3, .int .u8 r.a4, .int .u8 r.a5, .int .u8 r.a6, .int .u8 r.a7]

def parrellaw05_IdsOrders_L2 (s : T_api_Stamp) : Option ((A8 (Int))) :=
  some (A8.mk (IntKind.wrap .u8 s.f_Time) s.f_Tx.f_Node (IntKind.wrap .u8 s.f_Tx.f_Boot) 0 0 0 0 0)

theorem parrellaw05_IdsOrders_L2_ok (s : T_api_Stamp) (r : (A8 (Int))) (h : parrellaw05_IdsOrders_L2 s = some r) : ∀ σ, Inj 0 σ → FnTri Try.prog 22 (renL σ [v_T_api_Stamp s]) (preOf σ 0 []) ((parrellaw05_IdsOrders_L2_v r).ren σ) (upOf σ []) := by
  refine fn_of Try.func22 (by kernel_rfl) (by kernel_rfl) (by kernel_rfl) trivial (by kernel_rfl) trivial (by kernel_rfl) ?_
  intro w0 W μ0 hμ
  unfold parrellaw05_IdsOrders_L2 at h
  obtain rfl := Option.some.inj h
  exact run_ret mixed (L := []) (n := 15) (s := [.reg [], .reg []])
    (a_ (a_ (a_ (a_ tr tr) (a_ (a_ tr tr) tr)) (a_ (a_ (a_ tr tr) (a_ (a_ (a_ tr (lt_ 0 4 rfl)) tr) (a_ (a_ tr tr) (a_ (a_ tr tr) (a_ (a_ tr tr) (a_ (a_ (a_ tr (lt_ 1 4 rfl)) tr) (a_ (a_ tr tr) (a_ (a_ tr tr) (a_ (a_ (a_ tr (lt_ 2 4 rfl)) tr) (a_ (a_ tr tr) (a_ (a_ (Eq.refl true) tr) (a_ (a_ (a_ (Eq.refl 8) (a_ (le_ 8 8 rfl) (Eq.refl 0))) tr) tr)))))))))))) tr)) (a_ (a_ tr (le_ 8 8 rfl)) tr)) (by kernel_rfl) rfl

theorem parrellaw05_IdsOrders_L2_tri (s : T_api_Stamp) (r : (A8 (Int))) (h : parrellaw05_IdsOrders_L2 s = some r) : FnTri Try.prog 22 [v_T_api_Stamp s] [] (parrellaw05_IdsOrders_L2_v r) [] := FnTri.none (parrellaw05_IdsOrders_L2_ok s r h) rfl rfl

/-- parrel/parrellaw05.IdsOrders -/

def parrellaw05_IdsOrders_v (r : (Bool)) : LV := .bool r

def parrellaw05_IdsOrders (a : T_api_Stamp) (b : T_api_Stamp) (c : T_api_Stamp) : Option ((Bool)) :=
  (ids_Stamps a b).bind fun y2 =>
  (ids_Stamps b c).bind fun y4 =>
  (ids_Stamps a c).bind fun y6 =>
  (ids_Stamps b a).bind fun y8 =>
  (parrellaw05_IdsOrders_L1 y2 y4 y6 y8 (decide (a = b))).bind fun y10 =>
  if (y10 : Bool) then
    (ids_Txs a.f_Tx b.f_Tx).bind fun y13 =>
    (ids_Txs b.f_Tx c.f_Tx).bind fun y15 =>
    (ids_Txs a.f_Tx c.f_Tx).bind fun y17 =>
    (ids_Txs b.f_Tx a.f_Tx).bind fun y19 =>
    (parrellaw05_IdsOrders_L1 y13 y15 y17 y19 (decide (a.f_Tx = b.f_Tx))).bind fun y21 =>
    if (y21 : Bool) then
      (parrellaw05_IdsOrders_L2 a).bind fun y24 =>
      (parrellaw05_IdsOrders_L2 b).bind fun y26 =>
      (ids_Keys y24 y26).bind fun y28 =>
      (parrellaw05_IdsOrders_L2 b).bind fun y30 =>
      (parrellaw05_IdsOrders_L2 c).bind fun y32 =>
      (ids_Keys y30 y32).bind fun y34 =>
      (parrellaw05_IdsOrders_L2 a).bind fun y36 =>
      (parrellaw05_IdsOrders_L2 c).bind fun y38 =>
      (ids_Keys y36 y38).bind fun y40 =>
      (parrellaw05_IdsOrders_L2 b).bind fun y42 =>
      (parrellaw05_IdsOrders_L2 a).bind fun y44 =>
      (ids_Keys y42 y44).bind fun y46 =>
      (parrellaw05_IdsOrders_L2 a).bind fun y48 =>
      (parrellaw05_IdsOrders_L2 b).bind fun y50 =>
      (parrellaw05_IdsOrders_L1 y28 y34 y40 y46 (decide (y48 = y50))).bind fun y52 =>
      if (y52 : Bool) then
        (parrellaw05_alive).bind fun y55 =>
        some y55
      else
        some false
    else
      some false
  else
    some false

theorem parrellaw05_IdsOrders_ok (a : T_api_Stamp) (b : T_api_Stamp) (c : T_api_Stamp) (r : (Bool)) (h : parrellaw05_IdsOrders a b c = some r) : ∀ σ, Inj 0 σ → FnTri Try.prog 5 (renL σ [v_T_api_Stamp a, v_T_api_Stamp b, v_T_api_Stamp c]) (preOf σ 0 []) ((parrellaw05_IdsOrders_v r).ren σ) (upOf σ []) := by
  refine fn_of Try.func5 (by kernel_rfl) (by kernel_rfl) (by kernel_rfl) trivial (by kernel_rfl) trivial (by kernel_rfl) ?_
  intro w0 W μ0 hμ
  unfold parrellaw05_IdsOrders at h
  obtain ⟨y2, e1, h⟩ := bind_some h
  obtain ⟨y4, e3, h⟩ := bind_some h
  obtain ⟨y6, e5, h⟩ := bind_some h
  obtain ⟨y8, e7, h⟩ := bind_some h
  obtain ⟨y10, e9, h⟩ := bind_some h
  rcases itb_some h with ⟨c11, h⟩ | ⟨c11, h⟩
  · skip
    obtain ⟨y13, e12, h⟩ := bind_some h
    obtain ⟨y15, e14, h⟩ := bind_some h
    obtain ⟨y17, e16, h⟩ := bind_some h
    obtain ⟨y19, e18, h⟩ := bind_some h
    obtain ⟨y21, e20, h⟩ := bind_some h
    rcases itb_some h with ⟨c22, h⟩ | ⟨c22, h⟩
    · skip
      obtain ⟨y24, e23, h⟩ := bind_some h
      obtain ⟨y26, e25, h⟩ := bind_some h
      obtain ⟨y28, e27, h⟩ := bind_some h
      obtain ⟨y30, e29, h⟩ := bind_some h
      obtain ⟨y32, e31, h⟩ := bind_some h
      obtain ⟨y34, e33, h⟩ := bind_some h
      obtain ⟨y36, e35, h⟩ := bind_some h
      obtain ⟨y38, e37, h⟩ := bind_some h
      obtain ⟨y40, e39, h⟩ := bind_some h
      obtain ⟨y42, e41, h⟩ := bind_some h
      obtain ⟨y44, e43, h⟩ := bind_some h
      obtain ⟨y46, e45, h⟩ := bind_some h
      obtain ⟨y48, e47, h⟩ := bind_some h
      obtain ⟨y50, e49, h⟩ := bind_some h
      obtain ⟨y52, e51, h⟩ := bind_some h
      rcases itb_some h with ⟨c53, h⟩ | ⟨c53, h⟩
      · skip
        obtain ⟨y55, e54, h⟩ := bind_some h
        obtain rfl := Option.some.inj h
        exact run_ret mixed (L := []) (n := 21) (s := [.reg [], .reg [], .reg [], .reg [(3, { call := some (ids_Stamps_v y2, [], []) }), (6, { call := some (ids_Stamps_v y4, [], []) }), (9, { call := some (ids_Stamps_v y6, [], []) }), (12, { call := some (ids_Stamps_v y8, [], []) }), (15, { v := some (.bool (decide (a = b))) }), (16, { call := some (parrellaw05_IdsOrders_L1_v y10, [], []) }), (17, { v := some (.bool true) }), (23, { call := some (ids_Txs_v y13, [], []) }), (28, { call := some (ids_Txs_v y15, [], []) }), (33, { call := some (ids_Txs_v y17, [], []) }), (38, { call := some (ids_Txs_v y19, [], []) }), (43, { v := some (.bool (decide (a.f_Tx = b.f_Tx))) }), (44, { call := some (parrellaw05_IdsOrders_L1_v y21, [], []) }), (46, { v := some (.bool true) }), (50, { call := some (parrellaw05_IdsOrders_L2_v y24, [], []) }), (53, { call := some (parrellaw05_IdsOrders_L2_v y26, [], []) }), (54, { call := some (ids_Keys_v y28, [], []) }), (57, { call := some (parrellaw05_IdsOrders_L2_v y30, [], []) }), (60, { call := some (parrellaw05_IdsOrders_L2_v y32, [], []) }), (61, { call := some (ids_Keys_v y34, [], []) }), (64, { call := some (parrellaw05_IdsOrders_L2_v y36, [], []) }), (67, { call := some (parrellaw05_IdsOrders_L2_v y38, [], []) }), (68, { call := some (ids_Keys_v y40, [], []) }), (71, { call := some (parrellaw05_IdsOrders_L2_v y42, [], []) }), (74, { call := some (parrellaw05_IdsOrders_L2_v y44, [], []) }), (75, { call := some (ids_Keys_v y46, [], []) }), (78, { call := some (parrellaw05_IdsOrders_L2_v y48, [], []) }), (81, { call := some (parrellaw05_IdsOrders_L2_v y50, [], []) }), (82, { v := some (.bool (decide (y48 = y50))) }), (83, { call := some (parrellaw05_IdsOrders_L1_v y52, [], []) }), (85, { v := some (.bool true) }), (86, { call := some (parrellaw05_alive_v y55, [], []) })]])
          (a_ (a_ (a_ (a_ tr tr) (a_ (a_ tr tr) (a_ (a_ tr tr) (a_ (a_ tr tr) tr)))) (a_ (a_ (a_ tr tr) tr) (a_ (a_ (a_ tr tr) tr) (a_ (a_ (a_ tr tr) (a_ (a_ (a_ tr (le_ 4 4 rfl)) tr) (a_ (a_ (a_ tr (le_ 4 4 rfl)) tr) (a_ (a_ (a_ (ids_Stamps_tri a b y2 e1) tr) tr) (a_ (a_ (a_ tr (le_ 4 4 rfl)) tr) (a_ (a_ (a_ tr (le_ 4 4 rfl)) tr) (a_ (a_ (a_ (ids_Stamps_tri b c y4 e3) tr) tr) (a_ (a_ (a_ tr (le_ 4 4 rfl)) tr) (a_ (a_ (a_ tr (le_ 4 4 rfl)) tr) (a_ (a_ (a_ (ids_Stamps_tri a c y6 e5) tr) tr) (a_ (a_ (a_ tr (le_ 4 4 rfl)) tr) (a_ (a_ (a_ tr (le_ 4 4 rfl)) tr) (a_ (a_ (a_ (ids_Stamps_tri b a y8 e7) tr) tr) (a_ (a_ (a_ tr (le_ 4 4 rfl)) tr) (a_ (a_ (a_ tr (le_ 4 4 rfl)) tr) (a_ (a_ tr (a_ (leB (k_T_api_Stamp a b)) tr)) (a_ (a_ (a_ (parrellaw05_IdsOrders_L1_tri y2 y4 y6 y8 (decide (a = b)) y10 e9) tr) tr) (a_ (a_ tr (a_ (leB c11) tr)) (a_ (a_ tr tr) (a_ (a_ tr tr) (a_ (a_ (a_ tr (le_ 4 4 rfl)) tr) (a_ (a_ tr tr) (a_ (a_ (a_ tr (le_ 4 4 rfl)) tr) (a_ (a_ (a_ (ids_Txs_tri a.f_Tx b.f_Tx y13 e12) tr) tr) (a_ (a_ tr tr) (a_ (a_ (a_ tr (le_ 4 4 rfl)) tr) (a_ (a_ tr tr) (a_ (a_ (a_ tr (le_ 4 4 rfl)) tr) (a_ (a_ (a_ (ids_Txs_tri b.f_Tx c.f_Tx y15 e14) tr) tr) (a_ (a_ tr tr) (a_ (a_ (a_ tr (le_ 4 4 rfl)) tr) (a_ (a_ tr tr) (a_ (a_ (a_ tr (le_ 4 4 rfl)) tr) (a_ (a_ (a_ (ids_Txs_tri a.f_Tx c.f_Tx y17 e16) tr) tr) (a_ (a_ tr tr) (a_ (a_ (a_ tr (le_ 4 4 rfl)) tr) (a_ (a_ tr tr) (a_ (a_ (a_ tr (le_ 4 4 rfl)) tr) (a_ (a_ (a_ (ids_Txs_tri b.f_Tx a.f_Tx y19 e18) tr) tr) (a_ (a_ tr tr) (a_ (a_ (a_ tr (le_ 4 4 rfl)) tr) (a_ (a_ tr tr) (a_ (a_ (a_ tr (le_ 4 4 rfl)) tr) (a_ (a_ tr (a_ (leB (k_T_api_Tx a.f_Tx b.f_Tx)) tr)) (a_ (a_ (a_ (parrellaw05_IdsOrders_L1_tri y13 y15 y17 y19 (decide (a.f_Tx = b.f_Tx)) y21 e20) tr) tr) (a_ (a_ tr tr) (a_ (a_ tr (a_ (leB c22) tr)) (a_ (a_ tr tr) (a_ (a_ tr tr) (a_ (a_ (a_ tr (le_ 4 4 rfl)) tr) (a_ (a_ (a_ (parrellaw05_IdsOrders_L2_tri a y24 e23) tr) tr) (a_ (a_ tr tr) (a_ (a_ (a_ tr (le_ 4 4 rfl)) tr) (a_ (a_ (a_ (parrellaw05_IdsOrders_L2_tri b y26 e25) tr) tr) (a_ (a_ (a_ (ids_Keys_tri y24 y26 y28 e27) tr) tr) (a_ (a_ tr tr) (a_ (a_ (a_ tr (le_ 4 4 rfl)) tr) (a_ (a_ (a_ (parrellaw05_IdsOrders_L2_tri b y30 e29) tr) tr) (a_ (a_ tr tr) (a_ (a_ (a_ tr (le_ 4 4 rfl)) tr) (a_ (a_ (a_ (parrellaw05_IdsOrders_L2_tri c y32 e31) tr) tr) (a_ (a_ (a_ (ids_Keys_tri y30 y32 y34 e33) tr) tr) (a_ (a_ tr tr) (a_ (a_ (a_ tr (le_ 4 4 rfl)) tr) (a_ (a_ (a_ (parrellaw05_IdsOrders_L2_tri a y36 e35) tr) tr) (a_ (a_ tr tr) (a_ (a_ (a_ tr (le_ 4 4 rfl)) tr) (a_ (a_ (a_ (parrellaw05_IdsOrders_L2_tri c y38 e37) tr) tr) (a_ (a_ (a_ (ids_Keys_tri y36 y38 y40 e39) tr) tr) (a_ (a_ tr tr) (a_ (a_ (a_ tr (le_ 4 4 rfl)) tr) (a_ (a_ (a_ (parrellaw05_IdsOrders_L2_tri b y42 e41) tr) tr) (a_ (a_ tr tr) (a_ (a_ (a_ tr (le_ 4 4 rfl)) tr) (a_ (a_ (a_ (parrellaw05_IdsOrders_L2_tri a y44 e43) tr) tr) (a_ (a_ (a_ (ids_Keys_tri y42 y44 y46 e45) tr) tr) (a_ (a_ tr tr) (a_ (a_ (a_ tr (le_ 4 4 rfl)) tr) (a_ (a_ (a_ (parrellaw05_IdsOrders_L2_tri a y48 e47) tr) tr) (a_ (a_ tr tr) (a_ (a_ (a_ tr (le_ 4 4 rfl)) tr) (a_ (a_ (a_ (parrellaw05_IdsOrders_L2_tri b y50 e49) tr) tr) (a_ (a_ tr (a_ (leB ((k_arr8 .u8) y48 y50)) tr)) (a_ (a_ (a_ (parrellaw05_IdsOrders_L1_tri y28 y34 y40 y46 (decide (y48 = y50)) y52 e51) tr) tr) (a_ (a_ tr tr) (a_ (a_ tr (a_ (leB c53) tr)) (a_ (a_ (a_ (parrellaw05_alive_tri  y55 e54) tr) tr) (a_ (a_ tr tr) (a_ (a_ tr tr) tr))))))))))))))))))))))))))))))))))))))))))))))))))))))))))))))))))))))))))))))))))))))))) tr)))) tr) (by kernel_rfl) rfl
      · skip
        obtain rfl := Option.some.inj h
        exact run_ret mixed (L := []) (n := 21) (s := [.reg [], .reg [], .reg [], .reg [(3, { call := some (ids_Stamps_v y2, [], []) }), (6, { call := some (ids_Stamps_v y4, [], []) }), (9, { call := some (ids_Stamps_v y6, [], []) }), (12, { call := some (ids_Stamps_v y8, [], []) }), (15, { v := some (.bool (decide (a = b))) }), (16, { call := some (parrellaw05_IdsOrders_L1_v y10, [], []) }), (17, { v := some (.bool true) }), (23, { call := some (ids_Txs_v y13, [], []) }), (28, { call := some (ids_Txs_v y15, [], []) }), (33, { call := some (ids_Txs_v y17, [], []) }), (38, { call := some (ids_Txs_v y19, [], []) }), (43, { v := some (.bool (decide (a.f_Tx = b.f_Tx))) }), (44, { call := some (parrellaw05_IdsOrders_L1_v y21, [], []) }), (46, { v := some (.bool true) }), (50, { call := some (parrellaw05_IdsOrders_L2_v y24, [], []) }), (53, { call := some (parrellaw05_IdsOrders_L2_v y26, [], []) }), (54, { call := some (ids_Keys_v y28, [], []) }), (57, { call := some (parrellaw05_IdsOrders_L2_v y30, [], []) }), (60, { call := some (parrellaw05_IdsOrders_L2_v y32, [], []) }), (61, { call := some (ids_Keys_v y34, [], []) }), (64, { call := some (parrellaw05_IdsOrders_L2_v y36, [], []) }), (67, { call := some (parrellaw05_IdsOrders_L2_v y38, [], []) }), (68, { call := some (ids_Keys_v y40, [], []) }), (71, { call := some (parrellaw05_IdsOrders_L2_v y42, [], []) }), (74, { call := some (parrellaw05_IdsOrders_L2_v y44, [], []) }), (75, { call := some (ids_Keys_v y46, [], []) }), (78, { call := some (parrellaw05_IdsOrders_L2_v y48, [], []) }), (81, { call := some (parrellaw05_IdsOrders_L2_v y50, [], []) }), (82, { v := some (.bool (decide (y48 = y50))) }), (83, { call := some (parrellaw05_IdsOrders_L1_v y52, [], []) }), (85, { v := some (.bool false) })]])
          (a_ (a_ (a_ (a_ tr tr) (a_ (a_ tr tr) (a_ (a_ tr tr) (a_ (a_ tr tr) tr)))) (a_ (a_ (a_ tr tr) tr) (a_ (a_ (a_ tr tr) tr) (a_ (a_ (a_ tr tr) (a_ (a_ (a_ tr (le_ 4 4 rfl)) tr) (a_ (a_ (a_ tr (le_ 4 4 rfl)) tr) (a_ (a_ (a_ (ids_Stamps_tri a b y2 e1) tr) tr) (a_ (a_ (a_ tr (le_ 4 4 rfl)) tr) (a_ (a_ (a_ tr (le_ 4 4 rfl)) tr) (a_ (a_ (a_ (ids_Stamps_tri b c y4 e3) tr) tr) (a_ (a_ (a_ tr (le_ 4 4 rfl)) tr) (a_ (a_ (a_ tr (le_ 4 4 rfl)) tr) (a_ (a_ (a_ (ids_Stamps_tri a c y6 e5) tr) tr) (a_ (a_ (a_ tr (le_ 4 4 rfl)) tr) (a_ (a_ (a_ tr (le_ 4 4 rfl)) tr) (a_ (a_ (a_ (ids_Stamps_tri b a y8 e7) tr) tr) (a_ (a_ (a_ tr (le_ 4 4 rfl)) tr) (a_ (a_ (a_ tr (le_ 4 4 rfl)) tr) (a_ (a_ tr (a_ (leB (k_T_api_Stamp a b)) tr)) (a_ (a_ (a_ (parrellaw05_IdsOrders_L1_tri y2 y4 y6 y8 (decide (a = b)) y10 e9) tr) tr) (a_ (a_ tr (a_ (leB c11) tr)) (a_ (a_ tr tr) (a_ (a_ tr tr) (a_ (a_ (a_ tr (le_ 4 4 rfl)) tr) (a_ (a_ tr tr) (a_ (a_ (a_ tr (le_ 4 4 rfl)) tr) (a_ (a_ (a_ (ids_Txs_tri a.f_Tx b.f_Tx y13 e12) tr) tr) (a_ (a_ tr tr) (a_ (a_ (a_ tr (le_ 4 4 rfl)) tr) (a_ (a_ tr tr) (a_ (a_ (a_ tr (le_ 4 4 rfl)) tr) (a_ (a_ (a_ (ids_Txs_tri b.f_Tx c.f_Tx y15 e14) tr) tr) (a_ (a_ tr tr) (a_ (a_ (a_ tr (le_ 4 4 rfl)) tr) (a_ (a_ tr tr) (a_ (a_ (a_ tr (le_ 4 4 rfl)) tr) (a_ (a_ (a_ (ids_Txs_tri a.f_Tx c.f_Tx y17 e16) tr) tr) (a_ (a_ tr tr) (a_ (a_ (a_ tr (le_ 4 4 rfl)) tr) (a_ (a_ tr tr) (a_ (a_ (a_ tr (le_ 4 4 rfl)) tr) (a_ (a_ (a_ (ids_Txs_tri b.f_Tx a.f_Tx y19 e18) tr) tr) (a_ (a_ tr tr) (a_ (a_ (a_ tr (le_ 4 4 rfl)) tr) (a_ (a_ tr tr) (a_ (a_ (a_ tr (le_ 4 4 rfl)) tr) (a_ (a_ tr (a_ (leB (k_T_api_Tx a.f_Tx b.f_Tx)) tr)) (a_ (a_ (a_ (parrellaw05_IdsOrders_L1_tri y13 y15 y17 y19 (decide (a.f_Tx = b.f_Tx)) y21 e20) tr) tr) (a_ (a_ tr tr) (a_ (a_ tr (a_ (leB c22) tr)) (a_ (a_ tr tr) (a_ (a_ tr tr) (a_ (a_ (a_ tr (le_ 4 4 rfl)) tr) (a_ (a_ (a_ (parrellaw05_IdsOrders_L2_tri a y24 e23) tr) tr) (a_ (a_ tr tr) (a_ (a_ (a_ tr (le_ 4 4 rfl)) tr) (a_ (a_ (a_ (parrellaw05_IdsOrders_L2_tri b y26 e25) tr) tr) (a_ (a_ (a_ (ids_Keys_tri y24 y26 y28 e27) tr) tr) (a_ (a_ tr tr) (a_ (a_ (a_ tr (le_ 4 4 rfl)) tr) (a_ (a_ (a_ (parrellaw05_IdsOrders_L2_tri b y30 e29) tr) tr) (a_ (a_ tr tr) (a_ (a_ (a_ tr (le_ 4 4 rfl)) tr) (a_ (a_ (a_ (parrellaw05_IdsOrders_L2_tri c y32 e31) tr) tr) (a_ (a_ (a_ (ids_Keys_tri y30 y32 y34 e33) tr) tr) (a_ (a_ tr tr) (a_ (a_ (a_ tr (le_ 4 4 rfl)) tr) (a_ (a_ (a_ (parrellaw05_IdsOrders_L2_tri a y36 e35) tr) tr) (a_ (a_ tr tr) (a_ (a_ (a_ tr (le_ 4 4 rfl)) tr) (a_ (a_ (a_ (parrellaw05_IdsOrders_L2_tri c y38 e37) tr) tr) (a_ (a_ (a_ (ids_Keys_tri y36 y38 y40 e39) tr) tr) (a_ (a_ tr tr) (a_ (a_ (a_ tr (le_ 4 4 rfl)) tr) (a_ (a_ (a_ (parrellaw05_IdsOrders_L2_tri b y42 e41) tr) tr) (a_ (a_ tr tr) (a_ (a_ (a_ tr (le_ 4 4 rfl)) tr) (a_ (a_ (a_ (parrellaw05_IdsOrders_L2_tri a y44 e43) tr) tr) (a_ (a_ (a_ (ids_Keys_tri y42 y44 y46 e45) tr) tr) (a_ (a_ tr tr) (a_ (a_ (a_ tr (le_ 4 4 rfl)) tr) (a_ (a_ (a_ (parrellaw05_IdsOrders_L2_tri a y48 e47) tr) tr) (a_ (a_ tr tr) (a_ (a_ (a_ tr (le_ 4 4 rfl)) tr) (a_ (a_ (a_ (parrellaw05_IdsOrders_L2_tri b y50 e49) tr) tr) (a_ (a_ tr (a_ (leB ((k_arr8 .u8) y48 y50)) tr)) (a_ (a_ (a_ (parrellaw05_IdsOrders_L1_tri y28 y34 y40 y46 (decide (y48 = y50)) y52 e51) tr) tr) (a_ (a_ tr tr) (a_ (a_ tr (a_ (leB c53) tr)) (a_ tr (a_ (a_ tr tr) (a_ (a_ tr tr) tr))))))))))))))))))))))))))))))))))))))))))))))))))))))))))))))))))))))))))))))))))))))))) tr)))) tr) (by kernel_rfl) rfl
    · skip
      obtain rfl := Option.some.inj h
      exact run_ret mixed (L := []) (n := 21) (s := [.reg [], .reg [], .reg [], .reg [(3, { call := some (ids_Stamps_v y2, [], []) }), (6, { call := some (ids_Stamps_v y4, [], []) }), (9, { call := some (ids_Stamps_v y6, [], []) }), (12, { call := some (ids_Stamps_v y8, [], []) }), (15, { v := some (.bool (decide (a = b))) }), (16, { call := some (parrellaw05_IdsOrders_L1_v y10, [], []) }), (17, { v := some (.bool true) }), (23, { call := some (ids_Txs_v y13, [], []) }), (28, { call := some (ids_Txs_v y15, [], []) }), (33, { call := some (ids_Txs_v y17, [], []) }), (38, { call := some (ids_Txs_v y19, [], []) }), (43, { v := some (.bool (decide (a.f_Tx = b.f_Tx))) }), (44, { call := some (parrellaw05_IdsOrders_L1_v y21, [], []) }), (46, { v := some (.bool false) })]])
        (a_ (a_ (a_ (a_ tr tr) (a_ (a_ tr tr) (a_ (a_ tr tr) (a_ (a_ tr tr) tr)))) (a_ (a_ (a_ tr tr) tr) (a_ (a_ (a_ tr tr) tr) (a_ (a_ (a_ tr tr) (a_ (a_ (a_ tr (le_ 4 4 rfl)) tr) (a_ (a_ (a_ tr (le_ 4 4 rfl)) tr) (a_ (a_ (a_ (ids_Stamps_tri a b y2 e1) tr) tr) (a_ (a_ (a_ tr (le_ 4 4 rfl)) tr) (a_ (a_ (a_ tr (le_ 4 4 rfl)) tr) (a_ (a_ (a_ (ids_Stamps_tri b c y4 e3) tr) tr) (a_ (a_ (a_ tr (le_ 4 4 rfl)) tr) (a_ (a_ (a_ tr (le_ 4 4 rfl)) tr) (a_ (a_ (a_ (ids_Stamps_tri a c y6 e5) tr) tr) (a_ (a_ (a_ tr (le_ 4 4 rfl)) tr) (a_ (a_ (a_ tr (le_ 4 4 rfl)) tr) (a_ (a_ (a_ (ids_Stamps_tri b a y8 e7) tr) tr) (a_ (a_ (a_ tr (le_ 4 4 rfl)) tr) (a_ (a_ (a_ tr (le_ 4 4 rfl)) tr) (a_ (a_ tr (a_ (leB (k_T_api_Stamp a b)) tr)) (a_ (a_ (a_ (parrellaw05_IdsOrders_L1_tri y2 y4 y6 y8 (decide (a = b)) y10 e9) tr) tr) (a_ (a_ tr (a_ (leB c11) tr)) (a_ (a_ tr tr) (a_ (a_ tr tr) (a_ (a_ (a_ tr (le_ 4 4 rfl)) tr) (a_ (a_ tr tr) (a_ (a_ (a_ tr (le_ 4 4 rfl)) tr) (a_ (a_ (a_ (ids_Txs_tri a.f_Tx b.f_Tx y13 e12) tr) tr) (a_ (a_ tr tr) (a_ (a_ (a_ tr (le_ 4 4 rfl)) tr) (a_ (a_ tr tr) (a_ (a_ (a_ tr (le_ 4 4 rfl)) tr) (a_ (a_ (a_ (ids_Txs_tri b.f_Tx c.f_Tx y15 e14) tr) tr) (a_ (a_ tr tr) (a_ (a_ (a_ tr (le_ 4 4 rfl)) tr) (a_ (a_ tr tr) (a_ (a_ (a_ tr (le_ 4 4 rfl)) tr) (a_ (a_ (a_ (ids_Txs_tri a.f_Tx c.f_Tx y17 e16) tr) tr) (a_ (a_ tr tr) (a_ (a_ (a_ tr (le_ 4 4 rfl)) tr) (a_ (a_ tr tr) (a_ (a_ (a_ tr (le_ 4 4 rfl)) tr) (a_ (a_ (a_ (ids_Txs_tri b.f_Tx a.f_Tx y19 e18) tr) tr) (a_ (a_ tr tr) (a_ (a_ (a_ tr (le_ 4 4 rfl)) tr) (a_ (a_ tr tr) (a_ (a_ (a_ tr (le_ 4 4 rfl)) tr) (a_ (a_ tr (a_ (leB (k_T_api_Tx a.f_Tx b.f_Tx)) tr)) (a_ (a_ (a_ (parrellaw05_IdsOrders_L1_tri y13 y15 y17 y19 (decide (a.f_Tx = b.f_Tx)) y21 e20) tr) tr) (a_ (a_ tr tr) (a_ (a_ tr (a_ (leB c22) tr)) (a_ tr (a_ tr (a_ tr (a_ tr (a_ tr (a_ tr (a_ tr (a_ tr (a_ tr (a_ tr (a_ tr (a_ tr (a_ tr (a_ tr (a_ tr (a_ tr (a_ tr (a_ tr (a_ tr (a_ tr (a_ tr (a_ tr (a_ tr (a_ tr (a_ tr (a_ tr (a_ tr (a_ tr (a_ tr (a_ tr (a_ tr (a_ tr (a_ tr (a_ tr (a_ tr (a_ tr (a_ tr (a_ (a_ tr tr) (a_ (a_ tr tr) (a_ tr (a_ (a_ tr tr) (a_ (a_ tr tr) tr))))))))))))))))))))))))))))))))))))))))))))))))))))))))))))))))))))))))))))))))))))))))) tr)))) tr) (by kernel_rfl) rfl
  · skip
    obtain rfl := Option.some.inj h
    exact run_ret mixed (L := []) (n := 21) (s := [.reg [], .reg [], .reg [], .reg [(3, { call := some (ids_Stamps_v y2, [], []) }), (6, { call := some (ids_Stamps_v y4, [], []) }), (9, { call := some (ids_Stamps_v y6, [], []) }), (12, { call := some (ids_Stamps_v y8, [], []) }), (15, { v := some (.bool (decide (a = b))) }), (16, { call := some (parrellaw05_IdsOrders_L1_v y10, [], []) }), (17, { v := some (.bool false) })]])
      (a_ (a_ (a_ (a_ tr tr) (a_ (a_ tr tr) (a_ (a_ tr tr) (a_ (a_ tr tr) tr)))) (a_ (a_ (a_ tr tr) tr) (a_ (a_ (a_ tr tr) tr) (a_ (a_ (a_ tr tr) (a_ (a_ (a_ tr (le_ 4 4 rfl)) tr) (a_ (a_ (a_ tr (le_ 4 4 rfl)) tr) (a_ (a_ (a_ (ids_Stamps_tri a b y2 e1) tr) tr) (a_ (a_ (a_ tr (le_ 4 4 rfl)) tr) (a_ (a_ (a_ tr (le_ 4 4 rfl)) tr) (a_ (a_ (a_ (ids_Stamps_tri b c y4 e3) tr) tr) (a_ (a_ (a_ tr (le_ 4 4 rfl)) tr) (a_ (a_ (a_ tr (le_ 4 4 rfl)) tr) (a_ (a_ (a_ (ids_Stamps_tri a c y6 e5) tr) tr) (a_ (a_ (a_ tr (le_ 4 4 rfl)) tr) (a_ (a_ (a_ tr (le_ 4 4 rfl)) tr) (a_ (a_ (a_ (ids_Stamps_tri b a y8 e7) tr) tr) (a_ (a_ (a_ tr (le_ 4 4 rfl)) tr) (a_ (a_ (a_ tr (le_ 4 4 rfl)) tr) (a_ (a_ tr (a_ (leB (k_T_api_Stamp a b)) tr)) (a_ (a_ (a_ (parrellaw05_IdsOrders_L1_tri y2 y4 y6 y8 (decide (a = b)) y10 e9) tr) tr) (a_ (a_ tr (a_ (leB c11) tr)) (a_ tr (a_ tr (a_ tr (a_ tr (a_ tr (a_ tr (a_ tr (a_ tr (a_ tr (a_ tr (a_ tr (a_ tr (a_ tr (a_ tr (a_ tr (a_ tr (a_ tr (a_ tr (a_ tr (a_ tr (a_ tr (a_ tr (a_ tr (a_ tr (a_ tr (a_ tr (a_ tr (a_ (a_ tr tr) (a_ (a_ tr tr) (a_ tr (a_ tr (a_ tr (a_ tr (a_ tr (a_ tr (a_ tr (a_ tr (a_ tr (a_ tr (a_ tr (a_ tr (a_ tr (a_ tr (a_ tr (a_ tr (a_ tr (a_ tr (a_ tr (a_ tr (a_ tr (a_ tr (a_ tr (a_ tr (a_ tr (a_ tr (a_ tr (a_ tr (a_ tr (a_ tr (a_ tr (a_ tr (a_ tr (a_ tr (a_ tr (a_ tr (a_ tr (a_ (a_ tr tr) (a_ (a_ tr tr) (a_ tr (a_ (a_ tr tr) (a_ (a_ tr tr) tr))))))))))))))))))))))))))))))))))))))))))))))))))))))))))))))))))))))))))))))))))))))))) tr)))) tr) (by kernel_rfl) rfl

theorem parrellaw05_IdsOrders_tri (a : T_api_Stamp) (b : T_api_Stamp) (c : T_api_Stamp) (r : (Bool)) (h : parrellaw05_IdsOrders a b c = some r) : FnTri Try.prog 5 [v_T_api_Stamp a, v_T_api_Stamp b, v_T_api_Stamp c] [] (parrellaw05_IdsOrders_v r) [] := FnTri.none (parrellaw05_IdsOrders_ok a b c r h) rfl rfl

end Go.Proofs.Ytbggiflihpjocaa.Wk
