/- Printed by tr.py: Go functions as Lean functions, with the proofs that they walk so. -/
import Derived.Test.YtbggiflihpjocaaProg
import Derived.Test.YtbggiflihpjocaaCnW
namespace Go.Proofs.Ytbggiflihpjocaa.Wk
open Go Go.Cn
set_option maxRecDepth 100000
set_option maxHeartbeats 4000000
set_option linter.unusedVariables false
set_option linter.unusedSimpArgs false
theorem mixed : Try.prog.follows .mixedOrders = true := by kernel_rfl
structure T_api_Tx where
  f_Node : Int
  f_Boot : Int
  f_Num : Int
  deriving DecidableEq, Inhabited

def c_T_api_Tx (x : T_api_Tx) : List LV := [.int .u8 x.f_Node, .int .u32 x.f_Boot, .int .u32 x.f_Num]

def v_T_api_Tx (x : T_api_Tx) : LV := .agg (c_T_api_Tx x)

theorem x_T_api_Tx (a b : T_api_Tx) : a = b ↔ a.f_Node = b.f_Node ∧ a.f_Boot = b.f_Boot ∧ a.f_Num = b.f_Num := by
  cases a; cases b; simp

theorem k_T_api_Tx (a b : T_api_Tx) : eqK (v_T_api_Tx a) (v_T_api_Tx b) = decide (a = b) := by
  rw [Bool.eq_iff_iff, decide_eq_true_eq]
  simp only [x_T_api_Tx, v_T_api_Tx, c_T_api_Tx, eqK, eqCs, eqC, Bool.and_eq_true, beq_iff_eq, and_assoc, and_true]

structure T_api_Stamp where
  f_Time : Int
  f_Tx : T_api_Tx
  deriving DecidableEq, Inhabited

def c_T_api_Stamp (x : T_api_Stamp) : List LV := [.int .u32 x.f_Time, .int .u8 x.f_Tx.f_Node, .int .u32 x.f_Tx.f_Boot, .int .u32 x.f_Tx.f_Num]

def v_T_api_Stamp (x : T_api_Stamp) : LV := .agg (c_T_api_Stamp x)

theorem x_T_api_Stamp (a b : T_api_Stamp) : a = b ↔ a.f_Time = b.f_Time ∧ a.f_Tx = b.f_Tx := by
  cases a; cases b; simp

theorem k_T_api_Stamp (a b : T_api_Stamp) : eqK (v_T_api_Stamp a) (v_T_api_Stamp b) = decide (a = b) := by
  rw [Bool.eq_iff_iff, decide_eq_true_eq]
  simp only [x_T_api_Stamp, x_T_api_Tx, v_T_api_Stamp, c_T_api_Stamp, eqK, eqCs, eqC, Bool.and_eq_true, beq_iff_eq, and_assoc, and_true]

structure T_api_Reg where
  f_Boot : Int
  f_N : Int
  deriving DecidableEq, Inhabited

def c_T_api_Reg (x : T_api_Reg) : List LV := [.int .u32 x.f_Boot, .int .u32 x.f_N]

def v_T_api_Reg (x : T_api_Reg) : LV := .agg (c_T_api_Reg x)

theorem x_T_api_Reg (a b : T_api_Reg) : a = b ↔ a.f_Boot = b.f_Boot ∧ a.f_N = b.f_N := by
  cases a; cases b; simp

theorem k_T_api_Reg (a b : T_api_Reg) : eqK (v_T_api_Reg a) (v_T_api_Reg b) = decide (a = b) := by
  rw [Bool.eq_iff_iff, decide_eq_true_eq]
  simp only [x_T_api_Reg, v_T_api_Reg, c_T_api_Reg, eqK, eqCs, eqC, Bool.and_eq_true, beq_iff_eq, and_assoc, and_true]

structure T_api_Fault where
  f_Why : Int
  f_At : Int
  deriving DecidableEq, Inhabited

def c_T_api_Fault (x : T_api_Fault) : List LV := [.int .i64 x.f_Why, .int .i64 x.f_At]

def v_T_api_Fault (x : T_api_Fault) : LV := .agg (c_T_api_Fault x)

theorem x_T_api_Fault (a b : T_api_Fault) : a = b ↔ a.f_Why = b.f_Why ∧ a.f_At = b.f_At := by
  cases a; cases b; simp

theorem k_T_api_Fault (a b : T_api_Fault) : eqK (v_T_api_Fault a) (v_T_api_Fault b) = decide (a = b) := by
  rw [Bool.eq_iff_iff, decide_eq_true_eq]
  simp only [x_T_api_Fault, v_T_api_Fault, c_T_api_Fault, eqK, eqCs, eqC, Bool.and_eq_true, beq_iff_eq, and_assoc, and_true]

structure T_code_Reader where
  f_b : List (Int)
  f_at : Int
  f_fault : T_api_Fault
  deriving DecidableEq, Inhabited

def c_T_code_Reader (x : T_code_Reader) : List LV := [.ds 1 (x.f_b).length (rowF (cInt .u8) default x.f_b), .int .i64 x.f_at, .int .i64 x.f_fault.f_Why, .int .i64 x.f_fault.f_At]

def v_T_code_Reader (x : T_code_Reader) : LV := .agg (c_T_code_Reader x)

theorem ext81 (l : List UInt8) (c : Int) : ExtTri Try.prog 81 [.str l, .int .u8 c] (.int .i64 (Lib.indexByte l c.toNat.toUInt8)) := ext_indexByte Try.func81 (by kernel_rfl) (by kernel_rfl) (by kernel_rfl) (by kernel_rfl) l c

/-- slices.Clone[[]byte,byte] -/

def slices_Clone_byte_byte_v (r : Unit) : LV := .nilsl

def slices_Clone_byte_byte  : Option (Unit) :=
  some ()

theorem slices_Clone_byte_byte_ok  (r : Unit) (h : slices_Clone_byte_byte  = some r) : ∀ σ, Inj 0 σ → FnTri Try.prog 50 (renL σ [.nilsl]) (preOf σ 0 []) ((slices_Clone_byte_byte_v r).ren σ) (upOf σ []) := by
  refine fn_of Try.func50 (by kernel_rfl) (by kernel_rfl) (by kernel_rfl) trivial (by kernel_rfl) trivial (by kernel_rfl) ?_
  intro w0 W μ0 hμ
  unfold slices_Clone_byte_byte at h
  obtain rfl := Option.some.inj h
  exact run_ret mixed (L := []) (n := 20) (s := [.reg [], .reg [], .reg []])
    (a_ (a_ (a_ (a_ tr tr) tr) (a_ (a_ (a_ tr tr) (a_ (a_ tr tr) tr)) (a_ (a_ (a_ tr tr) tr) tr))) tr) (by kernel_rfl) rfl

theorem slices_Clone_byte_byte_tri  (r : Unit) (h : slices_Clone_byte_byte  = some r) : FnTri Try.prog 50 [.nilsl] [] (slices_Clone_byte_byte_v r) [] := FnTri.none (slices_Clone_byte_byte_ok  r h) rfl rfl

/-- slices.Clone[[]byte,byte] -/

def slices_Clone_byte_byte_2_v (r : (List (Int))) : LV := .ds 1 (r).length (rowF (cInt .u8) default r)

def slices_Clone_byte_byte_2 (s : List (Int)) : Option ((List (Int))) :=
  if (0 + (s).length) * 1 ≤ 140737488351232 then
  some s
  else none

theorem slices_Clone_byte_byte_2_ok (s : List (Int)) (r : (List (Int))) (h : slices_Clone_byte_byte_2 s = some r) : ∀ σ, Inj 0 σ → FnTri Try.prog 50 (renL σ [.dn 1 (s).length (rowF (cInt .u8) default s)]) (preOf σ 0 []) ((slices_Clone_byte_byte_2_v r).ren σ) (upOf σ []) := by
  refine fn_of Try.func50 (by kernel_rfl) (by kernel_rfl) (by kernel_rfl) trivial (by kernel_rfl) trivial (by kernel_rfl) ?_
  intro w0 W μ0 hμ
  unfold slices_Clone_byte_byte_2 at h
  obtain ⟨g1, h⟩ := guard_some h
  obtain rfl := Option.some.inj h
  exact run_ret mixed (L := []) (n := 21) (s := [.reg [(0, { v := some (.ds 1 (([] : List (Int))).length (rowF (cInt .u8) default ([] : List (Int)))) })], .reg [], .reg [(0, { os := [(0, .row 1 ([] : List (Int)).length (rowF (cInt .u8) default []) true)] }), (2, { app := 4 })]])
    (a_ (a_ (a_ (a_ tr (a_ (le_nil_ds 1 (rowF (cInt .u8) default [])) tr)) tr) (a_ (a_ (a_ tr tr) (a_ (a_ tr tr) tr)) (a_ (a_ (a_ (a_ (Eq.refl true) (a_ (Eq.refl 1) (a_ (lt_ 0 1 rfl) (le_ 0 16777216 rfl)))) (a_ (sub_litr (cInt .u8) default 1 (fun _ => rfl) []) tr)) (a_ (a_ tr tr) (a_ (a_ (a_ (a_ (Eq.refl 1) (a_ (lt_ 0 1 rfl) (a_ (lt_ 0 1 rfl) (a_ g1 (a_ (Eq.refl 1) (Eq.refl true)))))) (fz_row (enc := (cInt .u8)) (d := default) (fun _ => rfl) s)) tr) (a_ (a_ tr tr) tr)))) tr))) tr) (by kernel_rfl) rfl

theorem slices_Clone_byte_byte_2_tri (s : List (Int)) (r : (List (Int))) (h : slices_Clone_byte_byte_2 s = some r) : FnTri Try.prog 50 [.dn 1 (s).length (rowF (cInt .u8) default s)] [] (slices_Clone_byte_byte_2_v r) [] := FnTri.none (slices_Clone_byte_byte_2_ok s r h) rfl rfl

theorem slices_Clone_byte_byte_nilc : FnTri Try.prog 50 [.nilsl] [] .nilsl [] := slices_Clone_byte_byte_tri () rfl

theorem slices_Clone_byte_byte_c (l : List (Int)) (h : (0 + l.length) * 1 ≤ 140737488351232) : FnTri Try.prog 50 [(.ds 1 l.length (rowF (cInt .u8) default l))] [] (.ds 1 l.length (rowF (cInt .u8) default l)) [] :=
  tri_clone (fun h => by obtain rfl := List.eq_nil_of_length_eq_zero h; exact tri_nil_ds slices_Clone_byte_byte_nilc) (slices_Clone_byte_byte_2_tri l l (by unfold slices_Clone_byte_byte_2; exact if_pos h))

/-- parrel/bits.Short -/

def bits_Short_v (r : (List (Int))) : LV := .ds 1 (r).length (rowF (cInt .u8) default r)

def bits_Short_T0  (x_n2 : Int) (l : List (Int)) : List LV := [.any, .int .u64 x_n2, .any, .any, .any, .gs 0 (l).length, .any, .any, .any, .any, .any, .any, .any, .any, .any, .any, .any, .any, .any, .any, .any, .any, .any]

def bits_Short_H0  (x_n2 : Int) (l : List (Int)) : Heap := [some (.gr 1 (l).length (rowF (cInt .u8) default l))]

def bits_Short_l0   : Nat → (Int) → (List (Int)) → Option ((List (Int)))
  | 0, _, _ => none
  | fuel + 1, x_n2, l =>
    if ((decide (128 ≤ x_n2)) : Bool) then
      if ((l).length + ([(IntKind.wrap .u8 ((BitVec.ofInt (IntKind.bits .u8) (IntKind.wrap .u8 x_n2) ||| BitVec.ofInt (IntKind.bits .u8) 128).toNat : Int))]).length) * 1 ≤ 140737488351232 then
      bits_Short_l0   fuel (Int.fdiv x_n2 (2 ^ (min (Int.toNat 7) (IntKind.bits .u64)))) (l ++ [(IntKind.wrap .u8 ((BitVec.ofInt (IntKind.bits .u8) (IntKind.wrap .u8 x_n2) ||| BitVec.ofInt (IntKind.bits .u8) 128).toNat : Int))])
      else none
    else
      if ((l).length + ([(IntKind.wrap .u8 x_n2)]).length) * 1 ≤ 140737488351232 then
      some (l ++ [(IntKind.wrap .u8 x_n2)])
      else none

def bits_Short (x_n : Int) : Option ((List (Int))) :=
  bits_Short_l0   big x_n ([] : List (Int))

theorem bits_Short_l0_ok {w0 : World} {W : Nat → Prop} {μ0 : Emb} (hμ : ∀ c p, μ0 c = some p → c < 0)   : ∀ (fuel : Nat) (x_n2 : Int) (l : List (Int)) (r : (List (Int))), bits_Short_l0   fuel x_n2 l = some r → kont Try.prog w0 W μ0 (FnPost Try.prog Try.f64 0 0 (bits_Short_v r) []) (kAt (bodyOf Try.f64) 0) none (bits_Short_T0  x_n2 l) (bits_Short_H0  x_n2 l) := by
  intro fuel
  induction fuel with
  | zero => intro x_n2 l r h; rw [bits_Short_l0] at h; cases h
  | succ fuel ih =>
    intro x_n2 l r h
    rw [bits_Short_l0] at h
    rcases itb_some h with ⟨cL0_1, h⟩ | ⟨cL0_1, h⟩
    · skip
      obtain ⟨gL0_2, h⟩ := guard_some h
      exact run_to mixed hμ (L := [2]) (n := 23) (s := [.go, .reg [(1, { v := some (.bool true) })], .reg [(4, { os := [(1, .gr 1 ([(IntKind.wrap .u8 ((BitVec.ofInt (IntKind.bits .u8) (IntKind.wrap .u8 x_n2) ||| BitVec.ofInt (IntKind.bits .u8) 128).toNat : Int))]).length (rowF (cInt .u8) default [(IntKind.wrap .u8 ((BitVec.ofInt (IntKind.bits .u8) (IntKind.wrap .u8 x_n2) ||| BitVec.ofInt (IntKind.bits .u8) 128).toNat : Int))]))], v := some (.gs 1 ([(IntKind.wrap .u8 ((BitVec.ofInt (IntKind.bits .u8) (IntKind.wrap .u8 x_n2) ||| BitVec.ofInt (IntKind.bits .u8) 128).toNat : Int))]).length) }), (5, { app := 3, os := [(2, .gr 1 ((l ++ [(IntKind.wrap .u8 ((BitVec.ofInt (IntKind.bits .u8) (IntKind.wrap .u8 x_n2) ||| BitVec.ofInt (IntKind.bits .u8) 128).toNat : Int))])).length (rowF (cInt .u8) default (l ++ [(IntKind.wrap .u8 ((BitVec.ofInt (IntKind.bits .u8) (IntKind.wrap .u8 x_n2) ||| BitVec.ofInt (IntKind.bits .u8) 128).toNat : Int))])))], v := some (.gs 2 ((l ++ [(IntKind.wrap .u8 ((BitVec.ofInt (IntKind.bits .u8) (IntKind.wrap .u8 x_n2) ||| BitVec.ofInt (IntKind.bits .u8) 128).toNat : Int))])).length) })], .reg []])
        (a_ (a_ (a_ tr tr) (a_ (a_ tr (a_ (leB cL0_1) tr)) tr)) (a_ (a_ (a_ tr tr) (a_ (a_ tr tr) (a_ (a_ tr tr) (a_ (a_ tr tr) (a_ (a_ (a_ (Eq.refl true) (a_ (Eq.refl 1) (a_ (lt_ 0 1 rfl) (le_ 1 16777216 rfl)))) (a_ (le_sl_gs 1 1 (some 1) rfl) (a_ (sub_lit (cInt .u8) default 1 (fun _ => rfl) [(IntKind.wrap .u8 ((BitVec.ofInt (IntKind.bits .u8) (IntKind.wrap .u8 x_n2) ||| BitVec.ofInt (IntKind.bits .u8) 128).toNat : Int))]) tr))) (a_ (a_ (a_ (a_ (Eq.refl 1) (Nat.le_refl ([(IntKind.wrap .u8 ((BitVec.ofInt (IntKind.bits .u8) (IntKind.wrap .u8 x_n2) ||| BitVec.ofInt (IntKind.bits .u8) 128).toNat : Int))]).length)) (a_ (a_ (lt_ 0 1 rfl) (a_ (lt_ 0 1 rfl) (a_ gL0_2 (a_ (Eq.refl 1) (Eq.refl true))))) (a_ (Eq.refl 1) (Nat.le_refl (l).length)))) (a_ (le_gs_app 2 l [(IntKind.wrap .u8 ((BitVec.ofInt (IntKind.bits .u8) (IntKind.wrap .u8 x_n2) ||| BitVec.ofInt (IntKind.bits .u8) 128).toNat : Int))]) (a_ (sub_app (cInt .u8) default 1 l [(IntKind.wrap .u8 ((BitVec.ofInt (IntKind.bits .u8) (IntKind.wrap .u8 x_n2) ||| BitVec.ofInt (IntKind.bits .u8) 128).toNat : Int))]) tr))) (a_ (a_ tr tr) tr))))))) (a_ (a_ (a_ tr tr) (a_ (a_ (lei_ 0 7 rfl) tr) (a_ (a_ tr tr) tr))) tr))) (ih _ _ r h) (by kernel_rfl) ⟨fun _ _ => rfl, trivial⟩
    · skip
      obtain ⟨gL0_2, h⟩ := guard_some h
      obtain rfl := Option.some.inj h
      exact run_ret mixed (L := []) (n := 20) (s := [.go, .reg [(1, { v := some (.bool false) })], .reg [(3, { os := [(1, .gr 1 ([(IntKind.wrap .u8 x_n2)]).length (rowF (cInt .u8) default [(IntKind.wrap .u8 x_n2)]))], v := some (.gs 1 ([(IntKind.wrap .u8 x_n2)]).length) }), (4, { app := 3, os := [(2, .gr 1 ((l ++ [(IntKind.wrap .u8 x_n2)])).length (rowF (cInt .u8) default (l ++ [(IntKind.wrap .u8 x_n2)])))], v := some (.gs 2 ((l ++ [(IntKind.wrap .u8 x_n2)])).length) })], .frz 2])
        (a_ (a_ (a_ (a_ tr tr) (a_ (a_ tr (a_ (leB cL0_1) tr)) tr)) (a_ (a_ (a_ tr tr) (a_ (a_ tr tr) (a_ (a_ tr tr) (a_ (a_ (a_ (Eq.refl true) (a_ (Eq.refl 1) (a_ (lt_ 0 1 rfl) (le_ 1 16777216 rfl)))) (a_ (le_sl_gs 1 1 (some 1) rfl) (a_ (sub_lit (cInt .u8) default 1 (fun _ => rfl) [(IntKind.wrap .u8 x_n2)]) tr))) (a_ (a_ (a_ (a_ (Eq.refl 1) (Nat.le_refl ([(IntKind.wrap .u8 x_n2)]).length)) (a_ (a_ (lt_ 0 1 rfl) (a_ (lt_ 0 1 rfl) (a_ gL0_2 (a_ (Eq.refl 1) (Eq.refl true))))) (a_ (Eq.refl 1) (Nat.le_refl (l).length)))) (a_ (le_gs_app 2 l [(IntKind.wrap .u8 x_n2)]) (a_ (sub_app (cInt .u8) default 1 l [(IntKind.wrap .u8 x_n2)]) tr))) (a_ (a_ tr tr) tr)))))) (a_ (a_ (fz_row (enc := (cInt .u8)) (d := default) (fun _ => rfl) (l ++ [(IntKind.wrap .u8 x_n2)])) (a_ (Nat.le_refl ((l ++ [(IntKind.wrap .u8 x_n2)])).length) (a_ (Nat.le_refl ((l ++ [(IntKind.wrap .u8 x_n2)])).length) tr))) tr))) tr) (by kernel_rfl) rfl

theorem bits_Short_ok (x_n : Int) (r : (List (Int))) (h : bits_Short x_n = some r) : ∀ σ, Inj 0 σ → FnTri Try.prog 64 (renL σ [.nilsl, .int .u64 x_n]) (preOf σ 0 []) ((bits_Short_v r).ren σ) (upOf σ []) := by
  refine fn_of Try.func64 (by kernel_rfl) (by kernel_rfl) (by kernel_rfl) trivial (by kernel_rfl) trivial (by kernel_rfl) ?_
  intro w0 W μ0 hμ
  unfold bits_Short at h
  exact run_to mixed hμ (L := [0]) (n := 19) (s := [.reg [(0, { v := some (.ds 1 (([] : List (Int))).length (rowF (cInt .u8) default ([] : List (Int)))) })], .void (.gr 1 (([] : List (Int))).length (rowF (cInt .u8) default ([] : List (Int)))), .reg [(1, { call := some (.nilsl, [], []) }), (2, { v := some (.gs 0 (([] : List (Int))).length) })]])
    (a_ (a_ (a_ tr (a_ (le_nil_ds 1 (rowF (cInt .u8) default [])) tr)) tr) (a_ (Eq.refl 0) (a_ (a_ (a_ tr tr) (a_ (a_ (a_ slices_Clone_byte_byte_nilc tr) tr) (a_ (a_ tr (a_ (le_nil_gs 0) tr)) tr))) tr))) (bits_Short_l0_ok hμ   big _ _ r h) (by kernel_rfl) ⟨fun _ _ => rfl, trivial⟩

theorem bits_Short_tri (x_n : Int) (r : (List (Int))) (h : bits_Short x_n = some r) : FnTri Try.prog 64 [.nilsl, .int .u64 x_n] [] (bits_Short_v r) [] := FnTri.none (bits_Short_ok x_n r h) rfl rfl

/-- (*parrel/code.Writer).put -/

def code_Writer_put_v (r : (List (Int))) : LV := .tup []

def code_Writer_put_up (b : List (Int)) (b2 : List (Int)) (r : (List (Int))) : Upd := [(0, some (.var [.gs 2 (r).length])), (1, none), (2, some (.gr 1 (r).length (rowF (cInt .u8) default r)))]

def code_Writer_put_objs (b : List (Int)) (b2 : List (Int)) : List LO := [.var [.gs 1 (b).length], .gr 1 (b).length (rowF (cInt .u8) default b)]

def code_Writer_put (b : List (Int)) (b2 : List (Int)) : Option ((List (Int))) :=
  if ((b).length + (b2).length) * 1 ≤ 140737488351232 then
  some (b ++ b2)
  else none

theorem code_Writer_put_ok (b : List (Int)) (b2 : List (Int)) (r : (List (Int))) (h : code_Writer_put b b2 = some r) : ∀ σ, Inj 3 σ → FnTri Try.prog 63 (renL σ [.ptr 0 0 0, .ds 1 (b2).length (rowF (cInt .u8) default b2)]) (preOf σ 0 (code_Writer_put_objs b b2)) ((code_Writer_put_v r).ren σ) (upOf σ (code_Writer_put_up b b2 r)) := by
  refine fn_of Try.func63 (by kernel_rfl) (by kernel_rfl) (by kernel_rfl) ⟨rfl, fun _ _ => rfl, trivial⟩ (by kernel_rfl) ⟨rfl, fun _ _ => rfl, trivial⟩ (by kernel_rfl) ?_
  intro w0 W μ0 hμ
  unfold code_Writer_put at h
  obtain ⟨g1, h⟩ := guard_some h
  obtain rfl := Option.some.inj h
  exact run_ret mixed (L := [2]) (n := 15) (s := [.reg [], .reg [(6, { app := 3, os := [(2, .gr 1 ((b ++ b2)).length (rowF (cInt .u8) default (b ++ b2)))], v := some (.gs 2 ((b ++ b2)).length) })]])
    (a_ (a_ (a_ (a_ tr tr) (a_ (a_ tr tr) tr)) (a_ (a_ (a_ tr tr) (a_ (a_ tr tr) (a_ (a_ tr tr) (a_ (a_ tr tr) (a_ (a_ (a_ tr (lt_ 0 1 rfl)) tr) (a_ (a_ tr tr) (a_ (a_ (a_ (Eq.refl 1) (a_ (a_ (lt_ 0 1 rfl) (a_ (lt_ 0 1 rfl) (a_ g1 (a_ (Eq.refl 1) (Eq.refl true))))) (a_ (Eq.refl 1) (Nat.le_refl (b).length)))) (a_ (le_gs_app 2 b b2) (a_ (sub_app (cInt .u8) default 1 b b2) tr))) (a_ (a_ tr tr) (a_ (a_ tr tr) (a_ (a_ (a_ (Eq.refl 1) (a_ (le_ 1 1 rfl) (Eq.refl 0))) tr) tr)))))))))) tr)) tr) (by kernel_rfl) rfl

/-- (*parrel/code.Writer).Num -/

def code_Writer_Num_v (r : (List (Int))) : LV := .tup []

def code_Writer_Num_up (b : List (Int)) (x_n : Int) (r : (List (Int))) : Upd := [(0, some (.var [.gs 2 (r).length])), (1, none), (2, some (.gr 1 (r).length (rowF (cInt .u8) default r)))]

def code_Writer_Num_objs (b : List (Int)) (x_n : Int) : List LO := [.var [.gs 1 (b).length], .gr 1 (b).length (rowF (cInt .u8) default b)]

def code_Writer_Num (b : List (Int)) (x_n : Int) : Option ((List (Int))) :=
  (bits_Short x_n).bind fun y2 =>
  (code_Writer_put b y2).bind fun y4 =>
  some y4

theorem code_Writer_Num_ok (b : List (Int)) (x_n : Int) (r : (List (Int))) (h : code_Writer_Num b x_n = some r) : ∀ σ, Inj 3 σ → FnTri Try.prog 48 (renL σ [.ptr 0 0 0, .int .u64 x_n]) (preOf σ 0 (code_Writer_Num_objs b x_n)) ((code_Writer_Num_v r).ren σ) (upOf σ (code_Writer_Num_up b x_n r)) := by
  refine fn_of Try.func48 (by kernel_rfl) (by kernel_rfl) (by kernel_rfl) ⟨rfl, fun _ _ => rfl, trivial⟩ (by kernel_rfl) ⟨rfl, fun _ _ => rfl, trivial⟩ (by kernel_rfl) ?_
  intro w0 W μ0 hμ
  unfold code_Writer_Num at h
  obtain ⟨y2, e1, h⟩ := bind_some h
  obtain ⟨y4, e3, h⟩ := bind_some h
  obtain rfl := Option.some.inj h
  exact run_ret mixed (L := [2]) (n := 11) (s := [.reg [(2, { call := some (bits_Short_v y2, [], []) }), (3, { call := some ((code_Writer_put_v y4).ren (sel [0, 1, 2]), preOf (sel [0, 1, 2]) 0 (code_Writer_put_objs b y2), upOf (sel [0, 1, 2]) (code_Writer_put_up b y2 y4)) })]])
    (a_ (a_ (a_ (a_ tr tr) (a_ (a_ tr tr) (a_ (a_ (a_ (bits_Short_tri x_n y2 e1) tr) tr) (a_ (a_ (a_ (code_Writer_put_ok b y2 y4 e3 (sel [0, 1, 2]) (sel_inj rfl rfl)) (a_ (LO.Le.refl (.var [.gs 1 (b).length])) (a_ (LO.Le.refl (.gr 1 (b).length (rowF (cInt .u8) default b))) tr))) tr) tr)))) tr) tr) (by kernel_rfl) rfl

/-- (*parrel/code.Writer).Byte -/

def code_Writer_Byte_v (r : (List (Int))) : LV := .tup []

def code_Writer_Byte_up (b : List (Int)) (c : Int) (r : (List (Int))) : Upd := [(0, some (.var [.gs 2 (r).length])), (1, none), (2, some (.gr 1 (r).length (rowF (cInt .u8) default r)))]

def code_Writer_Byte_objs (b : List (Int)) (c : Int) : List LO := [.var [.gs 1 (b).length], .gr 1 (b).length (rowF (cInt .u8) default b)]

def code_Writer_Byte (b : List (Int)) (c : Int) : Option ((List (Int))) :=
  (code_Writer_put b ([c])).bind fun y2 =>
  some y2

theorem code_Writer_Byte_ok (b : List (Int)) (c : Int) (r : (List (Int))) (h : code_Writer_Byte b c = some r) : ∀ σ, Inj 3 σ → FnTri Try.prog 65 (renL σ [.ptr 0 0 0, .int .u8 c]) (preOf σ 0 (code_Writer_Byte_objs b c)) ((code_Writer_Byte_v r).ren σ) (upOf σ (code_Writer_Byte_up b c r)) := by
  refine fn_of Try.func65 (by kernel_rfl) (by kernel_rfl) (by kernel_rfl) ⟨rfl, fun _ _ => rfl, trivial⟩ (by kernel_rfl) ⟨rfl, fun _ _ => rfl, trivial⟩ (by kernel_rfl) ?_
  intro w0 W μ0 hμ
  unfold code_Writer_Byte at h
  obtain ⟨y2, e1, h⟩ := bind_some h
  obtain rfl := Option.some.inj h
  exact run_ret mixed (L := [3]) (n := 11) (s := [.reg [(2, { os := [(2, .gr 1 ([c]).length (rowF (cInt .u8) default [c]))], v := some (.gs 2 ([c]).length), fz := true }), (3, { call := some ((code_Writer_put_v y2).ren (sel [0, 1, 3]), preOf (sel [0, 1, 3]) 0 (code_Writer_put_objs b ([c])), upOf (sel [0, 1, 3]) (code_Writer_put_up b ([c]) y2)) })]])
    (a_ (a_ (a_ (a_ tr tr) (a_ (a_ tr tr) (a_ (a_ (a_ (a_ (Eq.refl true) (a_ (Eq.refl 1) (a_ (lt_ 0 1 rfl) (le_ 1 16777216 rfl)))) (a_ (le_sl_gs 2 1 (some 1) rfl) (a_ (sub_lit (cInt .u8) default 1 (fun _ => rfl) [c]) tr))) (a_ (Nat.le_refl ([c]).length) (fz_row (enc := (cInt .u8)) (d := default) (fun _ => rfl) [c]))) (a_ (a_ (a_ (code_Writer_put_ok b ([c]) y2 e1 (sel [0, 1, 3]) (sel_inj rfl rfl)) (a_ (LO.Le.refl (.var [.gs 1 (b).length])) (a_ (LO.Le.refl (.gr 1 (b).length (rowF (cInt .u8) default b))) tr))) tr) tr)))) tr) tr) (by kernel_rfl) rfl

/-- parrel/ids.PutTx -/

def ids_PutTx_v (r : (List (Int))) : LV := .tup []

def ids_PutTx_up (b : List (Int)) (t : T_api_Tx) (r : (List (Int))) : Upd := [(0, some (.var [.gs 2 (r).length])), (1, none), (2, some (.gr 1 (r).length (rowF (cInt .u8) default r)))]

def ids_PutTx_objs (b : List (Int)) (t : T_api_Tx) : List LO := [.var [.gs 1 (b).length], .gr 1 (b).length (rowF (cInt .u8) default b)]

def ids_PutTx (b : List (Int)) (t : T_api_Tx) : Option ((List (Int))) :=
  (code_Writer_Byte b t.f_Node).bind fun y2 =>
  (code_Writer_Num y2 (IntKind.wrap .u64 t.f_Boot)).bind fun y4 =>
  (code_Writer_Num y4 (IntKind.wrap .u64 t.f_Num)).bind fun y6 =>
  some y6

theorem ids_PutTx_ok (b : List (Int)) (t : T_api_Tx) (r : (List (Int))) (h : ids_PutTx b t = some r) : ∀ σ, Inj 3 σ → FnTri Try.prog 49 (renL σ [.ptr 0 0 0, v_T_api_Tx t]) (preOf σ 0 (ids_PutTx_objs b t)) ((ids_PutTx_v r).ren σ) (upOf σ (ids_PutTx_up b t r)) := by
  refine fn_of Try.func49 (by kernel_rfl) (by kernel_rfl) (by kernel_rfl) ⟨rfl, fun _ _ => rfl, trivial⟩ (by kernel_rfl) ⟨rfl, fun _ _ => rfl, trivial⟩ (by kernel_rfl) ?_
  intro w0 W μ0 hμ
  unfold ids_PutTx at h
  obtain ⟨y2, e1, h⟩ := bind_some h
  obtain ⟨y4, e3, h⟩ := bind_some h
  obtain ⟨y6, e5, h⟩ := bind_some h
  obtain rfl := Option.some.inj h
  exact run_ret mixed (L := [5]) (n := 20) (s := [.reg [], .reg [(3, { call := some ((code_Writer_Byte_v y2).ren (sel [0, 1, 3]), preOf (sel [0, 1, 3]) 0 (code_Writer_Byte_objs b t.f_Node), upOf (sel [0, 1, 3]) (code_Writer_Byte_up b t.f_Node y2)) })], .reg [(4, { call := some ((code_Writer_Num_v y4).ren (sel [0, 3, 4]), preOf (sel [0, 3, 4]) 0 (code_Writer_Num_objs y2 (IntKind.wrap .u64 t.f_Boot)), upOf (sel [0, 3, 4]) (code_Writer_Num_up y2 (IntKind.wrap .u64 t.f_Boot) y4)) })], .reg [(4, { call := some ((code_Writer_Num_v y6).ren (sel [0, 4, 5]), preOf (sel [0, 4, 5]) 0 (code_Writer_Num_objs y4 (IntKind.wrap .u64 t.f_Num)), upOf (sel [0, 4, 5]) (code_Writer_Num_up y4 (IntKind.wrap .u64 t.f_Num) y6)) })]])
    (a_ (a_ (a_ (a_ tr tr) tr) (a_ (a_ (a_ tr tr) (a_ (a_ tr tr) (a_ (a_ (a_ tr (lt_ 0 3 rfl)) tr) (a_ (a_ (a_ (code_Writer_Byte_ok b t.f_Node y2 e1 (sel [0, 1, 3]) (sel_inj rfl rfl)) (a_ (LO.Le.refl (.var [.gs 1 (b).length])) (a_ (LO.Le.refl (.gr 1 (b).length (rowF (cInt .u8) default b))) tr))) tr) tr)))) (a_ (a_ (a_ tr tr) (a_ (a_ tr tr) (a_ (a_ (a_ tr (lt_ 1 3 rfl)) tr) (a_ (a_ tr tr) (a_ (a_ (a_ (code_Writer_Num_ok y2 (IntKind.wrap .u64 t.f_Boot) y4 e3 (sel [0, 3, 4]) (sel_inj rfl rfl)) (a_ (LO.Le.refl (.var [.gs 3 (y2).length])) (a_ (LO.Le.refl (.gr 1 (y2).length (rowF (cInt .u8) default y2))) tr))) tr) tr))))) (a_ (a_ (a_ tr tr) (a_ (a_ tr tr) (a_ (a_ (a_ tr (lt_ 2 3 rfl)) tr) (a_ (a_ tr tr) (a_ (a_ (a_ (code_Writer_Num_ok y4 (IntKind.wrap .u64 t.f_Num) y6 e5 (sel [0, 4, 5]) (sel_inj rfl rfl)) (a_ (LO.Le.refl (.var [.gs 4 (y4).length])) (a_ (LO.Le.refl (.gr 1 (y4).length (rowF (cInt .u8) default y4))) tr))) tr) tr))))) tr)))) tr) (by kernel_rfl) rfl

/-- parrel/ids.PutStamp -/

def ids_PutStamp_v (r : (List (Int))) : LV := .tup []

def ids_PutStamp_up (b : List (Int)) (s : T_api_Stamp) (r : (List (Int))) : Upd := [(0, some (.var [.gs 2 (r).length])), (1, none), (2, some (.gr 1 (r).length (rowF (cInt .u8) default r)))]

def ids_PutStamp_objs (b : List (Int)) (s : T_api_Stamp) : List LO := [.var [.gs 1 (b).length], .gr 1 (b).length (rowF (cInt .u8) default b)]

def ids_PutStamp (b : List (Int)) (s : T_api_Stamp) : Option ((List (Int))) :=
  (code_Writer_Num b (IntKind.wrap .u64 s.f_Time)).bind fun y2 =>
  (ids_PutTx y2 s.f_Tx).bind fun y4 =>
  some y4

theorem ids_PutStamp_ok (b : List (Int)) (s : T_api_Stamp) (r : (List (Int))) (h : ids_PutStamp b s = some r) : ∀ σ, Inj 3 σ → FnTri Try.prog 23 (renL σ [.ptr 0 0 0, v_T_api_Stamp s]) (preOf σ 0 (ids_PutStamp_objs b s)) ((ids_PutStamp_v r).ren σ) (upOf σ (ids_PutStamp_up b s r)) := by
  refine fn_of Try.func23 (by kernel_rfl) (by kernel_rfl) (by kernel_rfl) ⟨rfl, fun _ _ => rfl, trivial⟩ (by kernel_rfl) ⟨rfl, fun _ _ => rfl, trivial⟩ (by kernel_rfl) ?_
  intro w0 W μ0 hμ
  unfold ids_PutStamp at h
  obtain ⟨y2, e1, h⟩ := bind_some h
  obtain ⟨y4, e3, h⟩ := bind_some h
  obtain rfl := Option.some.inj h
  exact run_ret mixed (L := [4]) (n := 17) (s := [.reg [], .reg [(4, { call := some ((code_Writer_Num_v y2).ren (sel [0, 1, 3]), preOf (sel [0, 1, 3]) 0 (code_Writer_Num_objs b (IntKind.wrap .u64 s.f_Time)), upOf (sel [0, 1, 3]) (code_Writer_Num_up b (IntKind.wrap .u64 s.f_Time) y2)) })], .reg [(3, { call := some ((ids_PutTx_v y4).ren (sel [0, 3, 4]), preOf (sel [0, 3, 4]) 0 (ids_PutTx_objs y2 s.f_Tx), upOf (sel [0, 3, 4]) (ids_PutTx_up y2 s.f_Tx y4)) })]])
    (a_ (a_ (a_ (a_ tr tr) tr) (a_ (a_ (a_ tr tr) (a_ (a_ tr tr) (a_ (a_ (a_ tr (lt_ 0 4 rfl)) tr) (a_ (a_ tr tr) (a_ (a_ (a_ (code_Writer_Num_ok b (IntKind.wrap .u64 s.f_Time) y2 e1 (sel [0, 1, 3]) (sel_inj rfl rfl)) (a_ (LO.Le.refl (.var [.gs 1 (b).length])) (a_ (LO.Le.refl (.gr 1 (b).length (rowF (cInt .u8) default b))) tr))) tr) tr))))) (a_ (a_ (a_ tr tr) (a_ (a_ tr tr) (a_ (a_ (a_ tr (le_ 4 4 rfl)) tr) (a_ (a_ (a_ (ids_PutTx_ok y2 s.f_Tx y4 e3 (sel [0, 3, 4]) (sel_inj rfl rfl)) (a_ (LO.Le.refl (.var [.gs 3 (y2).length])) (a_ (LO.Le.refl (.gr 1 (y2).length (rowF (cInt .u8) default y2))) tr))) tr) tr)))) tr))) tr) (by kernel_rfl) rfl

/-- parrel/ids.PutReg -/

def ids_PutReg_v (r : (List (Int))) : LV := .tup []

def ids_PutReg_up (b : List (Int)) (g : T_api_Reg) (r : (List (Int))) : Upd := [(0, some (.var [.gs 2 (r).length])), (1, none), (2, some (.gr 1 (r).length (rowF (cInt .u8) default r)))]

def ids_PutReg_objs (b : List (Int)) (g : T_api_Reg) : List LO := [.var [.gs 1 (b).length], .gr 1 (b).length (rowF (cInt .u8) default b)]

def ids_PutReg (b : List (Int)) (g : T_api_Reg) : Option ((List (Int))) :=
  (code_Writer_Num b (IntKind.wrap .u64 g.f_Boot)).bind fun y2 =>
  (code_Writer_Num y2 (IntKind.wrap .u64 g.f_N)).bind fun y4 =>
  some y4

theorem ids_PutReg_ok (b : List (Int)) (g : T_api_Reg) (r : (List (Int))) (h : ids_PutReg b g = some r) : ∀ σ, Inj 3 σ → FnTri Try.prog 24 (renL σ [.ptr 0 0 0, v_T_api_Reg g]) (preOf σ 0 (ids_PutReg_objs b g)) ((ids_PutReg_v r).ren σ) (upOf σ (ids_PutReg_up b g r)) := by
  refine fn_of Try.func24 (by kernel_rfl) (by kernel_rfl) (by kernel_rfl) ⟨rfl, fun _ _ => rfl, trivial⟩ (by kernel_rfl) ⟨rfl, fun _ _ => rfl, trivial⟩ (by kernel_rfl) ?_
  intro w0 W μ0 hμ
  unfold ids_PutReg at h
  obtain ⟨y2, e1, h⟩ := bind_some h
  obtain ⟨y4, e3, h⟩ := bind_some h
  obtain rfl := Option.some.inj h
  exact run_ret mixed (L := [4]) (n := 17) (s := [.reg [], .reg [(4, { call := some ((code_Writer_Num_v y2).ren (sel [0, 1, 3]), preOf (sel [0, 1, 3]) 0 (code_Writer_Num_objs b (IntKind.wrap .u64 g.f_Boot)), upOf (sel [0, 1, 3]) (code_Writer_Num_up b (IntKind.wrap .u64 g.f_Boot) y2)) })], .reg [(4, { call := some ((code_Writer_Num_v y4).ren (sel [0, 3, 4]), preOf (sel [0, 3, 4]) 0 (code_Writer_Num_objs y2 (IntKind.wrap .u64 g.f_N)), upOf (sel [0, 3, 4]) (code_Writer_Num_up y2 (IntKind.wrap .u64 g.f_N) y4)) })]])
    (a_ (a_ (a_ (a_ tr tr) tr) (a_ (a_ (a_ tr tr) (a_ (a_ tr tr) (a_ (a_ (a_ tr (lt_ 0 2 rfl)) tr) (a_ (a_ tr tr) (a_ (a_ (a_ (code_Writer_Num_ok b (IntKind.wrap .u64 g.f_Boot) y2 e1 (sel [0, 1, 3]) (sel_inj rfl rfl)) (a_ (LO.Le.refl (.var [.gs 1 (b).length])) (a_ (LO.Le.refl (.gr 1 (b).length (rowF (cInt .u8) default b))) tr))) tr) tr))))) (a_ (a_ (a_ tr tr) (a_ (a_ tr tr) (a_ (a_ (a_ tr (lt_ 1 2 rfl)) tr) (a_ (a_ tr tr) (a_ (a_ (a_ (code_Writer_Num_ok y2 (IntKind.wrap .u64 g.f_N) y4 e3 (sel [0, 3, 4]) (sel_inj rfl rfl)) (a_ (LO.Le.refl (.var [.gs 3 (y2).length])) (a_ (LO.Le.refl (.gr 1 (y2).length (rowF (cInt .u8) default y2))) tr))) tr) tr))))) tr))) tr) (by kernel_rfl) rfl

/-- slices.Clone[[]byte,byte] -/

def slices_Clone_byte_byte_3_v (r : (List (Int))) : LV := .ds 1 (r).length (rowF (cInt .u8) default r)

def slices_Clone_byte_byte_3_up (s : List (Int)) (r : (List (Int))) : Upd := [(0, some (.gr 1 (s).length (rowF (cInt .u8) default s)))]

def slices_Clone_byte_byte_3_objs (s : List (Int)) : List LO := [.gr 1 (s).length (rowF (cInt .u8) default s)]

def slices_Clone_byte_byte_3 (s : List (Int)) : Option ((List (Int))) :=
  if (((s).length == 0) : Bool) then
    some ([] : List (Int))
  else
    if (0 + (s).length) * 1 ≤ 140737488351232 then
    some s
    else none

theorem slices_Clone_byte_byte_3_ok (s : List (Int)) (r : (List (Int))) (h : slices_Clone_byte_byte_3 s = some r) : ∀ σ, Inj 1 σ → FnTri Try.prog 50 (renL σ [.gs 0 (s).length]) (preOf σ 0 (slices_Clone_byte_byte_3_objs s)) ((slices_Clone_byte_byte_3_v r).ren σ) (upOf σ (slices_Clone_byte_byte_3_up s r)) := by
  refine fn_of Try.func50 (by kernel_rfl) (by kernel_rfl) (by kernel_rfl) ⟨fun _ _ => rfl, trivial⟩ (by kernel_rfl) ⟨fun _ _ => rfl, trivial⟩ (by kernel_rfl) ?_
  intro w0 W μ0 hμ
  unfold slices_Clone_byte_byte_3 at h
  rcases itb_some h with ⟨c1, h⟩ | ⟨c1, h⟩
  · skip
    obtain rfl := Option.some.inj h
    exact run_ret mixed (L := []) (n := 20) (s := [.reg [(0, { v := some (.ds 1 (([] : List (Int))).length (rowF (cInt .u8) default ([] : List (Int)))) })], .reg [(1, { v := some (.bool true) })], .reg [(0, { v := some (.ds 1 (([] : List (Int))).length (rowF (cInt .u8) default ([] : List (Int)))) })]])
      (a_ (a_ (a_ (a_ tr (a_ (le_nil_ds 1 (rowF (cInt .u8) default [])) tr)) tr) (a_ (a_ (a_ tr tr) (a_ (a_ tr (a_ (leB c1) tr)) tr)) (a_ (a_ (a_ tr (a_ (le_nil_ds 1 (rowF (cInt .u8) default [])) tr)) tr) tr))) tr) (by kernel_rfl) rfl
  · skip
    obtain ⟨g2, h⟩ := guard_some h
    obtain rfl := Option.some.inj h
    exact run_ret mixed (L := []) (n := 21) (s := [.reg [(0, { v := some (.ds 1 (([] : List (Int))).length (rowF (cInt .u8) default ([] : List (Int)))) })], .reg [(1, { v := some (.bool false) })], .reg [(0, { os := [(1, .row 1 ([] : List (Int)).length (rowF (cInt .u8) default []) true)] }), (2, { app := 4 })]])
      (a_ (a_ (a_ (a_ tr (a_ (le_nil_ds 1 (rowF (cInt .u8) default [])) tr)) tr) (a_ (a_ (a_ tr tr) (a_ (a_ tr (a_ (leB c1) tr)) tr)) (a_ (a_ (a_ (a_ (Eq.refl true) (a_ (Eq.refl 1) (a_ (lt_ 0 1 rfl) (le_ 0 16777216 rfl)))) (a_ (sub_litr (cInt .u8) default 1 (fun _ => rfl) []) tr)) (a_ (a_ tr tr) (a_ (a_ (a_ (a_ (a_ (Eq.refl 1) (Nat.le_refl (s).length)) (a_ (lt_ 0 1 rfl) (a_ (lt_ 0 1 rfl) (a_ g2 (a_ (Eq.refl 1) (Eq.refl true)))))) (fz_row (enc := (cInt .u8)) (d := default) (fun _ => rfl) s)) tr) (a_ (a_ tr tr) tr)))) tr))) tr) (by kernel_rfl) rfl

/-- (*parrel/code.Writer).Bytes -/

def code_Writer_Bytes_v (r : (List (Int))) : LV := .ds 1 (r).length (rowF (cInt .u8) default r)

def code_Writer_Bytes_up (b : List (Int)) (r : (List (Int))) : Upd := [(0, some (.var [.gs 1 (b).length])), (1, some (.gr 1 (b).length (rowF (cInt .u8) default b)))]

def code_Writer_Bytes_objs (b : List (Int)) : List LO := [.var [.gs 1 (b).length], .gr 1 (b).length (rowF (cInt .u8) default b)]

def code_Writer_Bytes (b : List (Int)) : Option ((List (Int))) :=
  (slices_Clone_byte_byte_3 b).bind fun y2 =>
  some y2

theorem code_Writer_Bytes_ok (b : List (Int)) (r : (List (Int))) (h : code_Writer_Bytes b = some r) : ∀ σ, Inj 2 σ → FnTri Try.prog 26 (renL σ [.ptr 0 0 0]) (preOf σ 0 (code_Writer_Bytes_objs b)) ((code_Writer_Bytes_v r).ren σ) (upOf σ (code_Writer_Bytes_up b r)) := by
  refine fn_of Try.func26 (by kernel_rfl) (by kernel_rfl) (by kernel_rfl) ⟨rfl, fun _ _ => rfl, trivial⟩ (by kernel_rfl) ⟨rfl, fun _ _ => rfl, trivial⟩ (by kernel_rfl) ?_
  intro w0 W μ0 hμ
  unfold code_Writer_Bytes at h
  obtain ⟨y2, e1, h⟩ := bind_some h
  obtain rfl := Option.some.inj h
  exact run_ret mixed (L := []) (n := 21) (s := [.reg [(0, { v := some (.ds 1 (([] : List (Int))).length (rowF (cInt .u8) default ([] : List (Int)))) })], .reg [], .reg [(4, { call := some ((slices_Clone_byte_byte_3_v y2).ren (sel [1]), preOf (sel [1]) 0 (slices_Clone_byte_byte_3_objs b), upOf (sel [1]) (slices_Clone_byte_byte_3_up b y2)) })]])
    (a_ (a_ (a_ (a_ tr (a_ (le_nil_ds 1 (rowF (cInt .u8) default [])) tr)) tr) (a_ (a_ (a_ tr tr) (a_ (a_ tr tr) tr)) (a_ (a_ (a_ tr tr) (a_ (a_ tr tr) (a_ (a_ tr tr) (a_ (a_ (a_ tr (lt_ 0 1 rfl)) tr) (a_ (a_ (a_ (slices_Clone_byte_byte_3_ok b y2 e1 (sel [1]) (sel_inj rfl rfl)) (a_ (LO.Le.refl (.gr 1 (b).length (rowF (cInt .u8) default b))) tr)) tr) (a_ (a_ tr tr) tr)))))) tr))) tr) (by kernel_rfl) rfl

/-- parrel/code.New -/

def code_New_v (r : (List (Int)) × (T_api_Fault)) : LV := .ptr 0 0 0

def code_New_up (b : List (Int)) (r : (List (Int)) × (T_api_Fault)) : Upd := [(0, some (.var (c_T_code_Reader (T_code_Reader.mk r.1 0 r.2))))]

def code_New (b : List (Int)) : Option ((List (Int)) × (T_api_Fault)) :=
  if (0 + (b).length) * 1 ≤ 140737488351232 then
  some (b, (T_api_Fault.mk 0 0))
  else none

theorem code_New_ok (b : List (Int)) (r : (List (Int)) × (T_api_Fault)) (h : code_New b = some r) : ∀ σ, Inj 1 σ → FnTri Try.prog 25 (renL σ [.ds 1 (b).length (rowF (cInt .u8) default b)]) (preOf σ 0 []) ((code_New_v r).ren σ) (upOf σ (code_New_up b r)) := by
  refine fn_of Try.func25 (by kernel_rfl) (by kernel_rfl) (by kernel_rfl) trivial (by kernel_rfl) ⟨rfl, trivial⟩ (by kernel_rfl) ?_
  intro w0 W μ0 hμ
  unfold code_New at h
  obtain ⟨g1, h⟩ := guard_some h
  obtain rfl := Option.some.inj h
  exact run_ret mixed (L := [0]) (n := 15) (s := [.reg [], .reg [(1, { call := some (.ds 1 (b).length (rowF (cInt .u8) default b), [], []) })]])
    (a_ (a_ (a_ (a_ tr tr) tr) (a_ (a_ (a_ tr tr) (a_ (a_ (a_ (slices_Clone_byte_byte_c b g1) tr) tr) (a_ (a_ (Eq.refl true) tr) (a_ (a_ tr tr) (a_ (a_ tr tr) tr))))) tr)) tr) (by kernel_rfl) rfl

/-- parrel/bits.Long -/

def bits_Long_v (r : (Int) × (Int) × (Int)) : LV := .tup [.int .u64 r.1, .int .i64 r.2.1, .int .i64 r.2.2]

def bits_Long_T0 (b : List (Int)) (x_n : Int) (t10 : Int) : List LV := [.any, .any, .any, .any, .any, .int .u64 x_n, .any, .any, .ds 1 (b).length (rowF (cInt .u8) default b), .int .i64 ((b).length : Int), .int .i64 t10, .any, .any, .any, .any, .any, .any, .any, .any, .any, .any, .any, .any, .any, .any, .any, .any, .any, .any, .any, .any, .any, .any, .any, .any, .any, .any, .any, .any, .any, .any, .any]

def bits_Long_H0 (b : List (Int)) (x_n : Int) (t10 : Int) : Heap := []

def bits_Long_l0 (b : List (Int))  : Nat → (Int) → (Int) → Option ((Int) × (Int) × (Int))
  | 0, _, _ => none
  | fuel + 1, x_n, t10 =>
    if ((decide (t10 < ((b).length : Int))) : Bool) then
      if 0 ≤ t10 ∧ t10 < (((b).length : Nat) : Int) then
      if ((decide (57 < (IntKind.wrap .i64 (t10 * 7)))) : Bool) then
        if ((decide (1 < (b.getD t10.toNat default))) : Bool) then
          some (0, 0, 3)
        else
          if 0 ≤ (IntKind.wrap .i64 (7 * t10)) then
          if ((decide (128 ≤ (b.getD t10.toNat default))) : Bool) then
            bits_Long_l0 b  fuel (IntKind.wrap .u64 ((BitVec.ofInt (IntKind.bits .u64) x_n ||| BitVec.ofInt (IntKind.bits .u64) (IntKind.wrap .u64 ((IntKind.wrap .u64 (IntKind.wrap .u8 ((BitVec.ofInt (IntKind.bits .u8) (b.getD t10.toNat default) &&& ~~~ BitVec.ofInt (IntKind.bits .u8) 128).toNat : Int))) * 2 ^ (min (Int.toNat (IntKind.wrap .i64 (7 * t10))) (IntKind.bits .u64))))).toNat : Int)) (IntKind.wrap .i64 (t10 + 1))
          else
            if (((b.getD t10.toNat default) == 0) : Bool) then
              if ((decide (0 < t10)) : Bool) then
                some (0, 0, 3)
              else
                some ((IntKind.wrap .u64 ((BitVec.ofInt (IntKind.bits .u64) x_n ||| BitVec.ofInt (IntKind.bits .u64) (IntKind.wrap .u64 ((IntKind.wrap .u64 (IntKind.wrap .u8 ((BitVec.ofInt (IntKind.bits .u8) (b.getD t10.toNat default) &&& ~~~ BitVec.ofInt (IntKind.bits .u8) 128).toNat : Int))) * 2 ^ (min (Int.toNat (IntKind.wrap .i64 (7 * t10))) (IntKind.bits .u64))))).toNat : Int)), (IntKind.wrap .i64 (t10 + 1)), 0)
            else
              some ((IntKind.wrap .u64 ((BitVec.ofInt (IntKind.bits .u64) x_n ||| BitVec.ofInt (IntKind.bits .u64) (IntKind.wrap .u64 ((IntKind.wrap .u64 (IntKind.wrap .u8 ((BitVec.ofInt (IntKind.bits .u8) (b.getD t10.toNat default) &&& ~~~ BitVec.ofInt (IntKind.bits .u8) 128).toNat : Int))) * 2 ^ (min (Int.toNat (IntKind.wrap .i64 (7 * t10))) (IntKind.bits .u64))))).toNat : Int)), (IntKind.wrap .i64 (t10 + 1)), 0)
          else none
      else
        if 0 ≤ (IntKind.wrap .i64 (7 * t10)) then
        if ((decide (128 ≤ (b.getD t10.toNat default))) : Bool) then
          bits_Long_l0 b  fuel (IntKind.wrap .u64 ((BitVec.ofInt (IntKind.bits .u64) x_n ||| BitVec.ofInt (IntKind.bits .u64) (IntKind.wrap .u64 ((IntKind.wrap .u64 (IntKind.wrap .u8 ((BitVec.ofInt (IntKind.bits .u8) (b.getD t10.toNat default) &&& ~~~ BitVec.ofInt (IntKind.bits .u8) 128).toNat : Int))) * 2 ^ (min (Int.toNat (IntKind.wrap .i64 (7 * t10))) (IntKind.bits .u64))))).toNat : Int)) (IntKind.wrap .i64 (t10 + 1))
        else
          if (((b.getD t10.toNat default) == 0) : Bool) then
            if ((decide (0 < t10)) : Bool) then
              some (0, 0, 3)
            else
              some ((IntKind.wrap .u64 ((BitVec.ofInt (IntKind.bits .u64) x_n ||| BitVec.ofInt (IntKind.bits .u64) (IntKind.wrap .u64 ((IntKind.wrap .u64 (IntKind.wrap .u8 ((BitVec.ofInt (IntKind.bits .u8) (b.getD t10.toNat default) &&& ~~~ BitVec.ofInt (IntKind.bits .u8) 128).toNat : Int))) * 2 ^ (min (Int.toNat (IntKind.wrap .i64 (7 * t10))) (IntKind.bits .u64))))).toNat : Int)), (IntKind.wrap .i64 (t10 + 1)), 0)
          else
            some ((IntKind.wrap .u64 ((BitVec.ofInt (IntKind.bits .u64) x_n ||| BitVec.ofInt (IntKind.bits .u64) (IntKind.wrap .u64 ((IntKind.wrap .u64 (IntKind.wrap .u8 ((BitVec.ofInt (IntKind.bits .u8) (b.getD t10.toNat default) &&& ~~~ BitVec.ofInt (IntKind.bits .u8) 128).toNat : Int))) * 2 ^ (min (Int.toNat (IntKind.wrap .i64 (7 * t10))) (IntKind.bits .u64))))).toNat : Int)), (IntKind.wrap .i64 (t10 + 1)), 0)
        else none
      else none
    else
      some (0, 0, 4)

def bits_Long (b : List (Int)) : Option ((Int) × (Int) × (Int)) :=
  bits_Long_l0 b  big 0 0

theorem bits_Long_l0_ok {w0 : World} {W : Nat → Prop} {μ0 : Emb} (hμ : ∀ c p, μ0 c = some p → c < 0) (b : List (Int))  : ∀ (fuel : Nat) (x_n : Int) (t10 : Int) (r : (Int) × (Int) × (Int)), bits_Long_l0 b  fuel x_n t10 = some r → kont Try.prog w0 W μ0 (FnPost Try.prog Try.f82 0 0 (bits_Long_v r) []) (kAt (bodyOf Try.f82) 0) none (bits_Long_T0 b x_n t10) (bits_Long_H0 b x_n t10) := by
  intro fuel
  induction fuel with
  | zero => intro x_n t10 r h; rw [bits_Long_l0] at h; cases h
  | succ fuel ih =>
    intro x_n t10 r h
    rw [bits_Long_l0] at h
    rcases itb_some h with ⟨cL0_1, h⟩ | ⟨cL0_1, h⟩
    · skip
      obtain ⟨gL0_2, h⟩ := guard_some h
      rcases itb_some h with ⟨cL0_3, h⟩ | ⟨cL0_3, h⟩
      · skip
        rcases itb_some h with ⟨cL0_4, h⟩ | ⟨cL0_4, h⟩
        · skip
          obtain rfl := Option.some.inj h
          exact run_ret mixed (L := []) (n := 29) (s := [.go, .reg [(0, { v := some (.bool true) })], .reg [], .reg [(3, { v := some (.bool true) }), (6, { v := some (.bool true) })], .reg []])
            (a_ (a_ (a_ (a_ tr (a_ (leB cL0_1) tr)) tr) (a_ (a_ (a_ tr tr) (a_ (a_ (a_ (Eq.refl 1) gL0_2) tr) (a_ (a_ (lt_ 0 1 rfl) tr) (a_ (a_ tr tr) (a_ (a_ tr tr) tr))))) (a_ (a_ (a_ tr tr) (a_ (a_ tr tr) (a_ (a_ tr tr) (a_ (a_ tr (a_ (leB cL0_3) tr)) (a_ (a_ tr tr) (a_ (a_ tr tr) (a_ (a_ tr (a_ (leB cL0_4) tr)) tr))))))) (a_ (a_ (a_ tr tr) (a_ (a_ tr tr) (a_ (a_ tr tr) tr))) tr)))) tr) (by kernel_rfl) rfl
        · skip
          obtain ⟨gL0_5, h⟩ := guard_some h
          rcases itb_some h with ⟨cL0_6, h⟩ | ⟨cL0_6, h⟩
          · skip
            exact run_to mixed hμ (L := []) (n := 38) (s := [.go, .reg [(0, { v := some (.bool true) })], .reg [], .reg [(3, { v := some (.bool true) }), (6, { v := some (.bool false) })], .reg [], .reg [(1, { v := some (.bool true) })], .reg []])
              (a_ (a_ (a_ tr (a_ (leB cL0_1) tr)) tr) (a_ (a_ (a_ tr tr) (a_ (a_ (a_ (Eq.refl 1) gL0_2) tr) (a_ (a_ (lt_ 0 1 rfl) tr) (a_ (a_ tr tr) (a_ (a_ tr tr) tr))))) (a_ (a_ (a_ tr tr) (a_ (a_ tr tr) (a_ (a_ tr tr) (a_ (a_ tr (a_ (leB cL0_3) tr)) (a_ (a_ tr tr) (a_ (a_ tr tr) (a_ (a_ tr (a_ (leB cL0_4) tr)) tr))))))) (a_ (a_ (a_ tr tr) (a_ (a_ tr tr) (a_ (a_ tr tr) (a_ (a_ tr tr) (a_ (a_ tr tr) (a_ (a_ tr tr) (a_ (a_ gL0_5 tr) (a_ (a_ tr tr) (a_ (a_ tr tr) tr))))))))) (a_ (a_ (a_ tr tr) (a_ (a_ tr (a_ (leB cL0_6) tr)) tr)) (a_ (a_ (a_ tr tr) (a_ (a_ tr tr) tr)) tr)))))) (ih _ _ r h) (by kernel_rfl) trivial
          · skip
            rcases itb_some h with ⟨cL0_7, h⟩ | ⟨cL0_7, h⟩
            · skip
              rcases itb_some h with ⟨cL0_8, h⟩ | ⟨cL0_8, h⟩
              · skip
                obtain rfl := Option.some.inj h
                exact run_ret mixed (L := []) (n := 44) (s := [.go, .reg [(0, { v := some (.bool true) })], .reg [], .reg [(3, { v := some (.bool true) }), (6, { v := some (.bool false) })], .reg [], .reg [(1, { v := some (.bool false) })], .reg [(2, { v := some (.bool true) }), (5, { v := some (.bool true) })], .reg []])
                  (a_ (a_ (a_ (a_ tr (a_ (leB cL0_1) tr)) tr) (a_ (a_ (a_ tr tr) (a_ (a_ (a_ (Eq.refl 1) gL0_2) tr) (a_ (a_ (lt_ 0 1 rfl) tr) (a_ (a_ tr tr) (a_ (a_ tr tr) tr))))) (a_ (a_ (a_ tr tr) (a_ (a_ tr tr) (a_ (a_ tr tr) (a_ (a_ tr (a_ (leB cL0_3) tr)) (a_ (a_ tr tr) (a_ (a_ tr tr) (a_ (a_ tr (a_ (leB cL0_4) tr)) tr))))))) (a_ (a_ (a_ tr tr) (a_ (a_ tr tr) (a_ (a_ tr tr) (a_ (a_ tr tr) (a_ (a_ tr tr) (a_ (a_ tr tr) (a_ (a_ gL0_5 tr) (a_ (a_ tr tr) (a_ (a_ tr tr) tr))))))))) (a_ (a_ (a_ tr tr) (a_ (a_ tr (a_ (leB cL0_6) tr)) tr)) (a_ (a_ (a_ tr tr) (a_ (a_ tr tr) (a_ (a_ tr (a_ (leB cL0_7) tr)) (a_ (a_ tr tr) (a_ (a_ tr tr) (a_ (a_ tr (a_ (leB cL0_8) tr)) tr)))))) (a_ (a_ (a_ tr tr) (a_ (a_ tr tr) (a_ (a_ tr tr) tr))) tr))))))) tr) (by kernel_rfl) rfl
              · skip
                obtain rfl := Option.some.inj h
                exact run_ret mixed (L := []) (n := 45) (s := [.go, .reg [(0, { v := some (.bool true) })], .reg [], .reg [(3, { v := some (.bool true) }), (6, { v := some (.bool false) })], .reg [], .reg [(1, { v := some (.bool false) })], .reg [(2, { v := some (.bool true) }), (5, { v := some (.bool false) })], .reg []])
                  (a_ (a_ (a_ (a_ tr (a_ (leB cL0_1) tr)) tr) (a_ (a_ (a_ tr tr) (a_ (a_ (a_ (Eq.refl 1) gL0_2) tr) (a_ (a_ (lt_ 0 1 rfl) tr) (a_ (a_ tr tr) (a_ (a_ tr tr) tr))))) (a_ (a_ (a_ tr tr) (a_ (a_ tr tr) (a_ (a_ tr tr) (a_ (a_ tr (a_ (leB cL0_3) tr)) (a_ (a_ tr tr) (a_ (a_ tr tr) (a_ (a_ tr (a_ (leB cL0_4) tr)) tr))))))) (a_ (a_ (a_ tr tr) (a_ (a_ tr tr) (a_ (a_ tr tr) (a_ (a_ tr tr) (a_ (a_ tr tr) (a_ (a_ tr tr) (a_ (a_ gL0_5 tr) (a_ (a_ tr tr) (a_ (a_ tr tr) tr))))))))) (a_ (a_ (a_ tr tr) (a_ (a_ tr (a_ (leB cL0_6) tr)) tr)) (a_ (a_ (a_ tr tr) (a_ (a_ tr tr) (a_ (a_ tr (a_ (leB cL0_7) tr)) (a_ (a_ tr tr) (a_ (a_ tr tr) (a_ (a_ tr (a_ (leB cL0_8) tr)) tr)))))) (a_ (a_ (a_ tr tr) (a_ (a_ tr tr) (a_ (a_ tr tr) (a_ (a_ tr tr) (a_ (a_ tr tr) (a_ (a_ tr tr) tr)))))) tr))))))) tr) (by kernel_rfl) rfl
            · skip
              obtain rfl := Option.some.inj h
              exact run_ret mixed (L := []) (n := 45) (s := [.go, .reg [(0, { v := some (.bool true) })], .reg [], .reg [(3, { v := some (.bool true) }), (6, { v := some (.bool false) })], .reg [], .reg [(1, { v := some (.bool false) })], .reg [(2, { v := some (.bool false) })], .reg []])
                (a_ (a_ (a_ (a_ tr (a_ (leB cL0_1) tr)) tr) (a_ (a_ (a_ tr tr) (a_ (a_ (a_ (Eq.refl 1) gL0_2) tr) (a_ (a_ (lt_ 0 1 rfl) tr) (a_ (a_ tr tr) (a_ (a_ tr tr) tr))))) (a_ (a_ (a_ tr tr) (a_ (a_ tr tr) (a_ (a_ tr tr) (a_ (a_ tr (a_ (leB cL0_3) tr)) (a_ (a_ tr tr) (a_ (a_ tr tr) (a_ (a_ tr (a_ (leB cL0_4) tr)) tr))))))) (a_ (a_ (a_ tr tr) (a_ (a_ tr tr) (a_ (a_ tr tr) (a_ (a_ tr tr) (a_ (a_ tr tr) (a_ (a_ tr tr) (a_ (a_ gL0_5 tr) (a_ (a_ tr tr) (a_ (a_ tr tr) tr))))))))) (a_ (a_ (a_ tr tr) (a_ (a_ tr (a_ (leB cL0_6) tr)) tr)) (a_ (a_ (a_ tr tr) (a_ (a_ tr tr) (a_ (a_ tr (a_ (leB cL0_7) tr)) (a_ tr (a_ tr (a_ (a_ tr tr) tr)))))) (a_ (a_ (a_ tr tr) (a_ (a_ tr tr) (a_ (a_ tr tr) (a_ (a_ tr tr) (a_ (a_ tr tr) (a_ (a_ tr tr) tr)))))) tr))))))) tr) (by kernel_rfl) rfl
      · skip
        obtain ⟨gL0_4, h⟩ := guard_some h
        rcases itb_some h with ⟨cL0_5, h⟩ | ⟨cL0_5, h⟩
        · skip
          exact run_to mixed hμ (L := []) (n := 38) (s := [.go, .reg [(0, { v := some (.bool true) })], .reg [], .reg [(3, { v := some (.bool false) })], .reg [], .reg [(1, { v := some (.bool true) })], .reg []])
            (a_ (a_ (a_ tr (a_ (leB cL0_1) tr)) tr) (a_ (a_ (a_ tr tr) (a_ (a_ (a_ (Eq.refl 1) gL0_2) tr) (a_ (a_ (lt_ 0 1 rfl) tr) (a_ (a_ tr tr) (a_ (a_ tr tr) tr))))) (a_ (a_ (a_ tr tr) (a_ (a_ tr tr) (a_ (a_ tr tr) (a_ (a_ tr (a_ (leB cL0_3) tr)) (a_ tr (a_ tr (a_ (a_ tr tr) tr))))))) (a_ (a_ (a_ tr tr) (a_ (a_ tr tr) (a_ (a_ tr tr) (a_ (a_ tr tr) (a_ (a_ tr tr) (a_ (a_ tr tr) (a_ (a_ gL0_4 tr) (a_ (a_ tr tr) (a_ (a_ tr tr) tr))))))))) (a_ (a_ (a_ tr tr) (a_ (a_ tr (a_ (leB cL0_5) tr)) tr)) (a_ (a_ (a_ tr tr) (a_ (a_ tr tr) tr)) tr)))))) (ih _ _ r h) (by kernel_rfl) trivial
        · skip
          rcases itb_some h with ⟨cL0_6, h⟩ | ⟨cL0_6, h⟩
          · skip
            rcases itb_some h with ⟨cL0_7, h⟩ | ⟨cL0_7, h⟩
            · skip
              obtain rfl := Option.some.inj h
              exact run_ret mixed (L := []) (n := 44) (s := [.go, .reg [(0, { v := some (.bool true) })], .reg [], .reg [(3, { v := some (.bool false) })], .reg [], .reg [(1, { v := some (.bool false) })], .reg [(2, { v := some (.bool true) }), (5, { v := some (.bool true) })], .reg []])
                (a_ (a_ (a_ (a_ tr (a_ (leB cL0_1) tr)) tr) (a_ (a_ (a_ tr tr) (a_ (a_ (a_ (Eq.refl 1) gL0_2) tr) (a_ (a_ (lt_ 0 1 rfl) tr) (a_ (a_ tr tr) (a_ (a_ tr tr) tr))))) (a_ (a_ (a_ tr tr) (a_ (a_ tr tr) (a_ (a_ tr tr) (a_ (a_ tr (a_ (leB cL0_3) tr)) (a_ tr (a_ tr (a_ (a_ tr tr) tr))))))) (a_ (a_ (a_ tr tr) (a_ (a_ tr tr) (a_ (a_ tr tr) (a_ (a_ tr tr) (a_ (a_ tr tr) (a_ (a_ tr tr) (a_ (a_ gL0_4 tr) (a_ (a_ tr tr) (a_ (a_ tr tr) tr))))))))) (a_ (a_ (a_ tr tr) (a_ (a_ tr (a_ (leB cL0_5) tr)) tr)) (a_ (a_ (a_ tr tr) (a_ (a_ tr tr) (a_ (a_ tr (a_ (leB cL0_6) tr)) (a_ (a_ tr tr) (a_ (a_ tr tr) (a_ (a_ tr (a_ (leB cL0_7) tr)) tr)))))) (a_ (a_ (a_ tr tr) (a_ (a_ tr tr) (a_ (a_ tr tr) tr))) tr))))))) tr) (by kernel_rfl) rfl
            · skip
              obtain rfl := Option.some.inj h
              exact run_ret mixed (L := []) (n := 45) (s := [.go, .reg [(0, { v := some (.bool true) })], .reg [], .reg [(3, { v := some (.bool false) })], .reg [], .reg [(1, { v := some (.bool false) })], .reg [(2, { v := some (.bool true) }), (5, { v := some (.bool false) })], .reg []])
                (a_ (a_ (a_ (a_ tr (a_ (leB cL0_1) tr)) tr) (a_ (a_ (a_ tr tr) (a_ (a_ (a_ (Eq.refl 1) gL0_2) tr) (a_ (a_ (lt_ 0 1 rfl) tr) (a_ (a_ tr tr) (a_ (a_ tr tr) tr))))) (a_ (a_ (a_ tr tr) (a_ (a_ tr tr) (a_ (a_ tr tr) (a_ (a_ tr (a_ (leB cL0_3) tr)) (a_ tr (a_ tr (a_ (a_ tr tr) tr))))))) (a_ (a_ (a_ tr tr) (a_ (a_ tr tr) (a_ (a_ tr tr) (a_ (a_ tr tr) (a_ (a_ tr tr) (a_ (a_ tr tr) (a_ (a_ gL0_4 tr) (a_ (a_ tr tr) (a_ (a_ tr tr) tr))))))))) (a_ (a_ (a_ tr tr) (a_ (a_ tr (a_ (leB cL0_5) tr)) tr)) (a_ (a_ (a_ tr tr) (a_ (a_ tr tr) (a_ (a_ tr (a_ (leB cL0_6) tr)) (a_ (a_ tr tr) (a_ (a_ tr tr) (a_ (a_ tr (a_ (leB cL0_7) tr)) tr)))))) (a_ (a_ (a_ tr tr) (a_ (a_ tr tr) (a_ (a_ tr tr) (a_ (a_ tr tr) (a_ (a_ tr tr) (a_ (a_ tr tr) tr)))))) tr))))))) tr) (by kernel_rfl) rfl
          · skip
            obtain rfl := Option.some.inj h
            exact run_ret mixed (L := []) (n := 45) (s := [.go, .reg [(0, { v := some (.bool true) })], .reg [], .reg [(3, { v := some (.bool false) })], .reg [], .reg [(1, { v := some (.bool false) })], .reg [(2, { v := some (.bool false) })], .reg []])
              (a_ (a_ (a_ (a_ tr (a_ (leB cL0_1) tr)) tr) (a_ (a_ (a_ tr tr) (a_ (a_ (a_ (Eq.refl 1) gL0_2) tr) (a_ (a_ (lt_ 0 1 rfl) tr) (a_ (a_ tr tr) (a_ (a_ tr tr) tr))))) (a_ (a_ (a_ tr tr) (a_ (a_ tr tr) (a_ (a_ tr tr) (a_ (a_ tr (a_ (leB cL0_3) tr)) (a_ tr (a_ tr (a_ (a_ tr tr) tr))))))) (a_ (a_ (a_ tr tr) (a_ (a_ tr tr) (a_ (a_ tr tr) (a_ (a_ tr tr) (a_ (a_ tr tr) (a_ (a_ tr tr) (a_ (a_ gL0_4 tr) (a_ (a_ tr tr) (a_ (a_ tr tr) tr))))))))) (a_ (a_ (a_ tr tr) (a_ (a_ tr (a_ (leB cL0_5) tr)) tr)) (a_ (a_ (a_ tr tr) (a_ (a_ tr tr) (a_ (a_ tr (a_ (leB cL0_6) tr)) (a_ tr (a_ tr (a_ (a_ tr tr) tr)))))) (a_ (a_ (a_ tr tr) (a_ (a_ tr tr) (a_ (a_ tr tr) (a_ (a_ tr tr) (a_ (a_ tr tr) (a_ (a_ tr tr) tr)))))) tr))))))) tr) (by kernel_rfl) rfl
    · skip
      obtain rfl := Option.some.inj h
      exact run_ret mixed (L := []) (n := 19) (s := [.go, .reg [(0, { v := some (.bool false) })], .reg []])
        (a_ (a_ (a_ (a_ tr (a_ (leB cL0_1) tr)) tr) (a_ (a_ (a_ tr tr) (a_ (a_ tr tr) (a_ (a_ tr tr) tr))) tr)) tr) (by kernel_rfl) rfl

theorem bits_Long_ok (b : List (Int)) (r : (Int) × (Int) × (Int)) (h : bits_Long b = some r) : ∀ σ, Inj 0 σ → FnTri Try.prog 82 (renL σ [.ds 1 (b).length (rowF (cInt .u8) default b)]) (preOf σ 0 []) ((bits_Long_v r).ren σ) (upOf σ []) := by
  refine fn_of Try.func82 (by kernel_rfl) (by kernel_rfl) (by kernel_rfl) trivial (by kernel_rfl) trivial (by kernel_rfl) ?_
  intro w0 W μ0 hμ
  unfold bits_Long at h
  exact run_to mixed hμ (L := []) (n := 21) (s := [.reg [], .reg [], .reg []])
    (a_ (a_ (a_ tr tr) (a_ (a_ tr tr) (a_ (a_ tr tr) tr))) (a_ (a_ (a_ tr tr) tr) (a_ (a_ (a_ tr tr) (a_ (a_ tr tr) (a_ (a_ tr tr) tr))) tr))) (bits_Long_l0_ok hμ b  big _ _ r h) (by kernel_rfl) trivial

theorem bits_Long_tri (b : List (Int)) (r : (Int) × (Int) × (Int)) (h : bits_Long b = some r) : FnTri Try.prog 82 [.ds 1 (b).length (rowF (cInt .u8) default b)] [] (bits_Long_v r) [] := FnTri.none (bits_Long_ok b r h) rfl rfl

/-- (parrel/code.limit).read -/

def code_limit_read_v (r : (Int) × (Int) × (Int)) : LV := .tup [.int .u64 r.1, .int .i64 r.2.1, .int .i64 r.2.2]

def code_limit_read (l : Int) (b : List (Int)) : Option ((Int) × (Int) × (Int)) :=
  (bits_Long b).bind fun y2 =>
  if ((y2.2.2 == 0) : Bool) then
    if ((decide (l < y2.1)) : Bool) then
      some (y2.1, y2.2.1, 5)
    else
      some (y2.1, y2.2.1, y2.2.2)
  else
    some (y2.1, y2.2.1, y2.2.2)

theorem code_limit_read_ok (l : Int) (b : List (Int)) (r : (Int) × (Int) × (Int)) (h : code_limit_read l b = some r) : ∀ σ, Inj 0 σ → FnTri Try.prog 75 (renL σ [.int .u64 l, .ds 1 (b).length (rowF (cInt .u8) default b)]) (preOf σ 0 []) ((code_limit_read_v r).ren σ) (upOf σ []) := by
  refine fn_of Try.func75 (by kernel_rfl) (by kernel_rfl) (by kernel_rfl) trivial (by kernel_rfl) trivial (by kernel_rfl) ?_
  intro w0 W μ0 hμ
  unfold code_limit_read at h
  obtain ⟨y2, e1, h⟩ := bind_some h
  rcases itb_some h with ⟨c3, h⟩ | ⟨c3, h⟩
  · skip
    rcases itb_some h with ⟨c4, h⟩ | ⟨c4, h⟩
    · skip
      obtain rfl := Option.some.inj h
      exact run_ret mixed (L := []) (n := 25) (s := [.reg [], .reg [(1, { call := some (bits_Long_v y2, [], []) })], .reg [(2, { v := some (.bool true) }), (6, { v := some (.bool true) })], .reg [], .reg []])
        (a_ (a_ (a_ (a_ tr tr) (a_ (a_ tr tr) (a_ (a_ tr tr) tr))) (a_ (a_ (a_ tr tr) (a_ (a_ (a_ (bits_Long_tri b y2 e1) tr) tr) (a_ (a_ tr tr) (a_ (a_ tr tr) (a_ (a_ tr tr) (a_ (a_ tr tr) (a_ (a_ tr tr) (a_ (a_ tr tr) (a_ (a_ tr tr) tr))))))))) (a_ (a_ (a_ tr tr) (a_ (a_ tr tr) (a_ (a_ tr (a_ (leB c3) tr)) (a_ (a_ tr tr) (a_ (a_ tr tr) (a_ (a_ tr tr) (a_ (a_ tr (a_ (leB c4) tr)) tr))))))) (a_ (a_ (a_ tr tr) tr) (a_ (a_ (a_ tr tr) (a_ (a_ tr tr) (a_ (a_ tr tr) (a_ (a_ tr tr) (a_ (a_ tr tr) (a_ (a_ tr tr) tr)))))) tr))))) tr) (by kernel_rfl) rfl
    · skip
      obtain rfl := Option.some.inj h
      exact run_ret mixed (L := []) (n := 24) (s := [.reg [], .reg [(1, { call := some (bits_Long_v y2, [], []) })], .reg [(2, { v := some (.bool true) }), (6, { v := some (.bool false) })], .reg []])
        (a_ (a_ (a_ (a_ tr tr) (a_ (a_ tr tr) (a_ (a_ tr tr) tr))) (a_ (a_ (a_ tr tr) (a_ (a_ (a_ (bits_Long_tri b y2 e1) tr) tr) (a_ (a_ tr tr) (a_ (a_ tr tr) (a_ (a_ tr tr) (a_ (a_ tr tr) (a_ (a_ tr tr) (a_ (a_ tr tr) (a_ (a_ tr tr) tr))))))))) (a_ (a_ (a_ tr tr) (a_ (a_ tr tr) (a_ (a_ tr (a_ (leB c3) tr)) (a_ (a_ tr tr) (a_ (a_ tr tr) (a_ (a_ tr tr) (a_ (a_ tr (a_ (leB c4) tr)) tr))))))) (a_ (a_ (a_ tr tr) (a_ (a_ tr tr) (a_ (a_ tr tr) (a_ (a_ tr tr) (a_ (a_ tr tr) (a_ (a_ tr tr) tr)))))) tr)))) tr) (by kernel_rfl) rfl
  · skip
    obtain rfl := Option.some.inj h
    exact run_ret mixed (L := []) (n := 24) (s := [.reg [], .reg [(1, { call := some (bits_Long_v y2, [], []) })], .reg [(2, { v := some (.bool false) })], .reg []])
      (a_ (a_ (a_ (a_ tr tr) (a_ (a_ tr tr) (a_ (a_ tr tr) tr))) (a_ (a_ (a_ tr tr) (a_ (a_ (a_ (bits_Long_tri b y2 e1) tr) tr) (a_ (a_ tr tr) (a_ (a_ tr tr) (a_ (a_ tr tr) (a_ (a_ tr tr) (a_ (a_ tr tr) (a_ (a_ tr tr) (a_ (a_ tr tr) tr))))))))) (a_ (a_ (a_ tr tr) (a_ (a_ tr tr) (a_ (a_ tr (a_ (leB c3) tr)) (a_ tr (a_ tr (a_ tr (a_ (a_ tr tr) tr))))))) (a_ (a_ (a_ tr tr) (a_ (a_ tr tr) (a_ (a_ tr tr) (a_ (a_ tr tr) (a_ (a_ tr tr) (a_ (a_ tr tr) tr)))))) tr)))) tr) (by kernel_rfl) rfl

theorem code_limit_read_tri (l : Int) (b : List (Int)) (r : (Int) × (Int) × (Int)) (h : code_limit_read l b = some r) : FnTri Try.prog 75 [.int .u64 l, .ds 1 (b).length (rowF (cInt .u8) default b)] [] (code_limit_read_v r) [] := FnTri.none (code_limit_read_ok l b r h) rfl rfl

/-- parrel/code.field[uint64] -/

def code_field_uint64_v (r : (Int) × (List (Int)) × (Int) × (T_api_Fault)) : LV := .int .u64 r.1

def code_field_uint64_up (x_r : T_code_Reader) (c : Int) (r : (Int) × (List (Int)) × (Int) × (T_api_Fault)) : Upd := [(0, some (.var (c_T_code_Reader (T_code_Reader.mk r.2.1 r.2.2.1 r.2.2.2))))]

def code_field_uint64_objs (x_r : T_code_Reader) (c : Int) : List LO := [.var (c_T_code_Reader x_r)]

def code_field_uint64 (x_r : T_code_Reader) (c : Int) : Option ((Int) × (List (Int)) × (Int) × (T_api_Fault)) :=
  if ((!decide (x_r.f_fault = (T_api_Fault.mk 0 0))) : Bool) then
    some (0, x_r.f_b, x_r.f_at, x_r.f_fault)
  else
    if 0 ≤ x_r.f_at ∧ x_r.f_at ≤ (((x_r.f_b).length : Nat) : Int) ∧ (((x_r.f_b).length : Nat) : Int) ≤ (((x_r.f_b).length : Nat) : Int) then
    (code_limit_read c (x_r.f_b.drop (x_r.f_at).toNat)).bind fun y4 =>
    if ((y4.2.2 != 0) : Bool) then
      some (0, x_r.f_b, x_r.f_at, (T_api_Fault.mk y4.2.2 x_r.f_at))
    else
      some (y4.1, x_r.f_b, (IntKind.wrap .i64 (x_r.f_at + y4.2.1)), x_r.f_fault)
    else none

theorem code_field_uint64_ok (x_r : T_code_Reader) (c : Int) (r : (Int) × (List (Int)) × (Int) × (T_api_Fault)) (h : code_field_uint64 x_r c = some r) : ∀ σ, Inj 1 σ → FnTri Try.prog 74 (renL σ [.ptr 0 0 0, .fn 75 [.int .u64 c] []]) (preOf σ 0 (code_field_uint64_objs x_r c)) ((code_field_uint64_v r).ren σ) (upOf σ (code_field_uint64_up x_r c r)) := by
  refine fn_of Try.func74 (by kernel_rfl) (by kernel_rfl) (by kernel_rfl) ⟨rfl, trivial⟩ (by kernel_rfl) ⟨rfl, trivial⟩ (by kernel_rfl) ?_
  intro w0 W μ0 hμ
  unfold code_field_uint64 at h
  rcases itb_some h with ⟨c1, h⟩ | ⟨c1, h⟩
  · skip
    obtain rfl := Option.some.inj h
    exact run_ret mixed (L := []) (n := 23) (s := [.reg [], .reg [], .reg [(8, { v := some (.bool (!decide (x_r.f_fault = (T_api_Fault.mk 0 0)))) }), (9, { v := some (.bool true) })], .reg []])
      (a_ (a_ (a_ (a_ tr tr) tr) (a_ (a_ (a_ tr tr) tr) (a_ (a_ (a_ tr tr) (a_ (a_ tr tr) (a_ (a_ tr tr) (a_ (a_ tr tr) (a_ (a_ tr tr) (a_ (a_ tr tr) (a_ (a_ (a_ tr (le_ 4 4 rfl)) tr) (a_ (a_ (Eq.refl true) tr) (a_ (a_ tr (a_ (leB (congrArg not (k_T_api_Fault x_r.f_fault (T_api_Fault.mk 0 0)))) tr)) (a_ (a_ tr (a_ (leB c1) tr)) tr)))))))))) (a_ (a_ (a_ tr tr) (a_ (a_ tr tr) tr)) tr)))) tr) (by kernel_rfl) rfl
  · skip
    obtain ⟨g2, h⟩ := guard_some h
    obtain ⟨y4, e3, h⟩ := bind_some h
    rcases itb_some h with ⟨c5, h⟩ | ⟨c5, h⟩
    · skip
      obtain rfl := Option.some.inj h
      exact run_ret mixed (L := []) (n := 35) (s := [.reg [], .reg [], .reg [(8, { v := some (.bool (!decide (x_r.f_fault = (T_api_Fault.mk 0 0)))) }), (9, { v := some (.bool false) })], .reg [(9, { v := some (.ds 1 ((x_r.f_b.drop (x_r.f_at).toNat)).length (rowF (cInt .u8) default (x_r.f_b.drop (x_r.f_at).toNat))) }), (10, { call := some (code_limit_read_v y4, [], []) })], .reg [(1, { v := some (.bool true) })], .reg [], .reg []])
        (a_ (a_ (a_ (a_ tr tr) tr) (a_ (a_ (a_ tr tr) tr) (a_ (a_ (a_ tr tr) (a_ (a_ tr tr) (a_ (a_ tr tr) (a_ (a_ tr tr) (a_ (a_ tr tr) (a_ (a_ tr tr) (a_ (a_ (a_ tr (le_ 4 4 rfl)) tr) (a_ (a_ (Eq.refl true) tr) (a_ (a_ tr (a_ (leB (congrArg not (k_T_api_Fault x_r.f_fault (T_api_Fault.mk 0 0)))) tr)) (a_ (a_ tr (a_ (leB c1) tr)) tr)))))))))) (a_ (a_ (a_ tr tr) (a_ (a_ tr tr) (a_ (a_ tr tr) (a_ (a_ tr tr) (a_ (a_ (a_ tr (lt_ 0 4 rfl)) tr) (a_ (a_ tr tr) (a_ (a_ tr tr) (a_ (a_ tr tr) (a_ (a_ (a_ tr (lt_ 1 4 rfl)) tr) (a_ (a_ (a_ (Eq.refl 1) g2) (a_ (le_drop (cInt .u8) default 1 x_r.f_b (x_r.f_at).toNat (toN_le g2.2.1)) tr)) (a_ (a_ (a_ (code_limit_read_tri c (x_r.f_b.drop (x_r.f_at).toNat) y4 e3) tr) tr) (a_ (a_ tr tr) (a_ (a_ tr tr) (a_ (a_ tr tr) (a_ (a_ tr tr) (a_ (a_ tr tr) (a_ (a_ tr tr) (a_ (a_ tr tr) tr)))))))))))))))))) (a_ (a_ (a_ tr tr) (a_ (a_ tr (a_ (leB c5) tr)) tr)) (a_ (a_ (a_ tr tr) (a_ (a_ tr tr) (a_ (a_ tr tr) (a_ (a_ tr tr) (a_ (a_ tr tr) (a_ (a_ (a_ tr (lt_ 1 4 rfl)) tr) (a_ (a_ (Eq.refl true) tr) (a_ (a_ tr tr) (a_ (a_ tr tr) (a_ (a_ (a_ (Eq.refl 2) (a_ (le_ 4 4 rfl) (Eq.refl 0))) tr) tr)))))))))) (a_ (a_ (a_ tr tr) (a_ (a_ tr tr) tr)) tr))))))) tr) (by kernel_rfl) rfl
    · skip
      obtain rfl := Option.some.inj h
      exact run_ret mixed (L := []) (n := 36) (s := [.reg [], .reg [], .reg [(8, { v := some (.bool (!decide (x_r.f_fault = (T_api_Fault.mk 0 0)))) }), (9, { v := some (.bool false) })], .reg [(9, { v := some (.ds 1 ((x_r.f_b.drop (x_r.f_at).toNat)).length (rowF (cInt .u8) default (x_r.f_b.drop (x_r.f_at).toNat))) }), (10, { call := some (code_limit_read_v y4, [], []) })], .reg [(1, { v := some (.bool false) })], .reg [], .reg []])
        (a_ (a_ (a_ (a_ tr tr) tr) (a_ (a_ (a_ tr tr) tr) (a_ (a_ (a_ tr tr) (a_ (a_ tr tr) (a_ (a_ tr tr) (a_ (a_ tr tr) (a_ (a_ tr tr) (a_ (a_ tr tr) (a_ (a_ (a_ tr (le_ 4 4 rfl)) tr) (a_ (a_ (Eq.refl true) tr) (a_ (a_ tr (a_ (leB (congrArg not (k_T_api_Fault x_r.f_fault (T_api_Fault.mk 0 0)))) tr)) (a_ (a_ tr (a_ (leB c1) tr)) tr)))))))))) (a_ (a_ (a_ tr tr) (a_ (a_ tr tr) (a_ (a_ tr tr) (a_ (a_ tr tr) (a_ (a_ (a_ tr (lt_ 0 4 rfl)) tr) (a_ (a_ tr tr) (a_ (a_ tr tr) (a_ (a_ tr tr) (a_ (a_ (a_ tr (lt_ 1 4 rfl)) tr) (a_ (a_ (a_ (Eq.refl 1) g2) (a_ (le_drop (cInt .u8) default 1 x_r.f_b (x_r.f_at).toNat (toN_le g2.2.1)) tr)) (a_ (a_ (a_ (code_limit_read_tri c (x_r.f_b.drop (x_r.f_at).toNat) y4 e3) tr) tr) (a_ (a_ tr tr) (a_ (a_ tr tr) (a_ (a_ tr tr) (a_ (a_ tr tr) (a_ (a_ tr tr) (a_ (a_ tr tr) (a_ (a_ tr tr) tr)))))))))))))))))) (a_ (a_ (a_ tr tr) (a_ (a_ tr (a_ (leB c5) tr)) tr)) (a_ (a_ (a_ tr tr) (a_ (a_ tr tr) (a_ (a_ tr tr) (a_ (a_ (a_ tr (lt_ 1 4 rfl)) tr) (a_ (a_ tr tr) (a_ (a_ tr tr) (a_ (a_ tr tr) (a_ (a_ tr tr) (a_ (a_ (a_ (Eq.refl 1) (a_ (le_ 2 4 rfl) (Eq.refl 0))) tr) tr))))))))) (a_ (a_ (a_ tr tr) (a_ (a_ tr tr) tr)) tr))))))) tr) (by kernel_rfl) rfl

/-- (*parrel/code.Reader).Num -/

def code_Reader_Num_v (r : (Int) × (List (Int)) × (Int) × (T_api_Fault)) : LV := .int .u64 r.1

def code_Reader_Num_up (x_r : T_code_Reader) (most : Int) (r : (Int) × (List (Int)) × (Int) × (T_api_Fault)) : Upd := [(0, some (.var (c_T_code_Reader (T_code_Reader.mk r.2.1 r.2.2.1 r.2.2.2))))]

def code_Reader_Num_objs (x_r : T_code_Reader) (most : Int) : List LO := [.var (c_T_code_Reader x_r)]

def code_Reader_Num (x_r : T_code_Reader) (most : Int) : Option ((Int) × (List (Int)) × (Int) × (T_api_Fault)) :=
  (code_field_uint64 x_r most).bind fun y2 =>
  some (y2.1, y2.2.1, y2.2.2.1, y2.2.2.2)

theorem code_Reader_Num_ok (x_r : T_code_Reader) (most : Int) (r : (Int) × (List (Int)) × (Int) × (T_api_Fault)) (h : code_Reader_Num x_r most = some r) : ∀ σ, Inj 1 σ → FnTri Try.prog 66 (renL σ [.ptr 0 0 0, .int .u64 most]) (preOf σ 0 (code_Reader_Num_objs x_r most)) ((code_Reader_Num_v r).ren σ) (upOf σ (code_Reader_Num_up x_r most r)) := by
  refine fn_of Try.func66 (by kernel_rfl) (by kernel_rfl) (by kernel_rfl) ⟨rfl, trivial⟩ (by kernel_rfl) ⟨rfl, trivial⟩ (by kernel_rfl) ?_
  intro w0 W μ0 hμ
  unfold code_Reader_Num at h
  obtain ⟨y2, e1, h⟩ := bind_some h
  obtain rfl := Option.some.inj h
  exact run_ret mixed (L := []) (n := 15) (s := [.reg [], .reg [(3, { call := some ((code_field_uint64_v y2).ren (sel [0]), preOf (sel [0]) 0 (code_field_uint64_objs x_r most), upOf (sel [0]) (code_field_uint64_up x_r most y2)) })]])
    (a_ (a_ (a_ (a_ tr tr) tr) (a_ (a_ (a_ tr tr) (a_ (a_ tr tr) (a_ (a_ tr tr) (a_ (a_ (a_ (code_field_uint64_ok x_r most y2 e1 (sel [0]) (sel_inj rfl rfl)) (a_ (LO.Le.refl (.var (c_T_code_Reader x_r))) tr)) tr) (a_ (a_ tr tr) tr))))) tr)) tr) (by kernel_rfl) rfl

/-- parrel/ids.count -/

def ids_count_v (r : (Int) × (List (Int)) × (Int) × (T_api_Fault)) : LV := .int .u32 r.1

def ids_count_up (x_r : T_code_Reader) (r : (Int) × (List (Int)) × (Int) × (T_api_Fault)) : Upd := [(0, some (.var (c_T_code_Reader (T_code_Reader.mk r.2.1 r.2.2.1 r.2.2.2))))]

def ids_count_objs (x_r : T_code_Reader) : List LO := [.var (c_T_code_Reader x_r)]

def ids_count (x_r : T_code_Reader) : Option ((Int) × (List (Int)) × (Int) × (T_api_Fault)) :=
  (code_Reader_Num x_r 2147483647).bind fun y2 =>
  some ((IntKind.wrap .u32 y2.1), y2.2.1, y2.2.2.1, y2.2.2.2)

theorem ids_count_ok (x_r : T_code_Reader) (r : (Int) × (List (Int)) × (Int) × (T_api_Fault)) (h : ids_count x_r = some r) : ∀ σ, Inj 1 σ → FnTri Try.prog 51 (renL σ [.ptr 0 0 0]) (preOf σ 0 (ids_count_objs x_r)) ((ids_count_v r).ren σ) (upOf σ (ids_count_up x_r r)) := by
  refine fn_of Try.func51 (by kernel_rfl) (by kernel_rfl) (by kernel_rfl) ⟨rfl, trivial⟩ (by kernel_rfl) ⟨rfl, trivial⟩ (by kernel_rfl) ?_
  intro w0 W μ0 hμ
  unfold ids_count at h
  obtain ⟨y2, e1, h⟩ := bind_some h
  obtain rfl := Option.some.inj h
  exact run_ret mixed (L := []) (n := 15) (s := [.reg [], .reg [(1, { call := some ((code_Reader_Num_v y2).ren (sel [0]), preOf (sel [0]) 0 (code_Reader_Num_objs x_r 2147483647), upOf (sel [0]) (code_Reader_Num_up x_r 2147483647 y2)) })]])
    (a_ (a_ (a_ (a_ tr tr) tr) (a_ (a_ (a_ tr tr) (a_ (a_ (a_ (code_Reader_Num_ok x_r 2147483647 y2 e1 (sel [0]) (sel_inj rfl rfl)) (a_ (LO.Le.refl (.var (c_T_code_Reader x_r))) tr)) tr) (a_ (a_ tr tr) (a_ (a_ tr tr) tr)))) tr)) tr) (by kernel_rfl) rfl

/-- parrel/code.one -/

def code_one_v (r : (Int) × (Int) × (Int)) : LV := .tup [.int .u8 r.1, .int .i64 r.2.1, .int .i64 r.2.2]

def code_one (b : List (Int)) : Option ((Int) × (Int) × (Int)) :=
  if ((((b).length : Int) == 0) : Bool) then
    some (0, 0, 4)
  else
    if 0 ≤ (0 : Int) ∧ (0 : Int) < (((b).length : Nat) : Int) then
    some ((b.getD 0 default), 1, 0)
    else none

theorem code_one_ok (b : List (Int)) (r : (Int) × (Int) × (Int)) (h : code_one b = some r) : ∀ σ, Inj 0 σ → FnTri Try.prog 77 (renL σ [.ds 1 (b).length (rowF (cInt .u8) default b)]) (preOf σ 0 []) ((code_one_v r).ren σ) (upOf σ []) := by
  refine fn_of Try.func77 (by kernel_rfl) (by kernel_rfl) (by kernel_rfl) trivial (by kernel_rfl) trivial (by kernel_rfl) ?_
  intro w0 W μ0 hμ
  unfold code_one at h
  rcases itb_some h with ⟨c1, h⟩ | ⟨c1, h⟩
  · skip
    obtain rfl := Option.some.inj h
    exact run_ret mixed (L := []) (n := 20) (s := [.reg [], .reg [(2, { v := some (.bool true) })], .reg []])
      (a_ (a_ (a_ (a_ tr tr) (a_ (a_ tr tr) (a_ (a_ tr tr) tr))) (a_ (a_ (a_ tr tr) (a_ (a_ tr tr) (a_ (a_ tr (a_ (leB c1) tr)) tr))) (a_ (a_ (a_ tr tr) (a_ (a_ tr tr) (a_ (a_ tr tr) tr))) tr))) tr) (by kernel_rfl) rfl
  · skip
    obtain ⟨g2, h⟩ := guard_some h
    obtain rfl := Option.some.inj h
    exact run_ret mixed (L := []) (n := 21) (s := [.reg [], .reg [(2, { v := some (.bool false) })], .reg []])
      (a_ (a_ (a_ (a_ tr tr) (a_ (a_ tr tr) (a_ (a_ tr tr) tr))) (a_ (a_ (a_ tr tr) (a_ (a_ tr tr) (a_ (a_ tr (a_ (leB c1) tr)) tr))) (a_ (a_ (a_ tr tr) (a_ (a_ (a_ (Eq.refl 1) g2) tr) (a_ (a_ (lt_ 0 1 rfl) tr) (a_ (a_ tr tr) (a_ (a_ tr tr) (a_ (a_ tr tr) tr)))))) tr))) tr) (by kernel_rfl) rfl

theorem code_one_tri (b : List (Int)) (r : (Int) × (Int) × (Int)) (h : code_one b = some r) : FnTri Try.prog 77 [.ds 1 (b).length (rowF (cInt .u8) default b)] [] (code_one_v r) [] := FnTri.none (code_one_ok b r h) rfl rfl

/-- parrel/code.field[byte] -/

def code_field_byte_v (r : (Int) × (List (Int)) × (Int) × (T_api_Fault)) : LV := .int .u8 r.1

def code_field_byte_up (x_r : T_code_Reader) (r : (Int) × (List (Int)) × (Int) × (T_api_Fault)) : Upd := [(0, some (.var (c_T_code_Reader (T_code_Reader.mk r.2.1 r.2.2.1 r.2.2.2))))]

def code_field_byte_objs (x_r : T_code_Reader) : List LO := [.var (c_T_code_Reader x_r)]

def code_field_byte (x_r : T_code_Reader) : Option ((Int) × (List (Int)) × (Int) × (T_api_Fault)) :=
  if ((!decide (x_r.f_fault = (T_api_Fault.mk 0 0))) : Bool) then
    some (0, x_r.f_b, x_r.f_at, x_r.f_fault)
  else
    if 0 ≤ x_r.f_at ∧ x_r.f_at ≤ (((x_r.f_b).length : Nat) : Int) ∧ (((x_r.f_b).length : Nat) : Int) ≤ (((x_r.f_b).length : Nat) : Int) then
    (code_one (x_r.f_b.drop (x_r.f_at).toNat)).bind fun y4 =>
    if ((y4.2.2 != 0) : Bool) then
      some (0, x_r.f_b, x_r.f_at, (T_api_Fault.mk y4.2.2 x_r.f_at))
    else
      some (y4.1, x_r.f_b, (IntKind.wrap .i64 (x_r.f_at + y4.2.1)), x_r.f_fault)
    else none

theorem code_field_byte_ok (x_r : T_code_Reader) (r : (Int) × (List (Int)) × (Int) × (T_api_Fault)) (h : code_field_byte x_r = some r) : ∀ σ, Inj 1 σ → FnTri Try.prog 76 (renL σ [.ptr 0 0 0, .fn 77 [] []]) (preOf σ 0 (code_field_byte_objs x_r)) ((code_field_byte_v r).ren σ) (upOf σ (code_field_byte_up x_r r)) := by
  refine fn_of Try.func76 (by kernel_rfl) (by kernel_rfl) (by kernel_rfl) ⟨rfl, trivial⟩ (by kernel_rfl) ⟨rfl, trivial⟩ (by kernel_rfl) ?_
  intro w0 W μ0 hμ
  unfold code_field_byte at h
  rcases itb_some h with ⟨c1, h⟩ | ⟨c1, h⟩
  · skip
    obtain rfl := Option.some.inj h
    exact run_ret mixed (L := []) (n := 23) (s := [.reg [], .reg [], .reg [(8, { v := some (.bool (!decide (x_r.f_fault = (T_api_Fault.mk 0 0)))) }), (9, { v := some (.bool true) })], .reg []])
      (a_ (a_ (a_ (a_ tr tr) tr) (a_ (a_ (a_ tr tr) tr) (a_ (a_ (a_ tr tr) (a_ (a_ tr tr) (a_ (a_ tr tr) (a_ (a_ tr tr) (a_ (a_ tr tr) (a_ (a_ tr tr) (a_ (a_ (a_ tr (le_ 4 4 rfl)) tr) (a_ (a_ (Eq.refl true) tr) (a_ (a_ tr (a_ (leB (congrArg not (k_T_api_Fault x_r.f_fault (T_api_Fault.mk 0 0)))) tr)) (a_ (a_ tr (a_ (leB c1) tr)) tr)))))))))) (a_ (a_ (a_ tr tr) (a_ (a_ tr tr) tr)) tr)))) tr) (by kernel_rfl) rfl
  · skip
    obtain ⟨g2, h⟩ := guard_some h
    obtain ⟨y4, e3, h⟩ := bind_some h
    rcases itb_some h with ⟨c5, h⟩ | ⟨c5, h⟩
    · skip
      obtain rfl := Option.some.inj h
      exact run_ret mixed (L := []) (n := 35) (s := [.reg [], .reg [], .reg [(8, { v := some (.bool (!decide (x_r.f_fault = (T_api_Fault.mk 0 0)))) }), (9, { v := some (.bool false) })], .reg [(9, { v := some (.ds 1 ((x_r.f_b.drop (x_r.f_at).toNat)).length (rowF (cInt .u8) default (x_r.f_b.drop (x_r.f_at).toNat))) }), (10, { call := some (code_one_v y4, [], []) })], .reg [(1, { v := some (.bool true) })], .reg [], .reg []])
        (a_ (a_ (a_ (a_ tr tr) tr) (a_ (a_ (a_ tr tr) tr) (a_ (a_ (a_ tr tr) (a_ (a_ tr tr) (a_ (a_ tr tr) (a_ (a_ tr tr) (a_ (a_ tr tr) (a_ (a_ tr tr) (a_ (a_ (a_ tr (le_ 4 4 rfl)) tr) (a_ (a_ (Eq.refl true) tr) (a_ (a_ tr (a_ (leB (congrArg not (k_T_api_Fault x_r.f_fault (T_api_Fault.mk 0 0)))) tr)) (a_ (a_ tr (a_ (leB c1) tr)) tr)))))))))) (a_ (a_ (a_ tr tr) (a_ (a_ tr tr) (a_ (a_ tr tr) (a_ (a_ tr tr) (a_ (a_ (a_ tr (lt_ 0 4 rfl)) tr) (a_ (a_ tr tr) (a_ (a_ tr tr) (a_ (a_ tr tr) (a_ (a_ (a_ tr (lt_ 1 4 rfl)) tr) (a_ (a_ (a_ (Eq.refl 1) g2) (a_ (le_drop (cInt .u8) default 1 x_r.f_b (x_r.f_at).toNat (toN_le g2.2.1)) tr)) (a_ (a_ (a_ (code_one_tri (x_r.f_b.drop (x_r.f_at).toNat) y4 e3) tr) tr) (a_ (a_ tr tr) (a_ (a_ tr tr) (a_ (a_ tr tr) (a_ (a_ tr tr) (a_ (a_ tr tr) (a_ (a_ tr tr) (a_ (a_ tr tr) tr)))))))))))))))))) (a_ (a_ (a_ tr tr) (a_ (a_ tr (a_ (leB c5) tr)) tr)) (a_ (a_ (a_ tr tr) (a_ (a_ tr tr) (a_ (a_ tr tr) (a_ (a_ tr tr) (a_ (a_ tr tr) (a_ (a_ (a_ tr (lt_ 1 4 rfl)) tr) (a_ (a_ (Eq.refl true) tr) (a_ (a_ tr tr) (a_ (a_ tr tr) (a_ (a_ (a_ (Eq.refl 2) (a_ (le_ 4 4 rfl) (Eq.refl 0))) tr) tr)))))))))) (a_ (a_ (a_ tr tr) (a_ (a_ tr tr) tr)) tr))))))) tr) (by kernel_rfl) rfl
    · skip
      obtain rfl := Option.some.inj h
      exact run_ret mixed (L := []) (n := 36) (s := [.reg [], .reg [], .reg [(8, { v := some (.bool (!decide (x_r.f_fault = (T_api_Fault.mk 0 0)))) }), (9, { v := some (.bool false) })], .reg [(9, { v := some (.ds 1 ((x_r.f_b.drop (x_r.f_at).toNat)).length (rowF (cInt .u8) default (x_r.f_b.drop (x_r.f_at).toNat))) }), (10, { call := some (code_one_v y4, [], []) })], .reg [(1, { v := some (.bool false) })], .reg [], .reg []])
        (a_ (a_ (a_ (a_ tr tr) tr) (a_ (a_ (a_ tr tr) tr) (a_ (a_ (a_ tr tr) (a_ (a_ tr tr) (a_ (a_ tr tr) (a_ (a_ tr tr) (a_ (a_ tr tr) (a_ (a_ tr tr) (a_ (a_ (a_ tr (le_ 4 4 rfl)) tr) (a_ (a_ (Eq.refl true) tr) (a_ (a_ tr (a_ (leB (congrArg not (k_T_api_Fault x_r.f_fault (T_api_Fault.mk 0 0)))) tr)) (a_ (a_ tr (a_ (leB c1) tr)) tr)))))))))) (a_ (a_ (a_ tr tr) (a_ (a_ tr tr) (a_ (a_ tr tr) (a_ (a_ tr tr) (a_ (a_ (a_ tr (lt_ 0 4 rfl)) tr) (a_ (a_ tr tr) (a_ (a_ tr tr) (a_ (a_ tr tr) (a_ (a_ (a_ tr (lt_ 1 4 rfl)) tr) (a_ (a_ (a_ (Eq.refl 1) g2) (a_ (le_drop (cInt .u8) default 1 x_r.f_b (x_r.f_at).toNat (toN_le g2.2.1)) tr)) (a_ (a_ (a_ (code_one_tri (x_r.f_b.drop (x_r.f_at).toNat) y4 e3) tr) tr) (a_ (a_ tr tr) (a_ (a_ tr tr) (a_ (a_ tr tr) (a_ (a_ tr tr) (a_ (a_ tr tr) (a_ (a_ tr tr) (a_ (a_ tr tr) tr)))))))))))))))))) (a_ (a_ (a_ tr tr) (a_ (a_ tr (a_ (leB c5) tr)) tr)) (a_ (a_ (a_ tr tr) (a_ (a_ tr tr) (a_ (a_ tr tr) (a_ (a_ (a_ tr (lt_ 1 4 rfl)) tr) (a_ (a_ tr tr) (a_ (a_ tr tr) (a_ (a_ tr tr) (a_ (a_ tr tr) (a_ (a_ (a_ (Eq.refl 1) (a_ (le_ 2 4 rfl) (Eq.refl 0))) tr) tr))))))))) (a_ (a_ (a_ tr tr) (a_ (a_ tr tr) tr)) tr))))))) tr) (by kernel_rfl) rfl

/-- (*parrel/code.Reader).Byte -/

def code_Reader_Byte_v (r : (Int) × (List (Int)) × (Int) × (T_api_Fault)) : LV := .int .u8 r.1

def code_Reader_Byte_up (x_r : T_code_Reader) (r : (Int) × (List (Int)) × (Int) × (T_api_Fault)) : Upd := [(0, some (.var (c_T_code_Reader (T_code_Reader.mk r.2.1 r.2.2.1 r.2.2.2))))]

def code_Reader_Byte_objs (x_r : T_code_Reader) : List LO := [.var (c_T_code_Reader x_r)]

def code_Reader_Byte (x_r : T_code_Reader) : Option ((Int) × (List (Int)) × (Int) × (T_api_Fault)) :=
  (code_field_byte x_r).bind fun y2 =>
  some (y2.1, y2.2.1, y2.2.2.1, y2.2.2.2)

theorem code_Reader_Byte_ok (x_r : T_code_Reader) (r : (Int) × (List (Int)) × (Int) × (T_api_Fault)) (h : code_Reader_Byte x_r = some r) : ∀ σ, Inj 1 σ → FnTri Try.prog 67 (renL σ [.ptr 0 0 0]) (preOf σ 0 (code_Reader_Byte_objs x_r)) ((code_Reader_Byte_v r).ren σ) (upOf σ (code_Reader_Byte_up x_r r)) := by
  refine fn_of Try.func67 (by kernel_rfl) (by kernel_rfl) (by kernel_rfl) ⟨rfl, trivial⟩ (by kernel_rfl) ⟨rfl, trivial⟩ (by kernel_rfl) ?_
  intro w0 W μ0 hμ
  unfold code_Reader_Byte at h
  obtain ⟨y2, e1, h⟩ := bind_some h
  obtain rfl := Option.some.inj h
  exact run_ret mixed (L := []) (n := 15) (s := [.reg [], .reg [(1, { call := some ((code_field_byte_v y2).ren (sel [0]), preOf (sel [0]) 0 (code_field_byte_objs x_r), upOf (sel [0]) (code_field_byte_up x_r y2)) })]])
    (a_ (a_ (a_ (a_ tr tr) tr) (a_ (a_ (a_ tr tr) (a_ (a_ (a_ (code_field_byte_ok x_r y2 e1 (sel [0]) (sel_inj rfl rfl)) (a_ (LO.Le.refl (.var (c_T_code_Reader x_r))) tr)) tr) (a_ (a_ tr tr) tr))) tr)) tr) (by kernel_rfl) rfl

/-- (*parrel/code.Reader).Fault -/

def code_Reader_Fault_v (r : (T_api_Fault)) : LV := v_T_api_Fault r

def code_Reader_Fault_up (x_r : T_code_Reader) (r : (T_api_Fault)) : Upd := [(0, some (.var (c_T_code_Reader x_r)))]

def code_Reader_Fault_objs (x_r : T_code_Reader) : List LO := [.var (c_T_code_Reader x_r)]

def code_Reader_Fault (x_r : T_code_Reader) : Option ((T_api_Fault)) :=
  some x_r.f_fault

theorem code_Reader_Fault_ok (x_r : T_code_Reader) (r : (T_api_Fault)) (h : code_Reader_Fault x_r = some r) : ∀ σ, Inj 1 σ → FnTri Try.prog 56 (renL σ [.ptr 0 0 0]) (preOf σ 0 (code_Reader_Fault_objs x_r)) ((code_Reader_Fault_v r).ren σ) (upOf σ (code_Reader_Fault_up x_r r)) := by
  refine fn_of Try.func56 (by kernel_rfl) (by kernel_rfl) (by kernel_rfl) ⟨rfl, trivial⟩ (by kernel_rfl) ⟨rfl, trivial⟩ (by kernel_rfl) ?_
  intro w0 W μ0 hμ
  unfold code_Reader_Fault at h
  obtain rfl := Option.some.inj h
  exact run_ret mixed (L := []) (n := 21) (s := [.reg [], .reg [], .reg []])
    (a_ (a_ (a_ (a_ tr tr) tr) (a_ (a_ (a_ tr tr) (a_ (a_ tr tr) tr)) (a_ (a_ (a_ tr tr) (a_ (a_ tr tr) (a_ (a_ tr tr) (a_ (a_ (a_ tr (le_ 4 4 rfl)) tr) (a_ (a_ (a_ (Eq.refl 2) (a_ (le_ 2 2 rfl) (Eq.refl 0))) tr) tr))))) tr))) (a_ (a_ tr (le_ 2 2 rfl)) tr)) (by kernel_rfl) rfl

/-- parrel/ids.read[parrel/api.Tx] -/

def ids_read_api_Tx_v (r : (T_api_Tx)) : LV := v_T_api_Tx r

def ids_read_api_Tx_up (x_r : T_code_Reader) (v : T_api_Tx) (r : (T_api_Tx)) : Upd := [(0, some (.var (c_T_code_Reader x_r)))]

def ids_read_api_Tx_objs (x_r : T_code_Reader) (v : T_api_Tx) : List LO := [.var (c_T_code_Reader x_r)]

def ids_read_api_Tx (x_r : T_code_Reader) (v : T_api_Tx) : Option ((T_api_Tx)) :=
  (code_Reader_Fault x_r).bind fun y2 =>
  if ((!decide (y2 = (T_api_Fault.mk 0 0))) : Bool) then
    some (T_api_Tx.mk 0 0 0)
  else
    some v

theorem ids_read_api_Tx_ok (x_r : T_code_Reader) (v : T_api_Tx) (r : (T_api_Tx)) (h : ids_read_api_Tx x_r v = some r) : ∀ σ, Inj 1 σ → FnTri Try.prog 68 (renL σ [.ptr 0 0 0, v_T_api_Tx v]) (preOf σ 0 (ids_read_api_Tx_objs x_r v)) ((ids_read_api_Tx_v r).ren σ) (upOf σ (ids_read_api_Tx_up x_r v r)) := by
  refine fn_of Try.func68 (by kernel_rfl) (by kernel_rfl) (by kernel_rfl) ⟨rfl, trivial⟩ (by kernel_rfl) ⟨rfl, trivial⟩ (by kernel_rfl) ?_
  intro w0 W μ0 hμ
  unfold ids_read_api_Tx at h
  obtain ⟨y2, e1, h⟩ := bind_some h
  rcases itb_some h with ⟨c3, h⟩ | ⟨c3, h⟩
  · skip
    obtain rfl := Option.some.inj h
    exact run_ret mixed (L := []) (n := 23) (s := [.reg [], .reg [], .reg [(1, { call := some ((code_Reader_Fault_v y2).ren (sel [0]), preOf (sel [0]) 0 (code_Reader_Fault_objs x_r), upOf (sel [0]) (code_Reader_Fault_up x_r y2)) }), (3, { v := some (.bool true) })], .reg []])
      (a_ (a_ (a_ (a_ tr tr) (a_ (a_ tr tr) tr)) (a_ (a_ (a_ tr tr) tr) (a_ (a_ (a_ tr tr) (a_ (a_ (a_ (code_Reader_Fault_ok x_r y2 e1 (sel [0]) (sel_inj rfl rfl)) (a_ (LO.Le.refl (.var (c_T_code_Reader x_r))) tr)) tr) (a_ (a_ (Eq.refl true) tr) (a_ (a_ tr (a_ (LV.Le.trans (leB (congrArg not (k_T_api_Fault y2 (T_api_Fault.mk 0 0)))) (leB c3)) tr)) tr)))) (a_ (a_ (a_ (a_ tr (le_ 3 3 rfl)) tr) (a_ (a_ (a_ (Eq.refl 3) (a_ (le_ 3 3 rfl) (Eq.refl 0))) tr) tr)) tr)))) (a_ (a_ tr (le_ 3 3 rfl)) tr)) (by kernel_rfl) rfl
  · skip
    obtain rfl := Option.some.inj h
    exact run_ret mixed (L := []) (n := 24) (s := [.reg [], .reg [], .reg [(1, { call := some ((code_Reader_Fault_v y2).ren (sel [0]), preOf (sel [0]) 0 (code_Reader_Fault_objs x_r), upOf (sel [0]) (code_Reader_Fault_up x_r y2)) }), (3, { v := some (.bool false) })], .reg []])
      (a_ (a_ (a_ (a_ tr tr) (a_ (a_ tr tr) tr)) (a_ (a_ (a_ tr tr) tr) (a_ (a_ (a_ tr tr) (a_ (a_ (a_ (code_Reader_Fault_ok x_r y2 e1 (sel [0]) (sel_inj rfl rfl)) (a_ (LO.Le.refl (.var (c_T_code_Reader x_r))) tr)) tr) (a_ (a_ (Eq.refl true) tr) (a_ (a_ tr (a_ (LV.Le.trans (leB (congrArg not (k_T_api_Fault y2 (T_api_Fault.mk 0 0)))) (leB c3)) tr)) tr)))) (a_ (a_ (a_ (a_ tr (le_ 3 3 rfl)) tr) (a_ (a_ (a_ (Eq.refl 3) (a_ (le_ 3 3 rfl) (Eq.refl 0))) tr) tr)) tr)))) (a_ (a_ tr (le_ 3 3 rfl)) tr)) (by kernel_rfl) rfl

/-- parrel/ids.GetTx -/

def ids_GetTx_v (r : (T_api_Tx) × (List (Int)) × (Int) × (T_api_Fault)) : LV := v_T_api_Tx r.1

def ids_GetTx_up (x_r : T_code_Reader) (r : (T_api_Tx) × (List (Int)) × (Int) × (T_api_Fault)) : Upd := [(0, some (.var (c_T_code_Reader (T_code_Reader.mk r.2.1 r.2.2.1 r.2.2.2))))]

def ids_GetTx_objs (x_r : T_code_Reader) : List LO := [.var (c_T_code_Reader x_r)]

def ids_GetTx (x_r : T_code_Reader) : Option ((T_api_Tx) × (List (Int)) × (Int) × (T_api_Fault)) :=
  (code_Reader_Byte x_r).bind fun y2 =>
  (ids_count (T_code_Reader.mk y2.2.1 y2.2.2.1 y2.2.2.2)).bind fun y4 =>
  (ids_count (T_code_Reader.mk y4.2.1 y4.2.2.1 y4.2.2.2)).bind fun y6 =>
  (ids_read_api_Tx (T_code_Reader.mk y6.2.1 y6.2.2.1 y6.2.2.2) (T_api_Tx.mk y2.1 y4.1 y6.1)).bind fun y8 =>
  some (y8, (T_code_Reader.mk y6.2.1 y6.2.2.1 y6.2.2.2).f_b, (T_code_Reader.mk y6.2.1 y6.2.2.1 y6.2.2.2).f_at, (T_code_Reader.mk y6.2.1 y6.2.2.1 y6.2.2.2).f_fault)

theorem ids_GetTx_ok (x_r : T_code_Reader) (r : (T_api_Tx) × (List (Int)) × (Int) × (T_api_Fault)) (h : ids_GetTx x_r = some r) : ∀ σ, Inj 1 σ → FnTri Try.prog 52 (renL σ [.ptr 0 0 0]) (preOf σ 0 (ids_GetTx_objs x_r)) ((ids_GetTx_v r).ren σ) (upOf σ (ids_GetTx_up x_r r)) := by
  refine fn_of Try.func52 (by kernel_rfl) (by kernel_rfl) (by kernel_rfl) ⟨rfl, trivial⟩ (by kernel_rfl) ⟨rfl, trivial⟩ (by kernel_rfl) ?_
  intro w0 W μ0 hμ
  unfold ids_GetTx at h
  obtain ⟨y2, e1, h⟩ := bind_some h
  obtain ⟨y4, e3, h⟩ := bind_some h
  obtain ⟨y6, e5, h⟩ := bind_some h
  obtain ⟨y8, e7, h⟩ := bind_some h
  obtain rfl := Option.some.inj h
  exact run_ret mixed (L := []) (n := 27) (s := [.reg [], .reg [], .reg [(1, { call := some ((code_Reader_Byte_v y2).ren (sel [0]), preOf (sel [0]) 0 (code_Reader_Byte_objs x_r), upOf (sel [0]) (code_Reader_Byte_up x_r y2)) })], .reg [(1, { call := some ((ids_count_v y4).ren (sel [0]), preOf (sel [0]) 0 (ids_count_objs (T_code_Reader.mk y2.2.1 y2.2.2.1 y2.2.2.2)), upOf (sel [0]) (ids_count_up (T_code_Reader.mk y2.2.1 y2.2.2.1 y2.2.2.2) y4)) })], .reg [(1, { call := some ((ids_count_v y6).ren (sel [0]), preOf (sel [0]) 0 (ids_count_objs (T_code_Reader.mk y4.2.1 y4.2.2.1 y4.2.2.2)), upOf (sel [0]) (ids_count_up (T_code_Reader.mk y4.2.1 y4.2.2.1 y4.2.2.2) y6)) })], .reg [(2, { call := some ((ids_read_api_Tx_v y8).ren (sel [0]), preOf (sel [0]) 0 (ids_read_api_Tx_objs (T_code_Reader.mk y6.2.1 y6.2.2.1 y6.2.2.2) (T_api_Tx.mk y2.1 y4.1 y6.1)), upOf (sel [0]) (ids_read_api_Tx_up (T_code_Reader.mk y6.2.1 y6.2.2.1 y6.2.2.2) (T_api_Tx.mk y2.1 y4.1 y6.1) y8)) })]])
    (a_ (a_ (a_ (a_ tr tr) tr) (a_ (a_ (a_ tr tr) tr) (a_ (a_ (a_ tr tr) (a_ (a_ (a_ (code_Reader_Byte_ok x_r y2 e1 (sel [0]) (sel_inj rfl rfl)) (a_ (LO.Le.refl (.var (c_T_code_Reader x_r))) tr)) tr) (a_ (a_ tr tr) (a_ (a_ (a_ (Eq.refl 1) (a_ (le_ 1 3 rfl) (Eq.refl 0))) tr) tr)))) (a_ (a_ (a_ tr tr) (a_ (a_ (a_ (ids_count_ok (T_code_Reader.mk y2.2.1 y2.2.2.1 y2.2.2.2) y4 e3 (sel [0]) (sel_inj rfl rfl)) (a_ (LO.Le.refl (.var (c_T_code_Reader (T_code_Reader.mk y2.2.1 y2.2.2.1 y2.2.2.2)))) tr)) tr) (a_ (a_ tr tr) (a_ (a_ (a_ (Eq.refl 1) (a_ (le_ 2 3 rfl) (Eq.refl 0))) tr) tr)))) (a_ (a_ (a_ tr tr) (a_ (a_ (a_ (ids_count_ok (T_code_Reader.mk y4.2.1 y4.2.2.1 y4.2.2.2) y6 e5 (sel [0]) (sel_inj rfl rfl)) (a_ (LO.Le.refl (.var (c_T_code_Reader (T_code_Reader.mk y4.2.1 y4.2.2.1 y4.2.2.2)))) tr)) tr) (a_ (a_ tr tr) (a_ (a_ (a_ (Eq.refl 1) (a_ (le_ 3 3 rfl) (Eq.refl 0))) tr) tr)))) (a_ (a_ (a_ tr tr) (a_ (a_ (a_ tr (le_ 3 3 rfl)) tr) (a_ (a_ (a_ (ids_read_api_Tx_ok (T_code_Reader.mk y6.2.1 y6.2.2.1 y6.2.2.2) (T_api_Tx.mk y2.1 y4.1 y6.1) y8 e7 (sel [0]) (sel_inj rfl rfl)) (a_ (LO.Le.refl (.var (c_T_code_Reader (T_code_Reader.mk y6.2.1 y6.2.2.1 y6.2.2.2)))) tr)) tr) (a_ (a_ (a_ (Eq.refl 3) (a_ (le_ 3 3 rfl) (Eq.refl 0))) tr) tr)))) tr)))))) (a_ (a_ tr (le_ 3 3 rfl)) tr)) (by kernel_rfl) rfl

/-- parrel/ids.read[parrel/api.Stamp] -/

def ids_read_api_Stamp_v (r : (T_api_Stamp)) : LV := v_T_api_Stamp r

def ids_read_api_Stamp_up (x_r : T_code_Reader) (v : T_api_Stamp) (r : (T_api_Stamp)) : Upd := [(0, some (.var (c_T_code_Reader x_r)))]

def ids_read_api_Stamp_objs (x_r : T_code_Reader) (v : T_api_Stamp) : List LO := [.var (c_T_code_Reader x_r)]

def ids_read_api_Stamp (x_r : T_code_Reader) (v : T_api_Stamp) : Option ((T_api_Stamp)) :=
  (code_Reader_Fault x_r).bind fun y2 =>
  if ((!decide (y2 = (T_api_Fault.mk 0 0))) : Bool) then
    some (T_api_Stamp.mk 0 (T_api_Tx.mk 0 0 0))
  else
    some v

theorem ids_read_api_Stamp_ok (x_r : T_code_Reader) (v : T_api_Stamp) (r : (T_api_Stamp)) (h : ids_read_api_Stamp x_r v = some r) : ∀ σ, Inj 1 σ → FnTri Try.prog 53 (renL σ [.ptr 0 0 0, v_T_api_Stamp v]) (preOf σ 0 (ids_read_api_Stamp_objs x_r v)) ((ids_read_api_Stamp_v r).ren σ) (upOf σ (ids_read_api_Stamp_up x_r v r)) := by
  refine fn_of Try.func53 (by kernel_rfl) (by kernel_rfl) (by kernel_rfl) ⟨rfl, trivial⟩ (by kernel_rfl) ⟨rfl, trivial⟩ (by kernel_rfl) ?_
  intro w0 W μ0 hμ
  unfold ids_read_api_Stamp at h
  obtain ⟨y2, e1, h⟩ := bind_some h
  rcases itb_some h with ⟨c3, h⟩ | ⟨c3, h⟩
  · skip
    obtain rfl := Option.some.inj h
    exact run_ret mixed (L := []) (n := 23) (s := [.reg [], .reg [], .reg [(1, { call := some ((code_Reader_Fault_v y2).ren (sel [0]), preOf (sel [0]) 0 (code_Reader_Fault_objs x_r), upOf (sel [0]) (code_Reader_Fault_up x_r y2)) }), (3, { v := some (.bool true) })], .reg []])
      (a_ (a_ (a_ (a_ tr tr) (a_ (a_ tr tr) tr)) (a_ (a_ (a_ tr tr) tr) (a_ (a_ (a_ tr tr) (a_ (a_ (a_ (code_Reader_Fault_ok x_r y2 e1 (sel [0]) (sel_inj rfl rfl)) (a_ (LO.Le.refl (.var (c_T_code_Reader x_r))) tr)) tr) (a_ (a_ (Eq.refl true) tr) (a_ (a_ tr (a_ (LV.Le.trans (leB (congrArg not (k_T_api_Fault y2 (T_api_Fault.mk 0 0)))) (leB c3)) tr)) tr)))) (a_ (a_ (a_ (a_ tr (le_ 4 4 rfl)) tr) (a_ (a_ (a_ (Eq.refl 4) (a_ (le_ 4 4 rfl) (Eq.refl 0))) tr) tr)) tr)))) (a_ (a_ tr (le_ 4 4 rfl)) tr)) (by kernel_rfl) rfl
  · skip
    obtain rfl := Option.some.inj h
    exact run_ret mixed (L := []) (n := 24) (s := [.reg [], .reg [], .reg [(1, { call := some ((code_Reader_Fault_v y2).ren (sel [0]), preOf (sel [0]) 0 (code_Reader_Fault_objs x_r), upOf (sel [0]) (code_Reader_Fault_up x_r y2)) }), (3, { v := some (.bool false) })], .reg []])
      (a_ (a_ (a_ (a_ tr tr) (a_ (a_ tr tr) tr)) (a_ (a_ (a_ tr tr) tr) (a_ (a_ (a_ tr tr) (a_ (a_ (a_ (code_Reader_Fault_ok x_r y2 e1 (sel [0]) (sel_inj rfl rfl)) (a_ (LO.Le.refl (.var (c_T_code_Reader x_r))) tr)) tr) (a_ (a_ (Eq.refl true) tr) (a_ (a_ tr (a_ (LV.Le.trans (leB (congrArg not (k_T_api_Fault y2 (T_api_Fault.mk 0 0)))) (leB c3)) tr)) tr)))) (a_ (a_ (a_ (a_ tr (le_ 4 4 rfl)) tr) (a_ (a_ (a_ (Eq.refl 4) (a_ (le_ 4 4 rfl) (Eq.refl 0))) tr) tr)) tr)))) (a_ (a_ tr (le_ 4 4 rfl)) tr)) (by kernel_rfl) rfl

/-- parrel/ids.GetStamp -/

def ids_GetStamp_v (r : (T_api_Stamp) × (List (Int)) × (Int) × (T_api_Fault)) : LV := v_T_api_Stamp r.1

def ids_GetStamp_up (x_r : T_code_Reader) (r : (T_api_Stamp) × (List (Int)) × (Int) × (T_api_Fault)) : Upd := [(0, some (.var (c_T_code_Reader (T_code_Reader.mk r.2.1 r.2.2.1 r.2.2.2))))]

def ids_GetStamp_objs (x_r : T_code_Reader) : List LO := [.var (c_T_code_Reader x_r)]

def ids_GetStamp (x_r : T_code_Reader) : Option ((T_api_Stamp) × (List (Int)) × (Int) × (T_api_Fault)) :=
  (ids_count x_r).bind fun y2 =>
  (ids_GetTx (T_code_Reader.mk y2.2.1 y2.2.2.1 y2.2.2.2)).bind fun y4 =>
  (ids_read_api_Stamp (T_code_Reader.mk y4.2.1 y4.2.2.1 y4.2.2.2) (T_api_Stamp.mk y2.1 y4.1)).bind fun y6 =>
  some (y6, (T_code_Reader.mk y4.2.1 y4.2.2.1 y4.2.2.2).f_b, (T_code_Reader.mk y4.2.1 y4.2.2.1 y4.2.2.2).f_at, (T_code_Reader.mk y4.2.1 y4.2.2.1 y4.2.2.2).f_fault)

theorem ids_GetStamp_ok (x_r : T_code_Reader) (r : (T_api_Stamp) × (List (Int)) × (Int) × (T_api_Fault)) (h : ids_GetStamp x_r = some r) : ∀ σ, Inj 1 σ → FnTri Try.prog 27 (renL σ [.ptr 0 0 0]) (preOf σ 0 (ids_GetStamp_objs x_r)) ((ids_GetStamp_v r).ren σ) (upOf σ (ids_GetStamp_up x_r r)) := by
  refine fn_of Try.func27 (by kernel_rfl) (by kernel_rfl) (by kernel_rfl) ⟨rfl, trivial⟩ (by kernel_rfl) ⟨rfl, trivial⟩ (by kernel_rfl) ?_
  intro w0 W μ0 hμ
  unfold ids_GetStamp at h
  obtain ⟨y2, e1, h⟩ := bind_some h
  obtain ⟨y4, e3, h⟩ := bind_some h
  obtain ⟨y6, e5, h⟩ := bind_some h
  obtain rfl := Option.some.inj h
  exact run_ret mixed (L := []) (n := 24) (s := [.reg [], .reg [], .reg [(1, { call := some ((ids_count_v y2).ren (sel [0]), preOf (sel [0]) 0 (ids_count_objs x_r), upOf (sel [0]) (ids_count_up x_r y2)) })], .reg [(1, { call := some ((ids_GetTx_v y4).ren (sel [0]), preOf (sel [0]) 0 (ids_GetTx_objs (T_code_Reader.mk y2.2.1 y2.2.2.1 y2.2.2.2)), upOf (sel [0]) (ids_GetTx_up (T_code_Reader.mk y2.2.1 y2.2.2.1 y2.2.2.2) y4)) })], .reg [(2, { call := some ((ids_read_api_Stamp_v y6).ren (sel [0]), preOf (sel [0]) 0 (ids_read_api_Stamp_objs (T_code_Reader.mk y4.2.1 y4.2.2.1 y4.2.2.2) (T_api_Stamp.mk y2.1 y4.1)), upOf (sel [0]) (ids_read_api_Stamp_up (T_code_Reader.mk y4.2.1 y4.2.2.1 y4.2.2.2) (T_api_Stamp.mk y2.1 y4.1) y6)) })]])
    (a_ (a_ (a_ (a_ tr tr) tr) (a_ (a_ (a_ tr tr) tr) (a_ (a_ (a_ tr tr) (a_ (a_ (a_ (ids_count_ok x_r y2 e1 (sel [0]) (sel_inj rfl rfl)) (a_ (LO.Le.refl (.var (c_T_code_Reader x_r))) tr)) tr) (a_ (a_ tr tr) (a_ (a_ (a_ (Eq.refl 1) (a_ (le_ 1 4 rfl) (Eq.refl 0))) tr) tr)))) (a_ (a_ (a_ tr tr) (a_ (a_ (a_ (ids_GetTx_ok (T_code_Reader.mk y2.2.1 y2.2.2.1 y2.2.2.2) y4 e3 (sel [0]) (sel_inj rfl rfl)) (a_ (LO.Le.refl (.var (c_T_code_Reader (T_code_Reader.mk y2.2.1 y2.2.2.1 y2.2.2.2)))) tr)) tr) (a_ (a_ tr tr) (a_ (a_ (a_ (Eq.refl 3) (a_ (le_ 4 4 rfl) (Eq.refl 0))) tr) tr)))) (a_ (a_ (a_ tr tr) (a_ (a_ (a_ tr (le_ 4 4 rfl)) tr) (a_ (a_ (a_ (ids_read_api_Stamp_ok (T_code_Reader.mk y4.2.1 y4.2.2.1 y4.2.2.2) (T_api_Stamp.mk y2.1 y4.1) y6 e5 (sel [0]) (sel_inj rfl rfl)) (a_ (LO.Le.refl (.var (c_T_code_Reader (T_code_Reader.mk y4.2.1 y4.2.2.1 y4.2.2.2)))) tr)) tr) (a_ (a_ (a_ (Eq.refl 4) (a_ (le_ 4 4 rfl) (Eq.refl 0))) tr) tr)))) tr))))) (a_ (a_ tr (le_ 4 4 rfl)) tr)) (by kernel_rfl) rfl

/-- parrel/ids.read[parrel/api.Reg] -/

def ids_read_api_Reg_v (r : (T_api_Reg)) : LV := v_T_api_Reg r

def ids_read_api_Reg_up (x_r : T_code_Reader) (v : T_api_Reg) (r : (T_api_Reg)) : Upd := [(0, some (.var (c_T_code_Reader x_r)))]

def ids_read_api_Reg_objs (x_r : T_code_Reader) (v : T_api_Reg) : List LO := [.var (c_T_code_Reader x_r)]

def ids_read_api_Reg (x_r : T_code_Reader) (v : T_api_Reg) : Option ((T_api_Reg)) :=
  (code_Reader_Fault x_r).bind fun y2 =>
  if ((!decide (y2 = (T_api_Fault.mk 0 0))) : Bool) then
    some (T_api_Reg.mk 0 0)
  else
    some v

theorem ids_read_api_Reg_ok (x_r : T_code_Reader) (v : T_api_Reg) (r : (T_api_Reg)) (h : ids_read_api_Reg x_r v = some r) : ∀ σ, Inj 1 σ → FnTri Try.prog 54 (renL σ [.ptr 0 0 0, v_T_api_Reg v]) (preOf σ 0 (ids_read_api_Reg_objs x_r v)) ((ids_read_api_Reg_v r).ren σ) (upOf σ (ids_read_api_Reg_up x_r v r)) := by
  refine fn_of Try.func54 (by kernel_rfl) (by kernel_rfl) (by kernel_rfl) ⟨rfl, trivial⟩ (by kernel_rfl) ⟨rfl, trivial⟩ (by kernel_rfl) ?_
  intro w0 W μ0 hμ
  unfold ids_read_api_Reg at h
  obtain ⟨y2, e1, h⟩ := bind_some h
  rcases itb_some h with ⟨c3, h⟩ | ⟨c3, h⟩
  · skip
    obtain rfl := Option.some.inj h
    exact run_ret mixed (L := []) (n := 23) (s := [.reg [], .reg [], .reg [(1, { call := some ((code_Reader_Fault_v y2).ren (sel [0]), preOf (sel [0]) 0 (code_Reader_Fault_objs x_r), upOf (sel [0]) (code_Reader_Fault_up x_r y2)) }), (3, { v := some (.bool true) })], .reg []])
      (a_ (a_ (a_ (a_ tr tr) (a_ (a_ tr tr) tr)) (a_ (a_ (a_ tr tr) tr) (a_ (a_ (a_ tr tr) (a_ (a_ (a_ (code_Reader_Fault_ok x_r y2 e1 (sel [0]) (sel_inj rfl rfl)) (a_ (LO.Le.refl (.var (c_T_code_Reader x_r))) tr)) tr) (a_ (a_ (Eq.refl true) tr) (a_ (a_ tr (a_ (LV.Le.trans (leB (congrArg not (k_T_api_Fault y2 (T_api_Fault.mk 0 0)))) (leB c3)) tr)) tr)))) (a_ (a_ (a_ (a_ tr (le_ 2 2 rfl)) tr) (a_ (a_ (a_ (Eq.refl 2) (a_ (le_ 2 2 rfl) (Eq.refl 0))) tr) tr)) tr)))) (a_ (a_ tr (le_ 2 2 rfl)) tr)) (by kernel_rfl) rfl
  · skip
    obtain rfl := Option.some.inj h
    exact run_ret mixed (L := []) (n := 24) (s := [.reg [], .reg [], .reg [(1, { call := some ((code_Reader_Fault_v y2).ren (sel [0]), preOf (sel [0]) 0 (code_Reader_Fault_objs x_r), upOf (sel [0]) (code_Reader_Fault_up x_r y2)) }), (3, { v := some (.bool false) })], .reg []])
      (a_ (a_ (a_ (a_ tr tr) (a_ (a_ tr tr) tr)) (a_ (a_ (a_ tr tr) tr) (a_ (a_ (a_ tr tr) (a_ (a_ (a_ (code_Reader_Fault_ok x_r y2 e1 (sel [0]) (sel_inj rfl rfl)) (a_ (LO.Le.refl (.var (c_T_code_Reader x_r))) tr)) tr) (a_ (a_ (Eq.refl true) tr) (a_ (a_ tr (a_ (LV.Le.trans (leB (congrArg not (k_T_api_Fault y2 (T_api_Fault.mk 0 0)))) (leB c3)) tr)) tr)))) (a_ (a_ (a_ (a_ tr (le_ 2 2 rfl)) tr) (a_ (a_ (a_ (Eq.refl 2) (a_ (le_ 2 2 rfl) (Eq.refl 0))) tr) tr)) tr)))) (a_ (a_ tr (le_ 2 2 rfl)) tr)) (by kernel_rfl) rfl

/-- parrel/ids.GetReg -/

def ids_GetReg_v (r : (T_api_Reg) × (List (Int)) × (Int) × (T_api_Fault)) : LV := v_T_api_Reg r.1

def ids_GetReg_up (x_r : T_code_Reader) (r : (T_api_Reg) × (List (Int)) × (Int) × (T_api_Fault)) : Upd := [(0, some (.var (c_T_code_Reader (T_code_Reader.mk r.2.1 r.2.2.1 r.2.2.2))))]

def ids_GetReg_objs (x_r : T_code_Reader) : List LO := [.var (c_T_code_Reader x_r)]

def ids_GetReg (x_r : T_code_Reader) : Option ((T_api_Reg) × (List (Int)) × (Int) × (T_api_Fault)) :=
  (ids_count x_r).bind fun y2 =>
  (ids_count (T_code_Reader.mk y2.2.1 y2.2.2.1 y2.2.2.2)).bind fun y4 =>
  (ids_read_api_Reg (T_code_Reader.mk y4.2.1 y4.2.2.1 y4.2.2.2) (T_api_Reg.mk y2.1 y4.1)).bind fun y6 =>
  some (y6, (T_code_Reader.mk y4.2.1 y4.2.2.1 y4.2.2.2).f_b, (T_code_Reader.mk y4.2.1 y4.2.2.1 y4.2.2.2).f_at, (T_code_Reader.mk y4.2.1 y4.2.2.1 y4.2.2.2).f_fault)

theorem ids_GetReg_ok (x_r : T_code_Reader) (r : (T_api_Reg) × (List (Int)) × (Int) × (T_api_Fault)) (h : ids_GetReg x_r = some r) : ∀ σ, Inj 1 σ → FnTri Try.prog 28 (renL σ [.ptr 0 0 0]) (preOf σ 0 (ids_GetReg_objs x_r)) ((ids_GetReg_v r).ren σ) (upOf σ (ids_GetReg_up x_r r)) := by
  refine fn_of Try.func28 (by kernel_rfl) (by kernel_rfl) (by kernel_rfl) ⟨rfl, trivial⟩ (by kernel_rfl) ⟨rfl, trivial⟩ (by kernel_rfl) ?_
  intro w0 W μ0 hμ
  unfold ids_GetReg at h
  obtain ⟨y2, e1, h⟩ := bind_some h
  obtain ⟨y4, e3, h⟩ := bind_some h
  obtain ⟨y6, e5, h⟩ := bind_some h
  obtain rfl := Option.some.inj h
  exact run_ret mixed (L := []) (n := 24) (s := [.reg [], .reg [], .reg [(1, { call := some ((ids_count_v y2).ren (sel [0]), preOf (sel [0]) 0 (ids_count_objs x_r), upOf (sel [0]) (ids_count_up x_r y2)) })], .reg [(1, { call := some ((ids_count_v y4).ren (sel [0]), preOf (sel [0]) 0 (ids_count_objs (T_code_Reader.mk y2.2.1 y2.2.2.1 y2.2.2.2)), upOf (sel [0]) (ids_count_up (T_code_Reader.mk y2.2.1 y2.2.2.1 y2.2.2.2) y4)) })], .reg [(2, { call := some ((ids_read_api_Reg_v y6).ren (sel [0]), preOf (sel [0]) 0 (ids_read_api_Reg_objs (T_code_Reader.mk y4.2.1 y4.2.2.1 y4.2.2.2) (T_api_Reg.mk y2.1 y4.1)), upOf (sel [0]) (ids_read_api_Reg_up (T_code_Reader.mk y4.2.1 y4.2.2.1 y4.2.2.2) (T_api_Reg.mk y2.1 y4.1) y6)) })]])
    (a_ (a_ (a_ (a_ tr tr) tr) (a_ (a_ (a_ tr tr) tr) (a_ (a_ (a_ tr tr) (a_ (a_ (a_ (ids_count_ok x_r y2 e1 (sel [0]) (sel_inj rfl rfl)) (a_ (LO.Le.refl (.var (c_T_code_Reader x_r))) tr)) tr) (a_ (a_ tr tr) (a_ (a_ (a_ (Eq.refl 1) (a_ (le_ 1 2 rfl) (Eq.refl 0))) tr) tr)))) (a_ (a_ (a_ tr tr) (a_ (a_ (a_ (ids_count_ok (T_code_Reader.mk y2.2.1 y2.2.2.1 y2.2.2.2) y4 e3 (sel [0]) (sel_inj rfl rfl)) (a_ (LO.Le.refl (.var (c_T_code_Reader (T_code_Reader.mk y2.2.1 y2.2.2.1 y2.2.2.2)))) tr)) tr) (a_ (a_ tr tr) (a_ (a_ (a_ (Eq.refl 1) (a_ (le_ 2 2 rfl) (Eq.refl 0))) tr) tr)))) (a_ (a_ (a_ tr tr) (a_ (a_ (a_ tr (le_ 2 2 rfl)) tr) (a_ (a_ (a_ (ids_read_api_Reg_ok (T_code_Reader.mk y4.2.1 y4.2.2.1 y4.2.2.2) (T_api_Reg.mk y2.1 y4.1) y6 e5 (sel [0]) (sel_inj rfl rfl)) (a_ (LO.Le.refl (.var (c_T_code_Reader (T_code_Reader.mk y4.2.1 y4.2.2.1 y4.2.2.2)))) tr)) tr) (a_ (a_ (a_ (Eq.refl 2) (a_ (le_ 2 2 rfl) (Eq.refl 0))) tr) tr)))) tr))))) (a_ (a_ tr (le_ 2 2 rfl)) tr)) (by kernel_rfl) rfl

/-- parrel/ids.isCount -/

def ids_isCount_v (r : (Bool)) : LV := .bool r

def ids_isCount (x_n : Int) : Option ((Bool)) :=
  some (decide ((IntKind.wrap .u32 (x_n - 1)) < 2147483647))

theorem ids_isCount_ok (x_n : Int) (r : (Bool)) (h : ids_isCount x_n = some r) : ∀ σ, Inj 0 σ → FnTri Try.prog 39 (renL σ [.int .u32 x_n]) (preOf σ 0 []) ((ids_isCount_v r).ren σ) (upOf σ []) := by
  refine fn_of Try.func39 (by kernel_rfl) (by kernel_rfl) (by kernel_rfl) trivial (by kernel_rfl) trivial (by kernel_rfl) ?_
  intro w0 W μ0 hμ
  unfold ids_isCount at h
  obtain rfl := Option.some.inj h
  exact run_ret mixed (L := []) (n := 15) (s := [.reg [], .reg []])
    (a_ (a_ (a_ (a_ tr tr) tr) (a_ (a_ (a_ tr tr) (a_ (a_ tr tr) (a_ (a_ tr tr) (a_ (a_ tr tr) tr)))) tr)) tr) (by kernel_rfl) rfl

theorem ids_isCount_tri (x_n : Int) (r : (Bool)) (h : ids_isCount x_n = some r) : FnTri Try.prog 39 [.int .u32 x_n] [] (ids_isCount_v r) [] := FnTri.none (ids_isCount_ok x_n r h) rfl rfl

/-- parrel/ids.TxMay -/

def ids_TxMay_v (r : (Bool)) : LV := .bool r

def ids_TxMay (t : T_api_Tx) : Option ((Bool)) :=
  if ((decide (t.f_Node < 8)) : Bool) then
    (ids_isCount t.f_Boot).bind fun y3 =>
    if (y3 : Bool) then
      (ids_isCount t.f_Num).bind fun y6 =>
      some y6
    else
      some false
  else
    some false

theorem ids_TxMay_ok (t : T_api_Tx) (r : (Bool)) (h : ids_TxMay t = some r) : ∀ σ, Inj 0 σ → FnTri Try.prog 8 (renL σ [v_T_api_Tx t]) (preOf σ 0 []) ((ids_TxMay_v r).ren σ) (upOf σ []) := by
  refine fn_of Try.func8 (by kernel_rfl) (by kernel_rfl) (by kernel_rfl) trivial (by kernel_rfl) trivial (by kernel_rfl) ?_
  intro w0 W μ0 hμ
  unfold ids_TxMay at h
  rcases itb_some h with ⟨c1, h⟩ | ⟨c1, h⟩
  · skip
    obtain ⟨y3, e2, h⟩ := bind_some h
    rcases itb_some h with ⟨c4, h⟩ | ⟨c4, h⟩
    · skip
      obtain ⟨y6, e5, h⟩ := bind_some h
      obtain rfl := Option.some.inj h
      exact run_ret mixed (L := []) (n := 15) (s := [.reg [], .reg [(3, { v := some (.bool true) }), (6, { call := some (ids_isCount_v y3, [], []) }), (8, { v := some (.bool true) }), (11, { call := some (ids_isCount_v y6, [], []) })]])
        (a_ (a_ (a_ (a_ tr tr) (a_ (a_ tr tr) tr)) (a_ (a_ (a_ tr tr) (a_ (a_ (a_ tr (lt_ 0 3 rfl)) tr) (a_ (a_ tr tr) (a_ (a_ tr (a_ (leB c1) tr)) (a_ (a_ tr tr) (a_ (a_ (a_ tr (lt_ 1 3 rfl)) tr) (a_ (a_ (a_ (ids_isCount_tri t.f_Boot y3 e2) tr) tr) (a_ (a_ tr tr) (a_ (a_ tr (a_ (leB c4) tr)) (a_ (a_ tr tr) (a_ (a_ (a_ tr (lt_ 2 3 rfl)) tr) (a_ (a_ (a_ (ids_isCount_tri t.f_Num y6 e5) tr) tr) (a_ (a_ tr tr) (a_ (a_ tr tr) tr)))))))))))))) tr)) tr) (by kernel_rfl) rfl
    · skip
      obtain rfl := Option.some.inj h
      exact run_ret mixed (L := []) (n := 15) (s := [.reg [], .reg [(3, { v := some (.bool true) }), (6, { call := some (ids_isCount_v y3, [], []) }), (8, { v := some (.bool false) })]])
        (a_ (a_ (a_ (a_ tr tr) (a_ (a_ tr tr) tr)) (a_ (a_ (a_ tr tr) (a_ (a_ (a_ tr (lt_ 0 3 rfl)) tr) (a_ (a_ tr tr) (a_ (a_ tr (a_ (leB c1) tr)) (a_ (a_ tr tr) (a_ (a_ (a_ tr (lt_ 1 3 rfl)) tr) (a_ (a_ (a_ (ids_isCount_tri t.f_Boot y3 e2) tr) tr) (a_ (a_ tr tr) (a_ (a_ tr (a_ (leB c4) tr)) (a_ tr (a_ tr (a_ tr (a_ (a_ tr tr) (a_ (a_ tr tr) tr)))))))))))))) tr)) tr) (by kernel_rfl) rfl
  · skip
    obtain rfl := Option.some.inj h
    exact run_ret mixed (L := []) (n := 15) (s := [.reg [], .reg [(3, { v := some (.bool false) })]])
      (a_ (a_ (a_ (a_ tr tr) (a_ (a_ tr tr) tr)) (a_ (a_ (a_ tr tr) (a_ (a_ (a_ tr (lt_ 0 3 rfl)) tr) (a_ (a_ tr tr) (a_ (a_ tr (a_ (leB c1) tr)) (a_ tr (a_ tr (a_ tr (a_ (a_ tr tr) (a_ (a_ tr tr) (a_ tr (a_ tr (a_ tr (a_ (a_ tr tr) (a_ (a_ tr tr) tr)))))))))))))) tr)) tr) (by kernel_rfl) rfl

theorem ids_TxMay_tri (t : T_api_Tx) (r : (Bool)) (h : ids_TxMay t = some r) : FnTri Try.prog 8 [v_T_api_Tx t] [] (ids_TxMay_v r) [] := FnTri.none (ids_TxMay_ok t r h) rfl rfl

/-- parrel/ids.StampMay -/

def ids_StampMay_v (r : (Bool)) : LV := .bool r

def ids_StampMay (s : T_api_Stamp) : Option ((Bool)) :=
  if ((decide (s.f_Time ≤ 2147483647)) : Bool) then
    (ids_TxMay s.f_Tx).bind fun y3 =>
    some y3
  else
    some false

theorem ids_StampMay_ok (s : T_api_Stamp) (r : (Bool)) (h : ids_StampMay s = some r) : ∀ σ, Inj 0 σ → FnTri Try.prog 10 (renL σ [v_T_api_Stamp s]) (preOf σ 0 []) ((ids_StampMay_v r).ren σ) (upOf σ []) := by
  refine fn_of Try.func10 (by kernel_rfl) (by kernel_rfl) (by kernel_rfl) trivial (by kernel_rfl) trivial (by kernel_rfl) ?_
  intro w0 W μ0 hμ
  unfold ids_StampMay at h
  rcases itb_some h with ⟨c1, h⟩ | ⟨c1, h⟩
  · skip
    obtain ⟨y3, e2, h⟩ := bind_some h
    obtain rfl := Option.some.inj h
    exact run_ret mixed (L := []) (n := 15) (s := [.reg [], .reg [(3, { v := some (.bool true) }), (6, { call := some (ids_TxMay_v y3, [], []) })]])
      (a_ (a_ (a_ (a_ tr tr) (a_ (a_ tr tr) tr)) (a_ (a_ (a_ tr tr) (a_ (a_ (a_ tr (lt_ 0 4 rfl)) tr) (a_ (a_ tr tr) (a_ (a_ tr (a_ (leB c1) tr)) (a_ (a_ tr tr) (a_ (a_ (a_ tr (le_ 4 4 rfl)) tr) (a_ (a_ (a_ (ids_TxMay_tri s.f_Tx y3 e2) tr) tr) (a_ (a_ tr tr) (a_ (a_ tr tr) tr))))))))) tr)) tr) (by kernel_rfl) rfl
  · skip
    obtain rfl := Option.some.inj h
    exact run_ret mixed (L := []) (n := 15) (s := [.reg [], .reg [(3, { v := some (.bool false) })]])
      (a_ (a_ (a_ (a_ tr tr) (a_ (a_ tr tr) tr)) (a_ (a_ (a_ tr tr) (a_ (a_ (a_ tr (lt_ 0 4 rfl)) tr) (a_ (a_ tr tr) (a_ (a_ tr (a_ (leB c1) tr)) (a_ tr (a_ tr (a_ tr (a_ (a_ tr tr) (a_ (a_ tr tr) tr))))))))) tr)) tr) (by kernel_rfl) rfl

theorem ids_StampMay_tri (s : T_api_Stamp) (r : (Bool)) (h : ids_StampMay s = some r) : FnTri Try.prog 10 [v_T_api_Stamp s] [] (ids_StampMay_v r) [] := FnTri.none (ids_StampMay_ok s r h) rfl rfl

/-- internal/stringslite.IndexByte -/

def internal_stringslite_IndexByte_v (r : (Int)) : LV := .int .i64 r

def internal_stringslite_IndexByte (s : List UInt8) (c : Int) : Option ((Int)) :=
  some (Lib.indexByte s (c).toNat.toUInt8)

theorem internal_stringslite_IndexByte_ok (s : List UInt8) (c : Int) (r : (Int)) (h : internal_stringslite_IndexByte s c = some r) : ∀ σ, Inj 0 σ → FnTri Try.prog 73 (renL σ [.str s, .int .u8 c]) (preOf σ 0 []) ((internal_stringslite_IndexByte_v r).ren σ) (upOf σ []) := by
  refine fn_of Try.func73 (by kernel_rfl) (by kernel_rfl) (by kernel_rfl) trivial (by kernel_rfl) trivial (by kernel_rfl) ?_
  intro w0 W μ0 hμ
  unfold internal_stringslite_IndexByte at h
  obtain rfl := Option.some.inj h
  exact run_ret mixed (L := []) (n := 15) (s := [.reg [], .reg [(2, { ext := some (.int .i64 (Lib.indexByte s (c).toNat.toUInt8)) })]])
    (a_ (a_ (a_ (a_ tr tr) tr) (a_ (a_ (a_ tr tr) (a_ (a_ tr tr) (a_ (a_ (ext81 s c) tr) (a_ (a_ tr tr) tr)))) tr)) tr) (by kernel_rfl) rfl

theorem internal_stringslite_IndexByte_tri (s : List UInt8) (c : Int) (r : (Int)) (h : internal_stringslite_IndexByte s c = some r) : FnTri Try.prog 73 [.str s, .int .u8 c] [] (internal_stringslite_IndexByte_v r) [] := FnTri.none (internal_stringslite_IndexByte_ok s c r h) rfl rfl

/-- strings.IndexByte -/

def strings_IndexByte_v (r : (Int)) : LV := .int .i64 r

def strings_IndexByte (s : List UInt8) (c : Int) : Option ((Int)) :=
  (internal_stringslite_IndexByte s c).bind fun y2 =>
  some y2

theorem strings_IndexByte_ok (s : List UInt8) (c : Int) (r : (Int)) (h : strings_IndexByte s c = some r) : ∀ σ, Inj 0 σ → FnTri Try.prog 60 (renL σ [.str s, .int .u8 c]) (preOf σ 0 []) ((strings_IndexByte_v r).ren σ) (upOf σ []) := by
  refine fn_of Try.func60 (by kernel_rfl) (by kernel_rfl) (by kernel_rfl) trivial (by kernel_rfl) trivial (by kernel_rfl) ?_
  intro w0 W μ0 hμ
  unfold strings_IndexByte at h
  obtain ⟨y2, e1, h⟩ := bind_some h
  obtain rfl := Option.some.inj h
  exact run_ret mixed (L := []) (n := 15) (s := [.reg [], .reg [(2, { call := some (internal_stringslite_IndexByte_v y2, [], []) })]])
    (a_ (a_ (a_ (a_ tr tr) tr) (a_ (a_ (a_ tr tr) (a_ (a_ tr tr) (a_ (a_ (a_ (internal_stringslite_IndexByte_tri s c y2 e1) tr) tr) (a_ (a_ tr tr) tr)))) tr)) tr) (by kernel_rfl) rfl

theorem strings_IndexByte_tri (s : List UInt8) (c : Int) (r : (Int)) (h : strings_IndexByte s c = some r) : FnTri Try.prog 60 [.str s, .int .u8 c] [] (strings_IndexByte_v r) [] := FnTri.none (strings_IndexByte_ok s c r h) rfl rfl

/-- parrel/ids.KeyOf -/

def ids_KeyOf_v (r : (A8 (Int)) × (Int)) : LV := .tup [.agg [.int .u8 r.1.a0, .int .u8 r.1.a1, .int .u8 r.1.a2, .int .u8 r.1.a3, .int .u8 r.1.a4, .int .u8 r.1.a5, .int .u8 r.1.a6, .int .u8 r.1.a7], .int .i64 r.2]

def ids_KeyOf (s : List UInt8) : Option ((A8 (Int)) × (Int)) :=
  if ((s == []) : Bool) then
    some ((A8.mk 0 0 0 0 0 0 0 0), 1)
  else
    if ((decide (8 < ((s).length : Int))) : Bool) then
      some ((A8.mk 0 0 0 0 0 0 0 0), 1)
    else
      (strings_IndexByte s 0).bind fun y4 =>
      if ((decide (0 ≤ y4)) : Bool) then
        some ((A8.mk 0 0 0 0 0 0 0 0), 1)
      else
        some ((A8.mk (if 0 < (s).length then ((s.getD 0 0).toNat : Int) else 0) (if 1 < (s).length then ((s.getD 1 0).toNat : Int) else 0) (if 2 < (s).length then ((s.getD 2 0).toNat : Int) else 0) (if 3 < (s).length then ((s.getD 3 0).toNat : Int) else 0) (if 4 < (s).length then ((s.getD 4 0).toNat : Int) else 0) (if 5 < (s).length then ((s.getD 5 0).toNat : Int) else 0) (if 6 < (s).length then ((s.getD 6 0).toNat : Int) else 0) (if 7 < (s).length then ((s.getD 7 0).toNat : Int) else 0)), 0)

theorem ids_KeyOf_ok (s : List UInt8) (r : (A8 (Int)) × (Int)) (h : ids_KeyOf s = some r) : ∀ σ, Inj 0 σ → FnTri Try.prog 41 (renL σ [.str s]) (preOf σ 0 []) ((ids_KeyOf_v r).ren σ) (upOf σ []) := by
  refine fn_of Try.func41 (by kernel_rfl) (by kernel_rfl) (by kernel_rfl) trivial (by kernel_rfl) trivial (by kernel_rfl) ?_
  intro w0 W μ0 hμ
  unfold ids_KeyOf at h
  rcases itb_some h with ⟨c1, h⟩ | ⟨c1, h⟩
  · skip
    obtain rfl := Option.some.inj h
    exact run_ret mixed (L := []) (n := 23) (s := [.reg [], .reg [], .reg [(2, { v := some (.bool true) })], .reg []])
      (a_ (a_ (a_ (a_ tr tr) (a_ (a_ tr tr) tr)) (a_ (a_ (a_ tr tr) tr) (a_ (a_ (a_ tr tr) (a_ (a_ tr tr) (a_ (a_ tr (a_ (leB c1) tr)) (a_ tr (a_ tr (a_ tr (a_ (a_ tr tr) (a_ (a_ tr tr) (a_ tr (a_ tr (a_ tr (a_ (a_ tr tr) tr)))))))))))) (a_ (a_ (a_ (a_ tr (le_ 8 8 rfl)) tr) (a_ (a_ (a_ (Eq.refl 8) (a_ (le_ 8 8 rfl) (Eq.refl 0))) tr) (a_ (a_ tr tr) tr))) tr)))) (a_ (a_ tr (le_ 8 8 rfl)) tr)) (by kernel_rfl) rfl
  · skip
    rcases itb_some h with ⟨c2, h⟩ | ⟨c2, h⟩
    · skip
      obtain rfl := Option.some.inj h
      exact run_ret mixed (L := []) (n := 23) (s := [.reg [], .reg [], .reg [(2, { v := some (.bool false) }), (7, { v := some (.bool true) })], .reg []])
        (a_ (a_ (a_ (a_ tr tr) (a_ (a_ tr tr) tr)) (a_ (a_ (a_ tr tr) tr) (a_ (a_ (a_ tr tr) (a_ (a_ tr tr) (a_ (a_ tr (a_ (leB c1) tr)) (a_ (a_ tr tr) (a_ (a_ tr tr) (a_ (a_ tr tr) (a_ (a_ tr tr) (a_ (a_ tr (a_ (leB c2) tr)) (a_ tr (a_ tr (a_ tr (a_ (a_ tr tr) tr)))))))))))) (a_ (a_ (a_ (a_ tr (le_ 8 8 rfl)) tr) (a_ (a_ (a_ (Eq.refl 8) (a_ (le_ 8 8 rfl) (Eq.refl 0))) tr) (a_ (a_ tr tr) tr))) tr)))) (a_ (a_ tr (le_ 8 8 rfl)) tr)) (by kernel_rfl) rfl
    · skip
      obtain ⟨y4, e3, h⟩ := bind_some h
      rcases itb_some h with ⟨c5, h⟩ | ⟨c5, h⟩
      · skip
        obtain rfl := Option.some.inj h
        exact run_ret mixed (L := []) (n := 23) (s := [.reg [], .reg [], .reg [(2, { v := some (.bool false) }), (7, { v := some (.bool false) }), (9, { call := some (strings_IndexByte_v y4, [], []) }), (11, { v := some (.bool true) })], .reg []])
          (a_ (a_ (a_ (a_ tr tr) (a_ (a_ tr tr) tr)) (a_ (a_ (a_ tr tr) tr) (a_ (a_ (a_ tr tr) (a_ (a_ tr tr) (a_ (a_ tr (a_ (leB c1) tr)) (a_ (a_ tr tr) (a_ (a_ tr tr) (a_ (a_ tr tr) (a_ (a_ tr tr) (a_ (a_ tr (a_ (leB c2) tr)) (a_ (a_ tr tr) (a_ (a_ (a_ (strings_IndexByte_tri s 0 y4 e3) tr) tr) (a_ (a_ tr tr) (a_ (a_ tr (a_ (leB c5) tr)) tr)))))))))))) (a_ (a_ (a_ (a_ tr (le_ 8 8 rfl)) tr) (a_ (a_ (a_ (Eq.refl 8) (a_ (le_ 8 8 rfl) (Eq.refl 0))) tr) (a_ (a_ tr tr) tr))) tr)))) (a_ (a_ tr (le_ 8 8 rfl)) tr)) (by kernel_rfl) rfl
      · skip
        obtain rfl := Option.some.inj h
        exact run_ret mixed (L := []) (n := 27) (s := [.reg [], .reg [], .reg [(2, { v := some (.bool false) }), (7, { v := some (.bool false) }), (9, { call := some (strings_IndexByte_v y4, [], []) }), (11, { v := some (.bool false) })], .reg [], .reg []])
          (a_ (a_ (a_ (a_ tr tr) (a_ (a_ tr tr) tr)) (a_ (a_ (a_ tr tr) tr) (a_ (a_ (a_ tr tr) (a_ (a_ tr tr) (a_ (a_ tr (a_ (leB c1) tr)) (a_ (a_ tr tr) (a_ (a_ tr tr) (a_ (a_ tr tr) (a_ (a_ tr tr) (a_ (a_ tr (a_ (leB c2) tr)) (a_ (a_ tr tr) (a_ (a_ (a_ (strings_IndexByte_tri s 0 y4 e3) tr) tr) (a_ (a_ tr tr) (a_ (a_ tr (a_ (leB c5) tr)) tr)))))))))))) (a_ (a_ (a_ (a_ (lei_ 0 0 rfl) (a_ (lei_ 0 8 rfl) (lei_ 8 8 rfl))) tr) (a_ (a_ tr tr) (a_ (a_ (a_ (Eq.refl 1) (a_ (Eq.refl 0) (a_ (le_ 8 8 rfl) (Eq.refl true)))) tr) tr))) (a_ (a_ (a_ (a_ tr (le_ 8 8 rfl)) tr) (a_ (a_ (a_ (Eq.refl 8) (a_ (le_ 8 8 rfl) (Eq.refl 0))) tr) (a_ (a_ tr tr) tr))) tr))))) (a_ (a_ tr (le_ 8 8 rfl)) tr)) (by kernel_rfl) rfl

theorem ids_KeyOf_tri (s : List UInt8) (r : (A8 (Int)) × (Int)) (h : ids_KeyOf s = some r) : FnTri Try.prog 41 [.str s] [] (ids_KeyOf_v r) [] := FnTri.none (ids_KeyOf_ok s r h) rfl rfl

/-- parrel/ids.New -/

def ids_New_v (r : (List (T_api_Tx × Bool))) : LV := .ptr 0 0 0

def ids_New_up  (r : (List (T_api_Tx × Bool))) : Upd := [(0, some (.var [.map 1])), (1, some (.map true [.int .u8, .int .u32, .int .u32] (encM v_T_api_Tx LV.bool r)))]

def ids_New  : Option ((List (T_api_Tx × Bool))) :=
  some ([] : List (T_api_Tx × Bool))

theorem ids_New_ok  (r : (List (T_api_Tx × Bool))) (h : ids_New  = some r) : ∀ σ, Inj 2 σ → FnTri Try.prog 30 (renL σ []) (preOf σ 0 []) ((ids_New_v r).ren σ) (upOf σ (ids_New_up  r)) := by
  refine fn_of Try.func30 (by kernel_rfl) (by kernel_rfl) (by kernel_rfl) trivial (by kernel_rfl) ⟨rfl, trivial, trivial⟩ (by kernel_rfl) ?_
  intro w0 W μ0 hμ
  unfold ids_New at h
  obtain rfl := Option.some.inj h
  exact run_ret mixed (L := [1, 0]) (n := 15) (s := [.reg [], .reg []])
    (a_ (a_ (a_ (a_ tr tr) tr) (a_ (a_ (a_ tr tr) (a_ (a_ (Eq.refl true) tr) (a_ (a_ tr tr) (a_ (a_ tr tr) tr)))) tr)) tr) (by kernel_rfl) rfl

/-- (*parrel/ids.Set).Add -/

def ids_Set_Add_v (r : (Bool) × (List (T_api_Tx × Bool))) : LV := .bool r.1

def ids_Set_Add_up (m : List (T_api_Tx × Bool)) (t : T_api_Tx) (r : (Bool) × (List (T_api_Tx × Bool))) : Upd := [(0, some (.var [.map 1])), (1, some (.map true [.int .u8, .int .u32, .int .u32] (encM v_T_api_Tx LV.bool r.2)))]

def ids_Set_Add_objs (m : List (T_api_Tx × Bool)) (t : T_api_Tx) : List LO := [.var [.map 1], .map true [.int .u8, .int .u32, .int .u32] (encM v_T_api_Tx LV.bool m)]

def ids_Set_Add (m : List (T_api_Tx × Bool)) (t : T_api_Tx) : Option ((Bool) × (List (T_api_Tx × Bool))) :=
  if (((mget m t).getD default) : Bool) then
    some (false, m)
  else
    some (true, (mset m t true))

theorem ids_Set_Add_ok (m : List (T_api_Tx × Bool)) (t : T_api_Tx) (r : (Bool) × (List (T_api_Tx × Bool))) (h : ids_Set_Add m t = some r) : ∀ σ, Inj 2 σ → FnTri Try.prog 31 (renL σ [.ptr 0 0 0, v_T_api_Tx t]) (preOf σ 0 (ids_Set_Add_objs m t)) ((ids_Set_Add_v r).ren σ) (upOf σ (ids_Set_Add_up m t r)) := by
  refine fn_of Try.func31 (by kernel_rfl) (by kernel_rfl) (by kernel_rfl) ⟨rfl, trivial, trivial⟩ (by kernel_rfl) ⟨rfl, trivial, trivial⟩ (by kernel_rfl) ?_
  intro w0 W μ0 hμ
  unfold ids_Set_Add at h
  rcases itb_some h with ⟨c1, h⟩ | ⟨c1, h⟩
  · skip
    obtain rfl := Option.some.inj h
    exact run_ret mixed (L := []) (n := 20) (s := [.reg [], .reg [(15, { look := ((mget m t).map LV.bool), v := some (.bool ((mget m t).getD default)) }), (16, { v := some (.bool true) })], .reg []])
      (a_ (a_ (a_ (a_ tr tr) (a_ (a_ tr tr) tr)) (a_ (a_ (a_ tr tr) (a_ (a_ tr tr) (a_ (a_ tr tr) (a_ (a_ tr tr) (a_ (a_ tr tr) (a_ (a_ tr tr) (a_ (a_ (a_ tr (lt_ 0 1 rfl)) tr) (a_ (a_ tr tr) (a_ (a_ tr tr) (a_ (a_ tr tr) (a_ (a_ tr tr) (a_ (a_ tr tr) (a_ (a_ tr tr) (a_ (a_ (a_ tr (lt_ 0 1 rfl)) tr) (a_ (a_ (a_ tr (le_ 3 3 rfl)) tr) (a_ (a_ (a_ (Eq.refl true) (findE_enc v_T_api_Tx LV.bool k_T_api_Tx m t)) (a_ (le_look LV.bool (mget m t) default) tr)) (a_ (a_ tr (a_ (leB c1) tr)) tr))))))))))))))))) (a_ (a_ (a_ tr tr) tr) tr))) tr) (by kernel_rfl) rfl
  · skip
    obtain rfl := Option.some.inj h
    exact run_ret mixed (L := []) (n := 24) (s := [.reg [], .reg [(15, { look := ((mget m t).map LV.bool), v := some (.bool ((mget m t).getD default)) }), (16, { v := some (.bool false) })], .reg [(5, { os := [(1, .map true [.int .u8, .int .u32, .int .u32] (encM v_T_api_Tx LV.bool (mset m t true)))] })], .reg []])
      (a_ (a_ (a_ (a_ tr tr) (a_ (a_ tr tr) tr)) (a_ (a_ (a_ tr tr) (a_ (a_ tr tr) (a_ (a_ tr tr) (a_ (a_ tr tr) (a_ (a_ tr tr) (a_ (a_ tr tr) (a_ (a_ (a_ tr (lt_ 0 1 rfl)) tr) (a_ (a_ tr tr) (a_ (a_ tr tr) (a_ (a_ tr tr) (a_ (a_ tr tr) (a_ (a_ tr tr) (a_ (a_ tr tr) (a_ (a_ (a_ tr (lt_ 0 1 rfl)) tr) (a_ (a_ (a_ tr (le_ 3 3 rfl)) tr) (a_ (a_ (a_ (Eq.refl true) (findE_enc v_T_api_Tx LV.bool k_T_api_Tx m t)) (a_ (le_look LV.bool (mget m t) default) tr)) (a_ (a_ tr (a_ (leB c1) tr)) tr))))))))))))))))) (a_ (a_ (a_ tr tr) (a_ (a_ tr tr) (a_ (a_ tr tr) (a_ (a_ (a_ tr (lt_ 0 1 rfl)) tr) (a_ (a_ (a_ tr (le_ 3 3 rfl)) tr) (a_ (a_ (a_ (Eq.refl true) (Eq.refl true)) (a_ (sub_upd v_T_api_Tx LV.bool k_T_api_Tx true [.int .u8, .int .u32, .int .u32] m t true) tr)) tr)))))) (a_ (a_ (a_ tr tr) tr) tr)))) tr) (by kernel_rfl) rfl

/-- (*parrel/ids.Set).Has -/

def ids_Set_Has_v (r : (Bool)) : LV := .bool r

def ids_Set_Has_up (m : List (T_api_Tx × Bool)) (t : T_api_Tx) (r : (Bool)) : Upd := [(0, some (.var [.map 1])), (1, some (.map true [.int .u8, .int .u32, .int .u32] (encM v_T_api_Tx LV.bool m)))]

def ids_Set_Has_objs (m : List (T_api_Tx × Bool)) (t : T_api_Tx) : List LO := [.var [.map 1], .map true [.int .u8, .int .u32, .int .u32] (encM v_T_api_Tx LV.bool m)]

def ids_Set_Has (m : List (T_api_Tx × Bool)) (t : T_api_Tx) : Option ((Bool)) :=
  some ((mget m t).getD default)

theorem ids_Set_Has_ok (m : List (T_api_Tx × Bool)) (t : T_api_Tx) (r : (Bool)) (h : ids_Set_Has m t = some r) : ∀ σ, Inj 2 σ → FnTri Try.prog 35 (renL σ [.ptr 0 0 0, v_T_api_Tx t]) (preOf σ 0 (ids_Set_Has_objs m t)) ((ids_Set_Has_v r).ren σ) (upOf σ (ids_Set_Has_up m t r)) := by
  refine fn_of Try.func35 (by kernel_rfl) (by kernel_rfl) (by kernel_rfl) ⟨rfl, trivial, trivial⟩ (by kernel_rfl) ⟨rfl, trivial, trivial⟩ (by kernel_rfl) ?_
  intro w0 W μ0 hμ
  unfold ids_Set_Has at h
  obtain rfl := Option.some.inj h
  exact run_ret mixed (L := []) (n := 15) (s := [.reg [], .reg [(8, { look := ((mget m t).map LV.bool), v := some (.bool ((mget m t).getD default)) })]])
    (a_ (a_ (a_ (a_ tr tr) (a_ (a_ tr tr) tr)) (a_ (a_ (a_ tr tr) (a_ (a_ tr tr) (a_ (a_ tr tr) (a_ (a_ tr tr) (a_ (a_ tr tr) (a_ (a_ tr tr) (a_ (a_ (a_ tr (lt_ 0 1 rfl)) tr) (a_ (a_ (a_ tr (le_ 3 3 rfl)) tr) (a_ (a_ (a_ (Eq.refl true) (findE_enc v_T_api_Tx LV.bool k_T_api_Tx m t)) (a_ (le_look LV.bool (mget m t) default) tr)) (a_ (a_ tr tr) (a_ (a_ tr tr) tr))))))))))) tr)) tr) (by kernel_rfl) rfl

/-- parrel/parrellaw05.alive -/

def parrellaw05_alive_v (r : (Bool)) : LV := .bool r

def parrellaw05_alive  : Option ((Bool)) :=
  (ids_KeyOf ([97, 98] : List UInt8)).bind fun y2 =>
  (ids_New).bind fun y4 =>
  if ((decide (y2.1 = (A8.mk 97 98 0 0 0 0 0 0))) : Bool) then
    if ((y2.2 == 0) : Bool) then
      (ids_Set_Add y4 (T_api_Tx.mk 1 2 3)).bind fun y8 =>
      if (y8.1 : Bool) then
        (ids_Set_Has y8.2 (T_api_Tx.mk 1 2 3)).bind fun y11 =>
        if (y11 : Bool) then
          (ids_Set_Add y8.2 (T_api_Tx.mk 1 2 3)).bind fun y14 =>
          if ((!y14.1) : Bool) then
            (ids_TxMay (T_api_Tx.mk 1 2 3)).bind fun y17 =>
            some y17
          else
            some false
        else
          some false
      else
        some false
    else
      some false
  else
    some false

theorem parrellaw05_alive_ok  (r : (Bool)) (h : parrellaw05_alive  = some r) : ∀ σ, Inj 0 σ → FnTri Try.prog 14 (renL σ []) (preOf σ 0 []) ((parrellaw05_alive_v r).ren σ) (upOf σ []) := by
  refine fn_of Try.func14 (by kernel_rfl) (by kernel_rfl) (by kernel_rfl) trivial (by kernel_rfl) trivial (by kernel_rfl) ?_
  intro w0 W μ0 hμ
  unfold parrellaw05_alive at h
  obtain ⟨y2, e1, h⟩ := bind_some h
  obtain ⟨y4, e3, h⟩ := bind_some h
  rcases itb_some h with ⟨c5, h⟩ | ⟨c5, h⟩
  · skip
    rcases itb_some h with ⟨c6, h⟩ | ⟨c6, h⟩
    · skip
      obtain ⟨y8, e7, h⟩ := bind_some h
      rcases itb_some h with ⟨c9, h⟩ | ⟨c9, h⟩
      · skip
        obtain ⟨y11, e10, h⟩ := bind_some h
        rcases itb_some h with ⟨c12, h⟩ | ⟨c12, h⟩
        · skip
          obtain ⟨y14, e13, h⟩ := bind_some h
          rcases itb_some h with ⟨c15, h⟩ | ⟨c15, h⟩
          · skip
            obtain ⟨y17, e16, h⟩ := bind_some h
            obtain rfl := Option.some.inj h
            exact run_ret mixed (L := []) (n := 24) (s := [.reg [], .reg [(0, { call := some (ids_KeyOf_v y2, [], []) })], .reg [(0, { call := some ((ids_New_v y4).ren (sel [1, 2]), preOf (sel [1, 2]) 0 [], upOf (sel [1, 2]) (ids_New_up  y4)) })], .reg [], .reg [(2, { v := some (.bool (decide (y2.1 = (A8.mk 97 98 0 0 0 0 0 0)))) }), (3, { v := some (.bool true) }), (7, { v := some (.bool true) }), (14, { call := some ((ids_Set_Add_v y8).ren (sel [1, 2]), preOf (sel [1, 2]) 0 (ids_Set_Add_objs y4 (T_api_Tx.mk 1 2 3)), upOf (sel [1, 2]) (ids_Set_Add_up y4 (T_api_Tx.mk 1 2 3) y8)) }), (16, { v := some (.bool true) }), (19, { call := some ((ids_Set_Has_v y11).ren (sel [1, 2]), preOf (sel [1, 2]) 0 (ids_Set_Has_objs y8.2 (T_api_Tx.mk 1 2 3)), upOf (sel [1, 2]) (ids_Set_Has_up y8.2 (T_api_Tx.mk 1 2 3) y11)) }), (21, { v := some (.bool true) }), (24, { call := some ((ids_Set_Add_v y14).ren (sel [1, 2]), preOf (sel [1, 2]) 0 (ids_Set_Add_objs y8.2 (T_api_Tx.mk 1 2 3)), upOf (sel [1, 2]) (ids_Set_Add_up y8.2 (T_api_Tx.mk 1 2 3) y14)) }), (27, { v := some (.bool true) }), (29, { call := some (ids_TxMay_v y17, [], []) })]])
              (a_ (a_ (a_ (a_ tr tr) tr) (a_ (a_ (a_ (a_ (ids_KeyOf_tri ([97, 98] : List UInt8) y2 e1) tr) tr) (a_ (a_ tr tr) (a_ (a_ tr tr) (a_ (a_ tr tr) (a_ (a_ tr tr) (a_ (a_ (a_ (Eq.refl 8) (a_ (le_ 8 8 rfl) (Eq.refl 0))) tr) (a_ (a_ tr tr) tr))))))) (a_ (a_ (a_ (a_ (ids_New_ok  y4 e3 (sel [1, 2]) (sel_inj rfl rfl)) tr) tr) (a_ (a_ tr tr) tr)) (a_ (a_ (a_ (Eq.refl true) tr) (a_ (a_ tr tr) (a_ (a_ (a_ (Eq.refl 3) (a_ (le_ 3 3 rfl) (Eq.refl 0))) tr) tr))) (a_ (a_ (a_ (a_ tr (le_ 8 8 rfl)) tr) (a_ (a_ (Eq.refl true) tr) (a_ (a_ tr (a_ (leB ((k_arr8 .u8) y2.1 (A8.mk 97 98 0 0 0 0 0 0))) tr)) (a_ (a_ tr (a_ (leB c5) tr)) (a_ (a_ tr tr) (a_ (a_ tr tr) (a_ (a_ tr tr) (a_ (a_ tr (a_ (leB c6) tr)) (a_ (a_ tr tr) (a_ (a_ tr tr) (a_ (a_ tr tr) (a_ (a_ tr tr) (a_ (a_ tr tr) (a_ (a_ (a_ tr (le_ 3 3 rfl)) tr) (a_ (a_ (a_ (ids_Set_Add_ok y4 (T_api_Tx.mk 1 2 3) y8 e7 (sel [1, 2]) (sel_inj rfl rfl)) (a_ (LO.Le.refl (.var [.map 2])) (a_ (LO.Le.refl (.map true [.int .u8, .int .u32, .int .u32] (encM v_T_api_Tx LV.bool y4))) tr))) tr) (a_ (a_ tr tr) (a_ (a_ tr (a_ (leB c9) tr)) (a_ (a_ tr tr) (a_ (a_ (a_ tr (le_ 3 3 rfl)) tr) (a_ (a_ (a_ (ids_Set_Has_ok y8.2 (T_api_Tx.mk 1 2 3) y11 e10 (sel [1, 2]) (sel_inj rfl rfl)) (a_ (LO.Le.refl (.var [.map 2])) (a_ (LO.Le.refl (.map true [.int .u8, .int .u32, .int .u32] (encM v_T_api_Tx LV.bool y8.2))) tr))) tr) (a_ (a_ tr tr) (a_ (a_ tr (a_ (leB c12) tr)) (a_ (a_ tr tr) (a_ (a_ (a_ tr (le_ 3 3 rfl)) tr) (a_ (a_ (a_ (ids_Set_Add_ok y8.2 (T_api_Tx.mk 1 2 3) y14 e13 (sel [1, 2]) (sel_inj rfl rfl)) (a_ (LO.Le.refl (.var [.map 2])) (a_ (LO.Le.refl (.map true [.int .u8, .int .u32, .int .u32] (encM v_T_api_Tx LV.bool y8.2))) tr))) tr) (a_ (a_ tr tr) (a_ (a_ tr tr) (a_ (a_ tr (a_ (leB c15) tr)) (a_ (a_ (a_ tr (le_ 3 3 rfl)) tr) (a_ (a_ (a_ (ids_TxMay_tri (T_api_Tx.mk 1 2 3) y17 e16) tr) tr) (a_ (a_ tr tr) (a_ (a_ tr tr) tr)))))))))))))))))))))))))))))))) tr))))) tr) (by kernel_rfl) rfl
          · skip
            obtain rfl := Option.some.inj h
            exact run_ret mixed (L := []) (n := 24) (s := [.reg [], .reg [(0, { call := some (ids_KeyOf_v y2, [], []) })], .reg [(0, { call := some ((ids_New_v y4).ren (sel [1, 2]), preOf (sel [1, 2]) 0 [], upOf (sel [1, 2]) (ids_New_up  y4)) })], .reg [], .reg [(2, { v := some (.bool (decide (y2.1 = (A8.mk 97 98 0 0 0 0 0 0)))) }), (3, { v := some (.bool true) }), (7, { v := some (.bool true) }), (14, { call := some ((ids_Set_Add_v y8).ren (sel [1, 2]), preOf (sel [1, 2]) 0 (ids_Set_Add_objs y4 (T_api_Tx.mk 1 2 3)), upOf (sel [1, 2]) (ids_Set_Add_up y4 (T_api_Tx.mk 1 2 3) y8)) }), (16, { v := some (.bool true) }), (19, { call := some ((ids_Set_Has_v y11).ren (sel [1, 2]), preOf (sel [1, 2]) 0 (ids_Set_Has_objs y8.2 (T_api_Tx.mk 1 2 3)), upOf (sel [1, 2]) (ids_Set_Has_up y8.2 (T_api_Tx.mk 1 2 3) y11)) }), (21, { v := some (.bool true) }), (24, { call := some ((ids_Set_Add_v y14).ren (sel [1, 2]), preOf (sel [1, 2]) 0 (ids_Set_Add_objs y8.2 (T_api_Tx.mk 1 2 3)), upOf (sel [1, 2]) (ids_Set_Add_up y8.2 (T_api_Tx.mk 1 2 3) y14)) }), (27, { v := some (.bool false) })]])
              (a_ (a_ (a_ (a_ tr tr) tr) (a_ (a_ (a_ (a_ (ids_KeyOf_tri ([97, 98] : List UInt8) y2 e1) tr) tr) (a_ (a_ tr tr) (a_ (a_ tr tr) (a_ (a_ tr tr) (a_ (a_ tr tr) (a_ (a_ (a_ (Eq.refl 8) (a_ (le_ 8 8 rfl) (Eq.refl 0))) tr) (a_ (a_ tr tr) tr))))))) (a_ (a_ (a_ (a_ (ids_New_ok  y4 e3 (sel [1, 2]) (sel_inj rfl rfl)) tr) tr) (a_ (a_ tr tr) tr)) (a_ (a_ (a_ (Eq.refl true) tr) (a_ (a_ tr tr) (a_ (a_ (a_ (Eq.refl 3) (a_ (le_ 3 3 rfl) (Eq.refl 0))) tr) tr))) (a_ (a_ (a_ (a_ tr (le_ 8 8 rfl)) tr) (a_ (a_ (Eq.refl true) tr) (a_ (a_ tr (a_ (leB ((k_arr8 .u8) y2.1 (A8.mk 97 98 0 0 0 0 0 0))) tr)) (a_ (a_ tr (a_ (leB c5) tr)) (a_ (a_ tr tr) (a_ (a_ tr tr) (a_ (a_ tr tr) (a_ (a_ tr (a_ (leB c6) tr)) (a_ (a_ tr tr) (a_ (a_ tr tr) (a_ (a_ tr tr) (a_ (a_ tr tr) (a_ (a_ tr tr) (a_ (a_ (a_ tr (le_ 3 3 rfl)) tr) (a_ (a_ (a_ (ids_Set_Add_ok y4 (T_api_Tx.mk 1 2 3) y8 e7 (sel [1, 2]) (sel_inj rfl rfl)) (a_ (LO.Le.refl (.var [.map 2])) (a_ (LO.Le.refl (.map true [.int .u8, .int .u32, .int .u32] (encM v_T_api_Tx LV.bool y4))) tr))) tr) (a_ (a_ tr tr) (a_ (a_ tr (a_ (leB c9) tr)) (a_ (a_ tr tr) (a_ (a_ (a_ tr (le_ 3 3 rfl)) tr) (a_ (a_ (a_ (ids_Set_Has_ok y8.2 (T_api_Tx.mk 1 2 3) y11 e10 (sel [1, 2]) (sel_inj rfl rfl)) (a_ (LO.Le.refl (.var [.map 2])) (a_ (LO.Le.refl (.map true [.int .u8, .int .u32, .int .u32] (encM v_T_api_Tx LV.bool y8.2))) tr))) tr) (a_ (a_ tr tr) (a_ (a_ tr (a_ (leB c12) tr)) (a_ (a_ tr tr) (a_ (a_ (a_ tr (le_ 3 3 rfl)) tr) (a_ (a_ (a_ (ids_Set_Add_ok y8.2 (T_api_Tx.mk 1 2 3) y14 e13 (sel [1, 2]) (sel_inj rfl rfl)) (a_ (LO.Le.refl (.var [.map 2])) (a_ (LO.Le.refl (.map true [.int .u8, .int .u32, .int .u32] (encM v_T_api_Tx LV.bool y8.2))) tr))) tr) (a_ (a_ tr tr) (a_ (a_ tr tr) (a_ (a_ tr (a_ (leB c15) tr)) (a_ tr (a_ tr (a_ (a_ tr tr) (a_ (a_ tr tr) tr)))))))))))))))))))))))))))))))) tr))))) tr) (by kernel_rfl) rfl
        · skip
          obtain rfl := Option.some.inj h
          exact run_ret mixed (L := []) (n := 24) (s := [.reg [], .reg [(0, { call := some (ids_KeyOf_v y2, [], []) })], .reg [(0, { call := some ((ids_New_v y4).ren (sel [1, 2]), preOf (sel [1, 2]) 0 [], upOf (sel [1, 2]) (ids_New_up  y4)) })], .reg [], .reg [(2, { v := some (.bool (decide (y2.1 = (A8.mk 97 98 0 0 0 0 0 0)))) }), (3, { v := some (.bool true) }), (7, { v := some (.bool true) }), (14, { call := some ((ids_Set_Add_v y8).ren (sel [1, 2]), preOf (sel [1, 2]) 0 (ids_Set_Add_objs y4 (T_api_Tx.mk 1 2 3)), upOf (sel [1, 2]) (ids_Set_Add_up y4 (T_api_Tx.mk 1 2 3) y8)) }), (16, { v := some (.bool true) }), (19, { call := some ((ids_Set_Has_v y11).ren (sel [1, 2]), preOf (sel [1, 2]) 0 (ids_Set_Has_objs y8.2 (T_api_Tx.mk 1 2 3)), upOf (sel [1, 2]) (ids_Set_Has_up y8.2 (T_api_Tx.mk 1 2 3) y11)) }), (21, { v := some (.bool false) })]])
            (a_ (a_ (a_ (a_ tr tr) tr) (a_ (a_ (a_ (a_ (ids_KeyOf_tri ([97, 98] : List UInt8) y2 e1) tr) tr) (a_ (a_ tr tr) (a_ (a_ tr tr) (a_ (a_ tr tr) (a_ (a_ tr tr) (a_ (a_ (a_ (Eq.refl 8) (a_ (le_ 8 8 rfl) (Eq.refl 0))) tr) (a_ (a_ tr tr) tr))))))) (a_ (a_ (a_ (a_ (ids_New_ok  y4 e3 (sel [1, 2]) (sel_inj rfl rfl)) tr) tr) (a_ (a_ tr tr) tr)) (a_ (a_ (a_ (Eq.refl true) tr) (a_ (a_ tr tr) (a_ (a_ (a_ (Eq.refl 3) (a_ (le_ 3 3 rfl) (Eq.refl 0))) tr) tr))) (a_ (a_ (a_ (a_ tr (le_ 8 8 rfl)) tr) (a_ (a_ (Eq.refl true) tr) (a_ (a_ tr (a_ (leB ((k_arr8 .u8) y2.1 (A8.mk 97 98 0 0 0 0 0 0))) tr)) (a_ (a_ tr (a_ (leB c5) tr)) (a_ (a_ tr tr) (a_ (a_ tr tr) (a_ (a_ tr tr) (a_ (a_ tr (a_ (leB c6) tr)) (a_ (a_ tr tr) (a_ (a_ tr tr) (a_ (a_ tr tr) (a_ (a_ tr tr) (a_ (a_ tr tr) (a_ (a_ (a_ tr (le_ 3 3 rfl)) tr) (a_ (a_ (a_ (ids_Set_Add_ok y4 (T_api_Tx.mk 1 2 3) y8 e7 (sel [1, 2]) (sel_inj rfl rfl)) (a_ (LO.Le.refl (.var [.map 2])) (a_ (LO.Le.refl (.map true [.int .u8, .int .u32, .int .u32] (encM v_T_api_Tx LV.bool y4))) tr))) tr) (a_ (a_ tr tr) (a_ (a_ tr (a_ (leB c9) tr)) (a_ (a_ tr tr) (a_ (a_ (a_ tr (le_ 3 3 rfl)) tr) (a_ (a_ (a_ (ids_Set_Has_ok y8.2 (T_api_Tx.mk 1 2 3) y11 e10 (sel [1, 2]) (sel_inj rfl rfl)) (a_ (LO.Le.refl (.var [.map 2])) (a_ (LO.Le.refl (.map true [.int .u8, .int .u32, .int .u32] (encM v_T_api_Tx LV.bool y8.2))) tr))) tr) (a_ (a_ tr tr) (a_ (a_ tr (a_ (leB c12) tr)) (a_ tr (a_ tr (a_ tr (a_ tr (a_ (a_ tr tr) (a_ (a_ tr tr) (a_ tr (a_ tr (a_ (a_ tr tr) (a_ (a_ tr tr) tr)))))))))))))))))))))))))))))))) tr))))) tr) (by kernel_rfl) rfl
      · skip
        obtain rfl := Option.some.inj h
        exact run_ret mixed (L := []) (n := 24) (s := [.reg [], .reg [(0, { call := some (ids_KeyOf_v y2, [], []) })], .reg [(0, { call := some ((ids_New_v y4).ren (sel [1, 2]), preOf (sel [1, 2]) 0 [], upOf (sel [1, 2]) (ids_New_up  y4)) })], .reg [], .reg [(2, { v := some (.bool (decide (y2.1 = (A8.mk 97 98 0 0 0 0 0 0)))) }), (3, { v := some (.bool true) }), (7, { v := some (.bool true) }), (14, { call := some ((ids_Set_Add_v y8).ren (sel [1, 2]), preOf (sel [1, 2]) 0 (ids_Set_Add_objs y4 (T_api_Tx.mk 1 2 3)), upOf (sel [1, 2]) (ids_Set_Add_up y4 (T_api_Tx.mk 1 2 3) y8)) }), (16, { v := some (.bool false) })]])
          (a_ (a_ (a_ (a_ tr tr) tr) (a_ (a_ (a_ (a_ (ids_KeyOf_tri ([97, 98] : List UInt8) y2 e1) tr) tr) (a_ (a_ tr tr) (a_ (a_ tr tr) (a_ (a_ tr tr) (a_ (a_ tr tr) (a_ (a_ (a_ (Eq.refl 8) (a_ (le_ 8 8 rfl) (Eq.refl 0))) tr) (a_ (a_ tr tr) tr))))))) (a_ (a_ (a_ (a_ (ids_New_ok  y4 e3 (sel [1, 2]) (sel_inj rfl rfl)) tr) tr) (a_ (a_ tr tr) tr)) (a_ (a_ (a_ (Eq.refl true) tr) (a_ (a_ tr tr) (a_ (a_ (a_ (Eq.refl 3) (a_ (le_ 3 3 rfl) (Eq.refl 0))) tr) tr))) (a_ (a_ (a_ (a_ tr (le_ 8 8 rfl)) tr) (a_ (a_ (Eq.refl true) tr) (a_ (a_ tr (a_ (leB ((k_arr8 .u8) y2.1 (A8.mk 97 98 0 0 0 0 0 0))) tr)) (a_ (a_ tr (a_ (leB c5) tr)) (a_ (a_ tr tr) (a_ (a_ tr tr) (a_ (a_ tr tr) (a_ (a_ tr (a_ (leB c6) tr)) (a_ (a_ tr tr) (a_ (a_ tr tr) (a_ (a_ tr tr) (a_ (a_ tr tr) (a_ (a_ tr tr) (a_ (a_ (a_ tr (le_ 3 3 rfl)) tr) (a_ (a_ (a_ (ids_Set_Add_ok y4 (T_api_Tx.mk 1 2 3) y8 e7 (sel [1, 2]) (sel_inj rfl rfl)) (a_ (LO.Le.refl (.var [.map 2])) (a_ (LO.Le.refl (.map true [.int .u8, .int .u32, .int .u32] (encM v_T_api_Tx LV.bool y4))) tr))) tr) (a_ (a_ tr tr) (a_ (a_ tr (a_ (leB c9) tr)) (a_ tr (a_ tr (a_ tr (a_ (a_ tr tr) (a_ (a_ tr tr) (a_ tr (a_ tr (a_ tr (a_ tr (a_ (a_ tr tr) (a_ (a_ tr tr) (a_ tr (a_ tr (a_ (a_ tr tr) (a_ (a_ tr tr) tr)))))))))))))))))))))))))))))))) tr))))) tr) (by kernel_rfl) rfl
    · skip
      obtain rfl := Option.some.inj h
      exact run_ret mixed (L := []) (n := 24) (s := [.reg [], .reg [(0, { call := some (ids_KeyOf_v y2, [], []) })], .reg [(0, { call := some ((ids_New_v y4).ren (sel [1, 2]), preOf (sel [1, 2]) 0 [], upOf (sel [1, 2]) (ids_New_up  y4)) })], .reg [], .reg [(2, { v := some (.bool (decide (y2.1 = (A8.mk 97 98 0 0 0 0 0 0)))) }), (3, { v := some (.bool true) }), (7, { v := some (.bool false) })]])
        (a_ (a_ (a_ (a_ tr tr) tr) (a_ (a_ (a_ (a_ (ids_KeyOf_tri ([97, 98] : List UInt8) y2 e1) tr) tr) (a_ (a_ tr tr) (a_ (a_ tr tr) (a_ (a_ tr tr) (a_ (a_ tr tr) (a_ (a_ (a_ (Eq.refl 8) (a_ (le_ 8 8 rfl) (Eq.refl 0))) tr) (a_ (a_ tr tr) tr))))))) (a_ (a_ (a_ (a_ (ids_New_ok  y4 e3 (sel [1, 2]) (sel_inj rfl rfl)) tr) tr) (a_ (a_ tr tr) tr)) (a_ (a_ (a_ (Eq.refl true) tr) (a_ (a_ tr tr) (a_ (a_ (a_ (Eq.refl 3) (a_ (le_ 3 3 rfl) (Eq.refl 0))) tr) tr))) (a_ (a_ (a_ (a_ tr (le_ 8 8 rfl)) tr) (a_ (a_ (Eq.refl true) tr) (a_ (a_ tr (a_ (leB ((k_arr8 .u8) y2.1 (A8.mk 97 98 0 0 0 0 0 0))) tr)) (a_ (a_ tr (a_ (leB c5) tr)) (a_ (a_ tr tr) (a_ (a_ tr tr) (a_ (a_ tr tr) (a_ (a_ tr (a_ (leB c6) tr)) (a_ tr (a_ tr (a_ (a_ tr tr) (a_ (a_ tr tr) (a_ tr (a_ tr (a_ tr (a_ (a_ tr tr) (a_ (a_ tr tr) (a_ tr (a_ tr (a_ tr (a_ (a_ tr tr) (a_ (a_ tr tr) (a_ tr (a_ tr (a_ tr (a_ tr (a_ (a_ tr tr) (a_ (a_ tr tr) (a_ tr (a_ tr (a_ (a_ tr tr) (a_ (a_ tr tr) tr)))))))))))))))))))))))))))))))) tr))))) tr) (by kernel_rfl) rfl
  · skip
    obtain rfl := Option.some.inj h
    exact run_ret mixed (L := []) (n := 24) (s := [.reg [], .reg [(0, { call := some (ids_KeyOf_v y2, [], []) })], .reg [(0, { call := some ((ids_New_v y4).ren (sel [1, 2]), preOf (sel [1, 2]) 0 [], upOf (sel [1, 2]) (ids_New_up  y4)) })], .reg [], .reg [(2, { v := some (.bool (decide (y2.1 = (A8.mk 97 98 0 0 0 0 0 0)))) }), (3, { v := some (.bool false) })]])
      (a_ (a_ (a_ (a_ tr tr) tr) (a_ (a_ (a_ (a_ (ids_KeyOf_tri ([97, 98] : List UInt8) y2 e1) tr) tr) (a_ (a_ tr tr) (a_ (a_ tr tr) (a_ (a_ tr tr) (a_ (a_ tr tr) (a_ (a_ (a_ (Eq.refl 8) (a_ (le_ 8 8 rfl) (Eq.refl 0))) tr) (a_ (a_ tr tr) tr))))))) (a_ (a_ (a_ (a_ (ids_New_ok  y4 e3 (sel [1, 2]) (sel_inj rfl rfl)) tr) tr) (a_ (a_ tr tr) tr)) (a_ (a_ (a_ (Eq.refl true) tr) (a_ (a_ tr tr) (a_ (a_ (a_ (Eq.refl 3) (a_ (le_ 3 3 rfl) (Eq.refl 0))) tr) tr))) (a_ (a_ (a_ (a_ tr (le_ 8 8 rfl)) tr) (a_ (a_ (Eq.refl true) tr) (a_ (a_ tr (a_ (leB ((k_arr8 .u8) y2.1 (A8.mk 97 98 0 0 0 0 0 0))) tr)) (a_ (a_ tr (a_ (leB c5) tr)) (a_ tr (a_ tr (a_ (a_ tr tr) (a_ (a_ tr tr) (a_ tr (a_ tr (a_ (a_ tr tr) (a_ (a_ tr tr) (a_ tr (a_ tr (a_ tr (a_ (a_ tr tr) (a_ (a_ tr tr) (a_ tr (a_ tr (a_ tr (a_ (a_ tr tr) (a_ (a_ tr tr) (a_ tr (a_ tr (a_ tr (a_ tr (a_ (a_ tr tr) (a_ (a_ tr tr) (a_ tr (a_ tr (a_ (a_ tr tr) (a_ (a_ tr tr) tr)))))))))))))))))))))))))))))))) tr))))) tr) (by kernel_rfl) rfl

theorem parrellaw05_alive_tri  (r : (Bool)) (h : parrellaw05_alive  = some r) : FnTri Try.prog 14 [] [] (parrellaw05_alive_v r) [] := FnTri.none (parrellaw05_alive_ok  r h) rfl rfl

/-- parrel/ids.RegMay -/

def ids_RegMay_v (r : (Bool)) : LV := .bool r

def ids_RegMay (g : T_api_Reg) : Option ((Bool)) :=
  (ids_isCount g.f_Boot).bind fun y2 =>
  if (y2 : Bool) then
    (ids_isCount g.f_N).bind fun y5 =>
    some y5
  else
    some false

theorem ids_RegMay_ok (g : T_api_Reg) (r : (Bool)) (h : ids_RegMay g = some r) : ∀ σ, Inj 0 σ → FnTri Try.prog 12 (renL σ [v_T_api_Reg g]) (preOf σ 0 []) ((ids_RegMay_v r).ren σ) (upOf σ []) := by
  refine fn_of Try.func12 (by kernel_rfl) (by kernel_rfl) (by kernel_rfl) trivial (by kernel_rfl) trivial (by kernel_rfl) ?_
  intro w0 W μ0 hμ
  unfold ids_RegMay at h
  obtain ⟨y2, e1, h⟩ := bind_some h
  rcases itb_some h with ⟨c3, h⟩ | ⟨c3, h⟩
  · skip
    obtain ⟨y5, e4, h⟩ := bind_some h
    obtain rfl := Option.some.inj h
    exact run_ret mixed (L := []) (n := 15) (s := [.reg [], .reg [(2, { call := some (ids_isCount_v y2, [], []) }), (3, { v := some (.bool true) }), (6, { call := some (ids_isCount_v y5, [], []) })]])
      (a_ (a_ (a_ (a_ tr tr) (a_ (a_ tr tr) tr)) (a_ (a_ (a_ tr tr) (a_ (a_ (a_ tr (lt_ 0 2 rfl)) tr) (a_ (a_ (a_ (ids_isCount_tri g.f_Boot y2 e1) tr) tr) (a_ (a_ tr (a_ (leB c3) tr)) (a_ (a_ tr tr) (a_ (a_ (a_ tr (lt_ 1 2 rfl)) tr) (a_ (a_ (a_ (ids_isCount_tri g.f_N y5 e4) tr) tr) (a_ (a_ tr tr) (a_ (a_ tr tr) tr))))))))) tr)) tr) (by kernel_rfl) rfl
  · skip
    obtain rfl := Option.some.inj h
    exact run_ret mixed (L := []) (n := 15) (s := [.reg [], .reg [(2, { call := some (ids_isCount_v y2, [], []) }), (3, { v := some (.bool false) })]])
      (a_ (a_ (a_ (a_ tr tr) (a_ (a_ tr tr) tr)) (a_ (a_ (a_ tr tr) (a_ (a_ (a_ tr (lt_ 0 2 rfl)) tr) (a_ (a_ (a_ (ids_isCount_tri g.f_Boot y2 e1) tr) tr) (a_ (a_ tr (a_ (leB c3) tr)) (a_ tr (a_ tr (a_ tr (a_ (a_ tr tr) (a_ (a_ tr tr) tr))))))))) tr)) tr) (by kernel_rfl) rfl

theorem ids_RegMay_tri (g : T_api_Reg) (r : (Bool)) (h : ids_RegMay g = some r) : FnTri Try.prog 12 [v_T_api_Reg g] [] (ids_RegMay_v r) [] := FnTri.none (ids_RegMay_ok g r h) rfl rfl

/-- (*parrel/code.Reader).Left -/

def code_Reader_Left_v (r : (Int)) : LV := .int .i64 r

def code_Reader_Left_up (x_r : T_code_Reader) (r : (Int)) : Upd := [(0, some (.var (c_T_code_Reader x_r)))]

def code_Reader_Left_objs (x_r : T_code_Reader) : List LO := [.var (c_T_code_Reader x_r)]

def code_Reader_Left (x_r : T_code_Reader) : Option ((Int)) :=
  if ((!decide (x_r.f_fault = (T_api_Fault.mk 0 0))) : Bool) then
    some 0
  else
    some (IntKind.wrap .i64 (((x_r.f_b).length : Int) - x_r.f_at))

theorem code_Reader_Left_ok (x_r : T_code_Reader) (r : (Int)) (h : code_Reader_Left x_r = some r) : ∀ σ, Inj 1 σ → FnTri Try.prog 55 (renL σ [.ptr 0 0 0]) (preOf σ 0 (code_Reader_Left_objs x_r)) ((code_Reader_Left_v r).ren σ) (upOf σ (code_Reader_Left_up x_r r)) := by
  refine fn_of Try.func55 (by kernel_rfl) (by kernel_rfl) (by kernel_rfl) ⟨rfl, trivial⟩ (by kernel_rfl) ⟨rfl, trivial⟩ (by kernel_rfl) ?_
  intro w0 W μ0 hμ
  unfold code_Reader_Left at h
  rcases itb_some h with ⟨c1, h⟩ | ⟨c1, h⟩
  · skip
    obtain rfl := Option.some.inj h
    exact run_ret mixed (L := []) (n := 20) (s := [.reg [], .reg [(8, { v := some (.bool (!decide (x_r.f_fault = (T_api_Fault.mk 0 0)))) }), (9, { v := some (.bool true) })], .reg []])
      (a_ (a_ (a_ (a_ tr tr) tr) (a_ (a_ (a_ tr tr) (a_ (a_ tr tr) (a_ (a_ tr tr) (a_ (a_ tr tr) (a_ (a_ tr tr) (a_ (a_ tr tr) (a_ (a_ (a_ tr (le_ 4 4 rfl)) tr) (a_ (a_ (Eq.refl true) tr) (a_ (a_ tr (a_ (leB (congrArg not (k_T_api_Fault x_r.f_fault (T_api_Fault.mk 0 0)))) tr)) (a_ (a_ tr (a_ (leB c1) tr)) tr)))))))))) (a_ (a_ (a_ tr tr) tr) tr))) tr) (by kernel_rfl) rfl
  · skip
    obtain rfl := Option.some.inj h
    exact run_ret mixed (L := []) (n := 21) (s := [.reg [], .reg [(8, { v := some (.bool (!decide (x_r.f_fault = (T_api_Fault.mk 0 0)))) }), (9, { v := some (.bool false) })], .reg []])
      (a_ (a_ (a_ (a_ tr tr) tr) (a_ (a_ (a_ tr tr) (a_ (a_ tr tr) (a_ (a_ tr tr) (a_ (a_ tr tr) (a_ (a_ tr tr) (a_ (a_ tr tr) (a_ (a_ (a_ tr (le_ 4 4 rfl)) tr) (a_ (a_ (Eq.refl true) tr) (a_ (a_ tr (a_ (leB (congrArg not (k_T_api_Fault x_r.f_fault (T_api_Fault.mk 0 0)))) tr)) (a_ (a_ tr (a_ (leB c1) tr)) tr)))))))))) (a_ (a_ (a_ tr tr) (a_ (a_ tr tr) (a_ (a_ tr tr) (a_ (a_ (a_ tr (lt_ 0 4 rfl)) tr) (a_ (a_ tr tr) (a_ (a_ tr tr) (a_ (a_ tr tr) (a_ (a_ tr tr) (a_ (a_ (a_ tr (lt_ 1 4 rfl)) tr) (a_ (a_ tr tr) (a_ (a_ tr tr) tr))))))))))) tr))) tr) (by kernel_rfl) rfl

/-- (*parrel/code.Reader).End -/

def code_Reader_End_v (r : (T_api_Fault) × (List (Int)) × (Int) × (T_api_Fault)) : LV := v_T_api_Fault r.1

def code_Reader_End_up (x_r : T_code_Reader) (r : (T_api_Fault) × (List (Int)) × (Int) × (T_api_Fault)) : Upd := [(0, some (.var (c_T_code_Reader (T_code_Reader.mk r.2.1 r.2.2.1 r.2.2.2))))]

def code_Reader_End_objs (x_r : T_code_Reader) : List LO := [.var (c_T_code_Reader x_r)]

def code_Reader_End (x_r : T_code_Reader) : Option ((T_api_Fault) × (List (Int)) × (Int) × (T_api_Fault)) :=
  (code_Reader_Left x_r).bind fun y2 =>
  if ((decide (0 < y2)) : Bool) then
    (code_Reader_Fault (T_code_Reader.mk x_r.f_b x_r.f_at (T_api_Fault.mk 3 x_r.f_at))).bind fun y5 =>
    some (y5, (T_code_Reader.mk x_r.f_b x_r.f_at (T_api_Fault.mk 3 x_r.f_at)).f_b, (T_code_Reader.mk x_r.f_b x_r.f_at (T_api_Fault.mk 3 x_r.f_at)).f_at, (T_code_Reader.mk x_r.f_b x_r.f_at (T_api_Fault.mk 3 x_r.f_at)).f_fault)
  else
    (code_Reader_Fault x_r).bind fun y5 =>
    some (y5, x_r.f_b, x_r.f_at, x_r.f_fault)

theorem code_Reader_End_ok (x_r : T_code_Reader) (r : (T_api_Fault) × (List (Int)) × (Int) × (T_api_Fault)) (h : code_Reader_End x_r = some r) : ∀ σ, Inj 1 σ → FnTri Try.prog 29 (renL σ [.ptr 0 0 0]) (preOf σ 0 (code_Reader_End_objs x_r)) ((code_Reader_End_v r).ren σ) (upOf σ (code_Reader_End_up x_r r)) := by
  refine fn_of Try.func29 (by kernel_rfl) (by kernel_rfl) (by kernel_rfl) ⟨rfl, trivial⟩ (by kernel_rfl) ⟨rfl, trivial⟩ (by kernel_rfl) ?_
  intro w0 W μ0 hμ
  unfold code_Reader_End at h
  obtain ⟨y2, e1, h⟩ := bind_some h
  rcases itb_some h with ⟨c3, h⟩ | ⟨c3, h⟩
  · skip
    obtain ⟨y5, e4, h⟩ := bind_some h
    obtain rfl := Option.some.inj h
    exact run_ret mixed (L := []) (n := 22) (s := [.reg [], .reg [(1, { call := some ((code_Reader_Left_v y2).ren (sel [0]), preOf (sel [0]) 0 (code_Reader_Left_objs x_r), upOf (sel [0]) (code_Reader_Left_up x_r y2)) }), (2, { v := some (.bool true) })], .reg [], .reg [(1, { call := some ((code_Reader_Fault_v y5).ren (sel [0]), preOf (sel [0]) 0 (code_Reader_Fault_objs (T_code_Reader.mk x_r.f_b x_r.f_at (T_api_Fault.mk 3 x_r.f_at))), upOf (sel [0]) (code_Reader_Fault_up (T_code_Reader.mk x_r.f_b x_r.f_at (T_api_Fault.mk 3 x_r.f_at)) y5)) })]])
      (a_ (a_ (a_ (a_ tr tr) tr) (a_ (a_ (a_ tr tr) (a_ (a_ (a_ (code_Reader_Left_ok x_r y2 e1 (sel [0]) (sel_inj rfl rfl)) (a_ (LO.Le.refl (.var (c_T_code_Reader x_r))) tr)) tr) (a_ (a_ tr (a_ (leB c3) tr)) tr))) (a_ (a_ (a_ tr tr) (a_ (a_ tr tr) (a_ (a_ tr tr) (a_ (a_ tr tr) (a_ (a_ (a_ tr (lt_ 1 4 rfl)) tr) (a_ (a_ (Eq.refl true) tr) (a_ (a_ tr tr) (a_ (a_ tr tr) (a_ (a_ (a_ (Eq.refl 2) (a_ (le_ 4 4 rfl) (Eq.refl 0))) tr) tr))))))))) (a_ (a_ (a_ tr tr) (a_ (a_ (a_ (code_Reader_Fault_ok (T_code_Reader.mk x_r.f_b x_r.f_at (T_api_Fault.mk 3 x_r.f_at)) y5 e4 (sel [0]) (sel_inj rfl rfl)) (a_ (LO.Le.refl (.var (c_T_code_Reader (T_code_Reader.mk x_r.f_b x_r.f_at (T_api_Fault.mk 3 x_r.f_at))))) tr)) tr) (a_ (a_ (a_ (Eq.refl 2) (a_ (le_ 2 2 rfl) (Eq.refl 0))) tr) tr))) tr)))) (a_ (a_ tr (le_ 2 2 rfl)) tr)) (by kernel_rfl) rfl
  · skip
    obtain ⟨y5, e4, h⟩ := bind_some h
    obtain rfl := Option.some.inj h
    exact run_ret mixed (L := []) (n := 21) (s := [.reg [], .reg [(1, { call := some ((code_Reader_Left_v y2).ren (sel [0]), preOf (sel [0]) 0 (code_Reader_Left_objs x_r), upOf (sel [0]) (code_Reader_Left_up x_r y2)) }), (2, { v := some (.bool false) })], .reg [(1, { call := some ((code_Reader_Fault_v y5).ren (sel [0]), preOf (sel [0]) 0 (code_Reader_Fault_objs x_r), upOf (sel [0]) (code_Reader_Fault_up x_r y5)) })]])
      (a_ (a_ (a_ (a_ tr tr) tr) (a_ (a_ (a_ tr tr) (a_ (a_ (a_ (code_Reader_Left_ok x_r y2 e1 (sel [0]) (sel_inj rfl rfl)) (a_ (LO.Le.refl (.var (c_T_code_Reader x_r))) tr)) tr) (a_ (a_ tr (a_ (leB c3) tr)) tr))) (a_ (a_ (a_ tr tr) (a_ (a_ (a_ (code_Reader_Fault_ok x_r y5 e4 (sel [0]) (sel_inj rfl rfl)) (a_ (LO.Le.refl (.var (c_T_code_Reader x_r))) tr)) tr) (a_ (a_ (a_ (Eq.refl 2) (a_ (le_ 2 2 rfl) (Eq.refl 0))) tr) tr))) tr))) (a_ (a_ tr (le_ 2 2 rfl)) tr)) (by kernel_rfl) rfl

/-- parrel/parrellaw05.IdsBack -/

def parrellaw05_IdsBack_v (r : (Bool)) : LV := .bool r

def parrellaw05_IdsBack (s : T_api_Stamp) (g : T_api_Reg) : Option ((Bool)) :=
  (ids_PutStamp ([] : List (Int)) s).bind fun y2 =>
  (ids_PutReg y2 g).bind fun y4 =>
  (code_Writer_Bytes y4).bind fun y6 =>
  (code_New y6).bind fun y8 =>
  (ids_GetStamp (T_code_Reader.mk y8.1 0 y8.2)).bind fun y10 =>
  (ids_GetReg (T_code_Reader.mk y10.2.1 y10.2.2.1 y10.2.2.2)).bind fun y12 =>
  (ids_StampMay s).bind fun y14 =>
  if ((!y14) : Bool) then
    (parrellaw05_alive).bind fun y17 =>
    some y17
  else
    (ids_RegMay g).bind fun y17 =>
    if ((!y17) : Bool) then
      (parrellaw05_alive).bind fun y20 =>
      some y20
    else
      if ((decide (y10.1 = s)) : Bool) then
        if ((decide (y12.1 = g)) : Bool) then
          (code_Reader_End (T_code_Reader.mk y12.2.1 y12.2.2.1 y12.2.2.2)).bind fun y22 =>
          if ((decide (y22.1 = (T_api_Fault.mk 0 0))) : Bool) then
            (parrellaw05_alive).bind fun y25 =>
            some y25
          else
            some false
        else
          some false
      else
        some false

theorem parrellaw05_IdsBack_ok (s : T_api_Stamp) (g : T_api_Reg) (r : (Bool)) (h : parrellaw05_IdsBack s g = some r) : ∀ σ, Inj 0 σ → FnTri Try.prog 6 (renL σ [v_T_api_Stamp s, v_T_api_Reg g]) (preOf σ 0 []) ((parrellaw05_IdsBack_v r).ren σ) (upOf σ []) := by
  refine fn_of Try.func6 (by kernel_rfl) (by kernel_rfl) (by kernel_rfl) trivial (by kernel_rfl) trivial (by kernel_rfl) ?_
  intro w0 W μ0 hμ
  unfold parrellaw05_IdsBack at h
  obtain ⟨y2, e1, h⟩ := bind_some h
  obtain ⟨y4, e3, h⟩ := bind_some h
  obtain ⟨y6, e5, h⟩ := bind_some h
  obtain ⟨y8, e7, h⟩ := bind_some h
  obtain ⟨y10, e9, h⟩ := bind_some h
  obtain ⟨y12, e11, h⟩ := bind_some h
  obtain ⟨y14, e13, h⟩ := bind_some h
  rcases itb_some h with ⟨c15, h⟩ | ⟨c15, h⟩
  · skip
    obtain ⟨y17, e16, h⟩ := bind_some h
    obtain rfl := Option.some.inj h
    exact run_ret mixed (L := []) (n := 39) (s := [.reg [], .void (.gr 1 (([] : List (Int))).length (rowF (cInt .u8) default ([] : List (Int)))), .reg [(0, { os := [(3, .var [.gs 2 (([] : List (Int))).length])] })], .reg [(1, { call := some ((ids_PutStamp_v y2).ren (sel [3, 2, 4]), preOf (sel [3, 2, 4]) 0 (ids_PutStamp_objs ([] : List (Int)) s), upOf (sel [3, 2, 4]) (ids_PutStamp_up ([] : List (Int)) s y2)) })], .reg [(1, { call := some ((ids_PutReg_v y4).ren (sel [3, 4, 5]), preOf (sel [3, 4, 5]) 0 (ids_PutReg_objs y2 g), upOf (sel [3, 4, 5]) (ids_PutReg_up y2 g y4)) })], .reg [(0, { call := some ((code_Writer_Bytes_v y6).ren (sel [3, 5]), preOf (sel [3, 5]) 0 (code_Writer_Bytes_objs y4), upOf (sel [3, 5]) (code_Writer_Bytes_up y4 y6)) }), (1, { call := some ((code_New_v y8).ren (sel [6]), preOf (sel [6]) 0 [], upOf (sel [6]) (code_New_up y6 y8)) })], .reg [(1, { call := some ((ids_GetStamp_v y10).ren (sel [6]), preOf (sel [6]) 0 (ids_GetStamp_objs (T_code_Reader.mk y8.1 0 y8.2)), upOf (sel [6]) (ids_GetStamp_up (T_code_Reader.mk y8.1 0 y8.2) y10)) })], .reg [(1, { call := some ((ids_GetReg_v y12).ren (sel [6]), preOf (sel [6]) 0 (ids_GetReg_objs (T_code_Reader.mk y10.2.1 y10.2.2.1 y10.2.2.2)), upOf (sel [6]) (ids_GetReg_up (T_code_Reader.mk y10.2.1 y10.2.2.1 y10.2.2.2) y12)) })], .reg [(1, { call := some (ids_StampMay_v y14, [], []) }), (3, { v := some (.bool true) })], .reg [(0, { call := some (parrellaw05_alive_v y17, [], []) })]])
      (a_ (a_ (a_ (a_ tr tr) (a_ (a_ tr tr) (a_ (a_ tr tr) tr))) (a_ (Eq.refl 0) (a_ (a_ (a_ tr (a_ (LO.Sub.var (a := [.nilsl]) (b := [.gs 2 (([] : List (Int))).length]) (a_ (le_nil_gs 2) tr)) tr)) tr) (a_ (a_ (a_ (a_ tr (le_ 4 4 rfl)) tr) (a_ (a_ (a_ (ids_PutStamp_ok ([] : List (Int)) s y2 e1 (sel [3, 2, 4]) (sel_inj rfl rfl)) (a_ (LO.Le.refl (.var [.gs 2 (([] : List (Int))).length])) (a_ (LO.Le.refl (.gr 1 (([] : List (Int))).length (rowF (cInt .u8) default ([] : List (Int))))) tr))) tr) tr)) (a_ (a_ (a_ (a_ tr (le_ 2 2 rfl)) tr) (a_ (a_ (a_ (ids_PutReg_ok y2 g y4 e3 (sel [3, 4, 5]) (sel_inj rfl rfl)) (a_ (LO.Le.refl (.var [.gs 4 (y2).length])) (a_ (LO.Le.refl (.gr 1 (y2).length (rowF (cInt .u8) default y2))) tr))) tr) tr)) (a_ (a_ (a_ (a_ (code_Writer_Bytes_ok y4 y6 e5 (sel [3, 5]) (sel_inj rfl rfl)) (a_ (LO.Le.refl (.var [.gs 5 (y4).length])) (a_ (LO.Le.refl (.gr 1 (y4).length (rowF (cInt .u8) default y4))) tr))) tr) (a_ (a_ (a_ (code_New_ok y6 y8 e7 (sel [6]) (sel_inj rfl rfl)) tr) tr) (a_ (a_ tr tr) tr))) (a_ (a_ (a_ tr tr) (a_ (a_ (a_ (ids_GetStamp_ok (T_code_Reader.mk y8.1 0 y8.2) y10 e9 (sel [6]) (sel_inj rfl rfl)) (a_ (LO.Le.refl (.var (c_T_code_Reader (T_code_Reader.mk y8.1 0 y8.2)))) tr)) tr) (a_ (a_ tr tr) (a_ (a_ (a_ (Eq.refl 4) (a_ (le_ 4 4 rfl) (Eq.refl 0))) tr) tr)))) (a_ (a_ (a_ tr tr) (a_ (a_ (a_ (ids_GetReg_ok (T_code_Reader.mk y10.2.1 y10.2.2.1 y10.2.2.2) y12 e11 (sel [6]) (sel_inj rfl rfl)) (a_ (LO.Le.refl (.var (c_T_code_Reader (T_code_Reader.mk y10.2.1 y10.2.2.1 y10.2.2.2)))) tr)) tr) (a_ (a_ tr tr) (a_ (a_ (a_ (Eq.refl 2) (a_ (le_ 2 2 rfl) (Eq.refl 0))) tr) tr)))) (a_ (a_ (a_ (a_ tr (le_ 4 4 rfl)) tr) (a_ (a_ (a_ (ids_StampMay_tri s y14 e13) tr) tr) (a_ (a_ tr tr) (a_ (a_ tr (a_ (leB c15) tr)) (a_ tr (a_ tr (a_ tr (a_ (a_ tr tr) tr)))))))) (a_ (a_ (a_ (a_ (parrellaw05_alive_tri  y17 e16) tr) tr) (a_ (a_ tr tr) tr)) tr)))))))))) tr) (by kernel_rfl) rfl
  · skip
    obtain ⟨y17, e16, h⟩ := bind_some h
    rcases itb_some h with ⟨c18, h⟩ | ⟨c18, h⟩
    · skip
      obtain ⟨y20, e19, h⟩ := bind_some h
      obtain rfl := Option.some.inj h
      exact run_ret mixed (L := []) (n := 39) (s := [.reg [], .void (.gr 1 (([] : List (Int))).length (rowF (cInt .u8) default ([] : List (Int)))), .reg [(0, { os := [(3, .var [.gs 2 (([] : List (Int))).length])] })], .reg [(1, { call := some ((ids_PutStamp_v y2).ren (sel [3, 2, 4]), preOf (sel [3, 2, 4]) 0 (ids_PutStamp_objs ([] : List (Int)) s), upOf (sel [3, 2, 4]) (ids_PutStamp_up ([] : List (Int)) s y2)) })], .reg [(1, { call := some ((ids_PutReg_v y4).ren (sel [3, 4, 5]), preOf (sel [3, 4, 5]) 0 (ids_PutReg_objs y2 g), upOf (sel [3, 4, 5]) (ids_PutReg_up y2 g y4)) })], .reg [(0, { call := some ((code_Writer_Bytes_v y6).ren (sel [3, 5]), preOf (sel [3, 5]) 0 (code_Writer_Bytes_objs y4), upOf (sel [3, 5]) (code_Writer_Bytes_up y4 y6)) }), (1, { call := some ((code_New_v y8).ren (sel [6]), preOf (sel [6]) 0 [], upOf (sel [6]) (code_New_up y6 y8)) })], .reg [(1, { call := some ((ids_GetStamp_v y10).ren (sel [6]), preOf (sel [6]) 0 (ids_GetStamp_objs (T_code_Reader.mk y8.1 0 y8.2)), upOf (sel [6]) (ids_GetStamp_up (T_code_Reader.mk y8.1 0 y8.2) y10)) })], .reg [(1, { call := some ((ids_GetReg_v y12).ren (sel [6]), preOf (sel [6]) 0 (ids_GetReg_objs (T_code_Reader.mk y10.2.1 y10.2.2.1 y10.2.2.2)), upOf (sel [6]) (ids_GetReg_up (T_code_Reader.mk y10.2.1 y10.2.2.1 y10.2.2.2) y12)) })], .reg [(1, { call := some (ids_StampMay_v y14, [], []) }), (3, { v := some (.bool false) }), (5, { call := some (ids_RegMay_v y17, [], []) }), (7, { v := some (.bool true) })], .reg [(0, { call := some (parrellaw05_alive_v y20, [], []) })]])
        (a_ (a_ (a_ (a_ tr tr) (a_ (a_ tr tr) (a_ (a_ tr tr) tr))) (a_ (Eq.refl 0) (a_ (a_ (a_ tr (a_ (LO.Sub.var (a := [.nilsl]) (b := [.gs 2 (([] : List (Int))).length]) (a_ (le_nil_gs 2) tr)) tr)) tr) (a_ (a_ (a_ (a_ tr (le_ 4 4 rfl)) tr) (a_ (a_ (a_ (ids_PutStamp_ok ([] : List (Int)) s y2 e1 (sel [3, 2, 4]) (sel_inj rfl rfl)) (a_ (LO.Le.refl (.var [.gs 2 (([] : List (Int))).length])) (a_ (LO.Le.refl (.gr 1 (([] : List (Int))).length (rowF (cInt .u8) default ([] : List (Int))))) tr))) tr) tr)) (a_ (a_ (a_ (a_ tr (le_ 2 2 rfl)) tr) (a_ (a_ (a_ (ids_PutReg_ok y2 g y4 e3 (sel [3, 4, 5]) (sel_inj rfl rfl)) (a_ (LO.Le.refl (.var [.gs 4 (y2).length])) (a_ (LO.Le.refl (.gr 1 (y2).length (rowF (cInt .u8) default y2))) tr))) tr) tr)) (a_ (a_ (a_ (a_ (code_Writer_Bytes_ok y4 y6 e5 (sel [3, 5]) (sel_inj rfl rfl)) (a_ (LO.Le.refl (.var [.gs 5 (y4).length])) (a_ (LO.Le.refl (.gr 1 (y4).length (rowF (cInt .u8) default y4))) tr))) tr) (a_ (a_ (a_ (code_New_ok y6 y8 e7 (sel [6]) (sel_inj rfl rfl)) tr) tr) (a_ (a_ tr tr) tr))) (a_ (a_ (a_ tr tr) (a_ (a_ (a_ (ids_GetStamp_ok (T_code_Reader.mk y8.1 0 y8.2) y10 e9 (sel [6]) (sel_inj rfl rfl)) (a_ (LO.Le.refl (.var (c_T_code_Reader (T_code_Reader.mk y8.1 0 y8.2)))) tr)) tr) (a_ (a_ tr tr) (a_ (a_ (a_ (Eq.refl 4) (a_ (le_ 4 4 rfl) (Eq.refl 0))) tr) tr)))) (a_ (a_ (a_ tr tr) (a_ (a_ (a_ (ids_GetReg_ok (T_code_Reader.mk y10.2.1 y10.2.2.1 y10.2.2.2) y12 e11 (sel [6]) (sel_inj rfl rfl)) (a_ (LO.Le.refl (.var (c_T_code_Reader (T_code_Reader.mk y10.2.1 y10.2.2.1 y10.2.2.2)))) tr)) tr) (a_ (a_ tr tr) (a_ (a_ (a_ (Eq.refl 2) (a_ (le_ 2 2 rfl) (Eq.refl 0))) tr) tr)))) (a_ (a_ (a_ (a_ tr (le_ 4 4 rfl)) tr) (a_ (a_ (a_ (ids_StampMay_tri s y14 e13) tr) tr) (a_ (a_ tr tr) (a_ (a_ tr (a_ (leB c15) tr)) (a_ (a_ (a_ tr (le_ 2 2 rfl)) tr) (a_ (a_ (a_ (ids_RegMay_tri g y17 e16) tr) tr) (a_ (a_ tr tr) (a_ (a_ tr (a_ (leB c18) tr)) tr)))))))) (a_ (a_ (a_ (a_ (parrellaw05_alive_tri  y20 e19) tr) tr) (a_ (a_ tr tr) tr)) tr)))))))))) tr) (by kernel_rfl) rfl
    · skip
      rcases itb_some h with ⟨c19, h⟩ | ⟨c19, h⟩
      · skip
        rcases itb_some h with ⟨c20, h⟩ | ⟨c20, h⟩
        · skip
          obtain ⟨y22, e21, h⟩ := bind_some h
          rcases itb_some h with ⟨c23, h⟩ | ⟨c23, h⟩
          · skip
            obtain ⟨y25, e24, h⟩ := bind_some h
            obtain rfl := Option.some.inj h
            exact run_ret mixed (L := []) (n := 40) (s := [.reg [], .void (.gr 1 (([] : List (Int))).length (rowF (cInt .u8) default ([] : List (Int)))), .reg [(0, { os := [(3, .var [.gs 2 (([] : List (Int))).length])] })], .reg [(1, { call := some ((ids_PutStamp_v y2).ren (sel [3, 2, 4]), preOf (sel [3, 2, 4]) 0 (ids_PutStamp_objs ([] : List (Int)) s), upOf (sel [3, 2, 4]) (ids_PutStamp_up ([] : List (Int)) s y2)) })], .reg [(1, { call := some ((ids_PutReg_v y4).ren (sel [3, 4, 5]), preOf (sel [3, 4, 5]) 0 (ids_PutReg_objs y2 g), upOf (sel [3, 4, 5]) (ids_PutReg_up y2 g y4)) })], .reg [(0, { call := some ((code_Writer_Bytes_v y6).ren (sel [3, 5]), preOf (sel [3, 5]) 0 (code_Writer_Bytes_objs y4), upOf (sel [3, 5]) (code_Writer_Bytes_up y4 y6)) }), (1, { call := some ((code_New_v y8).ren (sel [6]), preOf (sel [6]) 0 [], upOf (sel [6]) (code_New_up y6 y8)) })], .reg [(1, { call := some ((ids_GetStamp_v y10).ren (sel [6]), preOf (sel [6]) 0 (ids_GetStamp_objs (T_code_Reader.mk y8.1 0 y8.2)), upOf (sel [6]) (ids_GetStamp_up (T_code_Reader.mk y8.1 0 y8.2) y10)) })], .reg [(1, { call := some ((ids_GetReg_v y12).ren (sel [6]), preOf (sel [6]) 0 (ids_GetReg_objs (T_code_Reader.mk y10.2.1 y10.2.2.1 y10.2.2.2)), upOf (sel [6]) (ids_GetReg_up (T_code_Reader.mk y10.2.1 y10.2.2.1 y10.2.2.2) y12)) })], .reg [(1, { call := some (ids_StampMay_v y14, [], []) }), (3, { v := some (.bool false) }), (5, { call := some (ids_RegMay_v y17, [], []) }), (7, { v := some (.bool false) })], .reg [(2, { v := some (.bool (decide (y10.1 = s))) }), (3, { v := some (.bool true) }), (6, { v := some (.bool (decide (y12.1 = g))) }), (8, { v := some (.bool true) }), (10, { call := some ((code_Reader_End_v y22).ren (sel [6]), preOf (sel [6]) 0 (code_Reader_End_objs (T_code_Reader.mk y12.2.1 y12.2.2.1 y12.2.2.2)), upOf (sel [6]) (code_Reader_End_up (T_code_Reader.mk y12.2.1 y12.2.2.1 y12.2.2.2) y22)) }), (12, { v := some (.bool (decide (y22.1 = (T_api_Fault.mk 0 0)))) }), (14, { v := some (.bool true) }), (15, { call := some (parrellaw05_alive_v y25, [], []) })]])
              (a_ (a_ (a_ (a_ tr tr) (a_ (a_ tr tr) (a_ (a_ tr tr) tr))) (a_ (Eq.refl 0) (a_ (a_ (a_ tr (a_ (LO.Sub.var (a := [.nilsl]) (b := [.gs 2 (([] : List (Int))).length]) (a_ (le_nil_gs 2) tr)) tr)) tr) (a_ (a_ (a_ (a_ tr (le_ 4 4 rfl)) tr) (a_ (a_ (a_ (ids_PutStamp_ok ([] : List (Int)) s y2 e1 (sel [3, 2, 4]) (sel_inj rfl rfl)) (a_ (LO.Le.refl (.var [.gs 2 (([] : List (Int))).length])) (a_ (LO.Le.refl (.gr 1 (([] : List (Int))).length (rowF (cInt .u8) default ([] : List (Int))))) tr))) tr) tr)) (a_ (a_ (a_ (a_ tr (le_ 2 2 rfl)) tr) (a_ (a_ (a_ (ids_PutReg_ok y2 g y4 e3 (sel [3, 4, 5]) (sel_inj rfl rfl)) (a_ (LO.Le.refl (.var [.gs 4 (y2).length])) (a_ (LO.Le.refl (.gr 1 (y2).length (rowF (cInt .u8) default y2))) tr))) tr) tr)) (a_ (a_ (a_ (a_ (code_Writer_Bytes_ok y4 y6 e5 (sel [3, 5]) (sel_inj rfl rfl)) (a_ (LO.Le.refl (.var [.gs 5 (y4).length])) (a_ (LO.Le.refl (.gr 1 (y4).length (rowF (cInt .u8) default y4))) tr))) tr) (a_ (a_ (a_ (code_New_ok y6 y8 e7 (sel [6]) (sel_inj rfl rfl)) tr) tr) (a_ (a_ tr tr) tr))) (a_ (a_ (a_ tr tr) (a_ (a_ (a_ (ids_GetStamp_ok (T_code_Reader.mk y8.1 0 y8.2) y10 e9 (sel [6]) (sel_inj rfl rfl)) (a_ (LO.Le.refl (.var (c_T_code_Reader (T_code_Reader.mk y8.1 0 y8.2)))) tr)) tr) (a_ (a_ tr tr) (a_ (a_ (a_ (Eq.refl 4) (a_ (le_ 4 4 rfl) (Eq.refl 0))) tr) tr)))) (a_ (a_ (a_ tr tr) (a_ (a_ (a_ (ids_GetReg_ok (T_code_Reader.mk y10.2.1 y10.2.2.1 y10.2.2.2) y12 e11 (sel [6]) (sel_inj rfl rfl)) (a_ (LO.Le.refl (.var (c_T_code_Reader (T_code_Reader.mk y10.2.1 y10.2.2.1 y10.2.2.2)))) tr)) tr) (a_ (a_ tr tr) (a_ (a_ (a_ (Eq.refl 2) (a_ (le_ 2 2 rfl) (Eq.refl 0))) tr) tr)))) (a_ (a_ (a_ (a_ tr (le_ 4 4 rfl)) tr) (a_ (a_ (a_ (ids_StampMay_tri s y14 e13) tr) tr) (a_ (a_ tr tr) (a_ (a_ tr (a_ (leB c15) tr)) (a_ (a_ (a_ tr (le_ 2 2 rfl)) tr) (a_ (a_ (a_ (ids_RegMay_tri g y17 e16) tr) tr) (a_ (a_ tr tr) (a_ (a_ tr (a_ (leB c18) tr)) tr)))))))) (a_ (a_ (a_ (a_ tr (le_ 4 4 rfl)) tr) (a_ (a_ (a_ tr (le_ 4 4 rfl)) tr) (a_ (a_ tr (a_ (leB (k_T_api_Stamp y10.1 s)) tr)) (a_ (a_ tr (a_ (leB c19) tr)) (a_ (a_ (a_ tr (le_ 2 2 rfl)) tr) (a_ (a_ (a_ tr (le_ 2 2 rfl)) tr) (a_ (a_ tr (a_ (leB (k_T_api_Reg y12.1 g)) tr)) (a_ (a_ tr tr) (a_ (a_ tr (a_ (leB c20) tr)) (a_ (a_ tr tr) (a_ (a_ (a_ (code_Reader_End_ok (T_code_Reader.mk y12.2.1 y12.2.2.1 y12.2.2.2) y22 e21 (sel [6]) (sel_inj rfl rfl)) (a_ (LO.Le.refl (.var (c_T_code_Reader (T_code_Reader.mk y12.2.1 y12.2.2.1 y12.2.2.2)))) tr)) tr) (a_ (a_ (Eq.refl true) tr) (a_ (a_ tr (a_ (leB (k_T_api_Fault y22.1 (T_api_Fault.mk 0 0))) tr)) (a_ (a_ tr tr) (a_ (a_ tr (a_ (leB c23) tr)) (a_ (a_ (a_ (parrellaw05_alive_tri  y25 e24) tr) tr) (a_ (a_ tr tr) (a_ (a_ tr tr) tr)))))))))))))))))) tr)))))))))) tr) (by kernel_rfl) rfl
          · skip
            obtain rfl := Option.some.inj h
            exact run_ret mixed (L := []) (n := 40) (s := [.reg [], .void (.gr 1 (([] : List (Int))).length (rowF (cInt .u8) default ([] : List (Int)))), .reg [(0, { os := [(3, .var [.gs 2 (([] : List (Int))).length])] })], .reg [(1, { call := some ((ids_PutStamp_v y2).ren (sel [3, 2, 4]), preOf (sel [3, 2, 4]) 0 (ids_PutStamp_objs ([] : List (Int)) s), upOf (sel [3, 2, 4]) (ids_PutStamp_up ([] : List (Int)) s y2)) })], .reg [(1, { call := some ((ids_PutReg_v y4).ren (sel [3, 4, 5]), preOf (sel [3, 4, 5]) 0 (ids_PutReg_objs y2 g), upOf (sel [3, 4, 5]) (ids_PutReg_up y2 g y4)) })], .reg [(0, { call := some ((code_Writer_Bytes_v y6).ren (sel [3, 5]), preOf (sel [3, 5]) 0 (code_Writer_Bytes_objs y4), upOf (sel [3, 5]) (code_Writer_Bytes_up y4 y6)) }), (1, { call := some ((code_New_v y8).ren (sel [6]), preOf (sel [6]) 0 [], upOf (sel [6]) (code_New_up y6 y8)) })], .reg [(1, { call := some ((ids_GetStamp_v y10).ren (sel [6]), preOf (sel [6]) 0 (ids_GetStamp_objs (T_code_Reader.mk y8.1 0 y8.2)), upOf (sel [6]) (ids_GetStamp_up (T_code_Reader.mk y8.1 0 y8.2) y10)) })], .reg [(1, { call := some ((ids_GetReg_v y12).ren (sel [6]), preOf (sel [6]) 0 (ids_GetReg_objs (T_code_Reader.mk y10.2.1 y10.2.2.1 y10.2.2.2)), upOf (sel [6]) (ids_GetReg_up (T_code_Reader.mk y10.2.1 y10.2.2.1 y10.2.2.2) y12)) })], .reg [(1, { call := some (ids_StampMay_v y14, [], []) }), (3, { v := some (.bool false) }), (5, { call := some (ids_RegMay_v y17, [], []) }), (7, { v := some (.bool false) })], .reg [(2, { v := some (.bool (decide (y10.1 = s))) }), (3, { v := some (.bool true) }), (6, { v := some (.bool (decide (y12.1 = g))) }), (8, { v := some (.bool true) }), (10, { call := some ((code_Reader_End_v y22).ren (sel [6]), preOf (sel [6]) 0 (code_Reader_End_objs (T_code_Reader.mk y12.2.1 y12.2.2.1 y12.2.2.2)), upOf (sel [6]) (code_Reader_End_up (T_code_Reader.mk y12.2.1 y12.2.2.1 y12.2.2.2) y22)) }), (12, { v := some (.bool (decide (y22.1 = (T_api_Fault.mk 0 0)))) }), (14, { v := some (.bool false) })]])
              (a_ (a_ (a_ (a_ tr tr) (a_ (a_ tr tr) (a_ (a_ tr tr) tr))) (a_ (Eq.refl 0) (a_ (a_ (a_ tr (a_ (LO.Sub.var (a := [.nilsl]) (b := [.gs 2 (([] : List (Int))).length]) (a_ (le_nil_gs 2) tr)) tr)) tr) (a_ (a_ (a_ (a_ tr (le_ 4 4 rfl)) tr) (a_ (a_ (a_ (ids_PutStamp_ok ([] : List (Int)) s y2 e1 (sel [3, 2, 4]) (sel_inj rfl rfl)) (a_ (LO.Le.refl (.var [.gs 2 (([] : List (Int))).length])) (a_ (LO.Le.refl (.gr 1 (([] : List (Int))).length (rowF (cInt .u8) default ([] : List (Int))))) tr))) tr) tr)) (a_ (a_ (a_ (a_ tr (le_ 2 2 rfl)) tr) (a_ (a_ (a_ (ids_PutReg_ok y2 g y4 e3 (sel [3, 4, 5]) (sel_inj rfl rfl)) (a_ (LO.Le.refl (.var [.gs 4 (y2).length])) (a_ (LO.Le.refl (.gr 1 (y2).length (rowF (cInt .u8) default y2))) tr))) tr) tr)) (a_ (a_ (a_ (a_ (code_Writer_Bytes_ok y4 y6 e5 (sel [3, 5]) (sel_inj rfl rfl)) (a_ (LO.Le.refl (.var [.gs 5 (y4).length])) (a_ (LO.Le.refl (.gr 1 (y4).length (rowF (cInt .u8) default y4))) tr))) tr) (a_ (a_ (a_ (code_New_ok y6 y8 e7 (sel [6]) (sel_inj rfl rfl)) tr) tr) (a_ (a_ tr tr) tr))) (a_ (a_ (a_ tr tr) (a_ (a_ (a_ (ids_GetStamp_ok (T_code_Reader.mk y8.1 0 y8.2) y10 e9 (sel [6]) (sel_inj rfl rfl)) (a_ (LO.Le.refl (.var (c_T_code_Reader (T_code_Reader.mk y8.1 0 y8.2)))) tr)) tr) (a_ (a_ tr tr) (a_ (a_ (a_ (Eq.refl 4) (a_ (le_ 4 4 rfl) (Eq.refl 0))) tr) tr)))) (a_ (a_ (a_ tr tr) (a_ (a_ (a_ (ids_GetReg_ok (T_code_Reader.mk y10.2.1 y10.2.2.1 y10.2.2.2) y12 e11 (sel [6]) (sel_inj rfl rfl)) (a_ (LO.Le.refl (.var (c_T_code_Reader (T_code_Reader.mk y10.2.1 y10.2.2.1 y10.2.2.2)))) tr)) tr) (a_ (a_ tr tr) (a_ (a_ (a_ (Eq.refl 2) (a_ (le_ 2 2 rfl) (Eq.refl 0))) tr) tr)))) (a_ (a_ (a_ (a_ tr (le_ 4 4 rfl)) tr) (a_ (a_ (a_ (ids_StampMay_tri s y14 e13) tr) tr) (a_ (a_ tr tr) (a_ (a_ tr (a_ (leB c15) tr)) (a_ (a_ (a_ tr (le_ 2 2 rfl)) tr) (a_ (a_ (a_ (ids_RegMay_tri g y17 e16) tr) tr) (a_ (a_ tr tr) (a_ (a_ tr (a_ (leB c18) tr)) tr)))))))) (a_ (a_ (a_ (a_ tr (le_ 4 4 rfl)) tr) (a_ (a_ (a_ tr (le_ 4 4 rfl)) tr) (a_ (a_ tr (a_ (leB (k_T_api_Stamp y10.1 s)) tr)) (a_ (a_ tr (a_ (leB c19) tr)) (a_ (a_ (a_ tr (le_ 2 2 rfl)) tr) (a_ (a_ (a_ tr (le_ 2 2 rfl)) tr) (a_ (a_ tr (a_ (leB (k_T_api_Reg y12.1 g)) tr)) (a_ (a_ tr tr) (a_ (a_ tr (a_ (leB c20) tr)) (a_ (a_ tr tr) (a_ (a_ (a_ (code_Reader_End_ok (T_code_Reader.mk y12.2.1 y12.2.2.1 y12.2.2.2) y22 e21 (sel [6]) (sel_inj rfl rfl)) (a_ (LO.Le.refl (.var (c_T_code_Reader (T_code_Reader.mk y12.2.1 y12.2.2.1 y12.2.2.2)))) tr)) tr) (a_ (a_ (Eq.refl true) tr) (a_ (a_ tr (a_ (leB (k_T_api_Fault y22.1 (T_api_Fault.mk 0 0))) tr)) (a_ (a_ tr tr) (a_ (a_ tr (a_ (leB c23) tr)) (a_ tr (a_ (a_ tr tr) (a_ (a_ tr tr) tr)))))))))))))))))) tr)))))))))) tr) (by kernel_rfl) rfl
        · skip
          obtain rfl := Option.some.inj h
          exact run_ret mixed (L := []) (n := 40) (s := [.reg [], .void (.gr 1 (([] : List (Int))).length (rowF (cInt .u8) default ([] : List (Int)))), .reg [(0, { os := [(3, .var [.gs 2 (([] : List (Int))).length])] })], .reg [(1, { call := some ((ids_PutStamp_v y2).ren (sel [3, 2, 4]), preOf (sel [3, 2, 4]) 0 (ids_PutStamp_objs ([] : List (Int)) s), upOf (sel [3, 2, 4]) (ids_PutStamp_up ([] : List (Int)) s y2)) })], .reg [(1, { call := some ((ids_PutReg_v y4).ren (sel [3, 4, 5]), preOf (sel [3, 4, 5]) 0 (ids_PutReg_objs y2 g), upOf (sel [3, 4, 5]) (ids_PutReg_up y2 g y4)) })], .reg [(0, { call := some ((code_Writer_Bytes_v y6).ren (sel [3, 5]), preOf (sel [3, 5]) 0 (code_Writer_Bytes_objs y4), upOf (sel [3, 5]) (code_Writer_Bytes_up y4 y6)) }), (1, { call := some ((code_New_v y8).ren (sel [6]), preOf (sel [6]) 0 [], upOf (sel [6]) (code_New_up y6 y8)) })], .reg [(1, { call := some ((ids_GetStamp_v y10).ren (sel [6]), preOf (sel [6]) 0 (ids_GetStamp_objs (T_code_Reader.mk y8.1 0 y8.2)), upOf (sel [6]) (ids_GetStamp_up (T_code_Reader.mk y8.1 0 y8.2) y10)) })], .reg [(1, { call := some ((ids_GetReg_v y12).ren (sel [6]), preOf (sel [6]) 0 (ids_GetReg_objs (T_code_Reader.mk y10.2.1 y10.2.2.1 y10.2.2.2)), upOf (sel [6]) (ids_GetReg_up (T_code_Reader.mk y10.2.1 y10.2.2.1 y10.2.2.2) y12)) })], .reg [(1, { call := some (ids_StampMay_v y14, [], []) }), (3, { v := some (.bool false) }), (5, { call := some (ids_RegMay_v y17, [], []) }), (7, { v := some (.bool false) })], .reg [(2, { v := some (.bool (decide (y10.1 = s))) }), (3, { v := some (.bool true) }), (6, { v := some (.bool (decide (y12.1 = g))) }), (8, { v := some (.bool false) })]])
            (a_ (a_ (a_ (a_ tr tr) (a_ (a_ tr tr) (a_ (a_ tr tr) tr))) (a_ (Eq.refl 0) (a_ (a_ (a_ tr (a_ (LO.Sub.var (a := [.nilsl]) (b := [.gs 2 (([] : List (Int))).length]) (a_ (le_nil_gs 2) tr)) tr)) tr) (a_ (a_ (a_ (a_ tr (le_ 4 4 rfl)) tr) (a_ (a_ (a_ (ids_PutStamp_ok ([] : List (Int)) s y2 e1 (sel [3, 2, 4]) (sel_inj rfl rfl)) (a_ (LO.Le.refl (.var [.gs 2 (([] : List (Int))).length])) (a_ (LO.Le.refl (.gr 1 (([] : List (Int))).length (rowF (cInt .u8) default ([] : List (Int))))) tr))) tr) tr)) (a_ (a_ (a_ (a_ tr (le_ 2 2 rfl)) tr) (a_ (a_ (a_ (ids_PutReg_ok y2 g y4 e3 (sel [3, 4, 5]) (sel_inj rfl rfl)) (a_ (LO.Le.refl (.var [.gs 4 (y2).length])) (a_ (LO.Le.refl (.gr 1 (y2).length (rowF (cInt .u8) default y2))) tr))) tr) tr)) (a_ (a_ (a_ (a_ (code_Writer_Bytes_ok y4 y6 e5 (sel [3, 5]) (sel_inj rfl rfl)) (a_ (LO.Le.refl (.var [.gs 5 (y4).length])) (a_ (LO.Le.refl (.gr 1 (y4).length (rowF (cInt .u8) default y4))) tr))) tr) (a_ (a_ (a_ (code_New_ok y6 y8 e7 (sel [6]) (sel_inj rfl rfl)) tr) tr) (a_ (a_ tr tr) tr))) (a_ (a_ (a_ tr tr) (a_ (a_ (a_ (ids_GetStamp_ok (T_code_Reader.mk y8.1 0 y8.2) y10 e9 (sel [6]) (sel_inj rfl rfl)) (a_ (LO.Le.refl (.var (c_T_code_Reader (T_code_Reader.mk y8.1 0 y8.2)))) tr)) tr) (a_ (a_ tr tr) (a_ (a_ (a_ (Eq.refl 4) (a_ (le_ 4 4 rfl) (Eq.refl 0))) tr) tr)))) (a_ (a_ (a_ tr tr) (a_ (a_ (a_ (ids_GetReg_ok (T_code_Reader.mk y10.2.1 y10.2.2.1 y10.2.2.2) y12 e11 (sel [6]) (sel_inj rfl rfl)) (a_ (LO.Le.refl (.var (c_T_code_Reader (T_code_Reader.mk y10.2.1 y10.2.2.1 y10.2.2.2)))) tr)) tr) (a_ (a_ tr tr) (a_ (a_ (a_ (Eq.refl 2) (a_ (le_ 2 2 rfl) (Eq.refl 0))) tr) tr)))) (a_ (a_ (a_ (a_ tr (le_ 4 4 rfl)) tr) (a_ (a_ (a_ (ids_StampMay_tri s y14 e13) tr) tr) (a_ (a_ tr tr) (a_ (a_ tr (a_ (leB c15) tr)) (a_ (a_ (a_ tr (le_ 2 2 rfl)) tr) (a_ (a_ (a_ (ids_RegMay_tri g y17 e16) tr) tr) (a_ (a_ tr tr) (a_ (a_ tr (a_ (leB c18) tr)) tr)))))))) (a_ (a_ (a_ (a_ tr (le_ 4 4 rfl)) tr) (a_ (a_ (a_ tr (le_ 4 4 rfl)) tr) (a_ (a_ tr (a_ (leB (k_T_api_Stamp y10.1 s)) tr)) (a_ (a_ tr (a_ (leB c19) tr)) (a_ (a_ (a_ tr (le_ 2 2 rfl)) tr) (a_ (a_ (a_ tr (le_ 2 2 rfl)) tr) (a_ (a_ tr (a_ (leB (k_T_api_Reg y12.1 g)) tr)) (a_ (a_ tr tr) (a_ (a_ tr (a_ (leB c20) tr)) (a_ tr (a_ tr (a_ tr (a_ tr (a_ (a_ tr tr) (a_ (a_ tr tr) (a_ tr (a_ (a_ tr tr) (a_ (a_ tr tr) tr)))))))))))))))))) tr)))))))))) tr) (by kernel_rfl) rfl
      · skip
        obtain rfl := Option.some.inj h
        exact run_ret mixed (L := []) (n := 40) (s := [.reg [], .void (.gr 1 (([] : List (Int))).length (rowF (cInt .u8) default ([] : List (Int)))), .reg [(0, { os := [(3, .var [.gs 2 (([] : List (Int))).length])] })], .reg [(1, { call := some ((ids_PutStamp_v y2).ren (sel [3, 2, 4]), preOf (sel [3, 2, 4]) 0 (ids_PutStamp_objs ([] : List (Int)) s), upOf (sel [3, 2, 4]) (ids_PutStamp_up ([] : List (Int)) s y2)) })], .reg [(1, { call := some ((ids_PutReg_v y4).ren (sel [3, 4, 5]), preOf (sel [3, 4, 5]) 0 (ids_PutReg_objs y2 g), upOf (sel [3, 4, 5]) (ids_PutReg_up y2 g y4)) })], .reg [(0, { call := some ((code_Writer_Bytes_v y6).ren (sel [3, 5]), preOf (sel [3, 5]) 0 (code_Writer_Bytes_objs y4), upOf (sel [3, 5]) (code_Writer_Bytes_up y4 y6)) }), (1, { call := some ((code_New_v y8).ren (sel [6]), preOf (sel [6]) 0 [], upOf (sel [6]) (code_New_up y6 y8)) })], .reg [(1, { call := some ((ids_GetStamp_v y10).ren (sel [6]), preOf (sel [6]) 0 (ids_GetStamp_objs (T_code_Reader.mk y8.1 0 y8.2)), upOf (sel [6]) (ids_GetStamp_up (T_code_Reader.mk y8.1 0 y8.2) y10)) })], .reg [(1, { call := some ((ids_GetReg_v y12).ren (sel [6]), preOf (sel [6]) 0 (ids_GetReg_objs (T_code_Reader.mk y10.2.1 y10.2.2.1 y10.2.2.2)), upOf (sel [6]) (ids_GetReg_up (T_code_Reader.mk y10.2.1 y10.2.2.1 y10.2.2.2) y12)) })], .reg [(1, { call := some (ids_StampMay_v y14, [], []) }), (3, { v := some (.bool false) }), (5, { call := some (ids_RegMay_v y17, [], []) }), (7, { v := some (.bool false) })], .reg [(2, { v := some (.bool (decide (y10.1 = s))) }), (3, { v := some (.bool false) })]])
          (a_ (a_ (a_ (a_ tr tr) (a_ (a_ tr tr) (a_ (a_ tr tr) tr))) (a_ (Eq.refl 0) (a_ (a_ (a_ tr (a_ (LO.Sub.var (a := [.nilsl]) (b := [.gs 2 (([] : List (Int))).length]) (a_ (le_nil_gs 2) tr)) tr)) tr) (a_ (a_ (a_ (a_ tr (le_ 4 4 rfl)) tr) (a_ (a_ (a_ (ids_PutStamp_ok ([] : List (Int)) s y2 e1 (sel [3, 2, 4]) (sel_inj rfl rfl)) (a_ (LO.Le.refl (.var [.gs 2 (([] : List (Int))).length])) (a_ (LO.Le.refl (.gr 1 (([] : List (Int))).length (rowF (cInt .u8) default ([] : List (Int))))) tr))) tr) tr)) (a_ (a_ (a_ (a_ tr (le_ 2 2 rfl)) tr) (a_ (a_ (a_ (ids_PutReg_ok y2 g y4 e3 (sel [3, 4, 5]) (sel_inj rfl rfl)) (a_ (LO.Le.refl (.var [.gs 4 (y2).length])) (a_ (LO.Le.refl (.gr 1 (y2).length (rowF (cInt .u8) default y2))) tr))) tr) tr)) (a_ (a_ (a_ (a_ (code_Writer_Bytes_ok y4 y6 e5 (sel [3, 5]) (sel_inj rfl rfl)) (a_ (LO.Le.refl (.var [.gs 5 (y4).length])) (a_ (LO.Le.refl (.gr 1 (y4).length (rowF (cInt .u8) default y4))) tr))) tr) (a_ (a_ (a_ (code_New_ok y6 y8 e7 (sel [6]) (sel_inj rfl rfl)) tr) tr) (a_ (a_ tr tr) tr))) (a_ (a_ (a_ tr tr) (a_ (a_ (a_ (ids_GetStamp_ok (T_code_Reader.mk y8.1 0 y8.2) y10 e9 (sel [6]) (sel_inj rfl rfl)) (a_ (LO.Le.refl (.var (c_T_code_Reader (T_code_Reader.mk y8.1 0 y8.2)))) tr)) tr) (a_ (a_ tr tr) (a_ (a_ (a_ (Eq.refl 4) (a_ (le_ 4 4 rfl) (Eq.refl 0))) tr) tr)))) (a_ (a_ (a_ tr tr) (a_ (a_ (a_ (ids_GetReg_ok (T_code_Reader.mk y10.2.1 y10.2.2.1 y10.2.2.2) y12 e11 (sel [6]) (sel_inj rfl rfl)) (a_ (LO.Le.refl (.var (c_T_code_Reader (T_code_Reader.mk y10.2.1 y10.2.2.1 y10.2.2.2)))) tr)) tr) (a_ (a_ tr tr) (a_ (a_ (a_ (Eq.refl 2) (a_ (le_ 2 2 rfl) (Eq.refl 0))) tr) tr)))) (a_ (a_ (a_ (a_ tr (le_ 4 4 rfl)) tr) (a_ (a_ (a_ (ids_StampMay_tri s y14 e13) tr) tr) (a_ (a_ tr tr) (a_ (a_ tr (a_ (leB c15) tr)) (a_ (a_ (a_ tr (le_ 2 2 rfl)) tr) (a_ (a_ (a_ (ids_RegMay_tri g y17 e16) tr) tr) (a_ (a_ tr tr) (a_ (a_ tr (a_ (leB c18) tr)) tr)))))))) (a_ (a_ (a_ (a_ tr (le_ 4 4 rfl)) tr) (a_ (a_ (a_ tr (le_ 4 4 rfl)) tr) (a_ (a_ tr (a_ (leB (k_T_api_Stamp y10.1 s)) tr)) (a_ (a_ tr (a_ (leB c19) tr)) (a_ tr (a_ tr (a_ tr (a_ (a_ tr tr) (a_ (a_ tr tr) (a_ tr (a_ tr (a_ tr (a_ tr (a_ (a_ tr tr) (a_ (a_ tr tr) (a_ tr (a_ (a_ tr tr) (a_ (a_ tr tr) tr)))))))))))))))))) tr)))))))))) tr) (by kernel_rfl) rfl

theorem parrellaw05_IdsBack_tri (s : T_api_Stamp) (g : T_api_Reg) (r : (Bool)) (h : parrellaw05_IdsBack s g = some r) : FnTri Try.prog 6 [v_T_api_Stamp s, v_T_api_Reg g] [] (parrellaw05_IdsBack_v r) [] := FnTri.none (parrellaw05_IdsBack_ok s g r h) rfl rfl

end Go.Proofs.Ytbggiflihpjocaa.Wk
