/- Printed by tr.py: Go functions as Lean functions, with the proofs that they walk so. -/
import Derived.Test.YtofkaccoofafmaaProg
import Derived.Test.YtofkaccoofafmaaCnW
namespace Go.Proofs.Ytofkaccoofafmaa.Wk
open Go Go.Cn
set_option maxRecDepth 100000
set_option maxHeartbeats 4000000
set_option linter.unusedVariables false
set_option linter.unusedSimpArgs false
theorem mixed : Try.prog.follows .mixedOrders = true := by kernel_rfl
structure T_parrelref26_Item where
  f_Key : A8 (Int)
  f_Version : Int
  f_Value : List UInt8
  deriving DecidableEq, Inhabited

def c_T_parrelref26_Item (x : T_parrelref26_Item) : List LV := [.int .u8 x.f_Key.a0, .int .u8 x.f_Key.a1, .int .u8 x.f_Key.a2, .int .u8 x.f_Key.a3, .int .u8 x.f_Key.a4, .int .u8 x.f_Key.a5, .int .u8 x.f_Key.a6, .int .u8 x.f_Key.a7, .int .u32 x.f_Version, .str x.f_Value]

def v_T_parrelref26_Item (x : T_parrelref26_Item) : LV := .agg (c_T_parrelref26_Item x)

theorem x_T_parrelref26_Item (a b : T_parrelref26_Item) : a = b ↔ a.f_Key = b.f_Key ∧ a.f_Version = b.f_Version ∧ a.f_Value = b.f_Value := by
  cases a; cases b; simp

theorem k_T_parrelref26_Item (a b : T_parrelref26_Item) : eqK (v_T_parrelref26_Item a) (v_T_parrelref26_Item b) = decide (a = b) := by
  rw [Bool.eq_iff_iff, decide_eq_true_eq]
  simp only [x_T_parrelref26_Item, A8.x, v_T_parrelref26_Item, c_T_parrelref26_Item, eqK, eqCs, eqC, Bool.and_eq_true, beq_iff_eq, and_assoc, and_true]

structure T_parrelref26_Tx where
  f_Reads : List (T_parrelref26_Item)
  f_Writes : List (T_parrelref26_Item)
  f_Begin : Int
  f_End : Int
  deriving DecidableEq, Inhabited

def c_T_parrelref26_Tx (x : T_parrelref26_Tx) : List LV := [.ds 10 (x.f_Reads).length (rowF c_T_parrelref26_Item default x.f_Reads), .ds 10 (x.f_Writes).length (rowF c_T_parrelref26_Item default x.f_Writes), .int .i64 x.f_Begin, .int .i64 x.f_End]

def v_T_parrelref26_Tx (x : T_parrelref26_Tx) : LV := .agg (c_T_parrelref26_Tx x)

structure T_hist_Item where
  f_Key : A8 (Int)
  f_Version : Int
  f_Value : List UInt8
  deriving DecidableEq, Inhabited

def c_T_hist_Item (x : T_hist_Item) : List LV := [.int .u8 x.f_Key.a0, .int .u8 x.f_Key.a1, .int .u8 x.f_Key.a2, .int .u8 x.f_Key.a3, .int .u8 x.f_Key.a4, .int .u8 x.f_Key.a5, .int .u8 x.f_Key.a6, .int .u8 x.f_Key.a7, .int .u32 x.f_Version, .str x.f_Value]

def v_T_hist_Item (x : T_hist_Item) : LV := .agg (c_T_hist_Item x)

theorem x_T_hist_Item (a b : T_hist_Item) : a = b ↔ a.f_Key = b.f_Key ∧ a.f_Version = b.f_Version ∧ a.f_Value = b.f_Value := by
  cases a; cases b; simp

theorem k_T_hist_Item (a b : T_hist_Item) : eqK (v_T_hist_Item a) (v_T_hist_Item b) = decide (a = b) := by
  rw [Bool.eq_iff_iff, decide_eq_true_eq]
  simp only [x_T_hist_Item, A8.x, v_T_hist_Item, c_T_hist_Item, eqK, eqCs, eqC, Bool.and_eq_true, beq_iff_eq, and_assoc, and_true]

structure T_hist_Tx where
  f_Reads : List (T_hist_Item)
  f_Writes : List (T_hist_Item)
  f_Begin : Int
  f_End : Int
  deriving DecidableEq, Inhabited

def c_T_hist_Tx (x : T_hist_Tx) : List LV := [.ds 10 (x.f_Reads).length (rowF c_T_hist_Item default x.f_Reads), .ds 10 (x.f_Writes).length (rowF c_T_hist_Item default x.f_Writes), .int .i64 x.f_Begin, .int .i64 x.f_End]

def v_T_hist_Tx (x : T_hist_Tx) : LV := .agg (c_T_hist_Tx x)

structure T_hist_version where
  f_key : A8 (Int)
  f_n : Int
  deriving DecidableEq, Inhabited

def c_T_hist_version (x : T_hist_version) : List LV := [.int .u8 x.f_key.a0, .int .u8 x.f_key.a1, .int .u8 x.f_key.a2, .int .u8 x.f_key.a3, .int .u8 x.f_key.a4, .int .u8 x.f_key.a5, .int .u8 x.f_key.a6, .int .u8 x.f_key.a7, .int .u32 x.f_n]

def v_T_hist_version (x : T_hist_version) : LV := .agg (c_T_hist_version x)

theorem x_T_hist_version (a b : T_hist_version) : a = b ↔ a.f_key = b.f_key ∧ a.f_n = b.f_n := by
  cases a; cases b; simp

theorem k_T_hist_version (a b : T_hist_version) : eqK (v_T_hist_version a) (v_T_hist_version b) = decide (a = b) := by
  rw [Bool.eq_iff_iff, decide_eq_true_eq]
  simp only [x_T_hist_version, A8.x, v_T_hist_version, c_T_hist_version, eqK, eqCs, eqC, Bool.and_eq_true, beq_iff_eq, and_assoc, and_true]

/-- parrel/parrellaw26.far -/

def parrellaw26_far_v (r : (Bool)) : LV := .bool r

def parrellaw26_far_T0 (l : List (T_parrelref26_Tx)) (x_n : Int) (t12 : Int) : List LV := [.ds 4 (l).length (rowF c_T_parrelref26_Tx default l), .any, .any, .int .i64 x_n, .any, .any, .any, .any, .any, .any, .ds 4 ((l.take ((if 70 < ((l).length : Int) then 70 else ((l).length : Int))).toNat)).length (rowF c_T_parrelref26_Tx default (l.take ((if 70 < ((l).length : Int) then 70 else ((l).length : Int))).toNat)), .int .i64 (((l.take ((if 70 < ((l).length : Int) then 70 else ((l).length : Int))).toNat)).length : Int), .int .i64 t12, .any, .any, .any, .any, .any, .any, .any, .any, .any, .any, .any, .any, .any, .any, .any, .any, .any, .any, .any, .any, .any, .any]

def parrellaw26_far_H0 (l : List (T_parrelref26_Tx)) (x_n : Int) (t12 : Int) : Heap := []

def parrellaw26_far_l0 (l : List (T_parrelref26_Tx))  : Nat → (Int) → (Int) → Option ((Bool))
  | 0, _, _ => none
  | fuel + 1, x_n, t12 =>
    if ((decide (t12 < (((l.take ((if 70 < ((l).length : Int) then 70 else ((l).length : Int))).toNat)).length : Int))) : Bool) then
      if 0 ≤ t12 ∧ t12 < ((((l.take ((if 70 < ((l).length : Int) then 70 else ((l).length : Int))).toNat)).length : Nat) : Int) then
      parrellaw26_far_l0 l  fuel (IntKind.wrap .i64 (x_n + (IntKind.wrap .i64 ((if 70 < ((((l.take ((if 70 < ((l).length : Int) then 70 else ((l).length : Int))).toNat).getD t12.toNat default).f_Reads).length : Int) then 70 else ((((l.take ((if 70 < ((l).length : Int) then 70 else ((l).length : Int))).toNat).getD t12.toNat default).f_Reads).length : Int)) + (if 70 < ((((l.take ((if 70 < ((l).length : Int) then 70 else ((l).length : Int))).toNat).getD t12.toNat default).f_Writes).length : Int) then 70 else ((((l.take ((if 70 < ((l).length : Int) then 70 else ((l).length : Int))).toNat).getD t12.toNat default).f_Writes).length : Int)))))) (IntKind.wrap .i64 (t12 + 1))
      else none
    else
      if ((decide (70 < ((l).length : Int))) : Bool) then
        some true
      else
        some (decide (400 < x_n))

def parrellaw26_far (l : List (T_parrelref26_Tx)) : Option ((Bool)) :=
  if 0 ≤ (0 : Int) ∧ 0 ≤ (if 70 < ((l).length : Int) then 70 else ((l).length : Int)) ∧ (if 70 < ((l).length : Int) then 70 else ((l).length : Int)) ≤ (((l).length : Nat) : Int) then
  parrellaw26_far_l0 l  big 0 0
  else none

theorem parrellaw26_far_l0_ok {w0 : World} {W : Nat → Prop} {μ0 : Emb} (hμ : ∀ c p, μ0 c = some p → c < 0) (l : List (T_parrelref26_Tx))  : ∀ (fuel : Nat) (x_n : Int) (t12 : Int) (r : (Bool)), parrellaw26_far_l0 l  fuel x_n t12 = some r → kont Try.prog w0 W μ0 (FnPost Try.prog Try.f8 0 0 (parrellaw26_far_v r) []) (kAt (bodyOf Try.f8) 0) none (parrellaw26_far_T0 l x_n t12) (parrellaw26_far_H0 l x_n t12) := by
  intro fuel
  induction fuel with
  | zero => intro x_n t12 r h; rw [parrellaw26_far_l0] at h; cases h
  | succ fuel ih =>
    intro x_n t12 r h
    rw [parrellaw26_far_l0] at h
    rcases itb_some h with ⟨cL0_1, h⟩ | ⟨cL0_1, h⟩
    · skip
      obtain ⟨gL0_2, h⟩ := guard_some h
      exact run_to mixed hμ (L := []) (n := 26) (s := [.go, .reg [(0, { v := some (.bool true) })], .reg [], .reg [], .reg []])
        (a_ (a_ (a_ tr (a_ (leB cL0_1) tr)) tr) (a_ (a_ (a_ (a_ (Eq.refl 4) gL0_2) tr) (a_ (a_ (le_ 4 4 rfl) tr) (a_ (a_ tr tr) (a_ (a_ (a_ (Eq.refl 4) (a_ (le_ 4 4 rfl) (Eq.refl 0))) tr) tr)))) (a_ (a_ (a_ tr tr) (a_ (a_ tr tr) (a_ (a_ (a_ tr (lt_ 0 4 rfl)) tr) (a_ (a_ tr tr) (a_ (a_ tr tr) (a_ (a_ tr tr) (a_ (a_ (a_ tr (lt_ 1 4 rfl)) tr) (a_ (a_ tr tr) (a_ (a_ tr tr) (a_ (a_ tr tr) (a_ (a_ tr tr) (a_ (a_ tr tr) tr)))))))))))) (a_ (a_ (a_ tr tr) (a_ (a_ tr tr) tr)) tr)))) (ih _ _ r h) (by kernel_rfl) trivial
    · skip
      rcases itb_some h with ⟨cL0_2, h⟩ | ⟨cL0_2, h⟩
      · skip
        obtain rfl := Option.some.inj h
        exact run_ret mixed (L := []) (n := 19) (s := [.go, .reg [(0, { v := some (.bool false) })], .reg [(3, { v := some (.bool true) })]])
          (a_ (a_ (a_ (a_ tr (a_ (leB cL0_1) tr)) tr) (a_ (a_ (a_ tr tr) (a_ (a_ tr tr) (a_ (a_ tr tr) (a_ (a_ tr (a_ (leB cL0_2) tr)) (a_ tr (a_ tr (a_ (a_ tr tr) (a_ (a_ tr tr) tr)))))))) tr)) tr) (by kernel_rfl) rfl
      · skip
        obtain rfl := Option.some.inj h
        exact run_ret mixed (L := []) (n := 19) (s := [.go, .reg [(0, { v := some (.bool false) })], .reg [(3, { v := some (.bool false) })]])
          (a_ (a_ (a_ (a_ tr (a_ (leB cL0_1) tr)) tr) (a_ (a_ (a_ tr tr) (a_ (a_ tr tr) (a_ (a_ tr tr) (a_ (a_ tr (a_ (leB cL0_2) tr)) (a_ (a_ tr tr) (a_ (a_ tr tr) (a_ (a_ tr tr) (a_ (a_ tr tr) tr)))))))) tr)) tr) (by kernel_rfl) rfl

theorem parrellaw26_far_ok (l : List (T_parrelref26_Tx)) (r : (Bool)) (h : parrellaw26_far l = some r) : ∀ σ, Inj 0 σ → FnTri Try.prog 8 (renL σ [.ds 4 (l).length (rowF c_T_parrelref26_Tx default l)]) (preOf σ 0 []) ((parrellaw26_far_v r).ren σ) (upOf σ []) := by
  refine fn_of Try.func8 (by kernel_rfl) (by kernel_rfl) (by kernel_rfl) trivial (by kernel_rfl) trivial (by kernel_rfl) ?_
  intro w0 W μ0 hμ
  unfold parrellaw26_far at h
  obtain ⟨g1, h⟩ := guard_some h
  exact run_to mixed hμ (L := []) (n := 21) (s := [.reg [], .reg [], .reg [(4, { v := some (.ds 4 ((l.take ((if 70 < ((l).length : Int) then 70 else ((l).length : Int))).toNat)).length (rowF c_T_parrelref26_Tx default (l.take ((if 70 < ((l).length : Int) then 70 else ((l).length : Int))).toNat))) })]])
    (a_ (a_ (a_ tr tr) tr) (a_ (a_ (a_ tr tr) tr) (a_ (a_ (a_ tr tr) (a_ (a_ tr tr) (a_ (a_ tr tr) (a_ (a_ tr tr) (a_ (a_ (a_ (Eq.refl 4) g1) (a_ (le_take c_T_parrelref26_Tx default 4 l ((if 70 < ((l).length : Int) then 70 else ((l).length : Int))).toNat (toN_le g1.2.2)) tr)) (a_ (a_ tr tr) (a_ (a_ tr tr) tr))))))) tr))) (parrellaw26_far_l0_ok hμ l  big _ _ r h) (by kernel_rfl) trivial

theorem parrellaw26_far_tri (l : List (T_parrelref26_Tx)) (r : (Bool)) (h : parrellaw26_far l = some r) : FnTri Try.prog 8 [.ds 4 (l).length (rowF c_T_parrelref26_Tx default l)] [] (parrellaw26_far_v r) [] := FnTri.none (parrellaw26_far_ok l r h) rfl rfl

/-- parrel/parrellaw26.lost$1 -/

def parrellaw26_lost_L1_v (r : (T_hist_Tx)) : LV := v_T_hist_Tx r

def parrellaw26_lost_L1_up (x_n : Int) (x1 : A8 (Int)) (r : (T_hist_Tx)) : Upd := [(0, some (.var [.int .u8 x1.a0, .int .u8 x1.a1, .int .u8 x1.a2, .int .u8 x1.a3, .int .u8 x1.a4, .int .u8 x1.a5, .int .u8 x1.a6, .int .u8 x1.a7]))]

def parrellaw26_lost_L1_objs (x_n : Int) (x1 : A8 (Int)) : List LO := [.var [.int .u8 x1.a0, .int .u8 x1.a1, .int .u8 x1.a2, .int .u8 x1.a3, .int .u8 x1.a4, .int .u8 x1.a5, .int .u8 x1.a6, .int .u8 x1.a7]]

def parrellaw26_lost_L1 (x_n : Int) (x1 : A8 (Int)) : Option ((T_hist_Tx)) :=
  some (T_hist_Tx.mk [(T_hist_Item.mk x1 0 [])] [(T_hist_Item.mk x1 x_n ([120] : List UInt8))] 0 0)

theorem parrellaw26_lost_L1_ok (x_n : Int) (x1 : A8 (Int)) (r : (T_hist_Tx)) (h : parrellaw26_lost_L1 x_n x1 = some r) : ∀ σ, Inj 1 σ → FnTri Try.prog 37 (renL σ [.int .u32 x_n, .ptr 0 0 0]) (preOf σ 0 (parrellaw26_lost_L1_objs x_n x1)) ((parrellaw26_lost_L1_v r).ren σ) (upOf σ (parrellaw26_lost_L1_up x_n x1 r)) := by
  refine fn_of Try.func37 (by kernel_rfl) (by kernel_rfl) (by kernel_rfl) ⟨rfl, trivial⟩ (by kernel_rfl) ⟨rfl, trivial⟩ (by kernel_rfl) ?_
  intro w0 W μ0 hμ
  unfold parrellaw26_lost_L1 at h
  obtain rfl := Option.some.inj h
  exact run_ret mixed (L := []) (n := 17) (s := [.reg [], .reg [(2, { os := [(2, .gr 10 ([(T_hist_Item.mk x1 0 [])]).length (rowF c_T_hist_Item default [(T_hist_Item.mk x1 0 [])]))], v := some (.gs 2 ([(T_hist_Item.mk x1 0 [])]).length) }), (6, { os := [(3, .gr 10 ([(T_hist_Item.mk x1 x_n ([120] : List UInt8))]).length (rowF c_T_hist_Item default [(T_hist_Item.mk x1 x_n ([120] : List UInt8))]))], v := some (.gs 3 ([(T_hist_Item.mk x1 x_n ([120] : List UInt8))]).length) })], .frz 2, .frz 3])
    (a_ (a_ (a_ (a_ tr tr) tr) (a_ (a_ (a_ (a_ tr (le_ 8 8 rfl)) tr) (a_ (a_ (Eq.refl true) tr) (a_ (a_ (a_ (Eq.refl true) (a_ (Eq.refl 10) (a_ (lt_ 0 10 rfl) (le_ 10 16777216 rfl)))) (a_ (le_sl_gs 2 1 (some 1) rfl) (a_ (sub_lit c_T_hist_Item default 10 (fun _ => rfl) [(T_hist_Item.mk x1 0 [])]) tr))) (a_ (a_ (a_ tr (le_ 8 8 rfl)) tr) (a_ (a_ tr tr) (a_ (a_ (Eq.refl true) tr) (a_ (a_ (a_ (Eq.refl true) (a_ (Eq.refl 10) (a_ (lt_ 0 10 rfl) (le_ 10 16777216 rfl)))) (a_ (le_sl_gs 3 1 (some 1) rfl) (a_ (sub_lit c_T_hist_Item default 10 (fun _ => rfl) [(T_hist_Item.mk x1 x_n ([120] : List UInt8))]) tr))) (a_ (a_ (Eq.refl true) tr) (a_ (a_ (a_ (Eq.refl 4) (a_ (le_ 4 4 rfl) (Eq.refl 0))) tr) tr))))))))) (a_ (a_ (fz_row (enc := c_T_hist_Item) (d := default) (fun _ => rfl) [(T_hist_Item.mk x1 0 [])]) (a_ (Nat.le_refl ([(T_hist_Item.mk x1 0 [])]).length) (a_ (Nat.le_refl ([(T_hist_Item.mk x1 0 [])]).length) (a_ (Nat.le_refl ([(T_hist_Item.mk x1 0 [])]).length) tr)))) (a_ (a_ (fz_row (enc := c_T_hist_Item) (d := default) (fun _ => rfl) [(T_hist_Item.mk x1 x_n ([120] : List UInt8))]) (a_ (Nat.le_refl ([(T_hist_Item.mk x1 x_n ([120] : List UInt8))]).length) (a_ (Nat.le_refl ([(T_hist_Item.mk x1 x_n ([120] : List UInt8))]).length) (a_ (Nat.le_refl ([(T_hist_Item.mk x1 x_n ([120] : List UInt8))]).length) tr)))) tr)))) (a_ (a_ tr (le_ 4 4 rfl)) tr)) (by kernel_rfl) rfl

/-- parrel/parrellaw26.lost -/

def parrellaw26_lost_v (r : (List (T_hist_Tx))) : LV := .ds 4 (r).length (rowF c_T_hist_Tx default r)

def parrellaw26_lost  : Option ((List (T_hist_Tx))) :=
  (parrellaw26_lost_L1 1 (A8.mk 97 0 0 0 0 0 0 0)).bind fun y2 =>
  (parrellaw26_lost_L1 2 (A8.mk 97 0 0 0 0 0 0 0)).bind fun y4 =>
  some [y2, y4]

theorem parrellaw26_lost_ok  (r : (List (T_hist_Tx))) (h : parrellaw26_lost  = some r) : ∀ σ, Inj 0 σ → FnTri Try.prog 20 (renL σ []) (preOf σ 0 []) ((parrellaw26_lost_v r).ren σ) (upOf σ []) := by
  refine fn_of Try.func20 (by kernel_rfl) (by kernel_rfl) (by kernel_rfl) trivial (by kernel_rfl) trivial (by kernel_rfl) ?_
  intro w0 W μ0 hμ
  unfold parrellaw26_lost at h
  obtain ⟨y2, e1, h⟩ := bind_some h
  obtain ⟨y4, e3, h⟩ := bind_some h
  obtain rfl := Option.some.inj h
  exact run_ret mixed (L := []) (n := 22) (s := [.reg [(0, { v := some (.ds 4 (([] : List (T_hist_Tx))).length (rowF c_T_hist_Tx default ([] : List (T_hist_Tx)))) })], .reg [], .reg [], .reg [(1, { call := some ((parrellaw26_lost_L1_v y2).ren (sel [0]), preOf (sel [0]) 0 (parrellaw26_lost_L1_objs 1 (A8.mk 97 0 0 0 0 0 0 0)), upOf (sel [0]) (parrellaw26_lost_L1_up 1 (A8.mk 97 0 0 0 0 0 0 0) y2)) }), (3, { call := some ((parrellaw26_lost_L1_v y4).ren (sel [0]), preOf (sel [0]) 0 (parrellaw26_lost_L1_objs 2 (A8.mk 97 0 0 0 0 0 0 0)), upOf (sel [0]) (parrellaw26_lost_L1_up 2 (A8.mk 97 0 0 0 0 0 0 0) y4)) }), (4, { os := [(1, .gr 4 ([y2, y4]).length (rowF c_T_hist_Tx default [y2, y4]))], v := some (.gs 1 ([y2, y4]).length) })], .frz 1])
    (a_ (a_ (a_ (a_ tr (a_ (le_nil_ds 4 (rowF c_T_hist_Tx default [])) tr)) tr) (a_ (a_ (a_ (Eq.refl true) tr) (a_ (a_ tr tr) (a_ (a_ (a_ (Eq.refl 8) (a_ (le_ 8 8 rfl) (Eq.refl 0))) tr) tr))) (a_ (a_ (a_ tr tr) (a_ (a_ tr tr) tr)) (a_ (a_ (a_ tr tr) (a_ (a_ (a_ (parrellaw26_lost_L1_ok 1 (A8.mk 97 0 0 0 0 0 0 0) y2 e1 (sel [0]) (sel_inj rfl rfl)) (a_ (LO.Le.refl (.var [.int .u8 97, .int .u8 0, .int .u8 0, .int .u8 0, .int .u8 0, .int .u8 0, .int .u8 0, .int .u8 0])) tr)) tr) (a_ (a_ tr tr) (a_ (a_ (a_ (parrellaw26_lost_L1_ok 2 (A8.mk 97 0 0 0 0 0 0 0) y4 e3 (sel [0]) (sel_inj rfl rfl)) (a_ (LO.Le.refl (.var [.int .u8 (A8.mk 97 0 0 0 0 0 0 0).a0, .int .u8 (A8.mk 97 0 0 0 0 0 0 0).a1, .int .u8 (A8.mk 97 0 0 0 0 0 0 0).a2, .int .u8 (A8.mk 97 0 0 0 0 0 0 0).a3, .int .u8 (A8.mk 97 0 0 0 0 0 0 0).a4, .int .u8 (A8.mk 97 0 0 0 0 0 0 0).a5, .int .u8 (A8.mk 97 0 0 0 0 0 0 0).a6, .int .u8 (A8.mk 97 0 0 0 0 0 0 0).a7])) tr)) tr) (a_ (a_ (a_ (Eq.refl true) (a_ (Eq.refl 4) (a_ (lt_ 0 4 rfl) (le_ 8 16777216 rfl)))) (a_ (le_sl_gs 1 2 (some 2) rfl) (a_ (sub_lit c_T_hist_Tx default 4 (fun _ => rfl) [y2, y4]) tr))) (a_ (a_ tr tr) tr)))))) (a_ (a_ (fz_row (enc := c_T_hist_Tx) (d := default) (fun _ => rfl) [y2, y4]) (a_ (Nat.le_refl ([y2, y4]).length) (a_ (Nat.le_refl ([y2, y4]).length) tr))) tr))))) tr) (by kernel_rfl) rfl

theorem parrellaw26_lost_tri  (r : (List (T_hist_Tx))) (h : parrellaw26_lost  = some r) : FnTri Try.prog 20 [] [] (parrellaw26_lost_v r) [] := FnTri.none (parrellaw26_lost_ok  r h) rfl rfl

/-- parrel/hist.isTwice -/

def hist_isTwice_v (r : (Bool)) : LV := .bool r

def hist_isTwice_T0 (l : List (T_hist_Item)) (t9 : Int) (m : List (A8 (Int) × Bool)) : List LV := [.any, .any, .any, .map 0, .any, .any, .any, .ds 10 (l).length (rowF c_T_hist_Item default l), .int .i64 ((l).length : Int), .int .i64 t9, .any, .any, .any, .any, .any, .any, .any, .any, .any, .any, .any]

def hist_isTwice_H0 (l : List (T_hist_Item)) (t9 : Int) (m : List (A8 (Int) × Bool)) : Heap := [some (.map true [.int .u8, .int .u8, .int .u8, .int .u8, .int .u8, .int .u8, .int .u8, .int .u8] (encM (fun z_ : A8 (Int) => LV.agg [.int .u8 z_.a0, .int .u8 z_.a1, .int .u8 z_.a2, .int .u8 z_.a3, .int .u8 z_.a4, .int .u8 z_.a5, .int .u8 z_.a6, .int .u8 z_.a7]) LV.bool m))]

def hist_isTwice_l0 (l : List (T_hist_Item))  : Nat → (Int) → (List (A8 (Int) × Bool)) → Option ((Bool))
  | 0, _, _ => none
  | fuel + 1, t9, m =>
    if ((decide (t9 < ((l).length : Int))) : Bool) then
      if 0 ≤ t9 ∧ t9 < (((l).length : Nat) : Int) then
      if (((mget m (l.getD t9.toNat default).f_Key).getD default) : Bool) then
        some true
      else
        hist_isTwice_l0 l  fuel (IntKind.wrap .i64 (t9 + 1)) (mset m (l.getD t9.toNat default).f_Key true)
      else none
    else
      some false

def hist_isTwice (l : List (T_hist_Item)) : Option ((Bool)) :=
  hist_isTwice_l0 l  big 0 ([] : List (A8 (Int) × Bool))

theorem hist_isTwice_l0_ok {w0 : World} {W : Nat → Prop} {μ0 : Emb} (hμ : ∀ c p, μ0 c = some p → c < 0) (l : List (T_hist_Item))  : ∀ (fuel : Nat) (t9 : Int) (m : List (A8 (Int) × Bool)) (r : (Bool)), hist_isTwice_l0 l  fuel t9 m = some r → kont Try.prog w0 W μ0 (FnPost Try.prog Try.f41 0 0 (hist_isTwice_v r) []) (kAt (bodyOf Try.f41) 0) none (hist_isTwice_T0 l t9 m) (hist_isTwice_H0 l t9 m) := by
  intro fuel
  induction fuel with
  | zero => intro t9 m r h; rw [hist_isTwice_l0] at h; cases h
  | succ fuel ih =>
    intro t9 m r h
    rw [hist_isTwice_l0] at h
    rcases itb_some h with ⟨cL0_1, h⟩ | ⟨cL0_1, h⟩
    · skip
      obtain ⟨gL0_2, h⟩ := guard_some h
      rcases itb_some h with ⟨cL0_3, h⟩ | ⟨cL0_3, h⟩
      · skip
        obtain rfl := Option.some.inj h
        exact run_ret mixed (L := []) (n := 29) (s := [.go, .reg [(0, { v := some (.bool true) })], .reg [], .reg [(3, { look := ((mget m (l.getD t9.toNat default).f_Key).map LV.bool), v := some (.bool true) })], .reg []])
          (a_ (a_ (a_ (a_ tr (a_ (leB cL0_1) tr)) tr) (a_ (a_ (a_ (a_ (Eq.refl 10) gL0_2) tr) (a_ (a_ (le_ 10 10 rfl) tr) (a_ (a_ tr tr) (a_ (a_ (a_ (Eq.refl 10) (a_ (le_ 10 10 rfl) (Eq.refl 0))) tr) tr)))) (a_ (a_ (a_ tr tr) (a_ (a_ tr tr) (a_ (a_ (a_ tr (le_ 8 10 rfl)) tr) (a_ (a_ (a_ (Eq.refl true) (findE_enc (fun z_ : A8 (Int) => LV.agg [.int .u8 z_.a0, .int .u8 z_.a1, .int .u8 z_.a2, .int .u8 z_.a3, .int .u8 z_.a4, .int .u8 z_.a5, .int .u8 z_.a6, .int .u8 z_.a7]) LV.bool (k_arr8 .u8) m (l.getD t9.toNat default).f_Key)) (a_ (LV.Le.trans (le_look LV.bool (mget m (l.getD t9.toNat default).f_Key) default) (leB cL0_3)) tr)) tr)))) (a_ (a_ (a_ tr tr) tr) tr)))) tr) (by kernel_rfl) rfl
      · skip
        exact run_to mixed hμ (L := [0]) (n := 32) (s := [.go, .reg [(0, { v := some (.bool true) })], .reg [], .reg [(3, { look := ((mget m (l.getD t9.toNat default).f_Key).map LV.bool), v := some (.bool false) })], .reg [(3, { os := [(0, .map true [.int .u8, .int .u8, .int .u8, .int .u8, .int .u8, .int .u8, .int .u8, .int .u8] (encM (fun z_ : A8 (Int) => LV.agg [.int .u8 z_.a0, .int .u8 z_.a1, .int .u8 z_.a2, .int .u8 z_.a3, .int .u8 z_.a4, .int .u8 z_.a5, .int .u8 z_.a6, .int .u8 z_.a7]) LV.bool (mset m (l.getD t9.toNat default).f_Key true)))] })], .reg []])
          (a_ (a_ (a_ tr (a_ (leB cL0_1) tr)) tr) (a_ (a_ (a_ (a_ (Eq.refl 10) gL0_2) tr) (a_ (a_ (le_ 10 10 rfl) tr) (a_ (a_ tr tr) (a_ (a_ (a_ (Eq.refl 10) (a_ (le_ 10 10 rfl) (Eq.refl 0))) tr) tr)))) (a_ (a_ (a_ tr tr) (a_ (a_ tr tr) (a_ (a_ (a_ tr (le_ 8 10 rfl)) tr) (a_ (a_ (a_ (Eq.refl true) (findE_enc (fun z_ : A8 (Int) => LV.agg [.int .u8 z_.a0, .int .u8 z_.a1, .int .u8 z_.a2, .int .u8 z_.a3, .int .u8 z_.a4, .int .u8 z_.a5, .int .u8 z_.a6, .int .u8 z_.a7]) LV.bool (k_arr8 .u8) m (l.getD t9.toNat default).f_Key)) (a_ (LV.Le.trans (le_look LV.bool (mget m (l.getD t9.toNat default).f_Key) default) (leB cL0_3)) tr)) tr)))) (a_ (a_ (a_ tr tr) (a_ (a_ tr tr) (a_ (a_ (a_ tr (le_ 8 10 rfl)) tr) (a_ (a_ (a_ (Eq.refl true) (Eq.refl true)) (a_ (sub_upd (fun z_ : A8 (Int) => LV.agg [.int .u8 z_.a0, .int .u8 z_.a1, .int .u8 z_.a2, .int .u8 z_.a3, .int .u8 z_.a4, .int .u8 z_.a5, .int .u8 z_.a6, .int .u8 z_.a7]) LV.bool (k_arr8 .u8) true [.int .u8, .int .u8, .int .u8, .int .u8, .int .u8, .int .u8, .int .u8, .int .u8] m (l.getD t9.toNat default).f_Key true) tr)) tr)))) (a_ (a_ (a_ tr tr) (a_ (a_ tr tr) tr)) tr))))) (ih _ _ r h) (by kernel_rfl) ⟨trivial, trivial⟩
    · skip
      obtain rfl := Option.some.inj h
      exact run_ret mixed (L := []) (n := 19) (s := [.go, .reg [(0, { v := some (.bool false) })], .reg []])
        (a_ (a_ (a_ (a_ tr (a_ (leB cL0_1) tr)) tr) (a_ (a_ (a_ tr tr) tr) tr)) tr) (by kernel_rfl) rfl

theorem hist_isTwice_ok (l : List (T_hist_Item)) (r : (Bool)) (h : hist_isTwice l = some r) : ∀ σ, Inj 0 σ → FnTri Try.prog 41 (renL σ [.ds 10 (l).length (rowF c_T_hist_Item default l)]) (preOf σ 0 []) ((hist_isTwice_v r).ren σ) (upOf σ []) := by
  refine fn_of Try.func41 (by kernel_rfl) (by kernel_rfl) (by kernel_rfl) trivial (by kernel_rfl) trivial (by kernel_rfl) ?_
  intro w0 W μ0 hμ
  unfold hist_isTwice at h
  exact run_to mixed hμ (L := [0]) (n := 21) (s := [.reg [], .reg [], .reg []])
    (a_ (a_ (a_ tr tr) tr) (a_ (a_ (a_ tr tr) (a_ (a_ tr tr) tr)) (a_ (a_ (a_ tr tr) (a_ (a_ tr tr) (a_ (a_ tr tr) tr))) tr))) (hist_isTwice_l0_ok hμ l  big _ _ r h) (by kernel_rfl) ⟨trivial, trivial⟩

theorem hist_isTwice_tri (l : List (T_hist_Item)) (r : (Bool)) (h : hist_isTwice l = some r) : FnTri Try.prog 41 [.ds 10 (l).length (rowF c_T_hist_Item default l)] [] (hist_isTwice_v r) [] := FnTri.none (hist_isTwice_ok l r h) rfl rfl

/-- parrel/hist.isWrong$1 -/

def hist_isWrong_L1_v (r : (Bool)) : LV := .bool r

def hist_isWrong_L1 (i : T_hist_Item) : Option ((Bool)) :=
  some (i.f_Version == 0)

theorem hist_isWrong_L1_ok (i : T_hist_Item) (r : (Bool)) (h : hist_isWrong_L1 i = some r) : ∀ σ, Inj 0 σ → FnTri Try.prog 43 (renL σ [v_T_hist_Item i]) (preOf σ 0 []) ((hist_isWrong_L1_v r).ren σ) (upOf σ []) := by
  refine fn_of Try.func43 (by kernel_rfl) (by kernel_rfl) (by kernel_rfl) trivial (by kernel_rfl) trivial (by kernel_rfl) ?_
  intro w0 W μ0 hμ
  unfold hist_isWrong_L1 at h
  obtain rfl := Option.some.inj h
  exact run_ret mixed (L := []) (n := 15) (s := [.reg [], .reg []])
    (a_ (a_ (a_ (a_ tr tr) (a_ (a_ tr tr) tr)) (a_ (a_ (a_ tr tr) (a_ (a_ (a_ tr (lt_ 8 10 rfl)) tr) (a_ (a_ tr tr) (a_ (a_ tr tr) tr)))) tr)) tr) (by kernel_rfl) rfl

theorem hist_isWrong_L1_tri (i : T_hist_Item) (r : (Bool)) (h : hist_isWrong_L1 i = some r) : FnTri Try.prog 43 [v_T_hist_Item i] [] (hist_isWrong_L1_v r) [] := FnTri.none (hist_isWrong_L1_ok i r h) rfl rfl

/-- slices.IndexFunc[[]parrel/hist.Item,parrel/hist.Item] -/

def slices_IndexFunc_hist_Item_hist_Item_v (r : (Int)) : LV := .int .i64 r

def slices_IndexFunc_hist_Item_hist_Item_T0 (s : List (T_hist_Item)) (t8 : Int) : List LV := [.ds 10 (s).length (rowF c_T_hist_Item default s), .fn 43 [] [], .any, .any, .any, .any, .any, .int .i64 ((s).length : Int), .int .i64 t8, .any, .any, .any, .any, .any, .any, .any, .any, .any, .any]

def slices_IndexFunc_hist_Item_hist_Item_H0 (s : List (T_hist_Item)) (t8 : Int) : Heap := []

def slices_IndexFunc_hist_Item_hist_Item_l0 (s : List (T_hist_Item))  : Nat → (Int) → Option ((Int))
  | 0, _ => none
  | fuel + 1, t8 =>
    if ((decide (t8 < ((s).length : Int))) : Bool) then
      if 0 ≤ t8 ∧ t8 < (((s).length : Nat) : Int) then
      (hist_isWrong_L1 (s.getD t8.toNat default)).bind fun yL0_4 =>
      if (yL0_4 : Bool) then
        some t8
      else
        slices_IndexFunc_hist_Item_hist_Item_l0 s  fuel (IntKind.wrap .i64 (t8 + 1))
      else none
    else
      some (-1)

def slices_IndexFunc_hist_Item_hist_Item (s : List (T_hist_Item)) : Option ((Int)) :=
  slices_IndexFunc_hist_Item_hist_Item_l0 s  big 0

theorem slices_IndexFunc_hist_Item_hist_Item_l0_ok {w0 : World} {W : Nat → Prop} {μ0 : Emb} (hμ : ∀ c p, μ0 c = some p → c < 0) (s : List (T_hist_Item))  : ∀ (fuel : Nat) (t8 : Int) (r : (Int)), slices_IndexFunc_hist_Item_hist_Item_l0 s  fuel t8 = some r → kont Try.prog w0 W μ0 (FnPost Try.prog Try.f50 0 0 (slices_IndexFunc_hist_Item_hist_Item_v r) []) (kAt (bodyOf Try.f50) 0) none (slices_IndexFunc_hist_Item_hist_Item_T0 s t8) (slices_IndexFunc_hist_Item_hist_Item_H0 s t8) := by
  intro fuel
  induction fuel with
  | zero => intro t8 r h; rw [slices_IndexFunc_hist_Item_hist_Item_l0] at h; cases h
  | succ fuel ih =>
    intro t8 r h
    rw [slices_IndexFunc_hist_Item_hist_Item_l0] at h
    rcases itb_some h with ⟨cL0_1, h⟩ | ⟨cL0_1, h⟩
    · skip
      obtain ⟨gL0_2, h⟩ := guard_some h
      obtain ⟨yL0_4, eL0_3, h⟩ := bind_some h
      rcases itb_some h with ⟨cL0_5, h⟩ | ⟨cL0_5, h⟩
      · skip
        obtain rfl := Option.some.inj h
        exact run_ret mixed (L := []) (n := 28) (s := [.go, .reg [(0, { v := some (.bool true) })], .reg [], .reg [(5, { call := some (hist_isWrong_L1_v yL0_4, [], []), v := some (.bool true) })], .reg []])
          (a_ (a_ (a_ (a_ tr (a_ (leB cL0_1) tr)) tr) (a_ (a_ (a_ tr tr) (a_ (a_ tr tr) tr)) (a_ (a_ (a_ tr tr) (a_ (a_ tr tr) (a_ (a_ tr tr) (a_ (a_ (a_ (Eq.refl 10) gL0_2) tr) (a_ (a_ (le_ 10 10 rfl) tr) (a_ (a_ (a_ (hist_isWrong_L1_tri (s.getD t8.toNat default) yL0_4 eL0_3) tr) (a_ (leB cL0_5) tr)) tr)))))) (a_ (a_ (a_ tr tr) (a_ (a_ tr tr) tr)) tr)))) tr) (by kernel_rfl) rfl
      · skip
        exact run_to mixed hμ (L := []) (n := 29) (s := [.go, .reg [(0, { v := some (.bool true) })], .reg [], .reg [(5, { call := some (hist_isWrong_L1_v yL0_4, [], []), v := some (.bool false) })], .reg []])
          (a_ (a_ (a_ tr (a_ (leB cL0_1) tr)) tr) (a_ (a_ (a_ tr tr) (a_ (a_ tr tr) tr)) (a_ (a_ (a_ tr tr) (a_ (a_ tr tr) (a_ (a_ tr tr) (a_ (a_ (a_ (Eq.refl 10) gL0_2) tr) (a_ (a_ (le_ 10 10 rfl) tr) (a_ (a_ (a_ (hist_isWrong_L1_tri (s.getD t8.toNat default) yL0_4 eL0_3) tr) (a_ (leB cL0_5) tr)) tr)))))) (a_ (a_ (a_ tr tr) (a_ (a_ tr tr) tr)) tr)))) (ih _ r h) (by kernel_rfl) trivial
    · skip
      obtain rfl := Option.some.inj h
      exact run_ret mixed (L := []) (n := 19) (s := [.go, .reg [(0, { v := some (.bool false) })], .reg []])
        (a_ (a_ (a_ (a_ tr (a_ (leB cL0_1) tr)) tr) (a_ (a_ (a_ tr tr) tr) tr)) tr) (by kernel_rfl) rfl

theorem slices_IndexFunc_hist_Item_hist_Item_ok (s : List (T_hist_Item)) (r : (Int)) (h : slices_IndexFunc_hist_Item_hist_Item s = some r) : ∀ σ, Inj 0 σ → FnTri Try.prog 50 (renL σ [.ds 10 (s).length (rowF c_T_hist_Item default s), .fn 43 [] []]) (preOf σ 0 []) ((slices_IndexFunc_hist_Item_hist_Item_v r).ren σ) (upOf σ []) := by
  refine fn_of Try.func50 (by kernel_rfl) (by kernel_rfl) (by kernel_rfl) trivial (by kernel_rfl) trivial (by kernel_rfl) ?_
  intro w0 W μ0 hμ
  unfold slices_IndexFunc_hist_Item_hist_Item at h
  exact run_to mixed hμ (L := []) (n := 18) (s := [.reg [], .reg []])
    (a_ (a_ (a_ tr tr) tr) (a_ (a_ (a_ tr tr) (a_ (a_ tr tr) (a_ (a_ tr tr) tr))) tr)) (slices_IndexFunc_hist_Item_hist_Item_l0_ok hμ s  big _ r h) (by kernel_rfl) trivial

theorem slices_IndexFunc_hist_Item_hist_Item_tri (s : List (T_hist_Item)) (r : (Int)) (h : slices_IndexFunc_hist_Item_hist_Item s = some r) : FnTri Try.prog 50 [.ds 10 (s).length (rowF c_T_hist_Item default s), .fn 43 [] []] [] (slices_IndexFunc_hist_Item_hist_Item_v r) [] := FnTri.none (slices_IndexFunc_hist_Item_hist_Item_ok s r h) rfl rfl

/-- slices.ContainsFunc[[]parrel/hist.Item,parrel/hist.Item] -/

def slices_ContainsFunc_hist_Item_hist_Item_v (r : (Bool)) : LV := .bool r

def slices_ContainsFunc_hist_Item_hist_Item (s : List (T_hist_Item)) : Option ((Bool)) :=
  (slices_IndexFunc_hist_Item_hist_Item s).bind fun y2 =>
  some (decide (0 ≤ y2))

theorem slices_ContainsFunc_hist_Item_hist_Item_ok (s : List (T_hist_Item)) (r : (Bool)) (h : slices_ContainsFunc_hist_Item_hist_Item s = some r) : ∀ σ, Inj 0 σ → FnTri Try.prog 42 (renL σ [.ds 10 (s).length (rowF c_T_hist_Item default s), .fn 43 [] []]) (preOf σ 0 []) ((slices_ContainsFunc_hist_Item_hist_Item_v r).ren σ) (upOf σ []) := by
  refine fn_of Try.func42 (by kernel_rfl) (by kernel_rfl) (by kernel_rfl) trivial (by kernel_rfl) trivial (by kernel_rfl) ?_
  intro w0 W μ0 hμ
  unfold slices_ContainsFunc_hist_Item_hist_Item at h
  obtain ⟨y2, e1, h⟩ := bind_some h
  obtain rfl := Option.some.inj h
  exact run_ret mixed (L := []) (n := 15) (s := [.reg [], .reg [(2, { call := some (slices_IndexFunc_hist_Item_hist_Item_v y2, [], []) })]])
    (a_ (a_ (a_ (a_ tr tr) tr) (a_ (a_ (a_ tr tr) (a_ (a_ tr tr) (a_ (a_ (a_ (slices_IndexFunc_hist_Item_hist_Item_tri s y2 e1) tr) tr) (a_ (a_ tr tr) (a_ (a_ tr tr) tr))))) tr)) tr) (by kernel_rfl) rfl

theorem slices_ContainsFunc_hist_Item_hist_Item_tri (s : List (T_hist_Item)) (r : (Bool)) (h : slices_ContainsFunc_hist_Item_hist_Item s = some r) : FnTri Try.prog 42 [.ds 10 (s).length (rowF c_T_hist_Item default s), .fn 43 [] []] [] (slices_ContainsFunc_hist_Item_hist_Item_v r) [] := FnTri.none (slices_ContainsFunc_hist_Item_hist_Item_ok s r h) rfl rfl

/-- parrel/hist.isWrong -/

def hist_isWrong_v (r : (Bool)) : LV := .bool r

def hist_isWrong (t : T_hist_Tx) : Option ((Bool)) :=
  if ((decide (64 < ((t.f_Reads).length : Int))) : Bool) then
    some true
  else
    if ((decide (64 < ((t.f_Writes).length : Int))) : Bool) then
      some true
    else
      (hist_isTwice t.f_Reads).bind fun y4 =>
      if (y4 : Bool) then
        some true
      else
        (hist_isTwice t.f_Writes).bind fun y7 =>
        if (y7 : Bool) then
          some true
        else
          (slices_ContainsFunc_hist_Item_hist_Item t.f_Writes).bind fun y10 =>
          some y10

theorem hist_isWrong_ok (t : T_hist_Tx) (r : (Bool)) (h : hist_isWrong t = some r) : ∀ σ, Inj 0 σ → FnTri Try.prog 27 (renL σ [v_T_hist_Tx t]) (preOf σ 0 []) ((hist_isWrong_v r).ren σ) (upOf σ []) := by
  refine fn_of Try.func27 (by kernel_rfl) (by kernel_rfl) (by kernel_rfl) trivial (by kernel_rfl) trivial (by kernel_rfl) ?_
  intro w0 W μ0 hμ
  unfold hist_isWrong at h
  rcases itb_some h with ⟨c1, h⟩ | ⟨c1, h⟩
  · skip
    obtain rfl := Option.some.inj h
    exact run_ret mixed (L := []) (n := 15) (s := [.reg [], .reg [(4, { v := some (.bool true) })]])
      (a_ (a_ (a_ (a_ tr tr) (a_ (a_ tr tr) tr)) (a_ (a_ (a_ tr tr) (a_ (a_ (a_ tr (lt_ 0 4 rfl)) tr) (a_ (a_ tr tr) (a_ (a_ tr tr) (a_ (a_ tr (a_ (leB c1) tr)) (a_ tr (a_ tr (a_ tr (a_ tr (a_ (a_ tr tr) (a_ (a_ tr tr) (a_ tr (a_ tr (a_ tr (a_ (a_ tr tr) (a_ (a_ tr tr) (a_ tr (a_ tr (a_ tr (a_ (a_ tr tr) (a_ (a_ tr tr) (a_ tr (a_ tr (a_ tr (a_ (a_ tr tr) (a_ (a_ tr tr) tr)))))))))))))))))))))))))) tr)) tr) (by kernel_rfl) rfl
  · skip
    rcases itb_some h with ⟨c2, h⟩ | ⟨c2, h⟩
    · skip
      obtain rfl := Option.some.inj h
      exact run_ret mixed (L := []) (n := 15) (s := [.reg [], .reg [(4, { v := some (.bool false) }), (10, { v := some (.bool true) })]])
        (a_ (a_ (a_ (a_ tr tr) (a_ (a_ tr tr) tr)) (a_ (a_ (a_ tr tr) (a_ (a_ (a_ tr (lt_ 0 4 rfl)) tr) (a_ (a_ tr tr) (a_ (a_ tr tr) (a_ (a_ tr (a_ (leB c1) tr)) (a_ (a_ tr tr) (a_ (a_ (a_ tr (lt_ 1 4 rfl)) tr) (a_ (a_ tr tr) (a_ (a_ tr tr) (a_ (a_ tr tr) (a_ (a_ tr (a_ (leB c2) tr)) (a_ tr (a_ tr (a_ tr (a_ (a_ tr tr) (a_ (a_ tr tr) (a_ tr (a_ tr (a_ tr (a_ (a_ tr tr) (a_ (a_ tr tr) (a_ tr (a_ tr (a_ tr (a_ (a_ tr tr) (a_ (a_ tr tr) tr)))))))))))))))))))))))))) tr)) tr) (by kernel_rfl) rfl
    · skip
      obtain ⟨y4, e3, h⟩ := bind_some h
      rcases itb_some h with ⟨c5, h⟩ | ⟨c5, h⟩
      · skip
        obtain rfl := Option.some.inj h
        exact run_ret mixed (L := []) (n := 15) (s := [.reg [], .reg [(4, { v := some (.bool false) }), (10, { v := some (.bool false) }), (13, { call := some (hist_isTwice_v y4, [], []) }), (15, { v := some (.bool true) })]])
          (a_ (a_ (a_ (a_ tr tr) (a_ (a_ tr tr) tr)) (a_ (a_ (a_ tr tr) (a_ (a_ (a_ tr (lt_ 0 4 rfl)) tr) (a_ (a_ tr tr) (a_ (a_ tr tr) (a_ (a_ tr (a_ (leB c1) tr)) (a_ (a_ tr tr) (a_ (a_ (a_ tr (lt_ 1 4 rfl)) tr) (a_ (a_ tr tr) (a_ (a_ tr tr) (a_ (a_ tr tr) (a_ (a_ tr (a_ (leB c2) tr)) (a_ (a_ tr tr) (a_ (a_ (a_ tr (lt_ 0 4 rfl)) tr) (a_ (a_ (a_ (hist_isTwice_tri t.f_Reads y4 e3) tr) tr) (a_ (a_ tr tr) (a_ (a_ tr (a_ (leB c5) tr)) (a_ tr (a_ tr (a_ tr (a_ (a_ tr tr) (a_ (a_ tr tr) (a_ tr (a_ tr (a_ tr (a_ (a_ tr tr) (a_ (a_ tr tr) tr)))))))))))))))))))))))))) tr)) tr) (by kernel_rfl) rfl
      · skip
        obtain ⟨y7, e6, h⟩ := bind_some h
        rcases itb_some h with ⟨c8, h⟩ | ⟨c8, h⟩
        · skip
          obtain rfl := Option.some.inj h
          exact run_ret mixed (L := []) (n := 15) (s := [.reg [], .reg [(4, { v := some (.bool false) }), (10, { v := some (.bool false) }), (13, { call := some (hist_isTwice_v y4, [], []) }), (15, { v := some (.bool false) }), (18, { call := some (hist_isTwice_v y7, [], []) }), (20, { v := some (.bool true) })]])
            (a_ (a_ (a_ (a_ tr tr) (a_ (a_ tr tr) tr)) (a_ (a_ (a_ tr tr) (a_ (a_ (a_ tr (lt_ 0 4 rfl)) tr) (a_ (a_ tr tr) (a_ (a_ tr tr) (a_ (a_ tr (a_ (leB c1) tr)) (a_ (a_ tr tr) (a_ (a_ (a_ tr (lt_ 1 4 rfl)) tr) (a_ (a_ tr tr) (a_ (a_ tr tr) (a_ (a_ tr tr) (a_ (a_ tr (a_ (leB c2) tr)) (a_ (a_ tr tr) (a_ (a_ (a_ tr (lt_ 0 4 rfl)) tr) (a_ (a_ (a_ (hist_isTwice_tri t.f_Reads y4 e3) tr) tr) (a_ (a_ tr tr) (a_ (a_ tr (a_ (leB c5) tr)) (a_ (a_ tr tr) (a_ (a_ (a_ tr (lt_ 1 4 rfl)) tr) (a_ (a_ (a_ (hist_isTwice_tri t.f_Writes y7 e6) tr) tr) (a_ (a_ tr tr) (a_ (a_ tr (a_ (leB c8) tr)) (a_ tr (a_ tr (a_ tr (a_ (a_ tr tr) (a_ (a_ tr tr) tr)))))))))))))))))))))))))) tr)) tr) (by kernel_rfl) rfl
        · skip
          obtain ⟨y10, e9, h⟩ := bind_some h
          obtain rfl := Option.some.inj h
          exact run_ret mixed (L := []) (n := 15) (s := [.reg [], .reg [(4, { v := some (.bool false) }), (10, { v := some (.bool false) }), (13, { call := some (hist_isTwice_v y4, [], []) }), (15, { v := some (.bool false) }), (18, { call := some (hist_isTwice_v y7, [], []) }), (20, { v := some (.bool false) }), (23, { call := some (slices_ContainsFunc_hist_Item_hist_Item_v y10, [], []) })]])
            (a_ (a_ (a_ (a_ tr tr) (a_ (a_ tr tr) tr)) (a_ (a_ (a_ tr tr) (a_ (a_ (a_ tr (lt_ 0 4 rfl)) tr) (a_ (a_ tr tr) (a_ (a_ tr tr) (a_ (a_ tr (a_ (leB c1) tr)) (a_ (a_ tr tr) (a_ (a_ (a_ tr (lt_ 1 4 rfl)) tr) (a_ (a_ tr tr) (a_ (a_ tr tr) (a_ (a_ tr tr) (a_ (a_ tr (a_ (leB c2) tr)) (a_ (a_ tr tr) (a_ (a_ (a_ tr (lt_ 0 4 rfl)) tr) (a_ (a_ (a_ (hist_isTwice_tri t.f_Reads y4 e3) tr) tr) (a_ (a_ tr tr) (a_ (a_ tr (a_ (leB c5) tr)) (a_ (a_ tr tr) (a_ (a_ (a_ tr (lt_ 1 4 rfl)) tr) (a_ (a_ (a_ (hist_isTwice_tri t.f_Writes y7 e6) tr) tr) (a_ (a_ tr tr) (a_ (a_ tr (a_ (leB c8) tr)) (a_ (a_ tr tr) (a_ (a_ (a_ tr (lt_ 1 4 rfl)) tr) (a_ (a_ (a_ (slices_ContainsFunc_hist_Item_hist_Item_tri t.f_Writes y10 e9) tr) tr) (a_ (a_ tr tr) (a_ (a_ tr tr) tr)))))))))))))))))))))))))) tr)) tr) (by kernel_rfl) rfl

theorem hist_isWrong_tri (t : T_hist_Tx) (r : (Bool)) (h : hist_isWrong t = some r) : FnTri Try.prog 27 [v_T_hist_Tx t] [] (hist_isWrong_v r) [] := FnTri.none (hist_isWrong_ok t r h) rfl rfl

/-- slices.IndexFunc[[]parrel/hist.Tx,parrel/hist.Tx] -/

def slices_IndexFunc_hist_Tx_hist_Tx_v (r : (Int)) : LV := .int .i64 r

def slices_IndexFunc_hist_Tx_hist_Tx_T0 (s : List (T_hist_Tx)) (t8 : Int) : List LV := [.ds 4 (s).length (rowF c_T_hist_Tx default s), .fn 27 [] [], .any, .any, .any, .any, .any, .int .i64 ((s).length : Int), .int .i64 t8, .any, .any, .any, .any, .any, .any, .any, .any, .any, .any]

def slices_IndexFunc_hist_Tx_hist_Tx_H0 (s : List (T_hist_Tx)) (t8 : Int) : Heap := []

def slices_IndexFunc_hist_Tx_hist_Tx_l0 (s : List (T_hist_Tx))  : Nat → (Int) → Option ((Int))
  | 0, _ => none
  | fuel + 1, t8 =>
    if ((decide (t8 < ((s).length : Int))) : Bool) then
      if 0 ≤ t8 ∧ t8 < (((s).length : Nat) : Int) then
      (hist_isWrong (s.getD t8.toNat default)).bind fun yL0_4 =>
      if (yL0_4 : Bool) then
        some t8
      else
        slices_IndexFunc_hist_Tx_hist_Tx_l0 s  fuel (IntKind.wrap .i64 (t8 + 1))
      else none
    else
      some (-1)

def slices_IndexFunc_hist_Tx_hist_Tx (s : List (T_hist_Tx)) : Option ((Int)) :=
  slices_IndexFunc_hist_Tx_hist_Tx_l0 s  big 0

theorem slices_IndexFunc_hist_Tx_hist_Tx_l0_ok {w0 : World} {W : Nat → Prop} {μ0 : Emb} (hμ : ∀ c p, μ0 c = some p → c < 0) (s : List (T_hist_Tx))  : ∀ (fuel : Nat) (t8 : Int) (r : (Int)), slices_IndexFunc_hist_Tx_hist_Tx_l0 s  fuel t8 = some r → kont Try.prog w0 W μ0 (FnPost Try.prog Try.f40 0 0 (slices_IndexFunc_hist_Tx_hist_Tx_v r) []) (kAt (bodyOf Try.f40) 0) none (slices_IndexFunc_hist_Tx_hist_Tx_T0 s t8) (slices_IndexFunc_hist_Tx_hist_Tx_H0 s t8) := by
  intro fuel
  induction fuel with
  | zero => intro t8 r h; rw [slices_IndexFunc_hist_Tx_hist_Tx_l0] at h; cases h
  | succ fuel ih =>
    intro t8 r h
    rw [slices_IndexFunc_hist_Tx_hist_Tx_l0] at h
    rcases itb_some h with ⟨cL0_1, h⟩ | ⟨cL0_1, h⟩
    · skip
      obtain ⟨gL0_2, h⟩ := guard_some h
      obtain ⟨yL0_4, eL0_3, h⟩ := bind_some h
      rcases itb_some h with ⟨cL0_5, h⟩ | ⟨cL0_5, h⟩
      · skip
        obtain rfl := Option.some.inj h
        exact run_ret mixed (L := []) (n := 28) (s := [.go, .reg [(0, { v := some (.bool true) })], .reg [], .reg [(5, { call := some (hist_isWrong_v yL0_4, [], []), v := some (.bool true) })], .reg []])
          (a_ (a_ (a_ (a_ tr (a_ (leB cL0_1) tr)) tr) (a_ (a_ (a_ tr tr) (a_ (a_ tr tr) tr)) (a_ (a_ (a_ tr tr) (a_ (a_ tr tr) (a_ (a_ tr tr) (a_ (a_ (a_ (Eq.refl 4) gL0_2) tr) (a_ (a_ (le_ 4 4 rfl) tr) (a_ (a_ (a_ (hist_isWrong_tri (s.getD t8.toNat default) yL0_4 eL0_3) tr) (a_ (leB cL0_5) tr)) tr)))))) (a_ (a_ (a_ tr tr) (a_ (a_ tr tr) tr)) tr)))) tr) (by kernel_rfl) rfl
      · skip
        exact run_to mixed hμ (L := []) (n := 29) (s := [.go, .reg [(0, { v := some (.bool true) })], .reg [], .reg [(5, { call := some (hist_isWrong_v yL0_4, [], []), v := some (.bool false) })], .reg []])
          (a_ (a_ (a_ tr (a_ (leB cL0_1) tr)) tr) (a_ (a_ (a_ tr tr) (a_ (a_ tr tr) tr)) (a_ (a_ (a_ tr tr) (a_ (a_ tr tr) (a_ (a_ tr tr) (a_ (a_ (a_ (Eq.refl 4) gL0_2) tr) (a_ (a_ (le_ 4 4 rfl) tr) (a_ (a_ (a_ (hist_isWrong_tri (s.getD t8.toNat default) yL0_4 eL0_3) tr) (a_ (leB cL0_5) tr)) tr)))))) (a_ (a_ (a_ tr tr) (a_ (a_ tr tr) tr)) tr)))) (ih _ r h) (by kernel_rfl) trivial
    · skip
      obtain rfl := Option.some.inj h
      exact run_ret mixed (L := []) (n := 19) (s := [.go, .reg [(0, { v := some (.bool false) })], .reg []])
        (a_ (a_ (a_ (a_ tr (a_ (leB cL0_1) tr)) tr) (a_ (a_ (a_ tr tr) tr) tr)) tr) (by kernel_rfl) rfl

theorem slices_IndexFunc_hist_Tx_hist_Tx_ok (s : List (T_hist_Tx)) (r : (Int)) (h : slices_IndexFunc_hist_Tx_hist_Tx s = some r) : ∀ σ, Inj 0 σ → FnTri Try.prog 40 (renL σ [.ds 4 (s).length (rowF c_T_hist_Tx default s), .fn 27 [] []]) (preOf σ 0 []) ((slices_IndexFunc_hist_Tx_hist_Tx_v r).ren σ) (upOf σ []) := by
  refine fn_of Try.func40 (by kernel_rfl) (by kernel_rfl) (by kernel_rfl) trivial (by kernel_rfl) trivial (by kernel_rfl) ?_
  intro w0 W μ0 hμ
  unfold slices_IndexFunc_hist_Tx_hist_Tx at h
  exact run_to mixed hμ (L := []) (n := 18) (s := [.reg [], .reg []])
    (a_ (a_ (a_ tr tr) tr) (a_ (a_ (a_ tr tr) (a_ (a_ tr tr) (a_ (a_ tr tr) tr))) tr)) (slices_IndexFunc_hist_Tx_hist_Tx_l0_ok hμ s  big _ r h) (by kernel_rfl) trivial

theorem slices_IndexFunc_hist_Tx_hist_Tx_tri (s : List (T_hist_Tx)) (r : (Int)) (h : slices_IndexFunc_hist_Tx_hist_Tx s = some r) : FnTri Try.prog 40 [.ds 4 (s).length (rowF c_T_hist_Tx default s), .fn 27 [] []] [] (slices_IndexFunc_hist_Tx_hist_Tx_v r) [] := FnTri.none (slices_IndexFunc_hist_Tx_hist_Tx_ok s r h) rfl rfl

/-- slices.ContainsFunc[[]parrel/hist.Tx,parrel/hist.Tx] -/

def slices_ContainsFunc_hist_Tx_hist_Tx_v (r : (Bool)) : LV := .bool r

def slices_ContainsFunc_hist_Tx_hist_Tx (s : List (T_hist_Tx)) : Option ((Bool)) :=
  (slices_IndexFunc_hist_Tx_hist_Tx s).bind fun y2 =>
  some (decide (0 ≤ y2))

theorem slices_ContainsFunc_hist_Tx_hist_Tx_ok (s : List (T_hist_Tx)) (r : (Bool)) (h : slices_ContainsFunc_hist_Tx_hist_Tx s = some r) : ∀ σ, Inj 0 σ → FnTri Try.prog 26 (renL σ [.ds 4 (s).length (rowF c_T_hist_Tx default s), .fn 27 [] []]) (preOf σ 0 []) ((slices_ContainsFunc_hist_Tx_hist_Tx_v r).ren σ) (upOf σ []) := by
  refine fn_of Try.func26 (by kernel_rfl) (by kernel_rfl) (by kernel_rfl) trivial (by kernel_rfl) trivial (by kernel_rfl) ?_
  intro w0 W μ0 hμ
  unfold slices_ContainsFunc_hist_Tx_hist_Tx at h
  obtain ⟨y2, e1, h⟩ := bind_some h
  obtain rfl := Option.some.inj h
  exact run_ret mixed (L := []) (n := 15) (s := [.reg [], .reg [(2, { call := some (slices_IndexFunc_hist_Tx_hist_Tx_v y2, [], []) })]])
    (a_ (a_ (a_ (a_ tr tr) tr) (a_ (a_ (a_ tr tr) (a_ (a_ tr tr) (a_ (a_ (a_ (slices_IndexFunc_hist_Tx_hist_Tx_tri s y2 e1) tr) tr) (a_ (a_ tr tr) (a_ (a_ tr tr) tr))))) tr)) tr) (by kernel_rfl) rfl

theorem slices_ContainsFunc_hist_Tx_hist_Tx_tri (s : List (T_hist_Tx)) (r : (Bool)) (h : slices_ContainsFunc_hist_Tx_hist_Tx s = some r) : FnTri Try.prog 26 [.ds 4 (s).length (rowF c_T_hist_Tx default s), .fn 27 [] []] [] (slices_ContainsFunc_hist_Tx_hist_Tx_v r) [] := FnTri.none (slices_ContainsFunc_hist_Tx_hist_Tx_ok s r h) rfl rfl

/-- parrel/hist.of -/

def hist_of_v (r : (T_hist_version)) : LV := v_T_hist_version r

def hist_of (i : T_hist_Item) : Option ((T_hist_version)) :=
  some (T_hist_version.mk i.f_Key i.f_Version)

theorem hist_of_ok (i : T_hist_Item) (r : (T_hist_version)) (h : hist_of i = some r) : ∀ σ, Inj 0 σ → FnTri Try.prog 28 (renL σ [v_T_hist_Item i]) (preOf σ 0 []) ((hist_of_v r).ren σ) (upOf σ []) := by
  refine fn_of Try.func28 (by kernel_rfl) (by kernel_rfl) (by kernel_rfl) trivial (by kernel_rfl) trivial (by kernel_rfl) ?_
  intro w0 W μ0 hμ
  unfold hist_of at h
  obtain rfl := Option.some.inj h
  exact run_ret mixed (L := []) (n := 15) (s := [.reg [], .reg []])
    (a_ (a_ (a_ (a_ tr tr) (a_ (a_ tr tr) tr)) (a_ (a_ (a_ tr tr) (a_ (a_ (a_ tr (le_ 8 10 rfl)) tr) (a_ (a_ tr tr) (a_ (a_ (a_ tr (lt_ 8 10 rfl)) tr) (a_ (a_ (Eq.refl true) tr) (a_ (a_ (a_ (Eq.refl 9) (a_ (le_ 9 9 rfl) (Eq.refl 0))) tr) tr)))))) tr)) (a_ (a_ tr (le_ 9 9 rfl)) tr)) (by kernel_rfl) rfl

theorem hist_of_tri (i : T_hist_Item) (r : (T_hist_version)) (h : hist_of i = some r) : FnTri Try.prog 28 [v_T_hist_Item i] [] (hist_of_v r) [] := FnTri.none (hist_of_ok i r h) rfl rfl

/-- parrel/hist.Check -/

def hist_Check_v (r : (Int)) : LV := .int .i64 r

def hist_Check_T1 (l : List (T_hist_Tx)) (t27 : Int) (t34 : Int) (m2 : List (T_hist_version × List UInt8)) : List LV := [.ds 4 (l).length (rowF c_T_hist_Tx default l), .any, .any, .map 0, .any, .any, .any, .any, .any, .any, .any, .any, .any, .any, .any, .any, .any, .any, .any, .any, .any, .any, .any, .any, .any, .ds 4 (l).length (rowF c_T_hist_Tx default l), .int .i64 ((l).length : Int), .int .i64 t27, .any, .any, .any, .any, .ds 10 ((l.getD t27.toNat default).f_Writes).length (rowF c_T_hist_Item default (l.getD t27.toNat default).f_Writes), .int .i64 (((l.getD t27.toNat default).f_Writes).length : Int), .int .i64 t34, .any, .any, .any, .any, .any, .any, .any, .any, .any, .any, .any, .any, .any, .any, .any, .any, .any, .any, .any, .any, .any, .any, .any, .any, .any, .any, .any, .any, .any, .any, .any, .any, .any, .any, .any, .any, .any, .any, .any, .any, .any, .any, .any, .any, .any, .any, .any, .any, .any, .any, .any, .any]

def hist_Check_H1 (l : List (T_hist_Tx)) (t27 : Int) (t34 : Int) (m2 : List (T_hist_version × List UInt8)) : Heap := [some (.map true [.int .u8, .int .u8, .int .u8, .int .u8, .int .u8, .int .u8, .int .u8, .int .u8, .int .u32] (encM v_T_hist_version LV.str m2))]

def hist_Check_T3 (l : List (T_hist_Tx)) (m : List (T_hist_version × List UInt8)) (t55 : Int) (bad2 : Int) (t62 : Int) : List LV := [.any, .any, .any, .map 0, .any, .any, .any, .any, .any, .any, .int .i64 bad2, .any, .any, .any, .any, .any, .any, .any, .any, .any, .any, .any, .any, .any, .any, .any, .any, .any, .any, .any, .any, .any, .any, .any, .any, .any, .any, .any, .any, .any, .any, .any, .any, .any, .any, .any, .any, .any, .any, .any, .any, .any, .any, .ds 4 (l).length (rowF c_T_hist_Tx default l), .int .i64 ((l).length : Int), .int .i64 t55, .any, .any, .any, .any, .ds 10 ((l.getD t55.toNat default).f_Reads).length (rowF c_T_hist_Item default (l.getD t55.toNat default).f_Reads), .int .i64 (((l.getD t55.toNat default).f_Reads).length : Int), .int .i64 t62, .any, .any, .any, .any, .any, .any, .any, .any, .any, .any, .any, .any, .any, .any, .any, .any, .any, .any, .any, .any, .any, .any, .any, .any]

def hist_Check_H3 (l : List (T_hist_Tx)) (m : List (T_hist_version × List UInt8)) (t55 : Int) (bad2 : Int) (t62 : Int) : Heap := [some (.map true [.int .u8, .int .u8, .int .u8, .int .u8, .int .u8, .int .u8, .int .u8, .int .u8, .int .u32] (encM v_T_hist_version LV.str m))]

def hist_Check_T2 (l : List (T_hist_Tx)) (m : List (T_hist_version × List UInt8)) (bad : Int) (t55 : Int) : List LV := [.any, .any, .any, .map 0, .any, .any, .any, .any, .any, .any, .int .i64 bad, .any, .any, .any, .any, .any, .any, .any, .any, .any, .any, .any, .any, .any, .any, .any, .any, .any, .any, .any, .any, .any, .any, .any, .any, .any, .any, .any, .any, .any, .any, .any, .any, .any, .any, .any, .any, .any, .any, .any, .any, .any, .any, .ds 4 (l).length (rowF c_T_hist_Tx default l), .int .i64 ((l).length : Int), .int .i64 t55, .any, .any, .any, .any, .any, .any, .any, .any, .any, .any, .any, .any, .any, .any, .any, .any, .any, .any, .any, .any, .any, .any, .any, .any, .any, .any, .any, .any, .any, .any, .any]

def hist_Check_H2 (l : List (T_hist_Tx)) (m : List (T_hist_version × List UInt8)) (bad : Int) (t55 : Int) : Heap := [some (.map true [.int .u8, .int .u8, .int .u8, .int .u8, .int .u8, .int .u8, .int .u8, .int .u8, .int .u32] (encM v_T_hist_version LV.str m))]

def hist_Check_T0 (l : List (T_hist_Tx)) (t27 : Int) (m : List (T_hist_version × List UInt8)) : List LV := [.ds 4 (l).length (rowF c_T_hist_Tx default l), .any, .any, .map 0, .any, .any, .any, .any, .any, .any, .any, .any, .any, .any, .any, .any, .any, .any, .any, .any, .any, .any, .any, .any, .any, .ds 4 (l).length (rowF c_T_hist_Tx default l), .int .i64 ((l).length : Int), .int .i64 t27, .any, .any, .any, .any, .any, .any, .any, .any, .any, .any, .any, .any, .any, .any, .any, .any, .any, .any, .any, .any, .any, .any, .any, .any, .any, .any, .any, .any, .any, .any, .any, .any, .any, .any, .any, .any, .any, .any, .any, .any, .any, .any, .any, .any, .any, .any, .any, .any, .any, .any, .any, .any, .any, .any, .any, .any, .any, .any, .any]

def hist_Check_H0 (l : List (T_hist_Tx)) (t27 : Int) (m : List (T_hist_version × List UInt8)) : Heap := [some (.map true [.int .u8, .int .u8, .int .u8, .int .u8, .int .u8, .int .u8, .int .u8, .int .u8, .int .u32] (encM v_T_hist_version LV.str m))]

def hist_Check_l1 (l : List (T_hist_Tx)) (t27 : Int) (k0 : (Int) → (List (T_hist_version × List UInt8)) → Option ((Int))) : Nat → (Int) → (List (T_hist_version × List UInt8)) → Option ((Int))
  | 0, _, _ => none
  | fuel + 1, t34, m2 =>
    if ((decide (t34 < (((l.getD t27.toNat default).f_Writes).length : Int))) : Bool) then
      if 0 ≤ t34 ∧ t34 < ((((l.getD t27.toNat default).f_Writes).length : Nat) : Int) then
      (hist_of ((l.getD t27.toNat default).f_Writes.getD t34.toNat default)).bind fun yL1_4 =>
      if (((mget m2 yL1_4).isSome) : Bool) then
        some 7
      else
        (hist_of ((l.getD t27.toNat default).f_Writes.getD t34.toNat default)).bind fun yL1_7 =>
        hist_Check_l1 l t27 k0 fuel (IntKind.wrap .i64 (t34 + 1)) (mset m2 yL1_7 ((l.getD t27.toNat default).f_Writes.getD t34.toNat default).f_Value)
      else none
    else
      k0 (IntKind.wrap .i64 (t27 + 1)) m2

def hist_Check_l3 (l : List (T_hist_Tx)) (m : List (T_hist_version × List UInt8)) (t55 : Int) (k2 : (Int) → (Int) → Option ((Int))) : Nat → (Int) → (Int) → Option ((Int))
  | 0, _, _ => none
  | fuel + 1, bad2, t62 =>
    if ((decide (t62 < (((l.getD t55.toNat default).f_Reads).length : Int))) : Bool) then
      if 0 ≤ t62 ∧ t62 < ((((l.getD t55.toNat default).f_Reads).length : Nat) : Int) then
      (hist_of ((l.getD t55.toNat default).f_Reads.getD t62.toNat default)).bind fun yL3_4 =>
      if ((!((mget m yL3_4).isSome)) : Bool) then
        if ((((l.getD t55.toNat default).f_Reads.getD t62.toNat default).f_Version != 0) : Bool) then
          some 6
        else
          if ((!(((mget m yL3_4).getD default) == ((l.getD t55.toNat default).f_Reads.getD t62.toNat default).f_Value)) : Bool) then
            hist_Check_l3 l m t55 k2 fuel 8 (IntKind.wrap .i64 (t62 + 1))
          else
            hist_Check_l3 l m t55 k2 fuel bad2 (IntKind.wrap .i64 (t62 + 1))
      else
        if ((!(((mget m yL3_4).getD default) == ((l.getD t55.toNat default).f_Reads.getD t62.toNat default).f_Value)) : Bool) then
          hist_Check_l3 l m t55 k2 fuel 8 (IntKind.wrap .i64 (t62 + 1))
        else
          hist_Check_l3 l m t55 k2 fuel bad2 (IntKind.wrap .i64 (t62 + 1))
      else none
    else
      k2 bad2 (IntKind.wrap .i64 (t55 + 1))

def hist_Check_l2 (l : List (T_hist_Tx)) (m : List (T_hist_version × List UInt8))  : Nat → (Int) → (Int) → Option ((Int))
  | 0, _, _ => none
  | fuel + 1, bad, t55 =>
    if ((decide (t55 < ((l).length : Int))) : Bool) then
      if 0 ≤ t55 ∧ t55 < (((l).length : Nat) : Int) then
      hist_Check_l3 l m t55 (hist_Check_l2 l m  fuel) big bad 0
      else none
    else
      some bad

def hist_Check_l0 (l : List (T_hist_Tx))  : Nat → (Int) → (List (T_hist_version × List UInt8)) → Option ((Int))
  | 0, _, _ => none
  | fuel + 1, t27, m =>
    if ((decide (t27 < ((l).length : Int))) : Bool) then
      if 0 ≤ t27 ∧ t27 < (((l).length : Nat) : Int) then
      hist_Check_l1 l t27 (hist_Check_l0 l  fuel) big 0 m
      else none
    else
      hist_Check_l2 l m  big 0 0

def hist_Check (l : List (T_hist_Tx)) : Option ((Int)) :=
  if ((decide (64 < ((l).length : Int))) : Bool) then
    some 1
  else
    (slices_ContainsFunc_hist_Tx_hist_Tx l).bind fun y3 =>
    if (y3 : Bool) then
      some 1
    else
      hist_Check_l0 l  big 0 ([] : List (T_hist_version × List UInt8))

theorem hist_Check_l1_ok {w0 : World} {W : Nat → Prop} {μ0 : Emb} (hμ : ∀ c p, μ0 c = some p → c < 0) (l : List (T_hist_Tx)) (t27 : Int) (k0 : (Int) → (List (T_hist_version × List UInt8)) → Option ((Int))) (hk0 : ∀ (t27 : Int) (m : List (T_hist_version × List UInt8)) (r : (Int)), k0 t27 m = some r → kont Try.prog w0 W μ0 (FnPost Try.prog Try.f13 0 0 (hist_Check_v r) []) (kAt (bodyOf Try.f13) 0) none (hist_Check_T0 l t27 m) (hist_Check_H0 l t27 m)) : ∀ (fuel : Nat) (t34 : Int) (m2 : List (T_hist_version × List UInt8)) (r : (Int)), hist_Check_l1 l t27 k0 fuel t34 m2 = some r → kont Try.prog w0 W μ0 (FnPost Try.prog Try.f13 0 0 (hist_Check_v r) []) (kAt (bodyOf Try.f13) 1) none (hist_Check_T1 l t27 t34 m2) (hist_Check_H1 l t27 t34 m2) := by
  intro fuel
  induction fuel with
  | zero => intro t34 m2 r h; rw [hist_Check_l1] at h; cases h
  | succ fuel ih =>
    intro t34 m2 r h
    rw [hist_Check_l1] at h
    rcases itb_some h with ⟨cL1_1, h⟩ | ⟨cL1_1, h⟩
    · skip
      obtain ⟨gL1_2, h⟩ := guard_some h
      obtain ⟨yL1_4, eL1_3, h⟩ := bind_some h
      rcases itb_some h with ⟨cL1_5, h⟩ | ⟨cL1_5, h⟩
      · skip
        obtain rfl := Option.some.inj h
        exact run_ret mixed (L := []) (n := 32) (s := [.go, .reg [(0, { v := some (.bool true) })], .reg [], .reg [(2, { call := some (hist_of_v yL1_4, [], []) }), (3, { look := ((mget m2 yL1_4).map LV.str), v := some (.tup [.str ((mget m2 yL1_4).getD default), .bool ((mget m2 yL1_4).isSome)]) })], .reg [(0, { v := some (.bool true) })], .reg []])
          (a_ (a_ (a_ (a_ tr (a_ (leB cL1_1) tr)) tr) (a_ (a_ (a_ (a_ (Eq.refl 10) gL1_2) tr) (a_ (a_ (le_ 10 10 rfl) tr) (a_ (a_ tr tr) (a_ (a_ (a_ (Eq.refl 10) (a_ (le_ 10 10 rfl) (Eq.refl 0))) tr) tr)))) (a_ (a_ (a_ tr tr) (a_ (a_ (a_ tr (le_ 10 10 rfl)) tr) (a_ (a_ (a_ (hist_of_tri ((l.getD t27.toNat default).f_Writes.getD t34.toNat default) yL1_4 eL1_3) tr) tr) (a_ (a_ (a_ (Eq.refl true) (findE_enc v_T_hist_version LV.str k_T_hist_version m2 yL1_4)) (a_ (le_lookok LV.str (mget m2 yL1_4) default) tr)) (a_ (a_ tr tr) (a_ (a_ tr tr) (a_ (a_ tr tr) (a_ (a_ tr tr) (a_ (a_ tr tr) tr))))))))) (a_ (a_ (a_ tr (a_ (leB cL1_5) tr)) tr) (a_ (a_ (a_ tr tr) tr) tr))))) tr) (by kernel_rfl) rfl
      · skip
        obtain ⟨yL1_7, eL1_6, h⟩ := bind_some h
        exact run_to mixed hμ (L := [0]) (n := 35) (s := [.go, .reg [(0, { v := some (.bool true) })], .reg [], .reg [(2, { call := some (hist_of_v yL1_4, [], []) }), (3, { look := ((mget m2 yL1_4).map LV.str), v := some (.tup [.str ((mget m2 yL1_4).getD default), .bool ((mget m2 yL1_4).isSome)]) })], .reg [(0, { v := some (.bool false) })], .reg [(2, { call := some (hist_of_v yL1_7, [], []) }), (5, { os := [(0, .map true [.int .u8, .int .u8, .int .u8, .int .u8, .int .u8, .int .u8, .int .u8, .int .u8, .int .u32] (encM v_T_hist_version LV.str (mset m2 yL1_7 ((l.getD t27.toNat default).f_Writes.getD t34.toNat default).f_Value)))] })], .reg []])
          (a_ (a_ (a_ tr (a_ (leB cL1_1) tr)) tr) (a_ (a_ (a_ (a_ (Eq.refl 10) gL1_2) tr) (a_ (a_ (le_ 10 10 rfl) tr) (a_ (a_ tr tr) (a_ (a_ (a_ (Eq.refl 10) (a_ (le_ 10 10 rfl) (Eq.refl 0))) tr) tr)))) (a_ (a_ (a_ tr tr) (a_ (a_ (a_ tr (le_ 10 10 rfl)) tr) (a_ (a_ (a_ (hist_of_tri ((l.getD t27.toNat default).f_Writes.getD t34.toNat default) yL1_4 eL1_3) tr) tr) (a_ (a_ (a_ (Eq.refl true) (findE_enc v_T_hist_version LV.str k_T_hist_version m2 yL1_4)) (a_ (le_lookok LV.str (mget m2 yL1_4) default) tr)) (a_ (a_ tr tr) (a_ (a_ tr tr) (a_ (a_ tr tr) (a_ (a_ tr tr) (a_ (a_ tr tr) tr))))))))) (a_ (a_ (a_ tr (a_ (leB cL1_5) tr)) tr) (a_ (a_ (a_ tr tr) (a_ (a_ (a_ tr (le_ 10 10 rfl)) tr) (a_ (a_ (a_ (hist_of_tri ((l.getD t27.toNat default).f_Writes.getD t34.toNat default) yL1_7 eL1_6) tr) tr) (a_ (a_ tr tr) (a_ (a_ (a_ tr (lt_ 9 10 rfl)) tr) (a_ (a_ (a_ (Eq.refl true) (Eq.refl true)) (a_ (sub_upd v_T_hist_version LV.str k_T_hist_version true [.int .u8, .int .u8, .int .u8, .int .u8, .int .u8, .int .u8, .int .u8, .int .u8, .int .u32] m2 yL1_7 ((l.getD t27.toNat default).f_Writes.getD t34.toNat default).f_Value) tr)) tr)))))) (a_ (a_ (a_ tr tr) (a_ (a_ tr tr) tr)) tr)))))) (ih _ _ r h) (by kernel_rfl) ⟨trivial, trivial⟩
    · skip
      exact run_to mixed hμ (L := [0]) (n := 19) (s := [.go, .reg [(0, { v := some (.bool false) })], .reg []])
        (a_ (a_ (a_ tr (a_ (leB cL1_1) tr)) tr) (a_ (a_ (a_ tr tr) (a_ (a_ tr tr) tr)) tr)) (hk0 _ _ r h) (by kernel_rfl) ⟨trivial, trivial⟩

theorem hist_Check_l3_ok {w0 : World} {W : Nat → Prop} {μ0 : Emb} (hμ : ∀ c p, μ0 c = some p → c < 0) (l : List (T_hist_Tx)) (m : List (T_hist_version × List UInt8)) (t55 : Int) (k2 : (Int) → (Int) → Option ((Int))) (hk2 : ∀ (bad : Int) (t55 : Int) (r : (Int)), k2 bad t55 = some r → kont Try.prog w0 W μ0 (FnPost Try.prog Try.f13 0 0 (hist_Check_v r) []) (kAt (bodyOf Try.f13) 2) none (hist_Check_T2 l m bad t55) (hist_Check_H2 l m bad t55)) : ∀ (fuel : Nat) (bad2 : Int) (t62 : Int) (r : (Int)), hist_Check_l3 l m t55 k2 fuel bad2 t62 = some r → kont Try.prog w0 W μ0 (FnPost Try.prog Try.f13 0 0 (hist_Check_v r) []) (kAt (bodyOf Try.f13) 3) none (hist_Check_T3 l m t55 bad2 t62) (hist_Check_H3 l m t55 bad2 t62) := by
  intro fuel
  induction fuel with
  | zero => intro bad2 t62 r h; rw [hist_Check_l3] at h; cases h
  | succ fuel ih =>
    intro bad2 t62 r h
    rw [hist_Check_l3] at h
    rcases itb_some h with ⟨cL3_1, h⟩ | ⟨cL3_1, h⟩
    · skip
      obtain ⟨gL3_2, h⟩ := guard_some h
      obtain ⟨yL3_4, eL3_3, h⟩ := bind_some h
      rcases itb_some h with ⟨cL3_5, h⟩ | ⟨cL3_5, h⟩
      · skip
        rcases itb_some h with ⟨cL3_6, h⟩ | ⟨cL3_6, h⟩
        · skip
          obtain rfl := Option.some.inj h
          exact run_ret mixed (L := []) (n := 32) (s := [.go, .reg [(0, { v := some (.bool true) })], .reg [], .reg [(2, { call := some (hist_of_v yL3_4, [], []) }), (3, { look := ((mget m yL3_4).map LV.str), v := some (.tup [.str ((mget m yL3_4).getD default), .bool ((mget m yL3_4).isSome)]) })], .reg [(2, { v := some (.bool true) }), (6, { v := some (.bool true) })], .reg []])
            (a_ (a_ (a_ (a_ tr (a_ (leB cL3_1) tr)) tr) (a_ (a_ (a_ (a_ (Eq.refl 10) gL3_2) tr) (a_ (a_ (le_ 10 10 rfl) tr) (a_ (a_ tr tr) (a_ (a_ (a_ (Eq.refl 10) (a_ (le_ 10 10 rfl) (Eq.refl 0))) tr) tr)))) (a_ (a_ (a_ tr tr) (a_ (a_ (a_ tr (le_ 10 10 rfl)) tr) (a_ (a_ (a_ (hist_of_tri ((l.getD t55.toNat default).f_Reads.getD t62.toNat default) yL3_4 eL3_3) tr) tr) (a_ (a_ (a_ (Eq.refl true) (findE_enc v_T_hist_version LV.str k_T_hist_version m yL3_4)) (a_ (le_lookok LV.str (mget m yL3_4) default) tr)) (a_ (a_ tr tr) (a_ (a_ tr tr) (a_ (a_ tr tr) (a_ (a_ tr tr) (a_ (a_ tr tr) tr))))))))) (a_ (a_ (a_ tr tr) (a_ (a_ tr tr) (a_ (a_ tr (a_ (leB cL3_5) tr)) (a_ (a_ tr tr) (a_ (a_ (a_ tr (lt_ 8 10 rfl)) tr) (a_ (a_ tr tr) (a_ (a_ tr (a_ (leB cL3_6) tr)) tr))))))) (a_ (a_ (a_ tr tr) tr) tr))))) tr) (by kernel_rfl) rfl
        · skip
          rcases itb_some h with ⟨cL3_7, h⟩ | ⟨cL3_7, h⟩
          · skip
            exact run_to mixed hμ (L := [0]) (n := 39) (s := [.go, .reg [(0, { v := some (.bool true) })], .reg [], .reg [(2, { call := some (hist_of_v yL3_4, [], []) }), (3, { look := ((mget m yL3_4).map LV.str), v := some (.tup [.str ((mget m yL3_4).getD default), .bool ((mget m yL3_4).isSome)]) })], .reg [(2, { v := some (.bool true) }), (6, { v := some (.bool false) })], .reg [(3, { v := some (.bool true) })], .reg [], .reg []])
              (a_ (a_ (a_ tr (a_ (leB cL3_1) tr)) tr) (a_ (a_ (a_ (a_ (Eq.refl 10) gL3_2) tr) (a_ (a_ (le_ 10 10 rfl) tr) (a_ (a_ tr tr) (a_ (a_ (a_ (Eq.refl 10) (a_ (le_ 10 10 rfl) (Eq.refl 0))) tr) tr)))) (a_ (a_ (a_ tr tr) (a_ (a_ (a_ tr (le_ 10 10 rfl)) tr) (a_ (a_ (a_ (hist_of_tri ((l.getD t55.toNat default).f_Reads.getD t62.toNat default) yL3_4 eL3_3) tr) tr) (a_ (a_ (a_ (Eq.refl true) (findE_enc v_T_hist_version LV.str k_T_hist_version m yL3_4)) (a_ (le_lookok LV.str (mget m yL3_4) default) tr)) (a_ (a_ tr tr) (a_ (a_ tr tr) (a_ (a_ tr tr) (a_ (a_ tr tr) (a_ (a_ tr tr) tr))))))))) (a_ (a_ (a_ tr tr) (a_ (a_ tr tr) (a_ (a_ tr (a_ (leB cL3_5) tr)) (a_ (a_ tr tr) (a_ (a_ (a_ tr (lt_ 8 10 rfl)) tr) (a_ (a_ tr tr) (a_ (a_ tr (a_ (leB cL3_6) tr)) tr))))))) (a_ (a_ (a_ tr tr) (a_ (a_ tr tr) (a_ (a_ (a_ tr (lt_ 9 10 rfl)) tr) (a_ (a_ tr (a_ (leB cL3_7) tr)) tr)))) (a_ (a_ (a_ tr tr) tr) (a_ (a_ (a_ tr tr) (a_ (a_ tr tr) tr)) tr))))))) (ih _ _ r h) (by kernel_rfl) ⟨trivial, trivial⟩
          · skip
            exact run_to mixed hμ (L := [0]) (n := 38) (s := [.go, .reg [(0, { v := some (.bool true) })], .reg [], .reg [(2, { call := some (hist_of_v yL3_4, [], []) }), (3, { look := ((mget m yL3_4).map LV.str), v := some (.tup [.str ((mget m yL3_4).getD default), .bool ((mget m yL3_4).isSome)]) })], .reg [(2, { v := some (.bool true) }), (6, { v := some (.bool false) })], .reg [(3, { v := some (.bool false) })], .reg []])
              (a_ (a_ (a_ tr (a_ (leB cL3_1) tr)) tr) (a_ (a_ (a_ (a_ (Eq.refl 10) gL3_2) tr) (a_ (a_ (le_ 10 10 rfl) tr) (a_ (a_ tr tr) (a_ (a_ (a_ (Eq.refl 10) (a_ (le_ 10 10 rfl) (Eq.refl 0))) tr) tr)))) (a_ (a_ (a_ tr tr) (a_ (a_ (a_ tr (le_ 10 10 rfl)) tr) (a_ (a_ (a_ (hist_of_tri ((l.getD t55.toNat default).f_Reads.getD t62.toNat default) yL3_4 eL3_3) tr) tr) (a_ (a_ (a_ (Eq.refl true) (findE_enc v_T_hist_version LV.str k_T_hist_version m yL3_4)) (a_ (le_lookok LV.str (mget m yL3_4) default) tr)) (a_ (a_ tr tr) (a_ (a_ tr tr) (a_ (a_ tr tr) (a_ (a_ tr tr) (a_ (a_ tr tr) tr))))))))) (a_ (a_ (a_ tr tr) (a_ (a_ tr tr) (a_ (a_ tr (a_ (leB cL3_5) tr)) (a_ (a_ tr tr) (a_ (a_ (a_ tr (lt_ 8 10 rfl)) tr) (a_ (a_ tr tr) (a_ (a_ tr (a_ (leB cL3_6) tr)) tr))))))) (a_ (a_ (a_ tr tr) (a_ (a_ tr tr) (a_ (a_ (a_ tr (lt_ 9 10 rfl)) tr) (a_ (a_ tr (a_ (leB cL3_7) tr)) tr)))) (a_ (a_ (a_ tr tr) (a_ (a_ tr tr) tr)) tr)))))) (ih _ _ r h) (by kernel_rfl) ⟨trivial, trivial⟩
      · skip
        rcases itb_some h with ⟨cL3_6, h⟩ | ⟨cL3_6, h⟩
        · skip
          exact run_to mixed hμ (L := [0]) (n := 39) (s := [.go, .reg [(0, { v := some (.bool true) })], .reg [], .reg [(2, { call := some (hist_of_v yL3_4, [], []) }), (3, { look := ((mget m yL3_4).map LV.str), v := some (.tup [.str ((mget m yL3_4).getD default), .bool ((mget m yL3_4).isSome)]) })], .reg [(2, { v := some (.bool false) })], .reg [(3, { v := some (.bool true) })], .reg [], .reg []])
            (a_ (a_ (a_ tr (a_ (leB cL3_1) tr)) tr) (a_ (a_ (a_ (a_ (Eq.refl 10) gL3_2) tr) (a_ (a_ (le_ 10 10 rfl) tr) (a_ (a_ tr tr) (a_ (a_ (a_ (Eq.refl 10) (a_ (le_ 10 10 rfl) (Eq.refl 0))) tr) tr)))) (a_ (a_ (a_ tr tr) (a_ (a_ (a_ tr (le_ 10 10 rfl)) tr) (a_ (a_ (a_ (hist_of_tri ((l.getD t55.toNat default).f_Reads.getD t62.toNat default) yL3_4 eL3_3) tr) tr) (a_ (a_ (a_ (Eq.refl true) (findE_enc v_T_hist_version LV.str k_T_hist_version m yL3_4)) (a_ (le_lookok LV.str (mget m yL3_4) default) tr)) (a_ (a_ tr tr) (a_ (a_ tr tr) (a_ (a_ tr tr) (a_ (a_ tr tr) (a_ (a_ tr tr) tr))))))))) (a_ (a_ (a_ tr tr) (a_ (a_ tr tr) (a_ (a_ tr (a_ (leB cL3_5) tr)) (a_ tr (a_ tr (a_ tr (a_ (a_ tr tr) tr))))))) (a_ (a_ (a_ tr tr) (a_ (a_ tr tr) (a_ (a_ (a_ tr (lt_ 9 10 rfl)) tr) (a_ (a_ tr (a_ (leB cL3_6) tr)) tr)))) (a_ (a_ (a_ tr tr) tr) (a_ (a_ (a_ tr tr) (a_ (a_ tr tr) tr)) tr))))))) (ih _ _ r h) (by kernel_rfl) ⟨trivial, trivial⟩
        · skip
          exact run_to mixed hμ (L := [0]) (n := 38) (s := [.go, .reg [(0, { v := some (.bool true) })], .reg [], .reg [(2, { call := some (hist_of_v yL3_4, [], []) }), (3, { look := ((mget m yL3_4).map LV.str), v := some (.tup [.str ((mget m yL3_4).getD default), .bool ((mget m yL3_4).isSome)]) })], .reg [(2, { v := some (.bool false) })], .reg [(3, { v := some (.bool false) })], .reg []])
            (a_ (a_ (a_ tr (a_ (leB cL3_1) tr)) tr) (a_ (a_ (a_ (a_ (Eq.refl 10) gL3_2) tr) (a_ (a_ (le_ 10 10 rfl) tr) (a_ (a_ tr tr) (a_ (a_ (a_ (Eq.refl 10) (a_ (le_ 10 10 rfl) (Eq.refl 0))) tr) tr)))) (a_ (a_ (a_ tr tr) (a_ (a_ (a_ tr (le_ 10 10 rfl)) tr) (a_ (a_ (a_ (hist_of_tri ((l.getD t55.toNat default).f_Reads.getD t62.toNat default) yL3_4 eL3_3) tr) tr) (a_ (a_ (a_ (Eq.refl true) (findE_enc v_T_hist_version LV.str k_T_hist_version m yL3_4)) (a_ (le_lookok LV.str (mget m yL3_4) default) tr)) (a_ (a_ tr tr) (a_ (a_ tr tr) (a_ (a_ tr tr) (a_ (a_ tr tr) (a_ (a_ tr tr) tr))))))))) (a_ (a_ (a_ tr tr) (a_ (a_ tr tr) (a_ (a_ tr (a_ (leB cL3_5) tr)) (a_ tr (a_ tr (a_ tr (a_ (a_ tr tr) tr))))))) (a_ (a_ (a_ tr tr) (a_ (a_ tr tr) (a_ (a_ (a_ tr (lt_ 9 10 rfl)) tr) (a_ (a_ tr (a_ (leB cL3_6) tr)) tr)))) (a_ (a_ (a_ tr tr) (a_ (a_ tr tr) tr)) tr)))))) (ih _ _ r h) (by kernel_rfl) ⟨trivial, trivial⟩
    · skip
      exact run_to mixed hμ (L := [0]) (n := 19) (s := [.go, .reg [(0, { v := some (.bool false) })], .reg []])
        (a_ (a_ (a_ tr (a_ (leB cL3_1) tr)) tr) (a_ (a_ (a_ tr tr) (a_ (a_ tr tr) tr)) tr)) (hk2 _ _ r h) (by kernel_rfl) ⟨trivial, trivial⟩

theorem hist_Check_l2_ok {w0 : World} {W : Nat → Prop} {μ0 : Emb} (hμ : ∀ c p, μ0 c = some p → c < 0) (l : List (T_hist_Tx)) (m : List (T_hist_version × List UInt8))  : ∀ (fuel : Nat) (bad : Int) (t55 : Int) (r : (Int)), hist_Check_l2 l m  fuel bad t55 = some r → kont Try.prog w0 W μ0 (FnPost Try.prog Try.f13 0 0 (hist_Check_v r) []) (kAt (bodyOf Try.f13) 2) none (hist_Check_T2 l m bad t55) (hist_Check_H2 l m bad t55) := by
  intro fuel
  induction fuel with
  | zero => intro bad t55 r h; rw [hist_Check_l2] at h; cases h
  | succ fuel ih =>
    intro bad t55 r h
    rw [hist_Check_l2] at h
    rcases itb_some h with ⟨cL2_1, h⟩ | ⟨cL2_1, h⟩
    · skip
      obtain ⟨gL2_2, h⟩ := guard_some h
      exact run_to mixed hμ (L := [0]) (n := 26) (s := [.go, .reg [(0, { v := some (.bool true) })], .reg [], .reg []])
        (a_ (a_ (a_ tr (a_ (leB cL2_1) tr)) tr) (a_ (a_ (a_ (a_ (Eq.refl 4) gL2_2) tr) (a_ (a_ (le_ 4 4 rfl) tr) (a_ (a_ tr tr) (a_ (a_ (a_ (Eq.refl 4) (a_ (le_ 4 4 rfl) (Eq.refl 0))) tr) tr)))) (a_ (a_ (a_ tr tr) (a_ (a_ (a_ tr (lt_ 0 4 rfl)) tr) (a_ (a_ tr tr) (a_ (a_ tr tr) tr)))) tr))) (hist_Check_l3_ok hμ l m t55 (hist_Check_l2 l m  fuel) (fun bad t55 r h => ih bad t55 r h) big _ _ r h) (by kernel_rfl) ⟨trivial, trivial⟩
    · skip
      obtain rfl := Option.some.inj h
      exact run_ret mixed (L := []) (n := 19) (s := [.go, .reg [(0, { v := some (.bool false) })], .reg []])
        (a_ (a_ (a_ (a_ tr (a_ (leB cL2_1) tr)) tr) (a_ (a_ (a_ tr tr) (a_ (a_ tr tr) tr)) tr)) tr) (by kernel_rfl) rfl

theorem hist_Check_l0_ok {w0 : World} {W : Nat → Prop} {μ0 : Emb} (hμ : ∀ c p, μ0 c = some p → c < 0) (l : List (T_hist_Tx))  : ∀ (fuel : Nat) (t27 : Int) (m : List (T_hist_version × List UInt8)) (r : (Int)), hist_Check_l0 l  fuel t27 m = some r → kont Try.prog w0 W μ0 (FnPost Try.prog Try.f13 0 0 (hist_Check_v r) []) (kAt (bodyOf Try.f13) 0) none (hist_Check_T0 l t27 m) (hist_Check_H0 l t27 m) := by
  intro fuel
  induction fuel with
  | zero => intro t27 m r h; rw [hist_Check_l0] at h; cases h
  | succ fuel ih =>
    intro t27 m r h
    rw [hist_Check_l0] at h
    rcases itb_some h with ⟨cL0_1, h⟩ | ⟨cL0_1, h⟩
    · skip
      obtain ⟨gL0_2, h⟩ := guard_some h
      exact run_to mixed hμ (L := [0]) (n := 26) (s := [.go, .reg [(0, { v := some (.bool true) })], .reg [], .reg []])
        (a_ (a_ (a_ tr (a_ (leB cL0_1) tr)) tr) (a_ (a_ (a_ (a_ (Eq.refl 4) gL0_2) tr) (a_ (a_ (le_ 4 4 rfl) tr) (a_ (a_ tr tr) (a_ (a_ (a_ (Eq.refl 4) (a_ (le_ 4 4 rfl) (Eq.refl 0))) tr) tr)))) (a_ (a_ (a_ tr tr) (a_ (a_ (a_ tr (lt_ 1 4 rfl)) tr) (a_ (a_ tr tr) (a_ (a_ tr tr) tr)))) tr))) (hist_Check_l1_ok hμ l t27 (hist_Check_l0 l  fuel) (fun t27 m r h => ih t27 m r h) big _ _ r h) (by kernel_rfl) ⟨trivial, trivial⟩
    · skip
      exact run_to mixed hμ (L := [0]) (n := 25) (s := [.go, .reg [(0, { v := some (.bool false) })], .reg [], .reg []])
        (a_ (a_ (a_ tr (a_ (leB cL0_1) tr)) tr) (a_ (a_ (a_ tr tr) tr) (a_ (a_ (a_ tr tr) (a_ (a_ tr tr) (a_ (a_ tr tr) tr))) tr))) (hist_Check_l2_ok hμ l m  big _ _ r h) (by kernel_rfl) ⟨trivial, trivial⟩

theorem hist_Check_ok (l : List (T_hist_Tx)) (r : (Int)) (h : hist_Check l = some r) : ∀ σ, Inj 0 σ → FnTri Try.prog 13 (renL σ [.ds 4 (l).length (rowF c_T_hist_Tx default l)]) (preOf σ 0 []) ((hist_Check_v r).ren σ) (upOf σ []) := by
  refine fn_of Try.func13 (by kernel_rfl) (by kernel_rfl) (by kernel_rfl) trivial (by kernel_rfl) trivial (by kernel_rfl) ?_
  intro w0 W μ0 hμ
  unfold hist_Check at h
  rcases itb_some h with ⟨c1, h⟩ | ⟨c1, h⟩
  · skip
    obtain rfl := Option.some.inj h
    exact run_ret mixed (L := []) (n := 20) (s := [.reg [], .reg [(3, { v := some (.bool true) })], .reg []])
      (a_ (a_ (a_ (a_ tr tr) tr) (a_ (a_ (a_ tr tr) (a_ (a_ tr tr) (a_ (a_ tr tr) (a_ (a_ tr (a_ (leB c1) tr)) (a_ tr (a_ tr (a_ (a_ tr tr) tr))))))) (a_ (a_ (a_ tr tr) tr) tr))) tr) (by kernel_rfl) rfl
  · skip
    obtain ⟨y3, e2, h⟩ := bind_some h
    rcases itb_some h with ⟨c4, h⟩ | ⟨c4, h⟩
    · skip
      obtain rfl := Option.some.inj h
      exact run_ret mixed (L := []) (n := 20) (s := [.reg [], .reg [(3, { v := some (.bool false) }), (5, { call := some (slices_ContainsFunc_hist_Tx_hist_Tx_v y3, [], []) }), (6, { v := some (.bool true) })], .reg []])
        (a_ (a_ (a_ (a_ tr tr) tr) (a_ (a_ (a_ tr tr) (a_ (a_ tr tr) (a_ (a_ tr tr) (a_ (a_ tr (a_ (leB c1) tr)) (a_ (a_ tr tr) (a_ (a_ (a_ (slices_ContainsFunc_hist_Tx_hist_Tx_tri l y3 e2) tr) tr) (a_ (a_ tr (a_ (leB c4) tr)) tr))))))) (a_ (a_ (a_ tr tr) tr) tr))) tr) (by kernel_rfl) rfl
    · skip
      exact run_to mixed hμ (L := [0]) (n := 27) (s := [.reg [], .reg [(3, { v := some (.bool false) }), (5, { call := some (slices_ContainsFunc_hist_Tx_hist_Tx_v y3, [], []) }), (6, { v := some (.bool false) })], .reg [], .reg []])
        (a_ (a_ (a_ tr tr) tr) (a_ (a_ (a_ tr tr) (a_ (a_ tr tr) (a_ (a_ tr tr) (a_ (a_ tr (a_ (leB c1) tr)) (a_ (a_ tr tr) (a_ (a_ (a_ (slices_ContainsFunc_hist_Tx_hist_Tx_tri l y3 e2) tr) tr) (a_ (a_ tr (a_ (leB c4) tr)) tr))))))) (a_ (a_ (a_ tr tr) (a_ (a_ tr tr) tr)) (a_ (a_ (a_ tr tr) (a_ (a_ tr tr) (a_ (a_ tr tr) tr))) tr)))) (hist_Check_l0_ok hμ l  big _ _ r h) (by kernel_rfl) ⟨trivial, trivial⟩

theorem hist_Check_tri (l : List (T_hist_Tx)) (r : (Int)) (h : hist_Check l = some r) : FnTri Try.prog 13 [.ds 4 (l).length (rowF c_T_hist_Tx default l)] [] (hist_Check_v r) [] := FnTri.none (hist_Check_ok l r h) rfl rfl

/-- parrel/hist.first -/

def hist_first_v (r : (List (A8 (Int) × Int))) : LV := .map 0

def hist_first_up (l : List (T_hist_Item)) (r : (List (A8 (Int) × Int))) : Upd := [(0, some (.map true [.int .u8, .int .u8, .int .u8, .int .u8, .int .u8, .int .u8, .int .u8, .int .u8] (encM (fun z_ : A8 (Int) => LV.agg [.int .u8 z_.a0, .int .u8 z_.a1, .int .u8 z_.a2, .int .u8 z_.a3, .int .u8 z_.a4, .int .u8 z_.a5, .int .u8 z_.a6, .int .u8 z_.a7]) (LV.int .u32) r)))]

def hist_first_T0 (l : List (T_hist_Item)) (t9 : Int) (m : List (A8 (Int) × Int)) : List LV := [.any, .any, .any, .map 0, .any, .any, .any, .ds 10 (l).length (rowF c_T_hist_Item default l), .int .i64 ((l).length : Int), .int .i64 t9, .any, .any, .any, .any, .any, .any, .any, .any, .any, .any]

def hist_first_H0 (l : List (T_hist_Item)) (t9 : Int) (m : List (A8 (Int) × Int)) : Heap := [some (.map true [.int .u8, .int .u8, .int .u8, .int .u8, .int .u8, .int .u8, .int .u8, .int .u8] (encM (fun z_ : A8 (Int) => LV.agg [.int .u8 z_.a0, .int .u8 z_.a1, .int .u8 z_.a2, .int .u8 z_.a3, .int .u8 z_.a4, .int .u8 z_.a5, .int .u8 z_.a6, .int .u8 z_.a7]) (LV.int .u32) m))]

def hist_first_l0 (l : List (T_hist_Item))  : Nat → (Int) → (List (A8 (Int) × Int)) → Option ((List (A8 (Int) × Int)))
  | 0, _, _ => none
  | fuel + 1, t9, m =>
    if ((decide (t9 < ((l).length : Int))) : Bool) then
      if 0 ≤ t9 ∧ t9 < (((l).length : Nat) : Int) then
      hist_first_l0 l  fuel (IntKind.wrap .i64 (t9 + 1)) (mset m (l.getD t9.toNat default).f_Key (l.getD t9.toNat default).f_Version)
      else none
    else
      some m

def hist_first (l : List (T_hist_Item)) : Option ((List (A8 (Int) × Int))) :=
  hist_first_l0 l  big 0 ([] : List (A8 (Int) × Int))

theorem hist_first_l0_ok {w0 : World} {W : Nat → Prop} {μ0 : Emb} (hμ : ∀ c p, μ0 c = some p → c < 0) (l : List (T_hist_Item))  : ∀ (fuel : Nat) (t9 : Int) (m : List (A8 (Int) × Int)) (r : (List (A8 (Int) × Int))), hist_first_l0 l  fuel t9 m = some r → kont Try.prog w0 W μ0 (FnPost Try.prog Try.f48 0 1 (hist_first_v r) (hist_first_up l r)) (kAt (bodyOf Try.f48) 0) none (hist_first_T0 l t9 m) (hist_first_H0 l t9 m) := by
  intro fuel
  induction fuel with
  | zero => intro t9 m r h; rw [hist_first_l0] at h; cases h
  | succ fuel ih =>
    intro t9 m r h
    rw [hist_first_l0] at h
    rcases itb_some h with ⟨cL0_1, h⟩ | ⟨cL0_1, h⟩
    · skip
      obtain ⟨gL0_2, h⟩ := guard_some h
      exact run_to mixed hμ (L := [0]) (n := 26) (s := [.go, .reg [(0, { v := some (.bool true) })], .reg [], .reg [(5, { os := [(0, .map true [.int .u8, .int .u8, .int .u8, .int .u8, .int .u8, .int .u8, .int .u8, .int .u8] (encM (fun z_ : A8 (Int) => LV.agg [.int .u8 z_.a0, .int .u8 z_.a1, .int .u8 z_.a2, .int .u8 z_.a3, .int .u8 z_.a4, .int .u8 z_.a5, .int .u8 z_.a6, .int .u8 z_.a7]) (LV.int .u32) (mset m (l.getD t9.toNat default).f_Key (l.getD t9.toNat default).f_Version)))] })], .reg []])
        (a_ (a_ (a_ tr (a_ (leB cL0_1) tr)) tr) (a_ (a_ (a_ (a_ (Eq.refl 10) gL0_2) tr) (a_ (a_ (le_ 10 10 rfl) tr) (a_ (a_ tr tr) (a_ (a_ (a_ (Eq.refl 10) (a_ (le_ 10 10 rfl) (Eq.refl 0))) tr) tr)))) (a_ (a_ (a_ tr tr) (a_ (a_ tr tr) (a_ (a_ (a_ tr (le_ 8 10 rfl)) tr) (a_ (a_ tr tr) (a_ (a_ (a_ tr (lt_ 8 10 rfl)) tr) (a_ (a_ (a_ (Eq.refl true) (Eq.refl true)) (a_ (sub_upd (fun z_ : A8 (Int) => LV.agg [.int .u8 z_.a0, .int .u8 z_.a1, .int .u8 z_.a2, .int .u8 z_.a3, .int .u8 z_.a4, .int .u8 z_.a5, .int .u8 z_.a6, .int .u8 z_.a7]) (LV.int .u32) (k_arr8 .u8) true [.int .u8, .int .u8, .int .u8, .int .u8, .int .u8, .int .u8, .int .u8, .int .u8] m (l.getD t9.toNat default).f_Key (l.getD t9.toNat default).f_Version) tr)) tr)))))) (a_ (a_ (a_ tr tr) (a_ (a_ tr tr) tr)) tr)))) (ih _ _ r h) (by kernel_rfl) ⟨trivial, trivial⟩
    · skip
      obtain rfl := Option.some.inj h
      exact run_ret mixed (L := [0]) (n := 19) (s := [.go, .reg [(0, { v := some (.bool false) })], .reg []])
        (a_ (a_ (a_ (a_ tr (a_ (leB cL0_1) tr)) tr) (a_ (a_ (a_ tr tr) (a_ (a_ tr tr) tr)) tr)) tr) (by kernel_rfl) rfl

theorem hist_first_ok (l : List (T_hist_Item)) (r : (List (A8 (Int) × Int))) (h : hist_first l = some r) : ∀ σ, Inj 1 σ → FnTri Try.prog 48 (renL σ [.ds 10 (l).length (rowF c_T_hist_Item default l)]) (preOf σ 0 []) ((hist_first_v r).ren σ) (upOf σ (hist_first_up l r)) := by
  refine fn_of Try.func48 (by kernel_rfl) (by kernel_rfl) (by kernel_rfl) trivial (by kernel_rfl) ⟨trivial, trivial⟩ (by kernel_rfl) ?_
  intro w0 W μ0 hμ
  unfold hist_first at h
  exact run_to mixed hμ (L := [0]) (n := 21) (s := [.reg [], .reg [], .reg []])
    (a_ (a_ (a_ tr tr) tr) (a_ (a_ (a_ tr tr) (a_ (a_ tr tr) tr)) (a_ (a_ (a_ tr tr) (a_ (a_ tr tr) (a_ (a_ tr tr) tr))) tr))) (hist_first_l0_ok hμ l  big _ _ r h) (by kernel_rfl) ⟨trivial, trivial⟩

/-- parrel/hist.follows$1 -/

def hist_follows_L1_v (r : (Bool)) : LV := .bool r

def hist_follows_L1_up (i : T_hist_Item) (x : List (A8 (Int) × Int)) (x2 : Bool) (r : (Bool)) : Upd := [(0, some (.var [.map 1])), (1, some (.map true [.int .u8, .int .u8, .int .u8, .int .u8, .int .u8, .int .u8, .int .u8, .int .u8] (encM (fun z_ : A8 (Int) => LV.agg [.int .u8 z_.a0, .int .u8 z_.a1, .int .u8 z_.a2, .int .u8 z_.a3, .int .u8 z_.a4, .int .u8 z_.a5, .int .u8 z_.a6, .int .u8 z_.a7]) (LV.int .u32) x))), (2, some (.var [.bool x2]))]

def hist_follows_L1_objs (i : T_hist_Item) (x : List (A8 (Int) × Int)) (x2 : Bool) : List LO := [.var [.map 1], .map true [.int .u8, .int .u8, .int .u8, .int .u8, .int .u8, .int .u8, .int .u8, .int .u8] (encM (fun z_ : A8 (Int) => LV.agg [.int .u8 z_.a0, .int .u8 z_.a1, .int .u8 z_.a2, .int .u8 z_.a3, .int .u8 z_.a4, .int .u8 z_.a5, .int .u8 z_.a6, .int .u8 z_.a7]) (LV.int .u32) x), .var [.bool x2]]

def hist_follows_L1 (i : T_hist_Item) (x : List (A8 (Int) × Int)) (x2 : Bool) : Option ((Bool)) :=
  if (((mget x i.f_Key).isSome) : Bool) then
    if ((decide (((mget x i.f_Key).getD default) < i.f_Version)) : Bool) then
      some true
    else
      if (x2 : Bool) then
        some (i.f_Version == ((mget x i.f_Key).getD default))
      else
        some false
  else
    some false

theorem hist_follows_L1_ok (i : T_hist_Item) (x : List (A8 (Int) × Int)) (x2 : Bool) (r : (Bool)) (h : hist_follows_L1 i x x2 = some r) : ∀ σ, Inj 3 σ → FnTri Try.prog 51 (renL σ [v_T_hist_Item i, .ptr 0 0 0, .ptr 2 0 0]) (preOf σ 0 (hist_follows_L1_objs i x x2)) ((hist_follows_L1_v r).ren σ) (upOf σ (hist_follows_L1_up i x x2 r)) := by
  refine fn_of Try.func51 (by kernel_rfl) (by kernel_rfl) (by kernel_rfl) ⟨rfl, trivial, rfl, trivial⟩ (by kernel_rfl) ⟨rfl, trivial, rfl, trivial⟩ (by kernel_rfl) ?_
  intro w0 W μ0 hμ
  unfold hist_follows_L1 at h
  rcases itb_some h with ⟨c1, h⟩ | ⟨c1, h⟩
  · skip
    rcases itb_some h with ⟨c2, h⟩ | ⟨c2, h⟩
    · skip
      obtain rfl := Option.some.inj h
      exact run_ret mixed (L := []) (n := 18) (s := [.reg [], .reg [(3, { look := ((mget x i.f_Key).map (LV.int .u32)), v := some (.tup [.int .u32 ((mget x i.f_Key).getD default), .bool ((mget x i.f_Key).isSome)]) })], .reg [(1, { v := some (.bool true) }), (6, { v := some (.bool true) })]])
        (a_ (a_ (a_ (a_ tr tr) (a_ (a_ tr tr) tr)) (a_ (a_ (a_ (a_ tr (lt_ 0 1 rfl)) tr) (a_ (a_ tr tr) (a_ (a_ (a_ tr (le_ 8 10 rfl)) tr) (a_ (a_ (a_ (Eq.refl true) (findE_enc (fun z_ : A8 (Int) => LV.agg [.int .u8 z_.a0, .int .u8 z_.a1, .int .u8 z_.a2, .int .u8 z_.a3, .int .u8 z_.a4, .int .u8 z_.a5, .int .u8 z_.a6, .int .u8 z_.a7]) (LV.int .u32) (k_arr8 .u8) x i.f_Key)) (a_ (le_lookok (LV.int .u32) (mget x i.f_Key) default) tr)) (a_ (a_ tr tr) (a_ (a_ tr tr) (a_ (a_ tr tr) (a_ (a_ tr tr) (a_ (a_ tr tr) tr))))))))) (a_ (a_ (a_ tr tr) (a_ (a_ tr (a_ (leB c1) tr)) (a_ (a_ tr tr) (a_ (a_ (a_ tr (lt_ 8 10 rfl)) tr) (a_ (a_ tr tr) (a_ (a_ tr tr) (a_ (a_ tr (a_ (leB c2) tr)) (a_ tr (a_ tr (a_ tr (a_ tr (a_ tr (a_ tr (a_ tr (a_ (a_ tr tr) (a_ (a_ tr tr) (a_ (a_ tr tr) tr))))))))))))))))) tr))) tr) (by kernel_rfl) rfl
    · skip
      rcases itb_some h with ⟨c3, h⟩ | ⟨c3, h⟩
      · skip
        obtain rfl := Option.some.inj h
        exact run_ret mixed (L := []) (n := 18) (s := [.reg [], .reg [(3, { look := ((mget x i.f_Key).map (LV.int .u32)), v := some (.tup [.int .u32 ((mget x i.f_Key).getD default), .bool ((mget x i.f_Key).isSome)]) })], .reg [(1, { v := some (.bool true) }), (6, { v := some (.bool false) }), (8, { v := some (.bool true) })]])
          (a_ (a_ (a_ (a_ tr tr) (a_ (a_ tr tr) tr)) (a_ (a_ (a_ (a_ tr (lt_ 0 1 rfl)) tr) (a_ (a_ tr tr) (a_ (a_ (a_ tr (le_ 8 10 rfl)) tr) (a_ (a_ (a_ (Eq.refl true) (findE_enc (fun z_ : A8 (Int) => LV.agg [.int .u8 z_.a0, .int .u8 z_.a1, .int .u8 z_.a2, .int .u8 z_.a3, .int .u8 z_.a4, .int .u8 z_.a5, .int .u8 z_.a6, .int .u8 z_.a7]) (LV.int .u32) (k_arr8 .u8) x i.f_Key)) (a_ (le_lookok (LV.int .u32) (mget x i.f_Key) default) tr)) (a_ (a_ tr tr) (a_ (a_ tr tr) (a_ (a_ tr tr) (a_ (a_ tr tr) (a_ (a_ tr tr) tr))))))))) (a_ (a_ (a_ tr tr) (a_ (a_ tr (a_ (leB c1) tr)) (a_ (a_ tr tr) (a_ (a_ (a_ tr (lt_ 8 10 rfl)) tr) (a_ (a_ tr tr) (a_ (a_ tr tr) (a_ (a_ tr (a_ (leB c2) tr)) (a_ (a_ (a_ tr (lt_ 0 1 rfl)) tr) (a_ (a_ tr (a_ (leB c3) tr)) (a_ (a_ tr tr) (a_ (a_ (a_ tr (lt_ 8 10 rfl)) tr) (a_ (a_ tr tr) (a_ (a_ tr tr) (a_ (a_ tr tr) (a_ (a_ tr tr) (a_ (a_ tr tr) (a_ (a_ tr tr) tr))))))))))))))))) tr))) tr) (by kernel_rfl) rfl
      · skip
        obtain rfl := Option.some.inj h
        exact run_ret mixed (L := []) (n := 18) (s := [.reg [], .reg [(3, { look := ((mget x i.f_Key).map (LV.int .u32)), v := some (.tup [.int .u32 ((mget x i.f_Key).getD default), .bool ((mget x i.f_Key).isSome)]) })], .reg [(1, { v := some (.bool true) }), (6, { v := some (.bool false) }), (8, { v := some (.bool false) })]])
          (a_ (a_ (a_ (a_ tr tr) (a_ (a_ tr tr) tr)) (a_ (a_ (a_ (a_ tr (lt_ 0 1 rfl)) tr) (a_ (a_ tr tr) (a_ (a_ (a_ tr (le_ 8 10 rfl)) tr) (a_ (a_ (a_ (Eq.refl true) (findE_enc (fun z_ : A8 (Int) => LV.agg [.int .u8 z_.a0, .int .u8 z_.a1, .int .u8 z_.a2, .int .u8 z_.a3, .int .u8 z_.a4, .int .u8 z_.a5, .int .u8 z_.a6, .int .u8 z_.a7]) (LV.int .u32) (k_arr8 .u8) x i.f_Key)) (a_ (le_lookok (LV.int .u32) (mget x i.f_Key) default) tr)) (a_ (a_ tr tr) (a_ (a_ tr tr) (a_ (a_ tr tr) (a_ (a_ tr tr) (a_ (a_ tr tr) tr))))))))) (a_ (a_ (a_ tr tr) (a_ (a_ tr (a_ (leB c1) tr)) (a_ (a_ tr tr) (a_ (a_ (a_ tr (lt_ 8 10 rfl)) tr) (a_ (a_ tr tr) (a_ (a_ tr tr) (a_ (a_ tr (a_ (leB c2) tr)) (a_ (a_ (a_ tr (lt_ 0 1 rfl)) tr) (a_ (a_ tr (a_ (leB c3) tr)) (a_ tr (a_ tr (a_ tr (a_ tr (a_ (a_ tr tr) (a_ (a_ tr tr) (a_ (a_ tr tr) (a_ (a_ tr tr) tr))))))))))))))))) tr))) tr) (by kernel_rfl) rfl
  · skip
    obtain rfl := Option.some.inj h
    exact run_ret mixed (L := []) (n := 18) (s := [.reg [], .reg [(3, { look := ((mget x i.f_Key).map (LV.int .u32)), v := some (.tup [.int .u32 ((mget x i.f_Key).getD default), .bool ((mget x i.f_Key).isSome)]) })], .reg [(1, { v := some (.bool false) })]])
      (a_ (a_ (a_ (a_ tr tr) (a_ (a_ tr tr) tr)) (a_ (a_ (a_ (a_ tr (lt_ 0 1 rfl)) tr) (a_ (a_ tr tr) (a_ (a_ (a_ tr (le_ 8 10 rfl)) tr) (a_ (a_ (a_ (Eq.refl true) (findE_enc (fun z_ : A8 (Int) => LV.agg [.int .u8 z_.a0, .int .u8 z_.a1, .int .u8 z_.a2, .int .u8 z_.a3, .int .u8 z_.a4, .int .u8 z_.a5, .int .u8 z_.a6, .int .u8 z_.a7]) (LV.int .u32) (k_arr8 .u8) x i.f_Key)) (a_ (le_lookok (LV.int .u32) (mget x i.f_Key) default) tr)) (a_ (a_ tr tr) (a_ (a_ tr tr) (a_ (a_ tr tr) (a_ (a_ tr tr) (a_ (a_ tr tr) tr))))))))) (a_ (a_ (a_ tr tr) (a_ (a_ tr (a_ (leB c1) tr)) (a_ tr (a_ tr (a_ tr (a_ tr (a_ tr (a_ tr (a_ tr (a_ tr (a_ tr (a_ tr (a_ tr (a_ tr (a_ tr (a_ (a_ tr tr) (a_ (a_ tr tr) tr))))))))))))))))) tr))) tr) (by kernel_rfl) rfl

/-- slices.IndexFunc[[]parrel/hist.Item,parrel/hist.Item] -/

def slices_IndexFunc_hist_Item_hist_Item_2_v (r : (Int)) : LV := .int .i64 r

def slices_IndexFunc_hist_Item_hist_Item_2_up (s : List (T_hist_Item)) (x : List (A8 (Int) × Int)) (c : Bool) (r : (Int)) : Upd := [(0, some (.var [.map 1])), (1, some (.map true [.int .u8, .int .u8, .int .u8, .int .u8, .int .u8, .int .u8, .int .u8, .int .u8] (encM (fun z_ : A8 (Int) => LV.agg [.int .u8 z_.a0, .int .u8 z_.a1, .int .u8 z_.a2, .int .u8 z_.a3, .int .u8 z_.a4, .int .u8 z_.a5, .int .u8 z_.a6, .int .u8 z_.a7]) (LV.int .u32) x))), (2, some (.var [.bool c]))]

def slices_IndexFunc_hist_Item_hist_Item_2_objs (s : List (T_hist_Item)) (x : List (A8 (Int) × Int)) (c : Bool) : List LO := [.var [.map 1], .map true [.int .u8, .int .u8, .int .u8, .int .u8, .int .u8, .int .u8, .int .u8, .int .u8] (encM (fun z_ : A8 (Int) => LV.agg [.int .u8 z_.a0, .int .u8 z_.a1, .int .u8 z_.a2, .int .u8 z_.a3, .int .u8 z_.a4, .int .u8 z_.a5, .int .u8 z_.a6, .int .u8 z_.a7]) (LV.int .u32) x), .var [.bool c]]

def slices_IndexFunc_hist_Item_hist_Item_2_T0 (s : List (T_hist_Item)) (x : List (A8 (Int) × Int)) (c : Bool) (t8 : Int) : List LV := [.ds 10 (s).length (rowF c_T_hist_Item default s), .fn 51 [] [.ptr 0 0 0, .ptr 2 0 0], .any, .any, .any, .any, .any, .int .i64 ((s).length : Int), .int .i64 t8, .any, .any, .any, .any, .any, .any, .any, .any, .any, .any]

def slices_IndexFunc_hist_Item_hist_Item_2_H0 (s : List (T_hist_Item)) (x : List (A8 (Int) × Int)) (c : Bool) (t8 : Int) : Heap := [some (.var [.map 1]), some (.map true [.int .u8, .int .u8, .int .u8, .int .u8, .int .u8, .int .u8, .int .u8, .int .u8] (encM (fun z_ : A8 (Int) => LV.agg [.int .u8 z_.a0, .int .u8 z_.a1, .int .u8 z_.a2, .int .u8 z_.a3, .int .u8 z_.a4, .int .u8 z_.a5, .int .u8 z_.a6, .int .u8 z_.a7]) (LV.int .u32) x)), some (.var [.bool c])]

def slices_IndexFunc_hist_Item_hist_Item_2_l0 (s : List (T_hist_Item)) (x : List (A8 (Int) × Int)) (c : Bool)  : Nat → (Int) → Option ((Int))
  | 0, _ => none
  | fuel + 1, t8 =>
    if ((decide (t8 < ((s).length : Int))) : Bool) then
      if 0 ≤ t8 ∧ t8 < (((s).length : Nat) : Int) then
      (hist_follows_L1 (s.getD t8.toNat default) x c).bind fun yL0_4 =>
      if (yL0_4 : Bool) then
        some t8
      else
        slices_IndexFunc_hist_Item_hist_Item_2_l0 s x c  fuel (IntKind.wrap .i64 (t8 + 1))
      else none
    else
      some (-1)

def slices_IndexFunc_hist_Item_hist_Item_2 (s : List (T_hist_Item)) (x : List (A8 (Int) × Int)) (c : Bool) : Option ((Int)) :=
  slices_IndexFunc_hist_Item_hist_Item_2_l0 s x c  big 0

theorem slices_IndexFunc_hist_Item_hist_Item_2_l0_ok {w0 : World} {W : Nat → Prop} {μ0 : Emb} (hμ : ∀ c p, μ0 c = some p → c < 3) (s : List (T_hist_Item)) (x : List (A8 (Int) × Int)) (c : Bool)  : ∀ (fuel : Nat) (t8 : Int) (r : (Int)), slices_IndexFunc_hist_Item_hist_Item_2_l0 s x c  fuel t8 = some r → kont Try.prog w0 W μ0 (FnPost Try.prog Try.f50 3 3 (slices_IndexFunc_hist_Item_hist_Item_2_v r) (slices_IndexFunc_hist_Item_hist_Item_2_up s x c r)) (kAt (bodyOf Try.f50) 0) none (slices_IndexFunc_hist_Item_hist_Item_2_T0 s x c t8) (slices_IndexFunc_hist_Item_hist_Item_2_H0 s x c t8) := by
  intro fuel
  induction fuel with
  | zero => intro t8 r h; rw [slices_IndexFunc_hist_Item_hist_Item_2_l0] at h; cases h
  | succ fuel ih =>
    intro t8 r h
    rw [slices_IndexFunc_hist_Item_hist_Item_2_l0] at h
    rcases itb_some h with ⟨cL0_1, h⟩ | ⟨cL0_1, h⟩
    · skip
      obtain ⟨gL0_2, h⟩ := guard_some h
      obtain ⟨yL0_4, eL0_3, h⟩ := bind_some h
      rcases itb_some h with ⟨cL0_5, h⟩ | ⟨cL0_5, h⟩
      · skip
        obtain rfl := Option.some.inj h
        exact run_ret mixed (L := []) (n := 28) (s := [.go, .reg [(0, { v := some (.bool true) })], .reg [], .reg [(5, { call := some ((hist_follows_L1_v yL0_4).ren (sel [0, 1, 2]), preOf (sel [0, 1, 2]) 0 (hist_follows_L1_objs (s.getD t8.toNat default) x c), upOf (sel [0, 1, 2]) (hist_follows_L1_up (s.getD t8.toNat default) x c yL0_4)), v := some (.bool true) })], .reg []])
          (a_ (a_ (a_ (a_ tr (a_ (leB cL0_1) tr)) tr) (a_ (a_ (a_ tr tr) (a_ (a_ tr tr) tr)) (a_ (a_ (a_ tr tr) (a_ (a_ tr tr) (a_ (a_ tr tr) (a_ (a_ (a_ (Eq.refl 10) gL0_2) tr) (a_ (a_ (le_ 10 10 rfl) tr) (a_ (a_ (a_ (hist_follows_L1_ok (s.getD t8.toNat default) x c yL0_4 eL0_3 (sel [0, 1, 2]) (sel_inj rfl rfl)) (a_ (LO.Le.refl (.var [.map 1])) (a_ (LO.Le.refl (.map true [.int .u8, .int .u8, .int .u8, .int .u8, .int .u8, .int .u8, .int .u8, .int .u8] (encM (fun z_ : A8 (Int) => LV.agg [.int .u8 z_.a0, .int .u8 z_.a1, .int .u8 z_.a2, .int .u8 z_.a3, .int .u8 z_.a4, .int .u8 z_.a5, .int .u8 z_.a6, .int .u8 z_.a7]) (LV.int .u32) x))) (a_ (LO.Le.refl (.var [.bool c])) tr)))) (a_ (leB cL0_5) tr)) tr)))))) (a_ (a_ (a_ tr tr) (a_ (a_ tr tr) tr)) tr)))) tr) (by kernel_rfl) rfl
      · skip
        exact run_to mixed hμ (L := []) (n := 29) (s := [.go, .reg [(0, { v := some (.bool true) })], .reg [], .reg [(5, { call := some ((hist_follows_L1_v yL0_4).ren (sel [0, 1, 2]), preOf (sel [0, 1, 2]) 0 (hist_follows_L1_objs (s.getD t8.toNat default) x c), upOf (sel [0, 1, 2]) (hist_follows_L1_up (s.getD t8.toNat default) x c yL0_4)), v := some (.bool false) })], .reg []])
          (a_ (a_ (a_ tr (a_ (leB cL0_1) tr)) tr) (a_ (a_ (a_ tr tr) (a_ (a_ tr tr) tr)) (a_ (a_ (a_ tr tr) (a_ (a_ tr tr) (a_ (a_ tr tr) (a_ (a_ (a_ (Eq.refl 10) gL0_2) tr) (a_ (a_ (le_ 10 10 rfl) tr) (a_ (a_ (a_ (hist_follows_L1_ok (s.getD t8.toNat default) x c yL0_4 eL0_3 (sel [0, 1, 2]) (sel_inj rfl rfl)) (a_ (LO.Le.refl (.var [.map 1])) (a_ (LO.Le.refl (.map true [.int .u8, .int .u8, .int .u8, .int .u8, .int .u8, .int .u8, .int .u8, .int .u8] (encM (fun z_ : A8 (Int) => LV.agg [.int .u8 z_.a0, .int .u8 z_.a1, .int .u8 z_.a2, .int .u8 z_.a3, .int .u8 z_.a4, .int .u8 z_.a5, .int .u8 z_.a6, .int .u8 z_.a7]) (LV.int .u32) x))) (a_ (LO.Le.refl (.var [.bool c])) tr)))) (a_ (leB cL0_5) tr)) tr)))))) (a_ (a_ (a_ tr tr) (a_ (a_ tr tr) tr)) tr)))) (ih _ r h) (by kernel_rfl) ⟨rfl, trivial, rfl, trivial⟩
    · skip
      obtain rfl := Option.some.inj h
      exact run_ret mixed (L := []) (n := 19) (s := [.go, .reg [(0, { v := some (.bool false) })], .reg []])
        (a_ (a_ (a_ (a_ tr (a_ (leB cL0_1) tr)) tr) (a_ (a_ (a_ tr tr) tr) tr)) tr) (by kernel_rfl) rfl

theorem slices_IndexFunc_hist_Item_hist_Item_2_ok (s : List (T_hist_Item)) (x : List (A8 (Int) × Int)) (c : Bool) (r : (Int)) (h : slices_IndexFunc_hist_Item_hist_Item_2 s x c = some r) : ∀ σ, Inj 3 σ → FnTri Try.prog 50 (renL σ [.ds 10 (s).length (rowF c_T_hist_Item default s), .fn 51 [] [.ptr 0 0 0, .ptr 2 0 0]]) (preOf σ 0 (slices_IndexFunc_hist_Item_hist_Item_2_objs s x c)) ((slices_IndexFunc_hist_Item_hist_Item_2_v r).ren σ) (upOf σ (slices_IndexFunc_hist_Item_hist_Item_2_up s x c r)) := by
  refine fn_of Try.func50 (by kernel_rfl) (by kernel_rfl) (by kernel_rfl) ⟨rfl, trivial, rfl, trivial⟩ (by kernel_rfl) ⟨rfl, trivial, rfl, trivial⟩ (by kernel_rfl) ?_
  intro w0 W μ0 hμ
  unfold slices_IndexFunc_hist_Item_hist_Item_2 at h
  exact run_to mixed hμ (L := []) (n := 18) (s := [.reg [], .reg []])
    (a_ (a_ (a_ tr tr) tr) (a_ (a_ (a_ tr tr) (a_ (a_ tr tr) (a_ (a_ tr tr) tr))) tr)) (slices_IndexFunc_hist_Item_hist_Item_2_l0_ok hμ s x c  big _ r h) (by kernel_rfl) ⟨rfl, trivial, rfl, trivial⟩

/-- slices.ContainsFunc[[]parrel/hist.Item,parrel/hist.Item] -/

def slices_ContainsFunc_hist_Item_hist_Item_2_v (r : (Bool)) : LV := .bool r

def slices_ContainsFunc_hist_Item_hist_Item_2_up (s : List (T_hist_Item)) (x : List (A8 (Int) × Int)) (c : Bool) (r : (Bool)) : Upd := [(0, some (.var [.map 1])), (1, some (.map true [.int .u8, .int .u8, .int .u8, .int .u8, .int .u8, .int .u8, .int .u8, .int .u8] (encM (fun z_ : A8 (Int) => LV.agg [.int .u8 z_.a0, .int .u8 z_.a1, .int .u8 z_.a2, .int .u8 z_.a3, .int .u8 z_.a4, .int .u8 z_.a5, .int .u8 z_.a6, .int .u8 z_.a7]) (LV.int .u32) x))), (2, some (.var [.bool c]))]

def slices_ContainsFunc_hist_Item_hist_Item_2_objs (s : List (T_hist_Item)) (x : List (A8 (Int) × Int)) (c : Bool) : List LO := [.var [.map 1], .map true [.int .u8, .int .u8, .int .u8, .int .u8, .int .u8, .int .u8, .int .u8, .int .u8] (encM (fun z_ : A8 (Int) => LV.agg [.int .u8 z_.a0, .int .u8 z_.a1, .int .u8 z_.a2, .int .u8 z_.a3, .int .u8 z_.a4, .int .u8 z_.a5, .int .u8 z_.a6, .int .u8 z_.a7]) (LV.int .u32) x), .var [.bool c]]

def slices_ContainsFunc_hist_Item_hist_Item_2 (s : List (T_hist_Item)) (x : List (A8 (Int) × Int)) (c : Bool) : Option ((Bool)) :=
  (slices_IndexFunc_hist_Item_hist_Item_2 s x c).bind fun y2 =>
  some (decide (0 ≤ y2))

theorem slices_ContainsFunc_hist_Item_hist_Item_2_ok (s : List (T_hist_Item)) (x : List (A8 (Int) × Int)) (c : Bool) (r : (Bool)) (h : slices_ContainsFunc_hist_Item_hist_Item_2 s x c = some r) : ∀ σ, Inj 3 σ → FnTri Try.prog 42 (renL σ [.ds 10 (s).length (rowF c_T_hist_Item default s), .fn 51 [] [.ptr 0 0 0, .ptr 2 0 0]]) (preOf σ 0 (slices_ContainsFunc_hist_Item_hist_Item_2_objs s x c)) ((slices_ContainsFunc_hist_Item_hist_Item_2_v r).ren σ) (upOf σ (slices_ContainsFunc_hist_Item_hist_Item_2_up s x c r)) := by
  refine fn_of Try.func42 (by kernel_rfl) (by kernel_rfl) (by kernel_rfl) ⟨rfl, trivial, rfl, trivial⟩ (by kernel_rfl) ⟨rfl, trivial, rfl, trivial⟩ (by kernel_rfl) ?_
  intro w0 W μ0 hμ
  unfold slices_ContainsFunc_hist_Item_hist_Item_2 at h
  obtain ⟨y2, e1, h⟩ := bind_some h
  obtain rfl := Option.some.inj h
  exact run_ret mixed (L := []) (n := 15) (s := [.reg [], .reg [(2, { call := some ((slices_IndexFunc_hist_Item_hist_Item_2_v y2).ren (sel [0, 1, 2]), preOf (sel [0, 1, 2]) 0 (slices_IndexFunc_hist_Item_hist_Item_2_objs s x c), upOf (sel [0, 1, 2]) (slices_IndexFunc_hist_Item_hist_Item_2_up s x c y2)) })]])
    (a_ (a_ (a_ (a_ tr tr) tr) (a_ (a_ (a_ tr tr) (a_ (a_ tr tr) (a_ (a_ (a_ (slices_IndexFunc_hist_Item_hist_Item_2_ok s x c y2 e1 (sel [0, 1, 2]) (sel_inj rfl rfl)) (a_ (LO.Le.refl (.var [.map 1])) (a_ (LO.Le.refl (.map true [.int .u8, .int .u8, .int .u8, .int .u8, .int .u8, .int .u8, .int .u8, .int .u8] (encM (fun z_ : A8 (Int) => LV.agg [.int .u8 z_.a0, .int .u8 z_.a1, .int .u8 z_.a2, .int .u8 z_.a3, .int .u8 z_.a4, .int .u8 z_.a5, .int .u8 z_.a6, .int .u8 z_.a7]) (LV.int .u32) x))) (a_ (LO.Le.refl (.var [.bool c])) tr)))) tr) (a_ (a_ tr tr) (a_ (a_ tr tr) tr))))) tr)) tr) (by kernel_rfl) rfl

/-- parrel/hist.follows -/

def hist_follows_v (r : (Bool)) : LV := .bool r

def hist_follows_up (m : List (A8 (Int) × Int)) (l : List (T_hist_Item)) (same : Bool) (r : (Bool)) : Upd := [(0, some (.map true [.int .u8, .int .u8, .int .u8, .int .u8, .int .u8, .int .u8, .int .u8, .int .u8] (encM (fun z_ : A8 (Int) => LV.agg [.int .u8 z_.a0, .int .u8 z_.a1, .int .u8 z_.a2, .int .u8 z_.a3, .int .u8 z_.a4, .int .u8 z_.a5, .int .u8 z_.a6, .int .u8 z_.a7]) (LV.int .u32) m)))]

def hist_follows_objs (m : List (A8 (Int) × Int)) (l : List (T_hist_Item)) (same : Bool) : List LO := [.map true [.int .u8, .int .u8, .int .u8, .int .u8, .int .u8, .int .u8, .int .u8, .int .u8] (encM (fun z_ : A8 (Int) => LV.agg [.int .u8 z_.a0, .int .u8 z_.a1, .int .u8 z_.a2, .int .u8 z_.a3, .int .u8 z_.a4, .int .u8 z_.a5, .int .u8 z_.a6, .int .u8 z_.a7]) (LV.int .u32) m)]

def hist_follows (m : List (A8 (Int) × Int)) (l : List (T_hist_Item)) (same : Bool) : Option ((Bool)) :=
  (slices_ContainsFunc_hist_Item_hist_Item_2 l m same).bind fun y2 =>
  some y2

theorem hist_follows_ok (m : List (A8 (Int) × Int)) (l : List (T_hist_Item)) (same : Bool) (r : (Bool)) (h : hist_follows m l same = some r) : ∀ σ, Inj 1 σ → FnTri Try.prog 49 (renL σ [.map 0, .ds 10 (l).length (rowF c_T_hist_Item default l), .bool same]) (preOf σ 0 (hist_follows_objs m l same)) ((hist_follows_v r).ren σ) (upOf σ (hist_follows_up m l same r)) := by
  refine fn_of Try.func49 (by kernel_rfl) (by kernel_rfl) (by kernel_rfl) ⟨trivial, trivial⟩ (by kernel_rfl) ⟨trivial, trivial⟩ (by kernel_rfl) ?_
  intro w0 W μ0 hμ
  unfold hist_follows at h
  obtain ⟨y2, e1, h⟩ := bind_some h
  obtain rfl := Option.some.inj h
  exact run_ret mixed (L := []) (n := 15) (s := [.reg [], .reg [(2, { call := some ((slices_ContainsFunc_hist_Item_hist_Item_2_v y2).ren (sel [1, 0, 2]), preOf (sel [1, 0, 2]) 0 (slices_ContainsFunc_hist_Item_hist_Item_2_objs l m same), upOf (sel [1, 0, 2]) (slices_ContainsFunc_hist_Item_hist_Item_2_up l m same y2)) })]])
    (a_ (a_ (a_ (a_ tr tr) (a_ (a_ tr tr) (a_ (a_ tr tr) tr))) (a_ (a_ (a_ tr tr) (a_ (a_ tr tr) (a_ (a_ (a_ (slices_ContainsFunc_hist_Item_hist_Item_2_ok l m same y2 e1 (sel [1, 0, 2]) (sel_inj rfl rfl)) (a_ (LO.Le.refl (.var [.map 0])) (a_ (LO.Le.refl (.map true [.int .u8, .int .u8, .int .u8, .int .u8, .int .u8, .int .u8, .int .u8, .int .u8] (encM (fun z_ : A8 (Int) => LV.agg [.int .u8 z_.a0, .int .u8 z_.a1, .int .u8 z_.a2, .int .u8 z_.a3, .int .u8 z_.a4, .int .u8 z_.a5, .int .u8 z_.a6, .int .u8 z_.a7]) (LV.int .u32) m))) (a_ (LO.Le.refl (.var [.bool same])) tr)))) tr) (a_ (a_ tr tr) tr)))) tr)) tr) (by kernel_rfl) rfl

/-- parrel/hist.isAhead -/

def hist_isAhead_v (r : (Bool)) : LV := .bool r

def hist_isAhead (a : T_hist_Tx) (b : T_hist_Tx) : Option ((Bool)) :=
  (hist_first a.f_Writes).bind fun y2 =>
  if ((a.f_End != 0) : Bool) then
    if ((decide (a.f_End < b.f_Begin)) : Bool) then
      some true
    else
      (hist_follows y2 b.f_Writes false).bind fun y6 =>
      if (y6 : Bool) then
        some true
      else
        (hist_follows y2 b.f_Reads true).bind fun y9 =>
        if (y9 : Bool) then
          some true
        else
          (hist_first a.f_Reads).bind fun y12 =>
          (hist_follows y12 b.f_Writes false).bind fun y14 =>
          some y14
  else
    (hist_follows y2 b.f_Writes false).bind fun y5 =>
    if (y5 : Bool) then
      some true
    else
      (hist_follows y2 b.f_Reads true).bind fun y8 =>
      if (y8 : Bool) then
        some true
      else
        (hist_first a.f_Reads).bind fun y11 =>
        (hist_follows y11 b.f_Writes false).bind fun y13 =>
        some y13

theorem hist_isAhead_ok (a : T_hist_Tx) (b : T_hist_Tx) (r : (Bool)) (h : hist_isAhead a b = some r) : ∀ σ, Inj 0 σ → FnTri Try.prog 39 (renL σ [v_T_hist_Tx a, v_T_hist_Tx b]) (preOf σ 0 []) ((hist_isAhead_v r).ren σ) (upOf σ []) := by
  refine fn_of Try.func39 (by kernel_rfl) (by kernel_rfl) (by kernel_rfl) trivial (by kernel_rfl) trivial (by kernel_rfl) ?_
  intro w0 W μ0 hμ
  unfold hist_isAhead at h
  obtain ⟨y2, e1, h⟩ := bind_some h
  rcases itb_some h with ⟨c3, h⟩ | ⟨c3, h⟩
  · skip
    rcases itb_some h with ⟨c4, h⟩ | ⟨c4, h⟩
    · skip
      obtain rfl := Option.some.inj h
      exact run_ret mixed (L := []) (n := 18) (s := [.reg [], .reg [(2, { call := some ((hist_first_v y2).ren (sel [2]), preOf (sel [2]) 0 [], upOf (sel [2]) (hist_first_up a.f_Writes y2)) })], .reg [(3, { v := some (.bool true) }), (10, { v := some (.bool true) })]])
        (a_ (a_ (a_ (a_ tr tr) (a_ (a_ tr tr) (a_ (a_ tr tr) tr))) (a_ (a_ (a_ tr tr) (a_ (a_ (a_ tr (lt_ 1 4 rfl)) tr) (a_ (a_ (a_ (hist_first_ok a.f_Writes y2 e1 (sel [2]) (sel_inj rfl rfl)) tr) tr) (a_ (a_ tr tr) tr)))) (a_ (a_ (a_ tr tr) (a_ (a_ (a_ tr (lt_ 3 4 rfl)) tr) (a_ (a_ tr tr) (a_ (a_ tr (a_ (leB c3) tr)) (a_ (a_ tr tr) (a_ (a_ (a_ tr (lt_ 3 4 rfl)) tr) (a_ (a_ tr tr) (a_ (a_ (a_ tr (lt_ 2 4 rfl)) tr) (a_ (a_ tr tr) (a_ (a_ tr tr) (a_ (a_ tr (a_ (leB c4) tr)) (a_ tr (a_ tr (a_ tr (a_ tr (a_ (a_ tr tr) (a_ (a_ tr tr) (a_ tr (a_ tr (a_ tr (a_ tr (a_ (a_ tr tr) (a_ (a_ tr tr) (a_ tr (a_ tr (a_ tr (a_ tr (a_ tr (a_ tr (a_ (a_ tr tr) (a_ (a_ tr tr) tr))))))))))))))))))))))))))))))) tr))) tr) (by kernel_rfl) rfl
    · skip
      obtain ⟨y6, e5, h⟩ := bind_some h
      rcases itb_some h with ⟨c7, h⟩ | ⟨c7, h⟩
      · skip
        obtain rfl := Option.some.inj h
        exact run_ret mixed (L := []) (n := 18) (s := [.reg [], .reg [(2, { call := some ((hist_first_v y2).ren (sel [2]), preOf (sel [2]) 0 [], upOf (sel [2]) (hist_first_up a.f_Writes y2)) })], .reg [(3, { v := some (.bool true) }), (10, { v := some (.bool false) }), (14, { call := some ((hist_follows_v y6).ren (sel [2]), preOf (sel [2]) 0 (hist_follows_objs y2 b.f_Writes false), upOf (sel [2]) (hist_follows_up y2 b.f_Writes false y6)) }), (16, { v := some (.bool true) })]])
          (a_ (a_ (a_ (a_ tr tr) (a_ (a_ tr tr) (a_ (a_ tr tr) tr))) (a_ (a_ (a_ tr tr) (a_ (a_ (a_ tr (lt_ 1 4 rfl)) tr) (a_ (a_ (a_ (hist_first_ok a.f_Writes y2 e1 (sel [2]) (sel_inj rfl rfl)) tr) tr) (a_ (a_ tr tr) tr)))) (a_ (a_ (a_ tr tr) (a_ (a_ (a_ tr (lt_ 3 4 rfl)) tr) (a_ (a_ tr tr) (a_ (a_ tr (a_ (leB c3) tr)) (a_ (a_ tr tr) (a_ (a_ (a_ tr (lt_ 3 4 rfl)) tr) (a_ (a_ tr tr) (a_ (a_ (a_ tr (lt_ 2 4 rfl)) tr) (a_ (a_ tr tr) (a_ (a_ tr tr) (a_ (a_ tr (a_ (leB c4) tr)) (a_ (a_ tr tr) (a_ (a_ tr tr) (a_ (a_ (a_ tr (lt_ 1 4 rfl)) tr) (a_ (a_ (a_ (hist_follows_ok y2 b.f_Writes false y6 e5 (sel [2]) (sel_inj rfl rfl)) (a_ (LO.Le.refl (.map true [.int .u8, .int .u8, .int .u8, .int .u8, .int .u8, .int .u8, .int .u8, .int .u8] (encM (fun z_ : A8 (Int) => LV.agg [.int .u8 z_.a0, .int .u8 z_.a1, .int .u8 z_.a2, .int .u8 z_.a3, .int .u8 z_.a4, .int .u8 z_.a5, .int .u8 z_.a6, .int .u8 z_.a7]) (LV.int .u32) y2))) tr)) tr) (a_ (a_ tr tr) (a_ (a_ tr (a_ (leB c7) tr)) (a_ tr (a_ tr (a_ tr (a_ tr (a_ (a_ tr tr) (a_ (a_ tr tr) (a_ tr (a_ tr (a_ tr (a_ tr (a_ tr (a_ tr (a_ (a_ tr tr) (a_ (a_ tr tr) tr))))))))))))))))))))))))))))))) tr))) tr) (by kernel_rfl) rfl
      · skip
        obtain ⟨y9, e8, h⟩ := bind_some h
        rcases itb_some h with ⟨c10, h⟩ | ⟨c10, h⟩
        · skip
          obtain rfl := Option.some.inj h
          exact run_ret mixed (L := []) (n := 18) (s := [.reg [], .reg [(2, { call := some ((hist_first_v y2).ren (sel [2]), preOf (sel [2]) 0 [], upOf (sel [2]) (hist_first_up a.f_Writes y2)) })], .reg [(3, { v := some (.bool true) }), (10, { v := some (.bool false) }), (14, { call := some ((hist_follows_v y6).ren (sel [2]), preOf (sel [2]) 0 (hist_follows_objs y2 b.f_Writes false), upOf (sel [2]) (hist_follows_up y2 b.f_Writes false y6)) }), (16, { v := some (.bool false) }), (20, { call := some ((hist_follows_v y9).ren (sel [2]), preOf (sel [2]) 0 (hist_follows_objs y2 b.f_Reads true), upOf (sel [2]) (hist_follows_up y2 b.f_Reads true y9)) }), (22, { v := some (.bool true) })]])
            (a_ (a_ (a_ (a_ tr tr) (a_ (a_ tr tr) (a_ (a_ tr tr) tr))) (a_ (a_ (a_ tr tr) (a_ (a_ (a_ tr (lt_ 1 4 rfl)) tr) (a_ (a_ (a_ (hist_first_ok a.f_Writes y2 e1 (sel [2]) (sel_inj rfl rfl)) tr) tr) (a_ (a_ tr tr) tr)))) (a_ (a_ (a_ tr tr) (a_ (a_ (a_ tr (lt_ 3 4 rfl)) tr) (a_ (a_ tr tr) (a_ (a_ tr (a_ (leB c3) tr)) (a_ (a_ tr tr) (a_ (a_ (a_ tr (lt_ 3 4 rfl)) tr) (a_ (a_ tr tr) (a_ (a_ (a_ tr (lt_ 2 4 rfl)) tr) (a_ (a_ tr tr) (a_ (a_ tr tr) (a_ (a_ tr (a_ (leB c4) tr)) (a_ (a_ tr tr) (a_ (a_ tr tr) (a_ (a_ (a_ tr (lt_ 1 4 rfl)) tr) (a_ (a_ (a_ (hist_follows_ok y2 b.f_Writes false y6 e5 (sel [2]) (sel_inj rfl rfl)) (a_ (LO.Le.refl (.map true [.int .u8, .int .u8, .int .u8, .int .u8, .int .u8, .int .u8, .int .u8, .int .u8] (encM (fun z_ : A8 (Int) => LV.agg [.int .u8 z_.a0, .int .u8 z_.a1, .int .u8 z_.a2, .int .u8 z_.a3, .int .u8 z_.a4, .int .u8 z_.a5, .int .u8 z_.a6, .int .u8 z_.a7]) (LV.int .u32) y2))) tr)) tr) (a_ (a_ tr tr) (a_ (a_ tr (a_ (leB c7) tr)) (a_ (a_ tr tr) (a_ (a_ tr tr) (a_ (a_ (a_ tr (lt_ 0 4 rfl)) tr) (a_ (a_ (a_ (hist_follows_ok y2 b.f_Reads true y9 e8 (sel [2]) (sel_inj rfl rfl)) (a_ (LO.Le.refl (.map true [.int .u8, .int .u8, .int .u8, .int .u8, .int .u8, .int .u8, .int .u8, .int .u8] (encM (fun z_ : A8 (Int) => LV.agg [.int .u8 z_.a0, .int .u8 z_.a1, .int .u8 z_.a2, .int .u8 z_.a3, .int .u8 z_.a4, .int .u8 z_.a5, .int .u8 z_.a6, .int .u8 z_.a7]) (LV.int .u32) y2))) tr)) tr) (a_ (a_ tr tr) (a_ (a_ tr (a_ (leB c10) tr)) (a_ tr (a_ tr (a_ tr (a_ tr (a_ tr (a_ tr (a_ (a_ tr tr) (a_ (a_ tr tr) tr))))))))))))))))))))))))))))))) tr))) tr) (by kernel_rfl) rfl
        · skip
          obtain ⟨y12, e11, h⟩ := bind_some h
          obtain ⟨y14, e13, h⟩ := bind_some h
          obtain rfl := Option.some.inj h
          exact run_ret mixed (L := []) (n := 18) (s := [.reg [], .reg [(2, { call := some ((hist_first_v y2).ren (sel [2]), preOf (sel [2]) 0 [], upOf (sel [2]) (hist_first_up a.f_Writes y2)) })], .reg [(3, { v := some (.bool true) }), (10, { v := some (.bool false) }), (14, { call := some ((hist_follows_v y6).ren (sel [2]), preOf (sel [2]) 0 (hist_follows_objs y2 b.f_Writes false), upOf (sel [2]) (hist_follows_up y2 b.f_Writes false y6)) }), (16, { v := some (.bool false) }), (20, { call := some ((hist_follows_v y9).ren (sel [2]), preOf (sel [2]) 0 (hist_follows_objs y2 b.f_Reads true), upOf (sel [2]) (hist_follows_up y2 b.f_Reads true y9)) }), (22, { v := some (.bool false) }), (25, { call := some ((hist_first_v y12).ren (sel [3]), preOf (sel [3]) 0 [], upOf (sel [3]) (hist_first_up a.f_Reads y12)) }), (28, { call := some ((hist_follows_v y14).ren (sel [3]), preOf (sel [3]) 0 (hist_follows_objs y12 b.f_Writes false), upOf (sel [3]) (hist_follows_up y12 b.f_Writes false y14)) })]])
            (a_ (a_ (a_ (a_ tr tr) (a_ (a_ tr tr) (a_ (a_ tr tr) tr))) (a_ (a_ (a_ tr tr) (a_ (a_ (a_ tr (lt_ 1 4 rfl)) tr) (a_ (a_ (a_ (hist_first_ok a.f_Writes y2 e1 (sel [2]) (sel_inj rfl rfl)) tr) tr) (a_ (a_ tr tr) tr)))) (a_ (a_ (a_ tr tr) (a_ (a_ (a_ tr (lt_ 3 4 rfl)) tr) (a_ (a_ tr tr) (a_ (a_ tr (a_ (leB c3) tr)) (a_ (a_ tr tr) (a_ (a_ (a_ tr (lt_ 3 4 rfl)) tr) (a_ (a_ tr tr) (a_ (a_ (a_ tr (lt_ 2 4 rfl)) tr) (a_ (a_ tr tr) (a_ (a_ tr tr) (a_ (a_ tr (a_ (leB c4) tr)) (a_ (a_ tr tr) (a_ (a_ tr tr) (a_ (a_ (a_ tr (lt_ 1 4 rfl)) tr) (a_ (a_ (a_ (hist_follows_ok y2 b.f_Writes false y6 e5 (sel [2]) (sel_inj rfl rfl)) (a_ (LO.Le.refl (.map true [.int .u8, .int .u8, .int .u8, .int .u8, .int .u8, .int .u8, .int .u8, .int .u8] (encM (fun z_ : A8 (Int) => LV.agg [.int .u8 z_.a0, .int .u8 z_.a1, .int .u8 z_.a2, .int .u8 z_.a3, .int .u8 z_.a4, .int .u8 z_.a5, .int .u8 z_.a6, .int .u8 z_.a7]) (LV.int .u32) y2))) tr)) tr) (a_ (a_ tr tr) (a_ (a_ tr (a_ (leB c7) tr)) (a_ (a_ tr tr) (a_ (a_ tr tr) (a_ (a_ (a_ tr (lt_ 0 4 rfl)) tr) (a_ (a_ (a_ (hist_follows_ok y2 b.f_Reads true y9 e8 (sel [2]) (sel_inj rfl rfl)) (a_ (LO.Le.refl (.map true [.int .u8, .int .u8, .int .u8, .int .u8, .int .u8, .int .u8, .int .u8, .int .u8] (encM (fun z_ : A8 (Int) => LV.agg [.int .u8 z_.a0, .int .u8 z_.a1, .int .u8 z_.a2, .int .u8 z_.a3, .int .u8 z_.a4, .int .u8 z_.a5, .int .u8 z_.a6, .int .u8 z_.a7]) (LV.int .u32) y2))) tr)) tr) (a_ (a_ tr tr) (a_ (a_ tr (a_ (leB c10) tr)) (a_ (a_ tr tr) (a_ (a_ (a_ tr (lt_ 0 4 rfl)) tr) (a_ (a_ (a_ (hist_first_ok a.f_Reads y12 e11 (sel [3]) (sel_inj rfl rfl)) tr) tr) (a_ (a_ tr tr) (a_ (a_ (a_ tr (lt_ 1 4 rfl)) tr) (a_ (a_ (a_ (hist_follows_ok y12 b.f_Writes false y14 e13 (sel [3]) (sel_inj rfl rfl)) (a_ (LO.Le.refl (.map true [.int .u8, .int .u8, .int .u8, .int .u8, .int .u8, .int .u8, .int .u8, .int .u8] (encM (fun z_ : A8 (Int) => LV.agg [.int .u8 z_.a0, .int .u8 z_.a1, .int .u8 z_.a2, .int .u8 z_.a3, .int .u8 z_.a4, .int .u8 z_.a5, .int .u8 z_.a6, .int .u8 z_.a7]) (LV.int .u32) y12))) tr)) tr) (a_ (a_ tr tr) (a_ (a_ tr tr) tr))))))))))))))))))))))))))))))) tr))) tr) (by kernel_rfl) rfl
  · skip
    obtain ⟨y5, e4, h⟩ := bind_some h
    rcases itb_some h with ⟨c6, h⟩ | ⟨c6, h⟩
    · skip
      obtain rfl := Option.some.inj h
      exact run_ret mixed (L := []) (n := 18) (s := [.reg [], .reg [(2, { call := some ((hist_first_v y2).ren (sel [2]), preOf (sel [2]) 0 [], upOf (sel [2]) (hist_first_up a.f_Writes y2)) })], .reg [(3, { v := some (.bool false) }), (14, { call := some ((hist_follows_v y5).ren (sel [2]), preOf (sel [2]) 0 (hist_follows_objs y2 b.f_Writes false), upOf (sel [2]) (hist_follows_up y2 b.f_Writes false y5)) }), (16, { v := some (.bool true) })]])
        (a_ (a_ (a_ (a_ tr tr) (a_ (a_ tr tr) (a_ (a_ tr tr) tr))) (a_ (a_ (a_ tr tr) (a_ (a_ (a_ tr (lt_ 1 4 rfl)) tr) (a_ (a_ (a_ (hist_first_ok a.f_Writes y2 e1 (sel [2]) (sel_inj rfl rfl)) tr) tr) (a_ (a_ tr tr) tr)))) (a_ (a_ (a_ tr tr) (a_ (a_ (a_ tr (lt_ 3 4 rfl)) tr) (a_ (a_ tr tr) (a_ (a_ tr (a_ (leB c3) tr)) (a_ tr (a_ tr (a_ tr (a_ tr (a_ tr (a_ (a_ tr tr) (a_ (a_ tr tr) (a_ (a_ tr tr) (a_ (a_ tr tr) (a_ (a_ (a_ tr (lt_ 1 4 rfl)) tr) (a_ (a_ (a_ (hist_follows_ok y2 b.f_Writes false y5 e4 (sel [2]) (sel_inj rfl rfl)) (a_ (LO.Le.refl (.map true [.int .u8, .int .u8, .int .u8, .int .u8, .int .u8, .int .u8, .int .u8, .int .u8] (encM (fun z_ : A8 (Int) => LV.agg [.int .u8 z_.a0, .int .u8 z_.a1, .int .u8 z_.a2, .int .u8 z_.a3, .int .u8 z_.a4, .int .u8 z_.a5, .int .u8 z_.a6, .int .u8 z_.a7]) (LV.int .u32) y2))) tr)) tr) (a_ (a_ tr tr) (a_ (a_ tr (a_ (leB c6) tr)) (a_ tr (a_ tr (a_ tr (a_ tr (a_ (a_ tr tr) (a_ (a_ tr tr) (a_ tr (a_ tr (a_ tr (a_ tr (a_ tr (a_ tr (a_ (a_ tr tr) (a_ (a_ tr tr) tr))))))))))))))))))))))))))))))) tr))) tr) (by kernel_rfl) rfl
    · skip
      obtain ⟨y8, e7, h⟩ := bind_some h
      rcases itb_some h with ⟨c9, h⟩ | ⟨c9, h⟩
      · skip
        obtain rfl := Option.some.inj h
        exact run_ret mixed (L := []) (n := 18) (s := [.reg [], .reg [(2, { call := some ((hist_first_v y2).ren (sel [2]), preOf (sel [2]) 0 [], upOf (sel [2]) (hist_first_up a.f_Writes y2)) })], .reg [(3, { v := some (.bool false) }), (14, { call := some ((hist_follows_v y5).ren (sel [2]), preOf (sel [2]) 0 (hist_follows_objs y2 b.f_Writes false), upOf (sel [2]) (hist_follows_up y2 b.f_Writes false y5)) }), (16, { v := some (.bool false) }), (20, { call := some ((hist_follows_v y8).ren (sel [2]), preOf (sel [2]) 0 (hist_follows_objs y2 b.f_Reads true), upOf (sel [2]) (hist_follows_up y2 b.f_Reads true y8)) }), (22, { v := some (.bool true) })]])
          (a_ (a_ (a_ (a_ tr tr) (a_ (a_ tr tr) (a_ (a_ tr tr) tr))) (a_ (a_ (a_ tr tr) (a_ (a_ (a_ tr (lt_ 1 4 rfl)) tr) (a_ (a_ (a_ (hist_first_ok a.f_Writes y2 e1 (sel [2]) (sel_inj rfl rfl)) tr) tr) (a_ (a_ tr tr) tr)))) (a_ (a_ (a_ tr tr) (a_ (a_ (a_ tr (lt_ 3 4 rfl)) tr) (a_ (a_ tr tr) (a_ (a_ tr (a_ (leB c3) tr)) (a_ tr (a_ tr (a_ tr (a_ tr (a_ tr (a_ (a_ tr tr) (a_ (a_ tr tr) (a_ (a_ tr tr) (a_ (a_ tr tr) (a_ (a_ (a_ tr (lt_ 1 4 rfl)) tr) (a_ (a_ (a_ (hist_follows_ok y2 b.f_Writes false y5 e4 (sel [2]) (sel_inj rfl rfl)) (a_ (LO.Le.refl (.map true [.int .u8, .int .u8, .int .u8, .int .u8, .int .u8, .int .u8, .int .u8, .int .u8] (encM (fun z_ : A8 (Int) => LV.agg [.int .u8 z_.a0, .int .u8 z_.a1, .int .u8 z_.a2, .int .u8 z_.a3, .int .u8 z_.a4, .int .u8 z_.a5, .int .u8 z_.a6, .int .u8 z_.a7]) (LV.int .u32) y2))) tr)) tr) (a_ (a_ tr tr) (a_ (a_ tr (a_ (leB c6) tr)) (a_ (a_ tr tr) (a_ (a_ tr tr) (a_ (a_ (a_ tr (lt_ 0 4 rfl)) tr) (a_ (a_ (a_ (hist_follows_ok y2 b.f_Reads true y8 e7 (sel [2]) (sel_inj rfl rfl)) (a_ (LO.Le.refl (.map true [.int .u8, .int .u8, .int .u8, .int .u8, .int .u8, .int .u8, .int .u8, .int .u8] (encM (fun z_ : A8 (Int) => LV.agg [.int .u8 z_.a0, .int .u8 z_.a1, .int .u8 z_.a2, .int .u8 z_.a3, .int .u8 z_.a4, .int .u8 z_.a5, .int .u8 z_.a6, .int .u8 z_.a7]) (LV.int .u32) y2))) tr)) tr) (a_ (a_ tr tr) (a_ (a_ tr (a_ (leB c9) tr)) (a_ tr (a_ tr (a_ tr (a_ tr (a_ tr (a_ tr (a_ (a_ tr tr) (a_ (a_ tr tr) tr))))))))))))))))))))))))))))))) tr))) tr) (by kernel_rfl) rfl
      · skip
        obtain ⟨y11, e10, h⟩ := bind_some h
        obtain ⟨y13, e12, h⟩ := bind_some h
        obtain rfl := Option.some.inj h
        exact run_ret mixed (L := []) (n := 18) (s := [.reg [], .reg [(2, { call := some ((hist_first_v y2).ren (sel [2]), preOf (sel [2]) 0 [], upOf (sel [2]) (hist_first_up a.f_Writes y2)) })], .reg [(3, { v := some (.bool false) }), (14, { call := some ((hist_follows_v y5).ren (sel [2]), preOf (sel [2]) 0 (hist_follows_objs y2 b.f_Writes false), upOf (sel [2]) (hist_follows_up y2 b.f_Writes false y5)) }), (16, { v := some (.bool false) }), (20, { call := some ((hist_follows_v y8).ren (sel [2]), preOf (sel [2]) 0 (hist_follows_objs y2 b.f_Reads true), upOf (sel [2]) (hist_follows_up y2 b.f_Reads true y8)) }), (22, { v := some (.bool false) }), (25, { call := some ((hist_first_v y11).ren (sel [3]), preOf (sel [3]) 0 [], upOf (sel [3]) (hist_first_up a.f_Reads y11)) }), (28, { call := some ((hist_follows_v y13).ren (sel [3]), preOf (sel [3]) 0 (hist_follows_objs y11 b.f_Writes false), upOf (sel [3]) (hist_follows_up y11 b.f_Writes false y13)) })]])
          (a_ (a_ (a_ (a_ tr tr) (a_ (a_ tr tr) (a_ (a_ tr tr) tr))) (a_ (a_ (a_ tr tr) (a_ (a_ (a_ tr (lt_ 1 4 rfl)) tr) (a_ (a_ (a_ (hist_first_ok a.f_Writes y2 e1 (sel [2]) (sel_inj rfl rfl)) tr) tr) (a_ (a_ tr tr) tr)))) (a_ (a_ (a_ tr tr) (a_ (a_ (a_ tr (lt_ 3 4 rfl)) tr) (a_ (a_ tr tr) (a_ (a_ tr (a_ (leB c3) tr)) (a_ tr (a_ tr (a_ tr (a_ tr (a_ tr (a_ (a_ tr tr) (a_ (a_ tr tr) (a_ (a_ tr tr) (a_ (a_ tr tr) (a_ (a_ (a_ tr (lt_ 1 4 rfl)) tr) (a_ (a_ (a_ (hist_follows_ok y2 b.f_Writes false y5 e4 (sel [2]) (sel_inj rfl rfl)) (a_ (LO.Le.refl (.map true [.int .u8, .int .u8, .int .u8, .int .u8, .int .u8, .int .u8, .int .u8, .int .u8] (encM (fun z_ : A8 (Int) => LV.agg [.int .u8 z_.a0, .int .u8 z_.a1, .int .u8 z_.a2, .int .u8 z_.a3, .int .u8 z_.a4, .int .u8 z_.a5, .int .u8 z_.a6, .int .u8 z_.a7]) (LV.int .u32) y2))) tr)) tr) (a_ (a_ tr tr) (a_ (a_ tr (a_ (leB c6) tr)) (a_ (a_ tr tr) (a_ (a_ tr tr) (a_ (a_ (a_ tr (lt_ 0 4 rfl)) tr) (a_ (a_ (a_ (hist_follows_ok y2 b.f_Reads true y8 e7 (sel [2]) (sel_inj rfl rfl)) (a_ (LO.Le.refl (.map true [.int .u8, .int .u8, .int .u8, .int .u8, .int .u8, .int .u8, .int .u8, .int .u8] (encM (fun z_ : A8 (Int) => LV.agg [.int .u8 z_.a0, .int .u8 z_.a1, .int .u8 z_.a2, .int .u8 z_.a3, .int .u8 z_.a4, .int .u8 z_.a5, .int .u8 z_.a6, .int .u8 z_.a7]) (LV.int .u32) y2))) tr)) tr) (a_ (a_ tr tr) (a_ (a_ tr (a_ (leB c9) tr)) (a_ (a_ tr tr) (a_ (a_ (a_ tr (lt_ 0 4 rfl)) tr) (a_ (a_ (a_ (hist_first_ok a.f_Reads y11 e10 (sel [3]) (sel_inj rfl rfl)) tr) tr) (a_ (a_ tr tr) (a_ (a_ (a_ tr (lt_ 1 4 rfl)) tr) (a_ (a_ (a_ (hist_follows_ok y11 b.f_Writes false y13 e12 (sel [3]) (sel_inj rfl rfl)) (a_ (LO.Le.refl (.map true [.int .u8, .int .u8, .int .u8, .int .u8, .int .u8, .int .u8, .int .u8, .int .u8] (encM (fun z_ : A8 (Int) => LV.agg [.int .u8 z_.a0, .int .u8 z_.a1, .int .u8 z_.a2, .int .u8 z_.a3, .int .u8 z_.a4, .int .u8 z_.a5, .int .u8 z_.a6, .int .u8 z_.a7]) (LV.int .u32) y11))) tr)) tr) (a_ (a_ tr tr) (a_ (a_ tr tr) tr))))))))))))))))))))))))))))))) tr))) tr) (by kernel_rfl) rfl

theorem hist_isAhead_tri (a : T_hist_Tx) (b : T_hist_Tx) (r : (Bool)) (h : hist_isAhead a b = some r) : FnTri Try.prog 39 [v_T_hist_Tx a, v_T_hist_Tx b] [] (hist_isAhead_v r) [] := FnTri.none (hist_isAhead_ok a b r h) rfl rfl

/-- parrel/hist.graph -/

def hist_graph_v (r : (List (List (Int)))) : LV := .ds 1 (r).length (rowF (fun z_ : List (Int) => [.ds 1 (z_).length (rowF (cInt .i64) default z_)]) default r)

def hist_graph_T1 (l : List (T_hist_Tx)) (t13 : Int) (l2 : List (List (Int))) (t20 : Int) (l3 : List (Int)) : List LV := [.ds 4 (l).length (rowF c_T_hist_Tx default l), .any, .any, .sl 0 0 0 false ((((l).length : Int)).toNat) none, .int .i64 t13, .ptr 1 0 0, .any, .any, .any, .any, .any, .ds 4 (l).length (rowF c_T_hist_Tx default l), .int .i64 ((l).length : Int), .int .i64 t13, .any, .any, .any, .any, .ds 4 (l).length (rowF c_T_hist_Tx default l), .int .i64 ((l).length : Int), .int .i64 t20, .any, .any, .any, .any, .any, .any, .any, .any, .any, .any, .any, .any, .any, .any, .any, .any, .any, .any, .any, .any, .any, .any, .any, .any, .any]

def hist_graph_H1 (l : List (T_hist_Tx)) (t13 : Int) (l2 : List (List (Int))) (t20 : Int) (l3 : List (Int)) : Heap := [some (.row 1 ((((l).length : Int)).toNat) (rowC (fun z_ : List (Int) => [.ds 1 (z_).length (rowF (cInt .i64) default z_)]) default l2 2 (l3).length) true), some (.var (c_T_hist_Tx (l.getD t13.toNat default))), some (.gr 1 (l3).length (rowF (cInt .i64) default l3))]

def hist_graph_T0 (l : List (T_hist_Tx)) (t13 : Int) (l2 : List (List (Int))) : List LV := [.ds 4 (l).length (rowF c_T_hist_Tx default l), .any, .any, .sl 0 0 0 false ((((l).length : Int)).toNat) none, .any, .any, .any, .any, .any, .any, .any, .ds 4 (l).length (rowF c_T_hist_Tx default l), .int .i64 ((l).length : Int), .int .i64 t13, .any, .any, .any, .any, .any, .any, .any, .any, .any, .any, .any, .any, .any, .any, .any, .any, .any, .any, .any, .any, .any, .any, .any, .any, .any, .any, .any, .any, .any, .any, .any, .any]

def hist_graph_H0 (l : List (T_hist_Tx)) (t13 : Int) (l2 : List (List (Int))) : Heap := [some (.row 1 ((((l).length : Int)).toNat) (rowN (fun z_ : List (Int) => [.ds 1 (z_).length (rowF (cInt .i64) default z_)]) default l2) true)]

def hist_graph_l1 (l : List (T_hist_Tx)) (t13 : Int) (l2 : List (List (Int))) (k0 : (Int) → (List (List (Int))) → Option ((List (List (Int))))) : Nat → (Int) → (List (Int)) → Option ((List (List (Int))))
  | 0, _, _ => none
  | fuel + 1, t20, l3 =>
    if ((decide (t20 < ((l).length : Int))) : Bool) then
      if 0 ≤ t20 ∧ t20 < (((l).length : Nat) : Int) then
      if ((t13 != t20) : Bool) then
        (hist_isAhead (l.getD t13.toNat default) (l.getD t20.toNat default)).bind fun yL1_5 =>
        if (yL1_5 : Bool) then
          if 0 ≤ t13 ∧ t13 < ((((((l).length : Int)).toNat) : Nat) : Int) then
          if t13.toNat = (l2).length then
          if ((l3).length + ([t20]).length) * 8 ≤ 140737488351232 then
          hist_graph_l1 l t13 l2 k0 fuel (IntKind.wrap .i64 (t20 + 1)) (l3 ++ [t20])
          else none
          else none
          else none
        else
          hist_graph_l1 l t13 l2 k0 fuel (IntKind.wrap .i64 (t20 + 1)) l3
      else
        hist_graph_l1 l t13 l2 k0 fuel (IntKind.wrap .i64 (t20 + 1)) l3
      else none
    else
      k0 (IntKind.wrap .i64 (t13 + 1)) (l2 ++ [l3])

def hist_graph_l0 (l : List (T_hist_Tx))  : Nat → (Int) → (List (List (Int))) → Option ((List (List (Int))))
  | 0, _, _ => none
  | fuel + 1, t13, l2 =>
    if ((decide (t13 < ((l).length : Int))) : Bool) then
      if 0 ≤ t13 ∧ t13 < (((l).length : Nat) : Int) then
      hist_graph_l1 l t13 l2 (hist_graph_l0 l  fuel) big 0 ([] : List (Int))
      else none
    else
      if ((((l).length : Int)).toNat) = (l2).length then
      some l2
      else none

def hist_graph (l : List (T_hist_Tx)) : Option ((List (List (Int)))) :=
  if 0 ≤ ((l).length : Int) ∧ ((l).length : Int) ≤ ((l).length : Int) ∧ ((l).length : Int) * 24 ≤ 140737488351232 ∧ ((l).length : Int) ≤ 9223372036854775807 then
  hist_graph_l0 l  big 0 ([] : List (List (Int)))
  else none

theorem hist_graph_l1_ok {w0 : World} {W : Nat → Prop} {μ0 : Emb} (hμ : ∀ c p, μ0 c = some p → c < 0) (l : List (T_hist_Tx)) (t13 : Int) (l2 : List (List (Int))) (k0 : (Int) → (List (List (Int))) → Option ((List (List (Int))))) (hk0 : ∀ (t13 : Int) (l2 : List (List (Int))) (r : (List (List (Int)))), k0 t13 l2 = some r → kont Try.prog w0 W μ0 (FnPost Try.prog Try.f22 0 0 (hist_graph_v r) []) (kAt (bodyOf Try.f22) 0) none (hist_graph_T0 l t13 l2) (hist_graph_H0 l t13 l2)) : ∀ (fuel : Nat) (t20 : Int) (l3 : List (Int)) (r : (List (List (Int)))), hist_graph_l1 l t13 l2 k0 fuel t20 l3 = some r → kont Try.prog w0 W μ0 (FnPost Try.prog Try.f22 0 0 (hist_graph_v r) []) (kAt (bodyOf Try.f22) 1) none (hist_graph_T1 l t13 l2 t20 l3) (hist_graph_H1 l t13 l2 t20 l3) := by
  intro fuel
  induction fuel with
  | zero => intro t20 l3 r h; rw [hist_graph_l1] at h; cases h
  | succ fuel ih =>
    intro t20 l3 r h
    rw [hist_graph_l1] at h
    rcases itb_some h with ⟨cL1_1, h⟩ | ⟨cL1_1, h⟩
    · skip
      obtain ⟨gL1_2, h⟩ := guard_some h
      rcases itb_some h with ⟨cL1_3, h⟩ | ⟨cL1_3, h⟩
      · skip
        obtain ⟨yL1_5, eL1_4, h⟩ := bind_some h
        rcases itb_some h with ⟨cL1_6, h⟩ | ⟨cL1_6, h⟩
        · skip
          obtain ⟨gL1_7, h⟩ := guard_some h
          obtain ⟨gL1_8, h⟩ := guard_some h
          obtain ⟨gL1_9, h⟩ := guard_some h
          exact run_to_h mixed [some (.row 1 ((((l).length : Int)).toNat) (rowC (fun z_ : List (Int) => [.ds 1 (z_).length (rowF (cInt .i64) default z_)]) default l2 5 ((l3 ++ [t20])).length) true), some (.var (c_T_hist_Tx (l.getD t13.toNat default))), some (.gr 1 ((l3 ++ [t20])).length (rowF (cInt .i64) default (l3 ++ [t20])))] hμ (L := [0, 1, 5]) (n := 30) (s := [.go, .reg [(0, { v := some (.bool true) })], .reg [], .reg [(3, { v := some (.bool true) }), (6, { call := some (hist_isAhead_v yL1_5, [], []) }), (7, { v := some (.bool true) })], .reg [(5, { v := some (.gs 2 (l3).length) }), (7, { os := [(4, .gr 1 ([t20]).length (rowF (cInt .i64) default [t20]))], v := some (.gs 4 ([t20]).length) }), (8, { app := 3, os := [(5, .gr 1 ((l3 ++ [t20])).length (rowF (cInt .i64) default (l3 ++ [t20])))], v := some (.gs 5 ((l3 ++ [t20])).length) }), (10, { os := [(0, .row 1 ((((l).length : Int)).toNat) (rowC (fun z_ : List (Int) => [.ds 1 (z_).length (rowF (cInt .i64) default z_)]) default l2 5 ((l3 ++ [t20])).length) true)] })], .reg []])
            (a_ (a_ (a_ tr (a_ (leB cL1_1) tr)) tr) (a_ (a_ (a_ tr tr) (a_ (a_ (a_ (Eq.refl 4) gL1_2) tr) (a_ (a_ (le_ 4 4 rfl) tr) (a_ (a_ tr tr) (a_ (a_ tr tr) (a_ (a_ (a_ (Eq.refl 4) (a_ (le_ 4 4 rfl) (Eq.refl 0))) tr) tr)))))) (a_ (a_ (a_ tr tr) (a_ (a_ tr tr) (a_ (a_ tr tr) (a_ (a_ tr (a_ (leB cL1_3) tr)) (a_ (a_ (a_ tr (le_ 4 4 rfl)) tr) (a_ (a_ (a_ tr (le_ 4 4 rfl)) tr) (a_ (a_ (a_ (hist_isAhead_tri (l.getD t13.toNat default) (l.getD t20.toNat default) yL1_5 eL1_4) tr) tr) (a_ (a_ tr (a_ (leB cL1_6) tr)) tr)))))))) (a_ (a_ (a_ tr tr) (a_ (a_ tr tr) (a_ (a_ tr tr) (a_ (a_ tr tr) (a_ (a_ (a_ (Eq.refl 1) gL1_7) tr) (a_ (a_ (a_ (ltN0 gL1_7) (lt_rowC (fun z_ : List (Int) => [.ds 1 (z_).length (rowF (cInt .i64) default z_)]) default l2 2 (l3).length (t13.toNat) gL1_8)) (a_ (le_rowC (fun z_ : List (Int) => [.ds 1 (z_).length (rowF (cInt .i64) default z_)]) default l2 2 (l3).length (t13.toNat) gL1_8) tr)) (a_ (a_ tr tr) (a_ (a_ (a_ (Eq.refl true) (a_ (Eq.refl 1) (a_ (lt_ 0 1 rfl) (le_ 1 16777216 rfl)))) (a_ (le_sl_gs 4 1 (some 1) rfl) (a_ (sub_lit (cInt .i64) default 1 (fun _ => rfl) [t20]) tr))) (a_ (a_ (a_ (a_ (Eq.refl 1) (Nat.le_refl ([t20]).length)) (a_ (a_ (lt_ 0 1 rfl) (a_ (lt_ 0 8 rfl) (a_ gL1_9 (a_ (Eq.refl 1) (Eq.refl true))))) (a_ (Eq.refl 1) (Nat.le_refl (l3).length)))) (a_ (le_gs_app 5 l3 [t20]) (a_ (sub_app (cInt .i64) default 1 l3 [t20]) tr))) (a_ (a_ (a_ (Eq.refl 1) gL1_7) tr) (a_ (a_ (a_ (Eq.refl 1) (a_ (lt_rowC (fun z_ : List (Int) => [.ds 1 (z_).length (rowF (cInt .i64) default z_)]) default l2 2 (l3).length (t13.toNat) gL1_8) (ltN0 gL1_7))) (a_ (sub_rowC (fun z_ : List (Int) => [.ds 1 (z_).length (rowF (cInt .i64) default z_)]) default ((((l).length : Int)).toNat) l2 2 (l3).length 5 ((l3 ++ [t20])).length (t13.toNat) gL1_8) tr)) tr))))))))))) (a_ (a_ (a_ tr tr) (a_ (a_ tr tr) tr)) tr))))) (ih _ _ r h) (by kernel_rfl) (renH_some (ren_rowC (fun z_ : List (Int) => [.ds 1 (z_).length (rowF (cInt .i64) default z_)]) default (fun _ => rfl)) (renH_some rfl (renH_some rfl renH_nil))) ⟨under_rowC (fun z_ : List (Int) => [.ds 1 (z_).length (rowF (cInt .i64) default z_)]) default (fun _ => rfl) _ _ _ _ rfl, rfl, fun _ _ => rfl, trivial⟩
        · skip
          exact run_to_h mixed [some (.row 1 ((((l).length : Int)).toNat) (rowC (fun z_ : List (Int) => [.ds 1 (z_).length (rowF (cInt .i64) default z_)]) default l2 2 (l3).length) true), some (.var (c_T_hist_Tx (l.getD t13.toNat default))), some (.gr 1 (l3).length (rowF (cInt .i64) default l3))] hμ (L := [0, 1, 2]) (n := 29) (s := [.go, .reg [(0, { v := some (.bool true) })], .reg [], .reg [(3, { v := some (.bool true) }), (6, { call := some (hist_isAhead_v yL1_5, [], []) }), (7, { v := some (.bool false) })], .reg []])
            (a_ (a_ (a_ tr (a_ (leB cL1_1) tr)) tr) (a_ (a_ (a_ tr tr) (a_ (a_ (a_ (Eq.refl 4) gL1_2) tr) (a_ (a_ (le_ 4 4 rfl) tr) (a_ (a_ tr tr) (a_ (a_ tr tr) (a_ (a_ (a_ (Eq.refl 4) (a_ (le_ 4 4 rfl) (Eq.refl 0))) tr) tr)))))) (a_ (a_ (a_ tr tr) (a_ (a_ tr tr) (a_ (a_ tr tr) (a_ (a_ tr (a_ (leB cL1_3) tr)) (a_ (a_ (a_ tr (le_ 4 4 rfl)) tr) (a_ (a_ (a_ tr (le_ 4 4 rfl)) tr) (a_ (a_ (a_ (hist_isAhead_tri (l.getD t13.toNat default) (l.getD t20.toNat default) yL1_5 eL1_4) tr) tr) (a_ (a_ tr (a_ (leB cL1_6) tr)) tr)))))))) (a_ (a_ (a_ tr tr) (a_ (a_ tr tr) tr)) tr)))) (ih _ _ r h) (by kernel_rfl) (renH_some (ren_rowC (fun z_ : List (Int) => [.ds 1 (z_).length (rowF (cInt .i64) default z_)]) default (fun _ => rfl)) (renH_some rfl (renH_some rfl renH_nil))) ⟨under_rowC (fun z_ : List (Int) => [.ds 1 (z_).length (rowF (cInt .i64) default z_)]) default (fun _ => rfl) _ _ _ _ rfl, rfl, fun _ _ => rfl, trivial⟩
      · skip
        exact run_to_h mixed [some (.row 1 ((((l).length : Int)).toNat) (rowC (fun z_ : List (Int) => [.ds 1 (z_).length (rowF (cInt .i64) default z_)]) default l2 2 (l3).length) true), some (.var (c_T_hist_Tx (l.getD t13.toNat default))), some (.gr 1 (l3).length (rowF (cInt .i64) default l3))] hμ (L := [0, 1, 2]) (n := 29) (s := [.go, .reg [(0, { v := some (.bool true) })], .reg [], .reg [(3, { v := some (.bool false) })], .reg []])
          (a_ (a_ (a_ tr (a_ (leB cL1_1) tr)) tr) (a_ (a_ (a_ tr tr) (a_ (a_ (a_ (Eq.refl 4) gL1_2) tr) (a_ (a_ (le_ 4 4 rfl) tr) (a_ (a_ tr tr) (a_ (a_ tr tr) (a_ (a_ (a_ (Eq.refl 4) (a_ (le_ 4 4 rfl) (Eq.refl 0))) tr) tr)))))) (a_ (a_ (a_ tr tr) (a_ (a_ tr tr) (a_ (a_ tr tr) (a_ (a_ tr (a_ (leB cL1_3) tr)) (a_ tr (a_ tr (a_ tr (a_ (a_ tr tr) tr)))))))) (a_ (a_ (a_ tr tr) (a_ (a_ tr tr) tr)) tr)))) (ih _ _ r h) (by kernel_rfl) (renH_some (ren_rowC (fun z_ : List (Int) => [.ds 1 (z_).length (rowF (cInt .i64) default z_)]) default (fun _ => rfl)) (renH_some rfl (renH_some rfl renH_nil))) ⟨under_rowC (fun z_ : List (Int) => [.ds 1 (z_).length (rowF (cInt .i64) default z_)]) default (fun _ => rfl) _ _ _ _ rfl, rfl, fun _ _ => rfl, trivial⟩
    · skip
      exact run_to_h mixed [some (.row 1 ((((l).length : Int)).toNat) (rowN (fun z_ : List (Int) => [.ds 1 (z_).length (rowF (cInt .i64) default z_)]) default (l2 ++ [l3])) true)] hμ (L := [0]) (n := 21) (s := [.go, .reg [(0, { v := some (.bool false) })], .reg [], .frz 2, .wk [] [(0, .row 1 ((((l).length : Int)).toNat) (rowN (fun z_ : List (Int) => [.ds 1 (z_).length (rowF (cInt .i64) default z_)]) default (l2 ++ [l3])) true)]])
        (a_ (a_ (a_ tr (a_ (leB cL1_1) tr)) tr) (a_ (a_ (a_ tr tr) (a_ (a_ tr tr) tr)) (a_ (a_ (fz_row (enc := (cInt .i64)) (d := default) (fun _ => rfl) l3) (a_ (ob_close (fun z_ : List (Int) => [.ds 1 (z_).length (rowF (cInt .i64) default z_)]) default ((((l).length : Int)).toNat) l2 2 1 (l3).length (rowF (cInt .i64) default l3) (fun _ => rfl)) tr)) (a_ (a_ tr (a_ (sub_close (fun z_ : List (Int) => [.ds 1 (z_).length (rowF (cInt .i64) default z_)]) default ((((l).length : Int)).toNat) l2 l3 2 1 (l3).length (rowF (cInt .i64) default l3) (fun _ => rfl) rfl) tr)) tr)))) (hk0 _ _ r h) (by kernel_rfl) (renH_some (ren_rowN (fun z_ : List (Int) => [.ds 1 (z_).length (rowF (cInt .i64) default z_)]) default (fun _ => rfl)) renH_nil) ⟨under_rowN (fun z_ : List (Int) => [.ds 1 (z_).length (rowF (cInt .i64) default z_)]) default (fun _ => rfl) _ _, trivial⟩

theorem hist_graph_l0_ok {w0 : World} {W : Nat → Prop} {μ0 : Emb} (hμ : ∀ c p, μ0 c = some p → c < 0) (l : List (T_hist_Tx))  : ∀ (fuel : Nat) (t13 : Int) (l2 : List (List (Int))) (r : (List (List (Int)))), hist_graph_l0 l  fuel t13 l2 = some r → kont Try.prog w0 W μ0 (FnPost Try.prog Try.f22 0 0 (hist_graph_v r) []) (kAt (bodyOf Try.f22) 0) none (hist_graph_T0 l t13 l2) (hist_graph_H0 l t13 l2) := by
  intro fuel
  induction fuel with
  | zero => intro t13 l2 r h; rw [hist_graph_l0] at h; cases h
  | succ fuel ih =>
    intro t13 l2 r h
    rw [hist_graph_l0] at h
    rcases itb_some h with ⟨cL0_1, h⟩ | ⟨cL0_1, h⟩
    · skip
      obtain ⟨gL0_2, h⟩ := guard_some h
      exact run_to_h mixed [some (.row 1 ((((l).length : Int)).toNat) (rowC (fun z_ : List (Int) => [.ds 1 (z_).length (rowF (cInt .i64) default z_)]) default l2 2 (([] : List (Int))).length) true), some (.var (c_T_hist_Tx (l.getD t13.toNat default))), some (.gr 1 (([] : List (Int))).length (rowF (cInt .i64) default ([] : List (Int))))] hμ (L := [0, 1, 2]) (n := 28) (s := [.go, .reg [(0, { v := some (.bool true) })], .reg [], .reg [], .void (.gr 1 (([] : List (Int))).length (rowF (cInt .i64) default ([] : List (Int)))), .wk [] [(0, .row 1 ((((l).length : Int)).toNat) (rowC (fun z_ : List (Int) => [.ds 1 (z_).length (rowF (cInt .i64) default z_)]) default l2 2 (([] : List (Int))).length) true)]])
        (a_ (a_ (a_ tr (a_ (leB cL0_1) tr)) tr) (a_ (a_ (a_ tr tr) (a_ (a_ (a_ (Eq.refl 4) gL0_2) tr) (a_ (a_ (le_ 4 4 rfl) tr) (a_ (a_ tr tr) (a_ (a_ tr tr) (a_ (a_ (a_ (Eq.refl 4) (a_ (le_ 4 4 rfl) (Eq.refl 0))) tr) tr)))))) (a_ (a_ (a_ tr tr) (a_ (a_ tr tr) (a_ (a_ tr tr) tr))) (a_ (Eq.refl 0) (a_ (a_ tr (a_ (sub_open (fun z_ : List (Int) => [.ds 1 (z_).length (rowF (cInt .i64) default z_)]) default ((((l).length : Int)).toNat) l2 2) tr)) tr))))) (hist_graph_l1_ok hμ l t13 l2 (hist_graph_l0 l  fuel) (fun t13 l2 r h => ih t13 l2 r h) big _ _ r h) (by kernel_rfl) (renH_some (ren_rowC (fun z_ : List (Int) => [.ds 1 (z_).length (rowF (cInt .i64) default z_)]) default (fun _ => rfl)) (renH_some rfl (renH_some rfl renH_nil))) ⟨under_rowC (fun z_ : List (Int) => [.ds 1 (z_).length (rowF (cInt .i64) default z_)]) default (fun _ => rfl) _ _ _ _ rfl, rfl, fun _ _ => rfl, trivial⟩
    · skip
      obtain ⟨gL0_2, h⟩ := guard_some h
      obtain rfl := Option.some.inj h
      exact run_ret mixed (L := []) (n := 21) (s := [.go, .reg [(0, { v := some (.bool false) })], .reg [], .frz 0, .wk [(2, .ds 1 (l2).length (rowF (fun z_ : List (Int) => [.ds 1 (z_).length (rowF (cInt .i64) default z_)]) default l2)), (3, .ds 1 (l2).length (rowF (fun z_ : List (Int) => [.ds 1 (z_).length (rowF (cInt .i64) default z_)]) default l2)), (45, .ds 1 (l2).length (rowF (fun z_ : List (Int) => [.ds 1 (z_).length (rowF (cInt .i64) default z_)]) default l2))] []])
        (a_ (a_ (a_ (a_ tr (a_ (leB cL0_1) tr)) tr) (a_ (a_ (a_ tr tr) (a_ (a_ tr tr) tr)) (a_ (a_ (fz_rowN (fun z_ : List (Int) => [.ds 1 (z_).length (rowF (cInt .i64) default z_)]) default (fun _ => rfl) l2 ((((l).length : Int)).toNat)) (a_ (fz_sl (n := ((((l).length : Int)).toNat)) (m := ((((l).length : Int)).toNat)) rfl) (a_ (fz_sl (n := ((((l).length : Int)).toNat)) (m := ((((l).length : Int)).toNat)) rfl) (a_ (fz_sl (n := ((((l).length : Int)).toNat)) (m := ((((l).length : Int)).toNat)) rfl) (a_ (ob_self (fun z_ : List (Int) => [.ds 1 (z_).length (rowF (cInt .i64) default z_)]) default l2 0 1 ((((l).length : Int)).toNat) (rowN (fun z_ : List (Int) => [.ds 1 (z_).length (rowF (cInt .i64) default z_)]) default l2) ((((l).length : Int)).toNat) (fun _ => rfl)) tr))))) (a_ (a_ (a_ (le_fz_n (fun z_ : List (Int) => [.ds 1 (z_).length (rowF (cInt .i64) default z_)]) default l2 gL0_2) (a_ (le_fz_n (fun z_ : List (Int) => [.ds 1 (z_).length (rowF (cInt .i64) default z_)]) default l2 gL0_2) (a_ (le_fz_n (fun z_ : List (Int) => [.ds 1 (z_).length (rowF (cInt .i64) default z_)]) default l2 gL0_2) tr))) tr) tr)))) tr) (by kernel_rfl) rfl

theorem hist_graph_ok (l : List (T_hist_Tx)) (r : (List (List (Int)))) (h : hist_graph l = some r) : ∀ σ, Inj 0 σ → FnTri Try.prog 22 (renL σ [.ds 4 (l).length (rowF c_T_hist_Tx default l)]) (preOf σ 0 []) ((hist_graph_v r).ren σ) (upOf σ []) := by
  refine fn_of Try.func22 (by kernel_rfl) (by kernel_rfl) (by kernel_rfl) trivial (by kernel_rfl) trivial (by kernel_rfl) ?_
  intro w0 W μ0 hμ
  unfold hist_graph at h
  obtain ⟨g1, h⟩ := guard_some h
  exact run_to_h mixed [some (.row 1 ((((l).length : Int)).toNat) (rowN (fun z_ : List (Int) => [.ds 1 (z_).length (rowF (cInt .i64) default z_)]) default ([] : List (List (Int)))) true)] hμ (L := [0]) (n := 21) (s := [.reg [(0, { v := some (.ds 1 (([] : List (List (Int)))).length (rowF (fun z_ : List (Int) => [.ds 1 (z_).length (rowF (cInt .i64) default z_)]) default ([] : List (List (Int))))) })], .reg [(2, { os := [(0, .row 1 ((((l).length : Int)).toNat) (rowN (fun z_ : List (Int) => [.ds 1 (z_).length (rowF (cInt .i64) default z_)]) default ([] : List (List (Int)))) true)], v := some (.sl 0 0 0 false ((((l).length : Int)).toNat) none) })], .reg []])
    (a_ (a_ (a_ tr (a_ (le_nil_ds 1 (rowF (fun z_ : List (Int) => [.ds 1 (z_).length (rowF (cInt .i64) default z_)]) default [])) tr)) tr) (a_ (a_ (a_ tr tr) (a_ (a_ tr tr) (a_ (a_ (a_ g1.1 (a_ g1.2.1 (a_ g1.2.2.1 (a_ g1.2.2.2 (a_ (Eq.refl true) (a_ (Eq.refl 1) (lt_ 0 1 rfl))))))) (a_ (le_cap 0 0 0 false ((((l).length : Int)).toNat) ((((l).length : Int)).toNat)) (a_ (sub_nmade (fun z_ : List (Int) => [.ds 1 (z_).length (rowF (cInt .i64) default z_)]) default ((((l).length : Int)).toNat)) tr))) (a_ (a_ tr tr) tr)))) (a_ (a_ (a_ tr tr) (a_ (a_ tr tr) (a_ (a_ tr tr) tr))) tr))) (hist_graph_l0_ok hμ l  big _ _ r h) (by kernel_rfl) (renH_some (ren_rowN (fun z_ : List (Int) => [.ds 1 (z_).length (rowF (cInt .i64) default z_)]) default (fun _ => rfl)) renH_nil) ⟨under_rowN (fun z_ : List (Int) => [.ds 1 (z_).length (rowF (cInt .i64) default z_)]) default (fun _ => rfl) _ _, trivial⟩

theorem hist_graph_tri (l : List (T_hist_Tx)) (r : (List (List (Int)))) (h : hist_graph l = some r) : FnTri Try.prog 22 [.ds 4 (l).length (rowF c_T_hist_Tx default l)] [] (hist_graph_v r) [] := FnTri.none (hist_graph_ok l r h) rfl rfl

/-- slices.Index[[]int,int] -/

def slices_Index_int_int_v (r : (Int)) : LV := .int .i64 r

def slices_Index_int_int_up (s : List (Int)) (s_n : Nat) (v : Int) (r : (Int)) : Upd := [(0, some (.row 1 (s).length (rowF (cInt .i64) default s) true))]

def slices_Index_int_int_objs (s : List (Int)) (s_n : Nat) (v : Int) : List LO := [.row 1 (s).length (rowF (cInt .i64) default s) true]

def slices_Index_int_int_T0 (s : List (Int)) (s_n : Nat) (v : Int) (t8 : Int) : List LV := [.sl 0 0 0 false s_n none, .int .i64 v, .any, .any, .any, .any, .any, .int .i64 ((s_n : Nat) : Int), .int .i64 t8, .any, .any, .any, .any, .any, .any, .any, .any, .any, .any]

def slices_Index_int_int_H0 (s : List (Int)) (s_n : Nat) (v : Int) (t8 : Int) : Heap := [some (.row 1 (s).length (rowF (cInt .i64) default s) true)]

def slices_Index_int_int_l0 (s : List (Int)) (s_n : Nat) (v : Int)  : Nat → (Int) → Option ((Int))
  | 0, _ => none
  | fuel + 1, t8 =>
    if ((decide (t8 < ((s_n : Nat) : Int))) : Bool) then
      if 0 ≤ t8 ∧ t8 < ((s_n : Nat) : Int) then
      if (0 + t8.toNat) < (s).length then
      if ((v == (s.getD (0 + t8.toNat) default)) : Bool) then
        some t8
      else
        slices_Index_int_int_l0 s s_n v  fuel (IntKind.wrap .i64 (t8 + 1))
      else none
      else none
    else
      some (-1)

def slices_Index_int_int (s : List (Int)) (s_n : Nat) (v : Int) : Option ((Int)) :=
  slices_Index_int_int_l0 s s_n v  big 0

theorem slices_Index_int_int_l0_ok {w0 : World} {W : Nat → Prop} {μ0 : Emb} (hμ : ∀ c p, μ0 c = some p → c < 1) (s : List (Int)) (s_n : Nat) (v : Int)  : ∀ (fuel : Nat) (t8 : Int) (r : (Int)), slices_Index_int_int_l0 s s_n v  fuel t8 = some r → kont Try.prog w0 W μ0 (FnPost Try.prog Try.f38 1 1 (slices_Index_int_int_v r) (slices_Index_int_int_up s s_n v r)) (kAt (bodyOf Try.f38) 0) none (slices_Index_int_int_T0 s s_n v t8) (slices_Index_int_int_H0 s s_n v t8) := by
  intro fuel
  induction fuel with
  | zero => intro t8 r h; rw [slices_Index_int_int_l0] at h; cases h
  | succ fuel ih =>
    intro t8 r h
    rw [slices_Index_int_int_l0] at h
    rcases itb_some h with ⟨cL0_1, h⟩ | ⟨cL0_1, h⟩
    · skip
      obtain ⟨gL0_2, h⟩ := guard_some h
      obtain ⟨gL0_3, h⟩ := guard_some h
      rcases itb_some h with ⟨cL0_4, h⟩ | ⟨cL0_4, h⟩
      · skip
        obtain rfl := Option.some.inj h
        exact run_ret mixed (L := []) (n := 28) (s := [.go, .reg [(0, { v := some (.bool true) })], .reg [], .reg [(5, { v := some (.bool true) })], .reg []])
          (a_ (a_ (a_ (a_ tr (a_ (leB cL0_1) tr)) tr) (a_ (a_ (a_ tr tr) (a_ (a_ tr tr) tr)) (a_ (a_ (a_ tr tr) (a_ (a_ tr tr) (a_ (a_ tr tr) (a_ (a_ (a_ (Eq.refl 1) gL0_2) tr) (a_ (a_ (a_ gL0_3 (lt_ 0 1 rfl)) tr) (a_ (a_ tr (a_ (leB cL0_4) tr)) tr)))))) (a_ (a_ (a_ tr tr) (a_ (a_ tr tr) tr)) tr)))) tr) (by kernel_rfl) rfl
      · skip
        exact run_to mixed hμ (L := []) (n := 29) (s := [.go, .reg [(0, { v := some (.bool true) })], .reg [], .reg [(5, { v := some (.bool false) })], .reg []])
          (a_ (a_ (a_ tr (a_ (leB cL0_1) tr)) tr) (a_ (a_ (a_ tr tr) (a_ (a_ tr tr) tr)) (a_ (a_ (a_ tr tr) (a_ (a_ tr tr) (a_ (a_ tr tr) (a_ (a_ (a_ (Eq.refl 1) gL0_2) tr) (a_ (a_ (a_ gL0_3 (lt_ 0 1 rfl)) tr) (a_ (a_ tr (a_ (leB cL0_4) tr)) tr)))))) (a_ (a_ (a_ tr tr) (a_ (a_ tr tr) tr)) tr)))) (ih _ r h) (by kernel_rfl) ⟨fun _ _ => rfl, trivial⟩
    · skip
      obtain rfl := Option.some.inj h
      exact run_ret mixed (L := []) (n := 19) (s := [.go, .reg [(0, { v := some (.bool false) })], .reg []])
        (a_ (a_ (a_ (a_ tr (a_ (leB cL0_1) tr)) tr) (a_ (a_ (a_ tr tr) tr) tr)) tr) (by kernel_rfl) rfl

theorem slices_Index_int_int_ok (s : List (Int)) (s_n : Nat) (v : Int) (r : (Int)) (h : slices_Index_int_int s s_n v = some r) : ∀ σ, Inj 1 σ → FnTri Try.prog 38 (renL σ [.sl 0 0 0 false s_n none, .int .i64 v]) (preOf σ 0 (slices_Index_int_int_objs s s_n v)) ((slices_Index_int_int_v r).ren σ) (upOf σ (slices_Index_int_int_up s s_n v r)) := by
  refine fn_of Try.func38 (by kernel_rfl) (by kernel_rfl) (by kernel_rfl) ⟨fun _ _ => rfl, trivial⟩ (by kernel_rfl) ⟨fun _ _ => rfl, trivial⟩ (by kernel_rfl) ?_
  intro w0 W μ0 hμ
  unfold slices_Index_int_int at h
  exact run_to mixed hμ (L := []) (n := 18) (s := [.reg [], .reg []])
    (a_ (a_ (a_ tr tr) tr) (a_ (a_ (a_ tr tr) (a_ (a_ tr tr) (a_ (a_ tr tr) tr))) tr)) (slices_Index_int_int_l0_ok hμ s s_n v  big _ r h) (by kernel_rfl) ⟨fun _ _ => rfl, trivial⟩

/-- parrel/hist.order -/

def hist_order_v (r : (List (Int))) : LV := .ds 1 (r).length (rowF (cInt .i64) default r)

def hist_order_T1 (g : List (List (Int))) (t17 : Int) (t23 : Int) (l2 : List (Int)) : List LV := [.ds 1 (g).length (rowF (fun z_ : List (Int) => [.ds 1 (z_).length (rowF (cInt .i64) default z_)]) default g), .any, .any, .sl 0 0 0 false ((((g).length : Int)).toNat) none, .any, .any, .any, .any, .any, .any, .any, .any, .any, .any, .any, .ds 1 (g).length (rowF (fun z_ : List (Int) => [.ds 1 (z_).length (rowF (cInt .i64) default z_)]) default g), .int .i64 ((g).length : Int), .int .i64 t17, .any, .any, .any, .ds 1 ((g.getD t17.toNat default)).length (rowF (cInt .i64) default (g.getD t17.toNat default)), .int .i64 (((g.getD t17.toNat default)).length : Int), .int .i64 t23, .any, .any, .any, .any, .any, .any, .any, .any, .any, .any, .any, .any, .any, .any, .any, .any, .any, .any, .any, .any, .any, .any, .any, .any, .any, .any, .any, .any, .any, .any, .any, .any, .any, .any, .any, .any, .any, .any, .any]

def hist_order_H1 (g : List (List (Int))) (t17 : Int) (t23 : Int) (l2 : List (Int)) : Heap := [some (.row 1 (l2).length (rowF (cInt .i64) default l2) true)]

def hist_order_T3 (g : List (List (Int))) (l4 : List (Int)) (yL2_2 : (Int)) (t48 : Int) (l5 : List (Int)) : List LV := [.ds 1 (g).length (rowF (fun z_ : List (Int) => [.ds 1 (z_).length (rowF (cInt .i64) default z_)]) default g), .any, .any, .sl 0 0 0 false ((((g).length : Int)).toNat) none, .any, .any, .any, .any, .gs 1 (l4).length, .int .i64 yL2_2, .any, .any, .any, .any, .any, .any, .any, .any, .any, .any, .any, .any, .any, .any, .any, .any, .any, .any, .any, .any, .any, .any, .any, .any, .any, .any, .any, .any, .any, .any, .any, .any, .any, .any, .any, .any, .ds 1 ((g.getD yL2_2.toNat default)).length (rowF (cInt .i64) default (g.getD yL2_2.toNat default)), .int .i64 (((g.getD yL2_2.toNat default)).length : Int), .int .i64 t48, .any, .any, .any, .any, .any, .any, .any, .any, .any, .any, .any, .any, .any, .any]

def hist_order_H3 (g : List (List (Int))) (l4 : List (Int)) (yL2_2 : (Int)) (t48 : Int) (l5 : List (Int)) : Heap := [some (.row 1 (l5).length (rowF (cInt .i64) default l5) true), some (.gr 1 (l4).length (rowF (cInt .i64) default l4))]

def hist_order_T2 (g : List (List (Int))) (l3 : List (Int)) (l4 : List (Int)) : List LV := [.ds 1 (g).length (rowF (fun z_ : List (Int) => [.ds 1 (z_).length (rowF (cInt .i64) default z_)]) default g), .any, .any, .sl 0 0 0 false ((((g).length : Int)).toNat) none, .any, .any, .any, .any, .gs 1 (l4).length, .any, .any, .any, .any, .any, .any, .any, .any, .any, .any, .any, .any, .any, .any, .any, .any, .any, .any, .any, .any, .any, .any, .any, .any, .any, .any, .any, .any, .any, .any, .any, .any, .any, .any, .any, .any, .any, .any, .any, .any, .any, .any, .any, .any, .any, .any, .any, .any, .any, .any, .any, .any, .any, .any]

def hist_order_H2 (g : List (List (Int))) (l3 : List (Int)) (l4 : List (Int)) : Heap := [some (.row 1 (l3).length (rowF (cInt .i64) default l3) true), some (.gr 1 (l4).length (rowF (cInt .i64) default l4))]

def hist_order_T0 (g : List (List (Int))) (t17 : Int) (l : List (Int)) : List LV := [.ds 1 (g).length (rowF (fun z_ : List (Int) => [.ds 1 (z_).length (rowF (cInt .i64) default z_)]) default g), .any, .any, .sl 0 0 0 false ((((g).length : Int)).toNat) none, .any, .any, .any, .any, .any, .any, .any, .any, .any, .any, .any, .ds 1 (g).length (rowF (fun z_ : List (Int) => [.ds 1 (z_).length (rowF (cInt .i64) default z_)]) default g), .int .i64 ((g).length : Int), .int .i64 t17, .any, .any, .any, .any, .any, .any, .any, .any, .any, .any, .any, .any, .any, .any, .any, .any, .any, .any, .any, .any, .any, .any, .any, .any, .any, .any, .any, .any, .any, .any, .any, .any, .any, .any, .any, .any, .any, .any, .any, .any, .any, .any, .any, .any, .any]

def hist_order_H0 (g : List (List (Int))) (t17 : Int) (l : List (Int)) : Heap := [some (.row 1 (l).length (rowF (cInt .i64) default l) true)]

def hist_order_l1 (g : List (List (Int))) (t17 : Int) (k0 : (Int) → (List (Int)) → Option ((List (Int)))) : Nat → (Int) → (List (Int)) → Option ((List (Int)))
  | 0, _, _ => none
  | fuel + 1, t23, l2 =>
    if ((decide (t23 < (((g.getD t17.toNat default)).length : Int))) : Bool) then
      if 0 ≤ t23 ∧ t23 < ((((g.getD t17.toNat default)).length : Nat) : Int) then
      if 0 ≤ ((g.getD t17.toNat default).getD t23.toNat default) ∧ ((g.getD t17.toNat default).getD t23.toNat default) < ((((((g).length : Int)).toNat) : Nat) : Int) then
      if (0 + (((g.getD t17.toNat default).getD t23.toNat default)).toNat) < (l2).length then
      hist_order_l1 g t17 k0 fuel (IntKind.wrap .i64 (t23 + 1)) (l2.set (0 + (((g.getD t17.toNat default).getD t23.toNat default)).toNat) (IntKind.wrap .i64 ((l2.getD (0 + (((g.getD t17.toNat default).getD t23.toNat default)).toNat) default) + 1)))
      else none
      else none
      else none
    else
      k0 (IntKind.wrap .i64 (t17 + 1)) l2

def hist_order_l3 (g : List (List (Int))) (l4 : List (Int)) (yL2_2 : (Int)) (k2 : (List (Int)) → (List (Int)) → Option ((List (Int)))) : Nat → (Int) → (List (Int)) → Option ((List (Int)))
  | 0, _, _ => none
  | fuel + 1, t48, l5 =>
    if ((decide (t48 < (((g.getD yL2_2.toNat default)).length : Int))) : Bool) then
      if 0 ≤ t48 ∧ t48 < ((((g.getD yL2_2.toNat default)).length : Nat) : Int) then
      if 0 ≤ ((g.getD yL2_2.toNat default).getD t48.toNat default) ∧ ((g.getD yL2_2.toNat default).getD t48.toNat default) < ((((((g).length : Int)).toNat) : Nat) : Int) then
      if (0 + (((g.getD yL2_2.toNat default).getD t48.toNat default)).toNat) < (l5).length then
      hist_order_l3 g l4 yL2_2 k2 fuel (IntKind.wrap .i64 (t48 + 1)) (l5.set (0 + (((g.getD yL2_2.toNat default).getD t48.toNat default)).toNat) (IntKind.wrap .i64 ((l5.getD (0 + (((g.getD yL2_2.toNat default).getD t48.toNat default)).toNat) default) - 1)))
      else none
      else none
      else none
    else
      if ((l4).length + ([yL2_2]).length) * 8 ≤ 140737488351232 then
      k2 l5 (l4 ++ [yL2_2])
      else none

def hist_order_l2 (g : List (List (Int)))  : Nat → (List (Int)) → (List (Int)) → Option ((List (Int)))
  | 0, _, _ => none
  | fuel + 1, l3, l4 =>
    (slices_Index_int_int l3 ((((g).length : Int)).toNat) 0).bind fun yL2_2 =>
    if ((decide (yL2_2 < 0)) : Bool) then
      some l4
    else
      if 0 ≤ yL2_2 ∧ yL2_2 < ((((((g).length : Int)).toNat) : Nat) : Int) then
      if (0 + yL2_2.toNat) < (l3).length then
      if 0 ≤ yL2_2 ∧ yL2_2 < (((g).length : Nat) : Int) then
      hist_order_l3 g l4 yL2_2 (hist_order_l2 g  fuel) big 0 (l3.set (0 + yL2_2.toNat) (-1))
      else none
      else none
      else none

def hist_order_l0 (g : List (List (Int)))  : Nat → (Int) → (List (Int)) → Option ((List (Int)))
  | 0, _, _ => none
  | fuel + 1, t17, l =>
    if ((decide (t17 < ((g).length : Int))) : Bool) then
      if 0 ≤ t17 ∧ t17 < (((g).length : Nat) : Int) then
      hist_order_l1 g t17 (hist_order_l0 g  fuel) big 0 l
      else none
    else
      hist_order_l2 g  big l ([] : List (Int))

def hist_order (g : List (List (Int))) : Option ((List (Int))) :=
  if 0 ≤ ((g).length : Int) ∧ ((g).length : Int) ≤ ((g).length : Int) ∧ ((g).length : Int) * 8 ≤ 140737488351232 ∧ ((g).length : Int) ≤ 9223372036854775807 then
  hist_order_l0 g  big 0 (List.replicate ((((g).length : Int)).toNat) 0 : List (Int))
  else none

theorem hist_order_l1_ok {w0 : World} {W : Nat → Prop} {μ0 : Emb} (hμ : ∀ c p, μ0 c = some p → c < 0) (g : List (List (Int))) (t17 : Int) (k0 : (Int) → (List (Int)) → Option ((List (Int)))) (hk0 : ∀ (t17 : Int) (l : List (Int)) (r : (List (Int))), k0 t17 l = some r → kont Try.prog w0 W μ0 (FnPost Try.prog Try.f21 0 0 (hist_order_v r) []) (kAt (bodyOf Try.f21) 0) none (hist_order_T0 g t17 l) (hist_order_H0 g t17 l)) : ∀ (fuel : Nat) (t23 : Int) (l2 : List (Int)) (r : (List (Int))), hist_order_l1 g t17 k0 fuel t23 l2 = some r → kont Try.prog w0 W μ0 (FnPost Try.prog Try.f21 0 0 (hist_order_v r) []) (kAt (bodyOf Try.f21) 1) none (hist_order_T1 g t17 t23 l2) (hist_order_H1 g t17 t23 l2) := by
  intro fuel
  induction fuel with
  | zero => intro t23 l2 r h; rw [hist_order_l1] at h; cases h
  | succ fuel ih =>
    intro t23 l2 r h
    rw [hist_order_l1] at h
    rcases itb_some h with ⟨cL1_1, h⟩ | ⟨cL1_1, h⟩
    · skip
      obtain ⟨gL1_2, h⟩ := guard_some h
      obtain ⟨gL1_3, h⟩ := guard_some h
      obtain ⟨gL1_4, h⟩ := guard_some h
      exact run_to mixed hμ (L := [0]) (n := 26) (s := [.go, .reg [(0, { v := some (.bool true) })], .reg [], .reg [(6, { os := [(0, .row 1 ((l2.set (0 + (((g.getD t17.toNat default).getD t23.toNat default)).toNat) (IntKind.wrap .i64 ((l2.getD (0 + (((g.getD t17.toNat default).getD t23.toNat default)).toNat) default) + 1)))).length (rowF (cInt .i64) default (l2.set (0 + (((g.getD t17.toNat default).getD t23.toNat default)).toNat) (IntKind.wrap .i64 ((l2.getD (0 + (((g.getD t17.toNat default).getD t23.toNat default)).toNat) default) + 1)))) true)] })], .reg []])
        (a_ (a_ (a_ tr (a_ (leB cL1_1) tr)) tr) (a_ (a_ (a_ (a_ (Eq.refl 1) gL1_2) tr) (a_ (a_ (lt_ 0 1 rfl) tr) (a_ (a_ tr tr) tr))) (a_ (a_ (a_ tr tr) (a_ (a_ tr tr) (a_ (a_ (a_ (Eq.refl 1) gL1_3) tr) (a_ (a_ (a_ gL1_4 (lt_ 0 1 rfl)) tr) (a_ (a_ tr tr) (a_ (a_ (a_ (Eq.refl 1) gL1_3) tr) (a_ (a_ (a_ (Eq.refl 1) (a_ (le_ 1 1 rfl) gL1_4)) (a_ (sub_set_row (cInt .i64) default 1 l2 (0 + (((g.getD t17.toNat default).getD t23.toNat default)).toNat) (IntKind.wrap .i64 ((l2.getD (0 + (((g.getD t17.toNat default).getD t23.toNat default)).toNat) default) + 1)) gL1_4 (splL (rowF (cInt .i64) default l2 (0 + (((g.getD t17.toNat default).getD t23.toNat default)).toNat)) 0 [.int .i64 (IntKind.wrap .i64 ((l2.getD (0 + (((g.getD t17.toNat default).getD t23.toNat default)).toNat) default) + 1))]) (by kernel_rfl)) tr)) tr))))))) (a_ (a_ (a_ tr tr) (a_ (a_ tr tr) tr)) tr)))) (ih _ _ r h) (by kernel_rfl) ⟨fun _ _ => rfl, trivial⟩
    · skip
      exact run_to mixed hμ (L := [0]) (n := 19) (s := [.go, .reg [(0, { v := some (.bool false) })], .reg []])
        (a_ (a_ (a_ tr (a_ (leB cL1_1) tr)) tr) (a_ (a_ (a_ tr tr) (a_ (a_ tr tr) tr)) tr)) (hk0 _ _ r h) (by kernel_rfl) ⟨fun _ _ => rfl, trivial⟩

theorem hist_order_l3_ok {w0 : World} {W : Nat → Prop} {μ0 : Emb} (hμ : ∀ c p, μ0 c = some p → c < 0) (g : List (List (Int))) (l4 : List (Int)) (yL2_2 : (Int)) (k2 : (List (Int)) → (List (Int)) → Option ((List (Int)))) (hk2 : ∀ (l3 : List (Int)) (l4 : List (Int)) (r : (List (Int))), k2 l3 l4 = some r → kont Try.prog w0 W μ0 (FnPost Try.prog Try.f21 0 0 (hist_order_v r) []) (kAt (bodyOf Try.f21) 2) none (hist_order_T2 g l3 l4) (hist_order_H2 g l3 l4)) : ∀ (fuel : Nat) (t48 : Int) (l5 : List (Int)) (r : (List (Int))), hist_order_l3 g l4 yL2_2 k2 fuel t48 l5 = some r → kont Try.prog w0 W μ0 (FnPost Try.prog Try.f21 0 0 (hist_order_v r) []) (kAt (bodyOf Try.f21) 3) none (hist_order_T3 g l4 yL2_2 t48 l5) (hist_order_H3 g l4 yL2_2 t48 l5) := by
  intro fuel
  induction fuel with
  | zero => intro t48 l5 r h; rw [hist_order_l3] at h; cases h
  | succ fuel ih =>
    intro t48 l5 r h
    rw [hist_order_l3] at h
    rcases itb_some h with ⟨cL3_1, h⟩ | ⟨cL3_1, h⟩
    · skip
      obtain ⟨gL3_2, h⟩ := guard_some h
      obtain ⟨gL3_3, h⟩ := guard_some h
      obtain ⟨gL3_4, h⟩ := guard_some h
      exact run_to mixed hμ (L := [0, 1]) (n := 26) (s := [.go, .reg [(0, { v := some (.bool true) })], .reg [], .reg [(6, { os := [(0, .row 1 ((l5.set (0 + (((g.getD yL2_2.toNat default).getD t48.toNat default)).toNat) (IntKind.wrap .i64 ((l5.getD (0 + (((g.getD yL2_2.toNat default).getD t48.toNat default)).toNat) default) - 1)))).length (rowF (cInt .i64) default (l5.set (0 + (((g.getD yL2_2.toNat default).getD t48.toNat default)).toNat) (IntKind.wrap .i64 ((l5.getD (0 + (((g.getD yL2_2.toNat default).getD t48.toNat default)).toNat) default) - 1)))) true)] })], .reg []])
        (a_ (a_ (a_ tr (a_ (leB cL3_1) tr)) tr) (a_ (a_ (a_ (a_ (Eq.refl 1) gL3_2) tr) (a_ (a_ (lt_ 0 1 rfl) tr) (a_ (a_ tr tr) tr))) (a_ (a_ (a_ tr tr) (a_ (a_ tr tr) (a_ (a_ (a_ (Eq.refl 1) gL3_3) tr) (a_ (a_ (a_ gL3_4 (lt_ 0 1 rfl)) tr) (a_ (a_ tr tr) (a_ (a_ (a_ (Eq.refl 1) gL3_3) tr) (a_ (a_ (a_ (Eq.refl 1) (a_ (le_ 1 1 rfl) gL3_4)) (a_ (sub_set_row (cInt .i64) default 1 l5 (0 + (((g.getD yL2_2.toNat default).getD t48.toNat default)).toNat) (IntKind.wrap .i64 ((l5.getD (0 + (((g.getD yL2_2.toNat default).getD t48.toNat default)).toNat) default) - 1)) gL3_4 (splL (rowF (cInt .i64) default l5 (0 + (((g.getD yL2_2.toNat default).getD t48.toNat default)).toNat)) 0 [.int .i64 (IntKind.wrap .i64 ((l5.getD (0 + (((g.getD yL2_2.toNat default).getD t48.toNat default)).toNat) default) - 1))]) (by kernel_rfl)) tr)) tr))))))) (a_ (a_ (a_ tr tr) (a_ (a_ tr tr) tr)) tr)))) (ih _ _ r h) (by kernel_rfl) ⟨fun _ _ => rfl, fun _ _ => rfl, trivial⟩
    · skip
      obtain ⟨gL3_2, h⟩ := guard_some h
      exact run_to mixed hμ (L := [0, 3]) (n := 19) (s := [.go, .reg [(0, { v := some (.bool false) })], .reg [(2, { os := [(2, .gr 1 ([yL2_2]).length (rowF (cInt .i64) default [yL2_2]))], v := some (.gs 2 ([yL2_2]).length) }), (3, { app := 3, os := [(3, .gr 1 ((l4 ++ [yL2_2])).length (rowF (cInt .i64) default (l4 ++ [yL2_2])))], v := some (.gs 3 ((l4 ++ [yL2_2])).length) })]])
        (a_ (a_ (a_ tr (a_ (leB cL3_1) tr)) tr) (a_ (a_ (a_ tr tr) (a_ (a_ tr tr) (a_ (a_ (a_ (Eq.refl true) (a_ (Eq.refl 1) (a_ (lt_ 0 1 rfl) (le_ 1 16777216 rfl)))) (a_ (le_sl_gs 2 1 (some 1) rfl) (a_ (sub_lit (cInt .i64) default 1 (fun _ => rfl) [yL2_2]) tr))) (a_ (a_ (a_ (a_ (Eq.refl 1) (Nat.le_refl ([yL2_2]).length)) (a_ (a_ (lt_ 0 1 rfl) (a_ (lt_ 0 8 rfl) (a_ gL3_2 (a_ (Eq.refl 1) (Eq.refl true))))) (a_ (Eq.refl 1) (Nat.le_refl (l4).length)))) (a_ (le_gs_app 3 l4 [yL2_2]) (a_ (sub_app (cInt .i64) default 1 l4 [yL2_2]) tr))) (a_ (a_ tr tr) tr))))) tr)) (hk2 _ _ r h) (by kernel_rfl) ⟨fun _ _ => rfl, fun _ _ => rfl, trivial⟩

theorem hist_order_l2_ok {w0 : World} {W : Nat → Prop} {μ0 : Emb} (hμ : ∀ c p, μ0 c = some p → c < 0) (g : List (List (Int)))  : ∀ (fuel : Nat) (l3 : List (Int)) (l4 : List (Int)) (r : (List (Int))), hist_order_l2 g  fuel l3 l4 = some r → kont Try.prog w0 W μ0 (FnPost Try.prog Try.f21 0 0 (hist_order_v r) []) (kAt (bodyOf Try.f21) 2) none (hist_order_T2 g l3 l4) (hist_order_H2 g l3 l4) := by
  intro fuel
  induction fuel with
  | zero => intro l3 l4 r h; rw [hist_order_l2] at h; cases h
  | succ fuel ih =>
    intro l3 l4 r h
    rw [hist_order_l2] at h
    obtain ⟨yL2_2, eL2_1, h⟩ := bind_some h
    rcases itb_some h with ⟨cL2_3, h⟩ | ⟨cL2_3, h⟩
    · skip
      obtain rfl := Option.some.inj h
      exact run_ret mixed (L := []) (n := 23) (s := [.go, .reg [(1, { call := some ((slices_Index_int_int_v yL2_2).ren (sel [0]), preOf (sel [0]) 0 (slices_Index_int_int_objs l3 ((((g).length : Int)).toNat) 0), upOf (sel [0]) (slices_Index_int_int_up l3 ((((g).length : Int)).toNat) 0 yL2_2)) })], .reg [(1, { v := some (.bool true) })], .reg [], .frz 1])
        (a_ (a_ (a_ (a_ tr tr) (a_ (a_ (a_ (slices_Index_int_int_ok l3 ((((g).length : Int)).toNat) 0 yL2_2 eL2_1 (sel [0]) (sel_inj rfl rfl)) (a_ (LO.Le.refl (.row 1 (l3).length (rowF (cInt .i64) default l3) true)) tr)) tr) (a_ (a_ tr tr) tr))) (a_ (a_ (a_ tr tr) (a_ (a_ tr (a_ (leB cL2_3) tr)) tr)) (a_ (a_ (a_ tr tr) (a_ (a_ tr tr) tr)) (a_ (a_ (fz_row (enc := (cInt .i64)) (d := default) (fun _ => rfl) l4) (a_ (Nat.le_refl (l4).length) (a_ (Nat.le_refl (l4).length) (a_ (Nat.le_refl (l4).length) (a_ (ob_row (cInt .i64) default l3 1 1 (l4).length (rowF (cInt .i64) default l4) (l3).length (fun _ => rfl)) tr))))) tr)))) tr) (by kernel_rfl) rfl
    · skip
      obtain ⟨gL2_4, h⟩ := guard_some h
      obtain ⟨gL2_5, h⟩ := guard_some h
      obtain ⟨gL2_6, h⟩ := guard_some h
      exact run_to mixed hμ (L := [0, 1]) (n := 29) (s := [.go, .reg [(1, { call := some ((slices_Index_int_int_v yL2_2).ren (sel [0]), preOf (sel [0]) 0 (slices_Index_int_int_objs l3 ((((g).length : Int)).toNat) 0), upOf (sel [0]) (slices_Index_int_int_up l3 ((((g).length : Int)).toNat) 0 yL2_2)) })], .reg [(1, { v := some (.bool false) })], .reg [(3, { os := [(0, .row 1 ((l3.set (0 + yL2_2.toNat) (-1))).length (rowF (cInt .i64) default (l3.set (0 + yL2_2.toNat) (-1))) true)] })], .reg []])
        (a_ (a_ (a_ tr tr) (a_ (a_ (a_ (slices_Index_int_int_ok l3 ((((g).length : Int)).toNat) 0 yL2_2 eL2_1 (sel [0]) (sel_inj rfl rfl)) (a_ (LO.Le.refl (.row 1 (l3).length (rowF (cInt .i64) default l3) true)) tr)) tr) (a_ (a_ tr tr) tr))) (a_ (a_ (a_ tr tr) (a_ (a_ tr (a_ (leB cL2_3) tr)) tr)) (a_ (a_ (a_ tr tr) (a_ (a_ tr tr) (a_ (a_ (a_ (Eq.refl 1) gL2_4) tr) (a_ (a_ (a_ (Eq.refl 1) (a_ (le_ 1 1 rfl) gL2_5)) (a_ (sub_set_row (cInt .i64) default 1 l3 (0 + yL2_2.toNat) (-1) gL2_5 (splL (rowF (cInt .i64) default l3 (0 + yL2_2.toNat)) 0 [.int .i64 (-1)]) (by kernel_rfl)) tr)) tr)))) (a_ (a_ (a_ tr tr) (a_ (a_ tr tr) (a_ (a_ (a_ (Eq.refl 1) gL2_6) tr) (a_ (a_ (lt_ 0 1 rfl) tr) (a_ (a_ tr tr) (a_ (a_ tr tr) tr)))))) tr)))) (hist_order_l3_ok hμ g l4 yL2_2 (hist_order_l2 g  fuel) (fun l3 l4 r h => ih l3 l4 r h) big _ _ r h) (by kernel_rfl) ⟨fun _ _ => rfl, fun _ _ => rfl, trivial⟩

theorem hist_order_l0_ok {w0 : World} {W : Nat → Prop} {μ0 : Emb} (hμ : ∀ c p, μ0 c = some p → c < 0) (g : List (List (Int)))  : ∀ (fuel : Nat) (t17 : Int) (l : List (Int)) (r : (List (Int))), hist_order_l0 g  fuel t17 l = some r → kont Try.prog w0 W μ0 (FnPost Try.prog Try.f21 0 0 (hist_order_v r) []) (kAt (bodyOf Try.f21) 0) none (hist_order_T0 g t17 l) (hist_order_H0 g t17 l) := by
  intro fuel
  induction fuel with
  | zero => intro t17 l r h; rw [hist_order_l0] at h; cases h
  | succ fuel ih =>
    intro t17 l r h
    rw [hist_order_l0] at h
    rcases itb_some h with ⟨cL0_1, h⟩ | ⟨cL0_1, h⟩
    · skip
      obtain ⟨gL0_2, h⟩ := guard_some h
      exact run_to mixed hμ (L := [0]) (n := 26) (s := [.go, .reg [(0, { v := some (.bool true) })], .reg [], .reg []])
        (a_ (a_ (a_ tr (a_ (leB cL0_1) tr)) tr) (a_ (a_ (a_ (a_ (Eq.refl 1) gL0_2) tr) (a_ (a_ (lt_ 0 1 rfl) tr) (a_ (a_ tr tr) tr))) (a_ (a_ (a_ tr tr) (a_ (a_ tr tr) (a_ (a_ tr tr) tr))) tr))) (hist_order_l1_ok hμ g t17 (hist_order_l0 g  fuel) (fun t17 l r h => ih t17 l r h) big _ _ r h) (by kernel_rfl) ⟨fun _ _ => rfl, trivial⟩
    · skip
      exact run_to mixed hμ (L := [0, 1]) (n := 22) (s := [.go, .reg [(0, { v := some (.bool false) })], .void (.gr 1 (([] : List (Int))).length (rowF (cInt .i64) default ([] : List (Int)))), .reg [(0, { v := some (.gs 1 (([] : List (Int))).length) })]])
        (a_ (a_ (a_ tr (a_ (leB cL0_1) tr)) tr) (a_ (Eq.refl 0) (a_ (a_ (a_ tr (a_ (le_nil_gs 1) tr)) tr) tr))) (hist_order_l2_ok hμ g  big _ _ r h) (by kernel_rfl) ⟨fun _ _ => rfl, fun _ _ => rfl, trivial⟩

theorem hist_order_ok (g : List (List (Int))) (r : (List (Int))) (h : hist_order g = some r) : ∀ σ, Inj 0 σ → FnTri Try.prog 21 (renL σ [.ds 1 (g).length (rowF (fun z_ : List (Int) => [.ds 1 (z_).length (rowF (cInt .i64) default z_)]) default g)]) (preOf σ 0 []) ((hist_order_v r).ren σ) (upOf σ []) := by
  refine fn_of Try.func21 (by kernel_rfl) (by kernel_rfl) (by kernel_rfl) trivial (by kernel_rfl) trivial (by kernel_rfl) ?_
  intro w0 W μ0 hμ
  unfold hist_order at h
  obtain ⟨g1, h⟩ := guard_some h
  exact run_to mixed hμ (L := [0]) (n := 21) (s := [.reg [(0, { v := some (.ds 1 (([] : List (Int))).length (rowF (cInt .i64) default ([] : List (Int)))) })], .reg [(2, { os := [(0, .row 1 ((List.replicate ((((g).length : Int)).toNat) 0 : List (Int))).length (rowF (cInt .i64) default (List.replicate ((((g).length : Int)).toNat) 0 : List (Int))) true)], v := some (.sl 0 0 0 false ((((g).length : Int)).toNat) none) })], .reg []])
    (a_ (a_ (a_ tr (a_ (le_nil_ds 1 (rowF (cInt .i64) default [])) tr)) tr) (a_ (a_ (a_ tr tr) (a_ (a_ tr tr) (a_ (a_ (a_ g1.1 (a_ g1.2.1 (a_ g1.2.2.1 (a_ g1.2.2.2 (a_ (Eq.refl true) (a_ (Eq.refl 1) (lt_ 0 1 rfl))))))) (a_ (le_cap 0 0 0 false ((((g).length : Int)).toNat) ((((g).length : Int)).toNat)) (a_ (sub_made (cInt .i64) default 1 ((((g).length : Int)).toNat) 0) tr))) (a_ (a_ tr tr) tr)))) (a_ (a_ (a_ tr tr) (a_ (a_ tr tr) (a_ (a_ tr tr) tr))) tr))) (hist_order_l0_ok hμ g  big _ _ r h) (by kernel_rfl) ⟨fun _ _ => rfl, trivial⟩

theorem hist_order_tri (g : List (List (Int))) (r : (List (Int))) (h : hist_order g = some r) : FnTri Try.prog 21 [.ds 1 (g).length (rowF (fun z_ : List (Int) => [.ds 1 (z_).length (rowF (cInt .i64) default z_)]) default g)] [] (hist_order_v r) [] := FnTri.none (hist_order_ok g r h) rfl rfl

/-- parrel/hist.Order -/

def hist_Order_v (r : (List (Int)) × (Int)) : LV := .tup [.ds 1 (r.1).length (rowF (cInt .i64) default r.1), .int .i64 r.2]

def hist_Order (l : List (T_hist_Tx)) : Option ((List (Int)) × (Int)) :=
  (hist_Check l).bind fun y2 =>
  if ((y2 != 0) : Bool) then
    some (([] : List (Int)), y2)
  else
    (hist_graph l).bind fun y5 =>
    (hist_order y5).bind fun y7 =>
    if ((decide (((y7).length : Int) < ((l).length : Int))) : Bool) then
      some (([] : List (Int)), 11)
    else
      some (y7, 0)

theorem hist_Order_ok (l : List (T_hist_Tx)) (r : (List (Int)) × (Int)) (h : hist_Order l = some r) : ∀ σ, Inj 0 σ → FnTri Try.prog 10 (renL σ [.ds 4 (l).length (rowF c_T_hist_Tx default l)]) (preOf σ 0 []) ((hist_Order_v r).ren σ) (upOf σ []) := by
  refine fn_of Try.func10 (by kernel_rfl) (by kernel_rfl) (by kernel_rfl) trivial (by kernel_rfl) trivial (by kernel_rfl) ?_
  intro w0 W μ0 hμ
  unfold hist_Order at h
  obtain ⟨y2, e1, h⟩ := bind_some h
  rcases itb_some h with ⟨c3, h⟩ | ⟨c3, h⟩
  · skip
    obtain rfl := Option.some.inj h
    exact run_ret mixed (L := []) (n := 23) (s := [.reg [(0, { v := some (.ds 1 (([] : List (Int))).length (rowF (cInt .i64) default ([] : List (Int)))) })], .reg [(1, { call := some (hist_Check_v y2, [], []) })], .reg [(1, { v := some (.bool true) })], .reg [(1, { v := some (.ds 1 (([] : List (Int))).length (rowF (cInt .i64) default ([] : List (Int)))) })]])
      (a_ (a_ (a_ (a_ tr (a_ (le_nil_ds 1 (rowF (cInt .i64) default [])) tr)) (a_ (a_ tr tr) tr)) (a_ (a_ (a_ tr tr) (a_ (a_ (a_ (hist_Check_tri l y2 e1) tr) tr) (a_ (a_ tr tr) tr))) (a_ (a_ (a_ tr tr) (a_ (a_ tr (a_ (leB c3) tr)) tr)) (a_ (a_ (a_ tr tr) (a_ (a_ tr (a_ (le_nil_ds 1 (rowF (cInt .i64) default [])) tr)) (a_ (a_ tr tr) tr))) tr)))) tr) (by kernel_rfl) rfl
  · skip
    obtain ⟨y5, e4, h⟩ := bind_some h
    obtain ⟨y7, e6, h⟩ := bind_some h
    rcases itb_some h with ⟨c8, h⟩ | ⟨c8, h⟩
    · skip
      obtain rfl := Option.some.inj h
      exact run_ret mixed (L := []) (n := 32) (s := [.reg [(0, { v := some (.ds 1 (([] : List (Int))).length (rowF (cInt .i64) default ([] : List (Int)))) })], .reg [(1, { call := some (hist_Check_v y2, [], []) })], .reg [(1, { v := some (.bool false) })], .reg [(1, { call := some (hist_graph_v y5, [], []) }), (2, { call := some (hist_order_v y7, [], []) })], .reg [(4, { v := some (.bool true) })], .reg [(0, { v := some (.ds 1 (([] : List (Int))).length (rowF (cInt .i64) default ([] : List (Int)))) })]])
        (a_ (a_ (a_ (a_ tr (a_ (le_nil_ds 1 (rowF (cInt .i64) default [])) tr)) (a_ (a_ tr tr) tr)) (a_ (a_ (a_ tr tr) (a_ (a_ (a_ (hist_Check_tri l y2 e1) tr) tr) (a_ (a_ tr tr) tr))) (a_ (a_ (a_ tr tr) (a_ (a_ tr (a_ (leB c3) tr)) tr)) (a_ (a_ (a_ tr tr) (a_ (a_ (a_ (hist_graph_tri l y5 e4) tr) tr) (a_ (a_ (a_ (hist_order_tri y5 y7 e6) tr) tr) (a_ (a_ tr tr) tr)))) (a_ (a_ (a_ tr tr) (a_ (a_ tr tr) (a_ (a_ tr tr) (a_ (a_ tr tr) (a_ (a_ tr (a_ (leB c8) tr)) tr))))) (a_ (a_ (a_ tr (a_ (le_nil_ds 1 (rowF (cInt .i64) default [])) tr)) (a_ (a_ tr tr) tr)) tr)))))) tr) (by kernel_rfl) rfl
    · skip
      obtain rfl := Option.some.inj h
      exact run_ret mixed (L := []) (n := 33) (s := [.reg [(0, { v := some (.ds 1 (([] : List (Int))).length (rowF (cInt .i64) default ([] : List (Int)))) })], .reg [(1, { call := some (hist_Check_v y2, [], []) })], .reg [(1, { v := some (.bool false) })], .reg [(1, { call := some (hist_graph_v y5, [], []) }), (2, { call := some (hist_order_v y7, [], []) })], .reg [(4, { v := some (.bool false) })], .reg []])
        (a_ (a_ (a_ (a_ tr (a_ (le_nil_ds 1 (rowF (cInt .i64) default [])) tr)) (a_ (a_ tr tr) tr)) (a_ (a_ (a_ tr tr) (a_ (a_ (a_ (hist_Check_tri l y2 e1) tr) tr) (a_ (a_ tr tr) tr))) (a_ (a_ (a_ tr tr) (a_ (a_ tr (a_ (leB c3) tr)) tr)) (a_ (a_ (a_ tr tr) (a_ (a_ (a_ (hist_graph_tri l y5 e4) tr) tr) (a_ (a_ (a_ (hist_order_tri y5 y7 e6) tr) tr) (a_ (a_ tr tr) tr)))) (a_ (a_ (a_ tr tr) (a_ (a_ tr tr) (a_ (a_ tr tr) (a_ (a_ tr tr) (a_ (a_ tr (a_ (leB c8) tr)) tr))))) (a_ (a_ (a_ tr tr) (a_ (a_ tr tr) (a_ (a_ tr tr) tr))) tr)))))) tr) (by kernel_rfl) rfl

theorem hist_Order_tri (l : List (T_hist_Tx)) (r : (List (Int)) × (Int)) (h : hist_Order l = some r) : FnTri Try.prog 10 [.ds 4 (l).length (rowF c_T_hist_Tx default l)] [] (hist_Order_v r) [] := FnTri.none (hist_Order_ok l r h) rfl rfl

/-- slices.Index[[]int,int] -/

def slices_Index_int_int_2_v (r : (Int)) : LV := .int .i64 r

def slices_Index_int_int_2_T0 (s : List (Int)) (v : Int) (t8 : Int) : List LV := [.ds 1 (s).length (rowF (cInt .i64) default s), .int .i64 v, .any, .any, .any, .any, .any, .int .i64 ((s).length : Int), .int .i64 t8, .any, .any, .any, .any, .any, .any, .any, .any, .any, .any]

def slices_Index_int_int_2_H0 (s : List (Int)) (v : Int) (t8 : Int) : Heap := []

def slices_Index_int_int_2_l0 (s : List (Int)) (v : Int)  : Nat → (Int) → Option ((Int))
  | 0, _ => none
  | fuel + 1, t8 =>
    if ((decide (t8 < ((s).length : Int))) : Bool) then
      if 0 ≤ t8 ∧ t8 < (((s).length : Nat) : Int) then
      if ((v == (s.getD t8.toNat default)) : Bool) then
        some t8
      else
        slices_Index_int_int_2_l0 s v  fuel (IntKind.wrap .i64 (t8 + 1))
      else none
    else
      some (-1)

def slices_Index_int_int_2 (s : List (Int)) (v : Int) : Option ((Int)) :=
  slices_Index_int_int_2_l0 s v  big 0

theorem slices_Index_int_int_2_l0_ok {w0 : World} {W : Nat → Prop} {μ0 : Emb} (hμ : ∀ c p, μ0 c = some p → c < 0) (s : List (Int)) (v : Int)  : ∀ (fuel : Nat) (t8 : Int) (r : (Int)), slices_Index_int_int_2_l0 s v  fuel t8 = some r → kont Try.prog w0 W μ0 (FnPost Try.prog Try.f38 0 0 (slices_Index_int_int_2_v r) []) (kAt (bodyOf Try.f38) 0) none (slices_Index_int_int_2_T0 s v t8) (slices_Index_int_int_2_H0 s v t8) := by
  intro fuel
  induction fuel with
  | zero => intro t8 r h; rw [slices_Index_int_int_2_l0] at h; cases h
  | succ fuel ih =>
    intro t8 r h
    rw [slices_Index_int_int_2_l0] at h
    rcases itb_some h with ⟨cL0_1, h⟩ | ⟨cL0_1, h⟩
    · skip
      obtain ⟨gL0_2, h⟩ := guard_some h
      rcases itb_some h with ⟨cL0_3, h⟩ | ⟨cL0_3, h⟩
      · skip
        obtain rfl := Option.some.inj h
        exact run_ret mixed (L := []) (n := 28) (s := [.go, .reg [(0, { v := some (.bool true) })], .reg [], .reg [(5, { v := some (.bool true) })], .reg []])
          (a_ (a_ (a_ (a_ tr (a_ (leB cL0_1) tr)) tr) (a_ (a_ (a_ tr tr) (a_ (a_ tr tr) tr)) (a_ (a_ (a_ tr tr) (a_ (a_ tr tr) (a_ (a_ tr tr) (a_ (a_ (a_ (Eq.refl 1) gL0_2) tr) (a_ (a_ (lt_ 0 1 rfl) tr) (a_ (a_ tr (a_ (leB cL0_3) tr)) tr)))))) (a_ (a_ (a_ tr tr) (a_ (a_ tr tr) tr)) tr)))) tr) (by kernel_rfl) rfl
      · skip
        exact run_to mixed hμ (L := []) (n := 29) (s := [.go, .reg [(0, { v := some (.bool true) })], .reg [], .reg [(5, { v := some (.bool false) })], .reg []])
          (a_ (a_ (a_ tr (a_ (leB cL0_1) tr)) tr) (a_ (a_ (a_ tr tr) (a_ (a_ tr tr) tr)) (a_ (a_ (a_ tr tr) (a_ (a_ tr tr) (a_ (a_ tr tr) (a_ (a_ (a_ (Eq.refl 1) gL0_2) tr) (a_ (a_ (lt_ 0 1 rfl) tr) (a_ (a_ tr (a_ (leB cL0_3) tr)) tr)))))) (a_ (a_ (a_ tr tr) (a_ (a_ tr tr) tr)) tr)))) (ih _ r h) (by kernel_rfl) trivial
    · skip
      obtain rfl := Option.some.inj h
      exact run_ret mixed (L := []) (n := 19) (s := [.go, .reg [(0, { v := some (.bool false) })], .reg []])
        (a_ (a_ (a_ (a_ tr (a_ (leB cL0_1) tr)) tr) (a_ (a_ (a_ tr tr) tr) tr)) tr) (by kernel_rfl) rfl

theorem slices_Index_int_int_2_ok (s : List (Int)) (v : Int) (r : (Int)) (h : slices_Index_int_int_2 s v = some r) : ∀ σ, Inj 0 σ → FnTri Try.prog 38 (renL σ [.ds 1 (s).length (rowF (cInt .i64) default s), .int .i64 v]) (preOf σ 0 []) ((slices_Index_int_int_2_v r).ren σ) (upOf σ []) := by
  refine fn_of Try.func38 (by kernel_rfl) (by kernel_rfl) (by kernel_rfl) trivial (by kernel_rfl) trivial (by kernel_rfl) ?_
  intro w0 W μ0 hμ
  unfold slices_Index_int_int_2 at h
  exact run_to mixed hμ (L := []) (n := 18) (s := [.reg [], .reg []])
    (a_ (a_ (a_ tr tr) tr) (a_ (a_ (a_ tr tr) (a_ (a_ tr tr) (a_ (a_ tr tr) tr))) tr)) (slices_Index_int_int_2_l0_ok hμ s v  big _ r h) (by kernel_rfl) trivial

theorem slices_Index_int_int_2_tri (s : List (Int)) (v : Int) (r : (Int)) (h : slices_Index_int_int_2 s v = some r) : FnTri Try.prog 38 [.ds 1 (s).length (rowF (cInt .i64) default s), .int .i64 v] [] (slices_Index_int_int_2_v r) [] := FnTri.none (slices_Index_int_int_2_ok s v r h) rfl rfl

/-- slices.Contains[[]int,int] -/

def slices_Contains_int_int_v (r : (Bool)) : LV := .bool r

def slices_Contains_int_int (s : List (Int)) (v : Int) : Option ((Bool)) :=
  (slices_Index_int_int_2 s v).bind fun y2 =>
  some (decide (0 ≤ y2))

theorem slices_Contains_int_int_ok (s : List (Int)) (v : Int) (r : (Bool)) (h : slices_Contains_int_int s v = some r) : ∀ σ, Inj 0 σ → FnTri Try.prog 47 (renL σ [.ds 1 (s).length (rowF (cInt .i64) default s), .int .i64 v]) (preOf σ 0 []) ((slices_Contains_int_int_v r).ren σ) (upOf σ []) := by
  refine fn_of Try.func47 (by kernel_rfl) (by kernel_rfl) (by kernel_rfl) trivial (by kernel_rfl) trivial (by kernel_rfl) ?_
  intro w0 W μ0 hμ
  unfold slices_Contains_int_int at h
  obtain ⟨y2, e1, h⟩ := bind_some h
  obtain rfl := Option.some.inj h
  exact run_ret mixed (L := []) (n := 15) (s := [.reg [], .reg [(2, { call := some (slices_Index_int_int_2_v y2, [], []) })]])
    (a_ (a_ (a_ (a_ tr tr) tr) (a_ (a_ (a_ tr tr) (a_ (a_ tr tr) (a_ (a_ (a_ (slices_Index_int_int_2_tri s v y2 e1) tr) tr) (a_ (a_ tr tr) (a_ (a_ tr tr) tr))))) tr)) tr) (by kernel_rfl) rfl

theorem slices_Contains_int_int_tri (s : List (Int)) (v : Int) (r : (Bool)) (h : slices_Contains_int_int s v = some r) : FnTri Try.prog 47 [.ds 1 (s).length (rowF (cInt .i64) default s), .int .i64 v] [] (slices_Contains_int_int_v r) [] := FnTri.none (slices_Contains_int_int_ok s v r h) rfl rfl

/-- parrel/hist.back$1 -/

def hist_back_L1_v (r : (Bool)) : LV := .bool r

def hist_back_L1_up (x_k : Int) (x1 : List (List (Int))) (x2 : Int) (r : (Bool)) : Upd := [(0, some (.var [.ds 1 (x1).length (rowF (fun z_ : List (Int) => [.ds 1 (z_).length (rowF (cInt .i64) default z_)]) default x1)])), (1, some (.var [.int .i64 x2]))]

def hist_back_L1_objs (x_k : Int) (x1 : List (List (Int))) (x2 : Int) : List LO := [.var [.ds 1 (x1).length (rowF (fun z_ : List (Int) => [.ds 1 (z_).length (rowF (cInt .i64) default z_)]) default x1)], .var [.int .i64 x2]]

def hist_back_L1 (x_k : Int) (x1 : List (List (Int))) (x2 : Int) : Option ((Bool)) :=
  if 0 ≤ x2 ∧ x2 < (((x1).length : Nat) : Int) then
  (slices_Contains_int_int (x1.getD x2.toNat default) x_k).bind fun y3 =>
  some y3
  else none

theorem hist_back_L1_ok (x_k : Int) (x1 : List (List (Int))) (x2 : Int) (r : (Bool)) (h : hist_back_L1 x_k x1 x2 = some r) : ∀ σ, Inj 2 σ → FnTri Try.prog 46 (renL σ [.int .i64 x_k, .ptr 0 0 0, .ptr 1 0 0]) (preOf σ 0 (hist_back_L1_objs x_k x1 x2)) ((hist_back_L1_v r).ren σ) (upOf σ (hist_back_L1_up x_k x1 x2 r)) := by
  refine fn_of Try.func46 (by kernel_rfl) (by kernel_rfl) (by kernel_rfl) ⟨rfl, rfl, trivial⟩ (by kernel_rfl) ⟨rfl, rfl, trivial⟩ (by kernel_rfl) ?_
  intro w0 W μ0 hμ
  unfold hist_back_L1 at h
  obtain ⟨g1, h⟩ := guard_some h
  obtain ⟨y3, e2, h⟩ := bind_some h
  obtain rfl := Option.some.inj h
  exact run_ret mixed (L := []) (n := 15) (s := [.reg [], .reg [(5, { call := some (slices_Contains_int_int_v y3, [], []) })]])
    (a_ (a_ (a_ (a_ tr tr) tr) (a_ (a_ (a_ (a_ tr (lt_ 0 1 rfl)) tr) (a_ (a_ (a_ tr (lt_ 0 1 rfl)) tr) (a_ (a_ (a_ (Eq.refl 1) g1) tr) (a_ (a_ (lt_ 0 1 rfl) tr) (a_ (a_ tr tr) (a_ (a_ (a_ (slices_Contains_int_int_tri (x1.getD x2.toNat default) x_k y3 e2) tr) tr) (a_ (a_ tr tr) tr))))))) tr)) tr) (by kernel_rfl) rfl

/-- slices.IndexFunc[[]int,int] -/

def slices_IndexFunc_int_int_v (r : (Int)) : LV := .int .i64 r

def slices_IndexFunc_int_int_up (s : List (Int)) (c : List (List (Int))) (c2 : Int) (r : (Int)) : Upd := [(0, some (.var [.ds 1 (c).length (rowF (fun z_ : List (Int) => [.ds 1 (z_).length (rowF (cInt .i64) default z_)]) default c)])), (1, some (.var [.int .i64 c2]))]

def slices_IndexFunc_int_int_objs (s : List (Int)) (c : List (List (Int))) (c2 : Int) : List LO := [.var [.ds 1 (c).length (rowF (fun z_ : List (Int) => [.ds 1 (z_).length (rowF (cInt .i64) default z_)]) default c)], .var [.int .i64 c2]]

def slices_IndexFunc_int_int_T0 (s : List (Int)) (c : List (List (Int))) (c2 : Int) (t8 : Int) : List LV := [.ds 1 (s).length (rowF (cInt .i64) default s), .fn 46 [] [.ptr 0 0 0, .ptr 1 0 0], .any, .any, .any, .any, .any, .int .i64 ((s).length : Int), .int .i64 t8, .any, .any, .any, .any, .any, .any, .any, .any, .any, .any]

def slices_IndexFunc_int_int_H0 (s : List (Int)) (c : List (List (Int))) (c2 : Int) (t8 : Int) : Heap := [some (.var [.ds 1 (c).length (rowF (fun z_ : List (Int) => [.ds 1 (z_).length (rowF (cInt .i64) default z_)]) default c)]), some (.var [.int .i64 c2])]

def slices_IndexFunc_int_int_l0 (s : List (Int)) (c : List (List (Int))) (c2 : Int)  : Nat → (Int) → Option ((Int))
  | 0, _ => none
  | fuel + 1, t8 =>
    if ((decide (t8 < ((s).length : Int))) : Bool) then
      if 0 ≤ t8 ∧ t8 < (((s).length : Nat) : Int) then
      (hist_back_L1 (s.getD t8.toNat default) c c2).bind fun yL0_4 =>
      if (yL0_4 : Bool) then
        some t8
      else
        slices_IndexFunc_int_int_l0 s c c2  fuel (IntKind.wrap .i64 (t8 + 1))
      else none
    else
      some (-1)

def slices_IndexFunc_int_int (s : List (Int)) (c : List (List (Int))) (c2 : Int) : Option ((Int)) :=
  slices_IndexFunc_int_int_l0 s c c2  big 0

theorem slices_IndexFunc_int_int_l0_ok {w0 : World} {W : Nat → Prop} {μ0 : Emb} (hμ : ∀ c p, μ0 c = some p → c < 2) (s : List (Int)) (c : List (List (Int))) (c2 : Int)  : ∀ (fuel : Nat) (t8 : Int) (r : (Int)), slices_IndexFunc_int_int_l0 s c c2  fuel t8 = some r → kont Try.prog w0 W μ0 (FnPost Try.prog Try.f32 2 2 (slices_IndexFunc_int_int_v r) (slices_IndexFunc_int_int_up s c c2 r)) (kAt (bodyOf Try.f32) 0) none (slices_IndexFunc_int_int_T0 s c c2 t8) (slices_IndexFunc_int_int_H0 s c c2 t8) := by
  intro fuel
  induction fuel with
  | zero => intro t8 r h; rw [slices_IndexFunc_int_int_l0] at h; cases h
  | succ fuel ih =>
    intro t8 r h
    rw [slices_IndexFunc_int_int_l0] at h
    rcases itb_some h with ⟨cL0_1, h⟩ | ⟨cL0_1, h⟩
    · skip
      obtain ⟨gL0_2, h⟩ := guard_some h
      obtain ⟨yL0_4, eL0_3, h⟩ := bind_some h
      rcases itb_some h with ⟨cL0_5, h⟩ | ⟨cL0_5, h⟩
      · skip
        obtain rfl := Option.some.inj h
        exact run_ret mixed (L := []) (n := 28) (s := [.go, .reg [(0, { v := some (.bool true) })], .reg [], .reg [(5, { call := some ((hist_back_L1_v yL0_4).ren (sel [0, 1]), preOf (sel [0, 1]) 0 (hist_back_L1_objs (s.getD t8.toNat default) c c2), upOf (sel [0, 1]) (hist_back_L1_up (s.getD t8.toNat default) c c2 yL0_4)), v := some (.bool true) })], .reg []])
          (a_ (a_ (a_ (a_ tr (a_ (leB cL0_1) tr)) tr) (a_ (a_ (a_ tr tr) (a_ (a_ tr tr) tr)) (a_ (a_ (a_ tr tr) (a_ (a_ tr tr) (a_ (a_ tr tr) (a_ (a_ (a_ (Eq.refl 1) gL0_2) tr) (a_ (a_ (lt_ 0 1 rfl) tr) (a_ (a_ (a_ (hist_back_L1_ok (s.getD t8.toNat default) c c2 yL0_4 eL0_3 (sel [0, 1]) (sel_inj rfl rfl)) (a_ (LO.Le.refl (.var [.ds 1 (c).length (rowF (fun z_ : List (Int) => [.ds 1 (z_).length (rowF (cInt .i64) default z_)]) default c)])) (a_ (LO.Le.refl (.var [.int .i64 c2])) tr))) (a_ (leB cL0_5) tr)) tr)))))) (a_ (a_ (a_ tr tr) (a_ (a_ tr tr) tr)) tr)))) tr) (by kernel_rfl) rfl
      · skip
        exact run_to mixed hμ (L := []) (n := 29) (s := [.go, .reg [(0, { v := some (.bool true) })], .reg [], .reg [(5, { call := some ((hist_back_L1_v yL0_4).ren (sel [0, 1]), preOf (sel [0, 1]) 0 (hist_back_L1_objs (s.getD t8.toNat default) c c2), upOf (sel [0, 1]) (hist_back_L1_up (s.getD t8.toNat default) c c2 yL0_4)), v := some (.bool false) })], .reg []])
          (a_ (a_ (a_ tr (a_ (leB cL0_1) tr)) tr) (a_ (a_ (a_ tr tr) (a_ (a_ tr tr) tr)) (a_ (a_ (a_ tr tr) (a_ (a_ tr tr) (a_ (a_ tr tr) (a_ (a_ (a_ (Eq.refl 1) gL0_2) tr) (a_ (a_ (lt_ 0 1 rfl) tr) (a_ (a_ (a_ (hist_back_L1_ok (s.getD t8.toNat default) c c2 yL0_4 eL0_3 (sel [0, 1]) (sel_inj rfl rfl)) (a_ (LO.Le.refl (.var [.ds 1 (c).length (rowF (fun z_ : List (Int) => [.ds 1 (z_).length (rowF (cInt .i64) default z_)]) default c)])) (a_ (LO.Le.refl (.var [.int .i64 c2])) tr))) (a_ (leB cL0_5) tr)) tr)))))) (a_ (a_ (a_ tr tr) (a_ (a_ tr tr) tr)) tr)))) (ih _ r h) (by kernel_rfl) ⟨rfl, rfl, trivial⟩
    · skip
      obtain rfl := Option.some.inj h
      exact run_ret mixed (L := []) (n := 19) (s := [.go, .reg [(0, { v := some (.bool false) })], .reg []])
        (a_ (a_ (a_ (a_ tr (a_ (leB cL0_1) tr)) tr) (a_ (a_ (a_ tr tr) tr) tr)) tr) (by kernel_rfl) rfl

theorem slices_IndexFunc_int_int_ok (s : List (Int)) (c : List (List (Int))) (c2 : Int) (r : (Int)) (h : slices_IndexFunc_int_int s c c2 = some r) : ∀ σ, Inj 2 σ → FnTri Try.prog 32 (renL σ [.ds 1 (s).length (rowF (cInt .i64) default s), .fn 46 [] [.ptr 0 0 0, .ptr 1 0 0]]) (preOf σ 0 (slices_IndexFunc_int_int_objs s c c2)) ((slices_IndexFunc_int_int_v r).ren σ) (upOf σ (slices_IndexFunc_int_int_up s c c2 r)) := by
  refine fn_of Try.func32 (by kernel_rfl) (by kernel_rfl) (by kernel_rfl) ⟨rfl, rfl, trivial⟩ (by kernel_rfl) ⟨rfl, rfl, trivial⟩ (by kernel_rfl) ?_
  intro w0 W μ0 hμ
  unfold slices_IndexFunc_int_int at h
  exact run_to mixed hμ (L := []) (n := 18) (s := [.reg [], .reg []])
    (a_ (a_ (a_ tr tr) tr) (a_ (a_ (a_ tr tr) (a_ (a_ tr tr) (a_ (a_ tr tr) tr))) tr)) (slices_IndexFunc_int_int_l0_ok hμ s c c2  big _ r h) (by kernel_rfl) ⟨rfl, rfl, trivial⟩

/-- slices.ContainsFunc[[]int,int] -/

def slices_ContainsFunc_int_int_v (r : (Bool)) : LV := .bool r

def slices_ContainsFunc_int_int_up (s : List (Int)) (c : List (List (Int))) (c2 : Int) (r : (Bool)) : Upd := [(0, some (.var [.ds 1 (c).length (rowF (fun z_ : List (Int) => [.ds 1 (z_).length (rowF (cInt .i64) default z_)]) default c)])), (1, some (.var [.int .i64 c2]))]

def slices_ContainsFunc_int_int_objs (s : List (Int)) (c : List (List (Int))) (c2 : Int) : List LO := [.var [.ds 1 (c).length (rowF (fun z_ : List (Int) => [.ds 1 (z_).length (rowF (cInt .i64) default z_)]) default c)], .var [.int .i64 c2]]

def slices_ContainsFunc_int_int (s : List (Int)) (c : List (List (Int))) (c2 : Int) : Option ((Bool)) :=
  (slices_IndexFunc_int_int s c c2).bind fun y2 =>
  some (decide (0 ≤ y2))

theorem slices_ContainsFunc_int_int_ok (s : List (Int)) (c : List (List (Int))) (c2 : Int) (r : (Bool)) (h : slices_ContainsFunc_int_int s c c2 = some r) : ∀ σ, Inj 2 σ → FnTri Try.prog 45 (renL σ [.ds 1 (s).length (rowF (cInt .i64) default s), .fn 46 [] [.ptr 0 0 0, .ptr 1 0 0]]) (preOf σ 0 (slices_ContainsFunc_int_int_objs s c c2)) ((slices_ContainsFunc_int_int_v r).ren σ) (upOf σ (slices_ContainsFunc_int_int_up s c c2 r)) := by
  refine fn_of Try.func45 (by kernel_rfl) (by kernel_rfl) (by kernel_rfl) ⟨rfl, rfl, trivial⟩ (by kernel_rfl) ⟨rfl, rfl, trivial⟩ (by kernel_rfl) ?_
  intro w0 W μ0 hμ
  unfold slices_ContainsFunc_int_int at h
  obtain ⟨y2, e1, h⟩ := bind_some h
  obtain rfl := Option.some.inj h
  exact run_ret mixed (L := []) (n := 15) (s := [.reg [], .reg [(2, { call := some ((slices_IndexFunc_int_int_v y2).ren (sel [0, 1]), preOf (sel [0, 1]) 0 (slices_IndexFunc_int_int_objs s c c2), upOf (sel [0, 1]) (slices_IndexFunc_int_int_up s c c2 y2)) })]])
    (a_ (a_ (a_ (a_ tr tr) tr) (a_ (a_ (a_ tr tr) (a_ (a_ tr tr) (a_ (a_ (a_ (slices_IndexFunc_int_int_ok s c c2 y2 e1 (sel [0, 1]) (sel_inj rfl rfl)) (a_ (LO.Le.refl (.var [.ds 1 (c).length (rowF (fun z_ : List (Int) => [.ds 1 (z_).length (rowF (cInt .i64) default z_)]) default c)])) (a_ (LO.Le.refl (.var [.int .i64 c2])) tr))) tr) (a_ (a_ tr tr) (a_ (a_ tr tr) tr))))) tr)) tr) (by kernel_rfl) rfl

/-- parrel/hist.back -/

def hist_back_v (r : (List (Int))) : LV := .ds 1 (r).length (rowF (cInt .i64) default r)

def hist_back_T2 (g : List (List (Int))) (to : Int) (row : List (Int)) (x_n : Int) (l3 : List (Int)) (l4 : List (Int)) (x : Int) : List LV := [.any, .int .i64 to, .ptr 0 0 0, .any, .any, .sl 1 0 0 false ((((g).length : Int)).toNat) none, .any, .ds 1 (row).length (rowF (cInt .i64) default row), .int .i64 x_n, .gs 2 (l4).length, .ptr 3 0 0, .any, .any, .any, .any, .any, .any, .any, .any, .any, .any, .any, .any, .any, .any, .any, .any, .any, .any, .any, .any, .any, .any, .any, .any, .any, .any, .any, .any, .any, .any, .any, .any, .any, .any, .any, .any, .any, .any, .any, .any, .any, .any, .any, .any, .any, .any, .any]

def hist_back_H2 (g : List (List (Int))) (to : Int) (row : List (Int)) (x_n : Int) (l3 : List (Int)) (l4 : List (Int)) (x : Int) : Heap := [some (.var [.ds 1 (g).length (rowF (fun z_ : List (Int) => [.ds 1 (z_).length (rowF (cInt .i64) default z_)]) default g)]), some (.row 1 (l3).length (rowF (cInt .i64) default l3) true), some (.gr 1 (l4).length (rowF (cInt .i64) default l4)), some (.var [.int .i64 x])]

def hist_back_T1 (g : List (List (Int))) (to : Int) (row : List (Int)) (x_n : Int) (l2 : List (Int)) : List LV := [.any, .int .i64 to, .ptr 0 0 0, .any, .any, .sl 1 0 0 false ((((g).length : Int)).toNat) none, .any, .ds 1 (row).length (rowF (cInt .i64) default row), .int .i64 x_n, .any, .any, .any, .any, .any, .any, .any, .any, .any, .any, .any, .any, .any, .any, .any, .any, .any, .any, .any, .any, .any, .any, .any, .any, .any, .any, .any, .any, .any, .any, .any, .any, .any, .any, .any, .any, .any, .any, .any, .any, .any, .any, .any, .any, .any, .any, .any, .any, .any]

def hist_back_H1 (g : List (List (Int))) (to : Int) (row : List (Int)) (x_n : Int) (l2 : List (Int)) : Heap := [some (.var [.ds 1 (g).length (rowF (fun z_ : List (Int) => [.ds 1 (z_).length (rowF (cInt .i64) default z_)]) default g)]), some (.row 1 (l2).length (rowF (cInt .i64) default l2) true)]

def hist_back_T0 (g : List (List (Int))) (to : Int) (t16 : Int) (l : List (Int)) : List LV := [.any, .int .i64 to, .ptr 0 0 0, .any, .any, .sl 1 0 0 false ((((g).length : Int)).toNat) none, .any, .any, .any, .any, .any, .any, .any, .any, .any, .int .i64 ((((((g).length : Int)).toNat) : Nat) : Int), .int .i64 t16, .any, .any, .any, .any, .any, .any, .any, .any, .any, .any, .any, .any, .any, .any, .any, .any, .any, .any, .any, .any, .any, .any, .any, .any, .any, .any, .any, .any, .any, .any, .any, .any, .any, .any, .any, .any, .any, .any, .any, .any, .any]

def hist_back_H0 (g : List (List (Int))) (to : Int) (t16 : Int) (l : List (Int)) : Heap := [some (.var [.ds 1 (g).length (rowF (fun z_ : List (Int) => [.ds 1 (z_).length (rowF (cInt .i64) default z_)]) default g)]), some (.row 1 (l).length (rowF (cInt .i64) default l) true)]

def hist_back_l2 (g : List (List (Int))) (to : Int) (row : List (Int)) (x_n : Int) (k1 : (List (Int)) → (Int) → (List (Int)) → Option ((List (Int)))) : Nat → (List (Int)) → (List (Int)) → (Int) → Option ((List (Int)))
  | 0, _, _, _ => none
  | fuel + 1, l3, l4, x =>
    if ((decide (x < ((g).length : Int))) : Bool) then
      if 0 ≤ x ∧ x < ((((((g).length : Int)).toNat) : Nat) : Int) then
      if (0 + x.toNat) < (l3).length then
      if ((decide ((l3.getD (0 + x.toNat) default) < 0)) : Bool) then
        (slices_ContainsFunc_int_int row g x).bind fun yL2_6 =>
        if (yL2_6 : Bool) then
          if ((l4).length + ([x]).length) * 8 ≤ 140737488351232 then
          hist_back_l2 g to row x_n k1 fuel (l3.set (0 + x.toNat) x_n) (l4 ++ [x]) (IntKind.wrap .i64 (x + 1))
          else none
        else
          hist_back_l2 g to row x_n k1 fuel l3 l4 (IntKind.wrap .i64 (x + 1))
      else
        hist_back_l2 g to row x_n k1 fuel l3 l4 (IntKind.wrap .i64 (x + 1))
      else none
      else none
    else
      k1 l4 (IntKind.wrap .i64 (x_n + 1)) l3

def hist_back_l1 (g : List (List (Int))) (to : Int)  : Nat → (List (Int)) → (Int) → (List (Int)) → Option ((List (Int)))
  | 0, _, _, _ => none
  | fuel + 1, row, x_n, l2 =>
    if ((decide (0 < ((row).length : Int))) : Bool) then
      hist_back_l2 g to row x_n (hist_back_l1 g to  fuel) big l2 ([] : List (Int)) to
    else
      if ((((g).length : Int)).toNat) = (l2).length then
      some l2
      else none

def hist_back_l0 (g : List (List (Int))) (to : Int)  : Nat → (Int) → (List (Int)) → Option ((List (Int)))
  | 0, _, _ => none
  | fuel + 1, t16, l =>
    if ((decide (t16 < ((((((g).length : Int)).toNat) : Nat) : Int))) : Bool) then
      if 0 ≤ t16 ∧ t16 < ((((((g).length : Int)).toNat) : Nat) : Int) then
      if (0 + t16.toNat) < (l).length then
      hist_back_l0 g to  fuel (IntKind.wrap .i64 (t16 + 1)) (l.set (0 + t16.toNat) (-1))
      else none
      else none
    else
      hist_back_l1 g to  big ([to]) 1 l

def hist_back (g : List (List (Int))) (to : Int) : Option ((List (Int))) :=
  if 0 ≤ ((g).length : Int) ∧ ((g).length : Int) ≤ ((g).length : Int) ∧ ((g).length : Int) * 8 ≤ 140737488351232 ∧ ((g).length : Int) ≤ 9223372036854775807 then
  hist_back_l0 g to  big 0 (List.replicate ((((g).length : Int)).toNat) 0 : List (Int))
  else none

theorem hist_back_l2_ok {w0 : World} {W : Nat → Prop} {μ0 : Emb} (hμ : ∀ c p, μ0 c = some p → c < 0) (g : List (List (Int))) (to : Int) (row : List (Int)) (x_n : Int) (k1 : (List (Int)) → (Int) → (List (Int)) → Option ((List (Int)))) (hk1 : ∀ (row : List (Int)) (x_n : Int) (l2 : List (Int)) (r : (List (Int))), k1 row x_n l2 = some r → kont Try.prog w0 W μ0 (FnPost Try.prog Try.f31 0 0 (hist_back_v r) []) (kAt (bodyOf Try.f31) 1) none (hist_back_T1 g to row x_n l2) (hist_back_H1 g to row x_n l2)) : ∀ (fuel : Nat) (l3 : List (Int)) (l4 : List (Int)) (x : Int) (r : (List (Int))), hist_back_l2 g to row x_n k1 fuel l3 l4 x = some r → kont Try.prog w0 W μ0 (FnPost Try.prog Try.f31 0 0 (hist_back_v r) []) (kAt (bodyOf Try.f31) 2) none (hist_back_T2 g to row x_n l3 l4 x) (hist_back_H2 g to row x_n l3 l4 x) := by
  intro fuel
  induction fuel with
  | zero => intro l3 l4 x r h; rw [hist_back_l2] at h; cases h
  | succ fuel ih =>
    intro l3 l4 x r h
    rw [hist_back_l2] at h
    rcases itb_some h with ⟨cL2_1, h⟩ | ⟨cL2_1, h⟩
    · skip
      obtain ⟨gL2_2, h⟩ := guard_some h
      obtain ⟨gL2_3, h⟩ := guard_some h
      rcases itb_some h with ⟨cL2_4, h⟩ | ⟨cL2_4, h⟩
      · skip
        obtain ⟨yL2_6, eL2_5, h⟩ := bind_some h
        rcases itb_some h with ⟨cL2_7, h⟩ | ⟨cL2_7, h⟩
        · skip
          obtain ⟨gL2_8, h⟩ := guard_some h
          exact run_to mixed hμ (L := [0, 1, 5, 6]) (n := 36) (s := [.go, .reg [(3, { v := some (.bool true) })], .reg [(5, { v := some (.bool true) }), (8, { call := some ((slices_ContainsFunc_int_int_v yL2_6).ren (sel [0, 3]), preOf (sel [0, 3]) 0 (slices_ContainsFunc_int_int_objs row g x), upOf (sel [0, 3]) (slices_ContainsFunc_int_int_up row g x yL2_6)) }), (9, { v := some (.bool true) })], .reg [(4, { os := [(1, .row 1 ((l3.set (0 + x.toNat) x_n)).length (rowF (cInt .i64) default (l3.set (0 + x.toNat) x_n)) true)] })], .reg [(2, { os := [(4, .gr 1 ([x]).length (rowF (cInt .i64) default [x]))], v := some (.gs 4 ([x]).length) }), (3, { app := 3, os := [(5, .gr 1 ((l4 ++ [x])).length (rowF (cInt .i64) default (l4 ++ [x])))], v := some (.gs 5 ((l4 ++ [x])).length) })], .reg [], .reg [], .reg []])
            (a_ (a_ (a_ (a_ tr (lt_ 0 1 rfl)) tr) (a_ (a_ (a_ tr (lt_ 0 1 rfl)) tr) (a_ (a_ tr tr) (a_ (a_ tr (a_ (leB cL2_1) tr)) tr)))) (a_ (a_ (a_ tr tr) (a_ (a_ (a_ tr (lt_ 0 1 rfl)) tr) (a_ (a_ (a_ (Eq.refl 1) gL2_2) tr) (a_ (a_ (a_ gL2_3 (lt_ 0 1 rfl)) tr) (a_ (a_ tr tr) (a_ (a_ tr (a_ (leB cL2_4) tr)) (a_ (a_ tr tr) (a_ (a_ tr tr) (a_ (a_ (a_ (slices_ContainsFunc_int_int_ok row g x yL2_6 eL2_5 (sel [0, 3]) (sel_inj rfl rfl)) (a_ (LO.Le.refl (.var [.ds 1 (g).length (rowF (fun z_ : List (Int) => [.ds 1 (z_).length (rowF (cInt .i64) default z_)]) default g)])) (a_ (LO.Le.refl (.var [.int .i64 x])) tr))) tr) (a_ (a_ tr (a_ (leB cL2_7) tr)) tr)))))))))) (a_ (a_ (a_ tr tr) (a_ (a_ (a_ tr (lt_ 0 1 rfl)) tr) (a_ (a_ tr tr) (a_ (a_ (a_ (Eq.refl 1) gL2_2) tr) (a_ (a_ (a_ (Eq.refl 1) (a_ (le_ 1 1 rfl) gL2_3)) (a_ (sub_set_row (cInt .i64) default 1 l3 (0 + x.toNat) x_n gL2_3 (splL (rowF (cInt .i64) default l3 (0 + x.toNat)) 0 [.int .i64 x_n]) (by kernel_rfl)) tr)) tr))))) (a_ (a_ (a_ tr tr) (a_ (a_ (a_ tr (lt_ 0 1 rfl)) tr) (a_ (a_ (a_ (Eq.refl true) (a_ (Eq.refl 1) (a_ (lt_ 0 1 rfl) (le_ 1 16777216 rfl)))) (a_ (le_sl_gs 4 1 (some 1) rfl) (a_ (sub_lit (cInt .i64) default 1 (fun _ => rfl) [x]) tr))) (a_ (a_ (a_ (a_ (Eq.refl 1) (Nat.le_refl ([x]).length)) (a_ (a_ (lt_ 0 1 rfl) (a_ (lt_ 0 8 rfl) (a_ gL2_8 (a_ (Eq.refl 1) (Eq.refl true))))) (a_ (Eq.refl 1) (Nat.le_refl (l4).length)))) (a_ (le_gs_app 5 l4 [x]) (a_ (sub_app (cInt .i64) default 1 l4 [x]) tr))) (a_ (a_ tr tr) tr))))) (a_ (a_ (a_ (a_ tr (lt_ 0 1 rfl)) tr) tr) (a_ (a_ (a_ tr tr) (a_ (a_ (a_ (Eq.refl 1) (a_ (le_ 1 1 rfl) (Eq.refl 0))) tr) tr)) (a_ (a_ (a_ (a_ tr (lt_ 0 1 rfl)) tr) (a_ (a_ tr tr) (a_ (a_ (a_ (Eq.refl 1) (a_ (le_ 1 1 rfl) (Eq.refl 0))) tr) tr))) tr))))))) (ih _ _ _ r h) (by kernel_rfl) ⟨rfl, fun _ _ => rfl, fun _ _ => rfl, rfl, trivial⟩
        · skip
          exact run_to mixed hμ (L := [0, 1, 2, 4]) (n := 32) (s := [.go, .reg [(3, { v := some (.bool true) })], .reg [(5, { v := some (.bool true) }), (8, { call := some ((slices_ContainsFunc_int_int_v yL2_6).ren (sel [0, 3]), preOf (sel [0, 3]) 0 (slices_ContainsFunc_int_int_objs row g x), upOf (sel [0, 3]) (slices_ContainsFunc_int_int_up row g x yL2_6)) }), (9, { v := some (.bool false) })], .reg [], .reg [], .reg []])
            (a_ (a_ (a_ (a_ tr (lt_ 0 1 rfl)) tr) (a_ (a_ (a_ tr (lt_ 0 1 rfl)) tr) (a_ (a_ tr tr) (a_ (a_ tr (a_ (leB cL2_1) tr)) tr)))) (a_ (a_ (a_ tr tr) (a_ (a_ (a_ tr (lt_ 0 1 rfl)) tr) (a_ (a_ (a_ (Eq.refl 1) gL2_2) tr) (a_ (a_ (a_ gL2_3 (lt_ 0 1 rfl)) tr) (a_ (a_ tr tr) (a_ (a_ tr (a_ (leB cL2_4) tr)) (a_ (a_ tr tr) (a_ (a_ tr tr) (a_ (a_ (a_ (slices_ContainsFunc_int_int_ok row g x yL2_6 eL2_5 (sel [0, 3]) (sel_inj rfl rfl)) (a_ (LO.Le.refl (.var [.ds 1 (g).length (rowF (fun z_ : List (Int) => [.ds 1 (z_).length (rowF (cInt .i64) default z_)]) default g)])) (a_ (LO.Le.refl (.var [.int .i64 x])) tr))) tr) (a_ (a_ tr (a_ (leB cL2_7) tr)) tr)))))))))) (a_ (a_ (a_ (a_ tr (lt_ 0 1 rfl)) tr) tr) (a_ (a_ (a_ tr tr) (a_ (a_ (a_ (Eq.refl 1) (a_ (le_ 1 1 rfl) (Eq.refl 0))) tr) tr)) (a_ (a_ (a_ (a_ tr (lt_ 0 1 rfl)) tr) (a_ (a_ tr tr) (a_ (a_ (a_ (Eq.refl 1) (a_ (le_ 1 1 rfl) (Eq.refl 0))) tr) tr))) tr))))) (ih _ _ _ r h) (by kernel_rfl) ⟨rfl, fun _ _ => rfl, fun _ _ => rfl, rfl, trivial⟩
      · skip
        exact run_to mixed hμ (L := [0, 1, 2, 4]) (n := 32) (s := [.go, .reg [(3, { v := some (.bool true) })], .reg [(5, { v := some (.bool false) })], .reg [], .reg [], .reg []])
          (a_ (a_ (a_ (a_ tr (lt_ 0 1 rfl)) tr) (a_ (a_ (a_ tr (lt_ 0 1 rfl)) tr) (a_ (a_ tr tr) (a_ (a_ tr (a_ (leB cL2_1) tr)) tr)))) (a_ (a_ (a_ tr tr) (a_ (a_ (a_ tr (lt_ 0 1 rfl)) tr) (a_ (a_ (a_ (Eq.refl 1) gL2_2) tr) (a_ (a_ (a_ gL2_3 (lt_ 0 1 rfl)) tr) (a_ (a_ tr tr) (a_ (a_ tr (a_ (leB cL2_4) tr)) (a_ tr (a_ tr (a_ tr (a_ (a_ tr tr) tr)))))))))) (a_ (a_ (a_ (a_ tr (lt_ 0 1 rfl)) tr) tr) (a_ (a_ (a_ tr tr) (a_ (a_ (a_ (Eq.refl 1) (a_ (le_ 1 1 rfl) (Eq.refl 0))) tr) tr)) (a_ (a_ (a_ (a_ tr (lt_ 0 1 rfl)) tr) (a_ (a_ tr tr) (a_ (a_ (a_ (Eq.refl 1) (a_ (le_ 1 1 rfl) (Eq.refl 0))) tr) tr))) tr))))) (ih _ _ _ r h) (by kernel_rfl) ⟨rfl, fun _ _ => rfl, fun _ _ => rfl, rfl, trivial⟩
    · skip
      exact run_to mixed hμ (L := [0, 1]) (n := 22) (s := [.go, .reg [(3, { v := some (.bool false) })], .reg [], .reg [], .frz 2])
        (a_ (a_ (a_ (a_ tr (lt_ 0 1 rfl)) tr) (a_ (a_ (a_ tr (lt_ 0 1 rfl)) tr) (a_ (a_ tr tr) (a_ (a_ tr (a_ (leB cL2_1) tr)) tr)))) (a_ (a_ (a_ tr tr) (a_ (a_ tr tr) tr)) (a_ (a_ (a_ tr tr) (a_ (a_ tr tr) (a_ (a_ tr tr) tr))) (a_ (a_ (fz_row (enc := (cInt .i64)) (d := default) (fun _ => rfl) l4) (a_ (Nat.le_refl (l4).length) (a_ (Nat.le_refl (l4).length) (a_ (Nat.le_refl (l4).length) (a_ (ob_row (cInt .i64) default l3 2 1 (l4).length (rowF (cInt .i64) default l4) (l3).length (fun _ => rfl)) tr))))) tr)))) (hk1 _ _ _ r h) (by kernel_rfl) ⟨rfl, fun _ _ => rfl, trivial⟩

theorem hist_back_l1_ok {w0 : World} {W : Nat → Prop} {μ0 : Emb} (hμ : ∀ c p, μ0 c = some p → c < 0) (g : List (List (Int))) (to : Int)  : ∀ (fuel : Nat) (row : List (Int)) (x_n : Int) (l2 : List (Int)) (r : (List (Int))), hist_back_l1 g to  fuel row x_n l2 = some r → kont Try.prog w0 W μ0 (FnPost Try.prog Try.f31 0 0 (hist_back_v r) []) (kAt (bodyOf Try.f31) 1) none (hist_back_T1 g to row x_n l2) (hist_back_H1 g to row x_n l2) := by
  intro fuel
  induction fuel with
  | zero => intro row x_n l2 r h; rw [hist_back_l1] at h; cases h
  | succ fuel ih =>
    intro row x_n l2 r h
    rw [hist_back_l1] at h
    rcases itb_some h with ⟨cL1_1, h⟩ | ⟨cL1_1, h⟩
    · skip
      exact run_to mixed hμ (L := [0, 1, 2, 3]) (n := 28) (s := [.go, .reg [(2, { v := some (.bool true) })], .void (.gr 1 (([] : List (Int))).length (rowF (cInt .i64) default ([] : List (Int)))), .reg [(0, { v := some (.gs 2 (([] : List (Int))).length) })], .reg []])
        (a_ (a_ (a_ tr tr) (a_ (a_ tr tr) (a_ (a_ tr (a_ (leB cL1_1) tr)) tr))) (a_ (Eq.refl 0) (a_ (a_ (a_ tr (a_ (le_nil_gs 2) tr)) tr) (a_ (a_ (a_ tr tr) (a_ (a_ tr tr) (a_ (a_ (a_ (Eq.refl 1) (a_ (le_ 1 1 rfl) (Eq.refl 0))) tr) tr))) tr)))) (hist_back_l2_ok hμ g to row x_n (hist_back_l1 g to  fuel) (fun row x_n l2 r h => ih row x_n l2 r h) big _ _ _ r h) (by kernel_rfl) ⟨rfl, fun _ _ => rfl, fun _ _ => rfl, rfl, trivial⟩
    · skip
      obtain ⟨gL1_2, h⟩ := guard_some h
      obtain rfl := Option.some.inj h
      exact run_ret mixed (L := []) (n := 21) (s := [.go, .reg [(2, { v := some (.bool false) })], .reg [], .frz 1, .wk [(4, .ds 1 (l2).length (rowF (cInt .i64) default l2)), (5, .ds 1 (l2).length (rowF (cInt .i64) default l2)), (57, .ds 1 (l2).length (rowF (cInt .i64) default l2))] []])
        (a_ (a_ (a_ (a_ tr tr) (a_ (a_ tr tr) (a_ (a_ tr (a_ (leB cL1_1) tr)) tr))) (a_ (a_ (a_ tr tr) (a_ (a_ tr tr) tr)) (a_ (a_ (fz_row (enc := (cInt .i64)) (d := default) (fun _ => rfl) l2) (a_ (fz_sl gL1_2) (a_ (fz_sl gL1_2) (a_ (fz_sl gL1_2) (a_ (ob_row (cInt .i64) default l2 1 1 (l2).length (rowF (cInt .i64) default l2) (l2).length (fun _ => rfl)) tr))))) (a_ (a_ (a_ (le_fz_sl (cInt .i64) 1 (d := default) gL1_2) (a_ (le_fz_sl (cInt .i64) 1 (d := default) gL1_2) (a_ (le_fz_sl (cInt .i64) 1 (d := default) gL1_2) tr))) tr) tr)))) tr) (by kernel_rfl) rfl

theorem hist_back_l0_ok {w0 : World} {W : Nat → Prop} {μ0 : Emb} (hμ : ∀ c p, μ0 c = some p → c < 0) (g : List (List (Int))) (to : Int)  : ∀ (fuel : Nat) (t16 : Int) (l : List (Int)) (r : (List (Int))), hist_back_l0 g to  fuel t16 l = some r → kont Try.prog w0 W μ0 (FnPost Try.prog Try.f31 0 0 (hist_back_v r) []) (kAt (bodyOf Try.f31) 0) none (hist_back_T0 g to t16 l) (hist_back_H0 g to t16 l) := by
  intro fuel
  induction fuel with
  | zero => intro t16 l r h; rw [hist_back_l0] at h; cases h
  | succ fuel ih =>
    intro t16 l r h
    rw [hist_back_l0] at h
    rcases itb_some h with ⟨cL0_1, h⟩ | ⟨cL0_1, h⟩
    · skip
      obtain ⟨gL0_2, h⟩ := guard_some h
      obtain ⟨gL0_3, h⟩ := guard_some h
      exact run_to mixed hμ (L := [0, 1]) (n := 26) (s := [.go, .reg [(0, { v := some (.bool true) })], .reg [], .reg [(3, { os := [(1, .row 1 ((l.set (0 + t16.toNat) (-1))).length (rowF (cInt .i64) default (l.set (0 + t16.toNat) (-1))) true)] })], .reg []])
        (a_ (a_ (a_ tr (a_ (leB cL0_1) tr)) tr) (a_ (a_ (a_ tr tr) (a_ (a_ tr tr) tr)) (a_ (a_ (a_ tr tr) (a_ (a_ tr tr) (a_ (a_ (a_ (Eq.refl 1) gL0_2) tr) (a_ (a_ (a_ (Eq.refl 1) (a_ (le_ 1 1 rfl) gL0_3)) (a_ (sub_set_row (cInt .i64) default 1 l (0 + t16.toNat) (-1) gL0_3 (splL (rowF (cInt .i64) default l (0 + t16.toNat)) 0 [.int .i64 (-1)]) (by kernel_rfl)) tr)) tr)))) (a_ (a_ (a_ tr tr) (a_ (a_ tr tr) tr)) tr)))) (ih _ _ r h) (by kernel_rfl) ⟨rfl, fun _ _ => rfl, trivial⟩
    · skip
      exact run_to mixed hμ (L := [0, 1]) (n := 26) (s := [.go, .reg [(0, { v := some (.bool false) })], .reg [(1, { os := [(2, .gr 1 ([to]).length (rowF (cInt .i64) default [to]))], v := some (.gs 2 ([to]).length) })], .reg [], .frz 2])
        (a_ (a_ (a_ tr (a_ (leB cL0_1) tr)) tr) (a_ (a_ (a_ tr tr) (a_ (a_ (a_ (Eq.refl true) (a_ (Eq.refl 1) (a_ (lt_ 0 1 rfl) (le_ 1 16777216 rfl)))) (a_ (le_sl_gs 2 1 (some 1) rfl) (a_ (sub_lit (cInt .i64) default 1 (fun _ => rfl) [to]) tr))) (a_ (a_ tr tr) tr))) (a_ (a_ (a_ tr tr) tr) (a_ (a_ (fz_row (enc := (cInt .i64)) (d := default) (fun _ => rfl) [to]) (a_ (Nat.le_refl ([to]).length) (a_ (Nat.le_refl ([to]).length) (a_ (ob_row (cInt .i64) default l 2 1 ([to]).length (rowF (cInt .i64) default [to]) (l).length (fun _ => rfl)) tr)))) tr)))) (hist_back_l1_ok hμ g to  big _ _ _ r h) (by kernel_rfl) ⟨rfl, fun _ _ => rfl, trivial⟩

theorem hist_back_ok (g : List (List (Int))) (to : Int) (r : (List (Int))) (h : hist_back g to = some r) : ∀ σ, Inj 0 σ → FnTri Try.prog 31 (renL σ [.ds 1 (g).length (rowF (fun z_ : List (Int) => [.ds 1 (z_).length (rowF (cInt .i64) default z_)]) default g), .int .i64 to]) (preOf σ 0 []) ((hist_back_v r).ren σ) (upOf σ []) := by
  refine fn_of Try.func31 (by kernel_rfl) (by kernel_rfl) (by kernel_rfl) trivial (by kernel_rfl) trivial (by kernel_rfl) ?_
  intro w0 W μ0 hμ
  unfold hist_back at h
  obtain ⟨g1, h⟩ := guard_some h
  exact run_to mixed hμ (L := [0, 1]) (n := 21) (s := [.reg [(1, { v := some (.ds 1 (([] : List (Int))).length (rowF (cInt .i64) default ([] : List (Int)))) })], .reg [(2, { os := [(1, .row 1 ((List.replicate ((((g).length : Int)).toNat) 0 : List (Int))).length (rowF (cInt .i64) default (List.replicate ((((g).length : Int)).toNat) 0 : List (Int))) true)], v := some (.sl 1 0 0 false ((((g).length : Int)).toNat) none) })], .reg []])
    (a_ (a_ (a_ tr tr) (a_ (a_ tr (a_ (le_nil_ds 1 (rowF (cInt .i64) default [])) tr)) tr)) (a_ (a_ (a_ (a_ tr (lt_ 0 1 rfl)) tr) (a_ (a_ tr tr) (a_ (a_ (a_ g1.1 (a_ g1.2.1 (a_ g1.2.2.1 (a_ g1.2.2.2 (a_ (Eq.refl true) (a_ (Eq.refl 1) (lt_ 0 1 rfl))))))) (a_ (le_cap 1 0 0 false ((((g).length : Int)).toNat) ((((g).length : Int)).toNat)) (a_ (sub_made (cInt .i64) default 1 ((((g).length : Int)).toNat) 0) tr))) (a_ (a_ tr tr) tr)))) (a_ (a_ (a_ tr tr) (a_ (a_ tr tr) (a_ (a_ tr tr) tr))) tr))) (hist_back_l0_ok hμ g to  big _ _ r h) (by kernel_rfl) ⟨rfl, fun _ _ => rfl, trivial⟩

theorem hist_back_tri (g : List (List (Int))) (to : Int) (r : (List (Int))) (h : hist_back g to = some r) : FnTri Try.prog 31 [.ds 1 (g).length (rowF (fun z_ : List (Int) => [.ds 1 (z_).length (rowF (cInt .i64) default z_)]) default g), .int .i64 to] [] (hist_back_v r) [] := FnTri.none (hist_back_ok g to r h) rfl rfl

/-- parrel/hist.Circle$1 -/

def hist_Circle_L1_v (r : (Bool)) : LV := .bool r

def hist_Circle_L1_up (x_k : Int) (x1 : Int) (x2 : List (Int)) (x3 : Int) (r : (Bool)) : Upd := [(0, some (.var [.int .i64 x1])), (1, some (.var [.ds 1 (x2).length (rowF (cInt .i64) default x2)])), (2, some (.var [.int .i64 x3]))]

def hist_Circle_L1_objs (x_k : Int) (x1 : Int) (x2 : List (Int)) (x3 : Int) : List LO := [.var [.int .i64 x1], .var [.ds 1 (x2).length (rowF (cInt .i64) default x2)], .var [.int .i64 x3]]

def hist_Circle_L1 (x_k : Int) (x1 : Int) (x2 : List (Int)) (x3 : Int) : Option ((Bool)) :=
  if ((decide (x1 < x_k)) : Bool) then
    if 0 ≤ x_k ∧ x_k < (((x2).length : Nat) : Int) then
    some ((x2.getD x_k.toNat default) == x3)
    else none
  else
    some false

theorem hist_Circle_L1_ok (x_k : Int) (x1 : Int) (x2 : List (Int)) (x3 : Int) (r : (Bool)) (h : hist_Circle_L1 x_k x1 x2 x3 = some r) : ∀ σ, Inj 3 σ → FnTri Try.prog 33 (renL σ [.int .i64 x_k, .ptr 0 0 0, .ptr 1 0 0, .ptr 2 0 0]) (preOf σ 0 (hist_Circle_L1_objs x_k x1 x2 x3)) ((hist_Circle_L1_v r).ren σ) (upOf σ (hist_Circle_L1_up x_k x1 x2 x3 r)) := by
  refine fn_of Try.func33 (by kernel_rfl) (by kernel_rfl) (by kernel_rfl) ⟨rfl, rfl, rfl, trivial⟩ (by kernel_rfl) ⟨rfl, rfl, rfl, trivial⟩ (by kernel_rfl) ?_
  intro w0 W μ0 hμ
  unfold hist_Circle_L1 at h
  rcases itb_some h with ⟨c1, h⟩ | ⟨c1, h⟩
  · skip
    obtain ⟨g2, h⟩ := guard_some h
    obtain rfl := Option.some.inj h
    exact run_ret mixed (L := []) (n := 15) (s := [.reg [], .reg [(3, { v := some (.bool true) })]])
      (a_ (a_ (a_ (a_ tr tr) tr) (a_ (a_ (a_ tr tr) (a_ (a_ (a_ tr (lt_ 0 1 rfl)) tr) (a_ (a_ tr tr) (a_ (a_ tr (a_ (leB c1) tr)) (a_ (a_ (a_ tr (lt_ 0 1 rfl)) tr) (a_ (a_ tr tr) (a_ (a_ (a_ (Eq.refl 1) g2) tr) (a_ (a_ (lt_ 0 1 rfl) tr) (a_ (a_ (a_ tr (lt_ 0 1 rfl)) tr) (a_ (a_ tr tr) (a_ (a_ tr tr) (a_ (a_ tr tr) tr)))))))))))) tr)) tr) (by kernel_rfl) rfl
  · skip
    obtain rfl := Option.some.inj h
    exact run_ret mixed (L := []) (n := 15) (s := [.reg [], .reg [(3, { v := some (.bool false) })]])
      (a_ (a_ (a_ (a_ tr tr) tr) (a_ (a_ (a_ tr tr) (a_ (a_ (a_ tr (lt_ 0 1 rfl)) tr) (a_ (a_ tr tr) (a_ (a_ tr (a_ (leB c1) tr)) (a_ tr (a_ tr (a_ tr (a_ tr (a_ tr (a_ tr (a_ (a_ tr tr) (a_ (a_ tr tr) tr)))))))))))) tr)) tr) (by kernel_rfl) rfl

/-- slices.IndexFunc[[]int,int] -/

def slices_IndexFunc_int_int_2_v (r : (Int)) : LV := .int .i64 r

def slices_IndexFunc_int_int_2_up (s : List (Int)) (c : Int) (c2 : List (Int)) (c3 : Int) (r : (Int)) : Upd := [(0, some (.var [.int .i64 c])), (1, some (.var [.ds 1 (c2).length (rowF (cInt .i64) default c2)])), (2, some (.var [.int .i64 c3]))]

def slices_IndexFunc_int_int_2_objs (s : List (Int)) (c : Int) (c2 : List (Int)) (c3 : Int) : List LO := [.var [.int .i64 c], .var [.ds 1 (c2).length (rowF (cInt .i64) default c2)], .var [.int .i64 c3]]

def slices_IndexFunc_int_int_2_T0 (s : List (Int)) (c : Int) (c2 : List (Int)) (c3 : Int) (t8 : Int) : List LV := [.ds 1 (s).length (rowF (cInt .i64) default s), .fn 33 [] [.ptr 0 0 0, .ptr 1 0 0, .ptr 2 0 0], .any, .any, .any, .any, .any, .int .i64 ((s).length : Int), .int .i64 t8, .any, .any, .any, .any, .any, .any, .any, .any, .any, .any]

def slices_IndexFunc_int_int_2_H0 (s : List (Int)) (c : Int) (c2 : List (Int)) (c3 : Int) (t8 : Int) : Heap := [some (.var [.int .i64 c]), some (.var [.ds 1 (c2).length (rowF (cInt .i64) default c2)]), some (.var [.int .i64 c3])]

def slices_IndexFunc_int_int_2_l0 (s : List (Int)) (c : Int) (c2 : List (Int)) (c3 : Int)  : Nat → (Int) → Option ((Int))
  | 0, _ => none
  | fuel + 1, t8 =>
    if ((decide (t8 < ((s).length : Int))) : Bool) then
      if 0 ≤ t8 ∧ t8 < (((s).length : Nat) : Int) then
      (hist_Circle_L1 (s.getD t8.toNat default) c c2 c3).bind fun yL0_4 =>
      if (yL0_4 : Bool) then
        some t8
      else
        slices_IndexFunc_int_int_2_l0 s c c2 c3  fuel (IntKind.wrap .i64 (t8 + 1))
      else none
    else
      some (-1)

def slices_IndexFunc_int_int_2 (s : List (Int)) (c : Int) (c2 : List (Int)) (c3 : Int) : Option ((Int)) :=
  slices_IndexFunc_int_int_2_l0 s c c2 c3  big 0

theorem slices_IndexFunc_int_int_2_l0_ok {w0 : World} {W : Nat → Prop} {μ0 : Emb} (hμ : ∀ c p, μ0 c = some p → c < 3) (s : List (Int)) (c : Int) (c2 : List (Int)) (c3 : Int)  : ∀ (fuel : Nat) (t8 : Int) (r : (Int)), slices_IndexFunc_int_int_2_l0 s c c2 c3  fuel t8 = some r → kont Try.prog w0 W μ0 (FnPost Try.prog Try.f32 3 3 (slices_IndexFunc_int_int_2_v r) (slices_IndexFunc_int_int_2_up s c c2 c3 r)) (kAt (bodyOf Try.f32) 0) none (slices_IndexFunc_int_int_2_T0 s c c2 c3 t8) (slices_IndexFunc_int_int_2_H0 s c c2 c3 t8) := by
  intro fuel
  induction fuel with
  | zero => intro t8 r h; rw [slices_IndexFunc_int_int_2_l0] at h; cases h
  | succ fuel ih =>
    intro t8 r h
    rw [slices_IndexFunc_int_int_2_l0] at h
    rcases itb_some h with ⟨cL0_1, h⟩ | ⟨cL0_1, h⟩
    · skip
      obtain ⟨gL0_2, h⟩ := guard_some h
      obtain ⟨yL0_4, eL0_3, h⟩ := bind_some h
      rcases itb_some h with ⟨cL0_5, h⟩ | ⟨cL0_5, h⟩
      · skip
        obtain rfl := Option.some.inj h
        exact run_ret mixed (L := []) (n := 28) (s := [.go, .reg [(0, { v := some (.bool true) })], .reg [], .reg [(5, { call := some ((hist_Circle_L1_v yL0_4).ren (sel [0, 1, 2]), preOf (sel [0, 1, 2]) 0 (hist_Circle_L1_objs (s.getD t8.toNat default) c c2 c3), upOf (sel [0, 1, 2]) (hist_Circle_L1_up (s.getD t8.toNat default) c c2 c3 yL0_4)), v := some (.bool true) })], .reg []])
          (a_ (a_ (a_ (a_ tr (a_ (leB cL0_1) tr)) tr) (a_ (a_ (a_ tr tr) (a_ (a_ tr tr) tr)) (a_ (a_ (a_ tr tr) (a_ (a_ tr tr) (a_ (a_ tr tr) (a_ (a_ (a_ (Eq.refl 1) gL0_2) tr) (a_ (a_ (lt_ 0 1 rfl) tr) (a_ (a_ (a_ (hist_Circle_L1_ok (s.getD t8.toNat default) c c2 c3 yL0_4 eL0_3 (sel [0, 1, 2]) (sel_inj rfl rfl)) (a_ (LO.Le.refl (.var [.int .i64 c])) (a_ (LO.Le.refl (.var [.ds 1 (c2).length (rowF (cInt .i64) default c2)])) (a_ (LO.Le.refl (.var [.int .i64 c3])) tr)))) (a_ (leB cL0_5) tr)) tr)))))) (a_ (a_ (a_ tr tr) (a_ (a_ tr tr) tr)) tr)))) tr) (by kernel_rfl) rfl
      · skip
        exact run_to mixed hμ (L := []) (n := 29) (s := [.go, .reg [(0, { v := some (.bool true) })], .reg [], .reg [(5, { call := some ((hist_Circle_L1_v yL0_4).ren (sel [0, 1, 2]), preOf (sel [0, 1, 2]) 0 (hist_Circle_L1_objs (s.getD t8.toNat default) c c2 c3), upOf (sel [0, 1, 2]) (hist_Circle_L1_up (s.getD t8.toNat default) c c2 c3 yL0_4)), v := some (.bool false) })], .reg []])
          (a_ (a_ (a_ tr (a_ (leB cL0_1) tr)) tr) (a_ (a_ (a_ tr tr) (a_ (a_ tr tr) tr)) (a_ (a_ (a_ tr tr) (a_ (a_ tr tr) (a_ (a_ tr tr) (a_ (a_ (a_ (Eq.refl 1) gL0_2) tr) (a_ (a_ (lt_ 0 1 rfl) tr) (a_ (a_ (a_ (hist_Circle_L1_ok (s.getD t8.toNat default) c c2 c3 yL0_4 eL0_3 (sel [0, 1, 2]) (sel_inj rfl rfl)) (a_ (LO.Le.refl (.var [.int .i64 c])) (a_ (LO.Le.refl (.var [.ds 1 (c2).length (rowF (cInt .i64) default c2)])) (a_ (LO.Le.refl (.var [.int .i64 c3])) tr)))) (a_ (leB cL0_5) tr)) tr)))))) (a_ (a_ (a_ tr tr) (a_ (a_ tr tr) tr)) tr)))) (ih _ r h) (by kernel_rfl) ⟨rfl, rfl, rfl, trivial⟩
    · skip
      obtain rfl := Option.some.inj h
      exact run_ret mixed (L := []) (n := 19) (s := [.go, .reg [(0, { v := some (.bool false) })], .reg []])
        (a_ (a_ (a_ (a_ tr (a_ (leB cL0_1) tr)) tr) (a_ (a_ (a_ tr tr) tr) tr)) tr) (by kernel_rfl) rfl

theorem slices_IndexFunc_int_int_2_ok (s : List (Int)) (c : Int) (c2 : List (Int)) (c3 : Int) (r : (Int)) (h : slices_IndexFunc_int_int_2 s c c2 c3 = some r) : ∀ σ, Inj 3 σ → FnTri Try.prog 32 (renL σ [.ds 1 (s).length (rowF (cInt .i64) default s), .fn 33 [] [.ptr 0 0 0, .ptr 1 0 0, .ptr 2 0 0]]) (preOf σ 0 (slices_IndexFunc_int_int_2_objs s c c2 c3)) ((slices_IndexFunc_int_int_2_v r).ren σ) (upOf σ (slices_IndexFunc_int_int_2_up s c c2 c3 r)) := by
  refine fn_of Try.func32 (by kernel_rfl) (by kernel_rfl) (by kernel_rfl) ⟨rfl, rfl, rfl, trivial⟩ (by kernel_rfl) ⟨rfl, rfl, rfl, trivial⟩ (by kernel_rfl) ?_
  intro w0 W μ0 hμ
  unfold slices_IndexFunc_int_int_2 at h
  exact run_to mixed hμ (L := []) (n := 18) (s := [.reg [], .reg []])
    (a_ (a_ (a_ tr tr) tr) (a_ (a_ (a_ tr tr) (a_ (a_ tr tr) (a_ (a_ tr tr) tr))) tr)) (slices_IndexFunc_int_int_2_l0_ok hμ s c c2 c3  big _ r h) (by kernel_rfl) ⟨rfl, rfl, rfl, trivial⟩

/-- parrel/hist.Circle -/

def hist_Circle_v (r : (List (Int))) : LV := .ds 1 (r).length (rowF (cInt .i64) default r)

def hist_Circle_T1 (t23 : Int) (y5 : (List (List (Int)))) (yL0_3 : (List (Int))) (l3 : List (Int)) (x : Int) : List LV := [.any, .any, .any, .any, .any, .ds 1 (y5).length (rowF (fun z_ : List (Int) => [.ds 1 (z_).length (rowF (cInt .i64) default z_)]) default y5), .gs 0 (l3).length, .ptr 1 0 0, .ptr 2 0 0, .ptr 3 0 0, .any, .any, .any, .any, .any, .any, .any, .any, .any, .any, .any, .any, .int .i64 ((y5).length : Int), .int .i64 t23, .any, .any, .any, .any, .any, .any, .any, .any, .any, .any, .any, .any, .any, .any, .any, .any, .any, .any, .any, .any, .any, .any, .any, .any, .any, .any, .any, .any, .any, .any, .any, .any, .any, .any, .any, .any, .any, .any, .any, .any, .any, .any, .any, .any, .any, .any, .any, .any, .any, .any, .any, .any, .any, .any, .any, .any]

def hist_Circle_H1 (t23 : Int) (y5 : (List (List (Int)))) (yL0_3 : (List (Int))) (l3 : List (Int)) (x : Int) : Heap := [some (.gr 1 (l3).length (rowF (cInt .i64) default l3)), some (.var [.int .i64 t23]), some (.var [.ds 1 (yL0_3).length (rowF (cInt .i64) default yL0_3)]), some (.var [.int .i64 x])]

def hist_Circle_T0 (y5 : (List (List (Int)))) (t23 : Int) (l2 : List (Int)) : List LV := [.any, .any, .any, .any, .any, .ds 1 (y5).length (rowF (fun z_ : List (Int) => [.ds 1 (z_).length (rowF (cInt .i64) default z_)]) default y5), .gs 0 (l2).length, .any, .any, .any, .any, .any, .any, .any, .any, .any, .any, .any, .any, .any, .any, .any, .int .i64 ((y5).length : Int), .int .i64 t23, .any, .any, .any, .any, .any, .any, .any, .any, .any, .any, .any, .any, .any, .any, .any, .any, .any, .any, .any, .any, .any, .any, .any, .any, .any, .any, .any, .any, .any, .any, .any, .any, .any, .any, .any, .any, .any, .any, .any, .any, .any, .any, .any, .any, .any, .any, .any, .any, .any, .any, .any, .any, .any, .any, .any, .any]

def hist_Circle_H0 (y5 : (List (List (Int)))) (t23 : Int) (l2 : List (Int)) : Heap := [some (.gr 1 (l2).length (rowF (cInt .i64) default l2))]

def hist_Circle_l1 (t23 : Int) (y5 : (List (List (Int)))) (yL0_3 : (List (Int))) (k0 : (Int) → (List (Int)) → Option ((List (Int)))) : Nat → (List (Int)) → (Int) → Option ((List (Int)))
  | 0, _, _ => none
  | fuel + 1, l3, x =>
    if ((decide (0 < x)) : Bool) then
      if 0 ≤ (IntKind.wrap .i64 (((l3).length : Int) - 1)) ∧ (IntKind.wrap .i64 (((l3).length : Int) - 1)) < (((l3).length : Nat) : Int) then
      if 0 ≤ (l3.getD ((IntKind.wrap .i64 (((l3).length : Int) - 1))).toNat default) ∧ (l3.getD ((IntKind.wrap .i64 (((l3).length : Int) - 1))).toNat default) < (((y5).length : Nat) : Int) then
      (slices_IndexFunc_int_int_2 (y5.getD ((l3.getD ((IntKind.wrap .i64 (((l3).length : Int) - 1))).toNat default)).toNat default) t23 yL0_3 x).bind fun yL1_5 =>
      if 0 ≤ yL1_5 ∧ yL1_5 < ((((y5.getD ((l3.getD ((IntKind.wrap .i64 (((l3).length : Int) - 1))).toNat default)).toNat default)).length : Nat) : Int) then
      if ((l3).length + ([((y5.getD ((l3.getD ((IntKind.wrap .i64 (((l3).length : Int) - 1))).toNat default)).toNat default).getD yL1_5.toNat default)]).length) * 8 ≤ 140737488351232 then
      hist_Circle_l1 t23 y5 yL0_3 k0 fuel (l3 ++ [((y5.getD ((l3.getD ((IntKind.wrap .i64 (((l3).length : Int) - 1))).toNat default)).toNat default).getD yL1_5.toNat default)]) (IntKind.wrap .i64 (x - 1))
      else none
      else none
      else none
      else none
    else
      k0 (IntKind.wrap .i64 (t23 + 1)) l3

def hist_Circle_l0 (y5 : (List (List (Int))))  : Nat → (Int) → (List (Int)) → Option ((List (Int)))
  | 0, _, _ => none
  | fuel + 1, t23, l2 =>
    if ((decide (t23 < ((y5).length : Int))) : Bool) then
      (hist_back y5 t23).bind fun yL0_3 =>
      if 0 ≤ t23 ∧ t23 < (((yL0_3).length : Nat) : Int) then
      if ((decide ((yL0_3.getD t23.toNat default) < 0)) : Bool) then
        hist_Circle_l0 y5  fuel (IntKind.wrap .i64 (t23 + 1)) l2
      else
        if ((!((l2).length == 0)) : Bool) then
          if ((decide (((l2).length : Int) ≤ (yL0_3.getD t23.toNat default))) : Bool) then
            hist_Circle_l0 y5  fuel (IntKind.wrap .i64 (t23 + 1)) l2
          else
            hist_Circle_l1 t23 y5 yL0_3 (hist_Circle_l0 y5  fuel) big ([t23]) (IntKind.wrap .i64 ((yL0_3.getD t23.toNat default) - 1))
        else
          hist_Circle_l1 t23 y5 yL0_3 (hist_Circle_l0 y5  fuel) big ([t23]) (IntKind.wrap .i64 ((yL0_3.getD t23.toNat default) - 1))
      else none
    else
      some l2

def hist_Circle (l : List (T_hist_Tx)) : Option ((List (Int))) :=
  (hist_Order l).bind fun y2 =>
  if ((y2.2 != 11) : Bool) then
    some ([] : List (Int))
  else
    (hist_graph l).bind fun y5 =>
    hist_Circle_l0 y5  big 0 ([] : List (Int))

theorem hist_Circle_l1_ok {w0 : World} {W : Nat → Prop} {μ0 : Emb} (hμ : ∀ c p, μ0 c = some p → c < 0) (t23 : Int) (y5 : (List (List (Int)))) (yL0_3 : (List (Int))) (k0 : (Int) → (List (Int)) → Option ((List (Int)))) (hk0 : ∀ (t23 : Int) (l2 : List (Int)) (r : (List (Int))), k0 t23 l2 = some r → kont Try.prog w0 W μ0 (FnPost Try.prog Try.f16 0 0 (hist_Circle_v r) []) (kAt (bodyOf Try.f16) 0) none (hist_Circle_T0 y5 t23 l2) (hist_Circle_H0 y5 t23 l2)) : ∀ (fuel : Nat) (l3 : List (Int)) (x : Int) (r : (List (Int))), hist_Circle_l1 t23 y5 yL0_3 k0 fuel l3 x = some r → kont Try.prog w0 W μ0 (FnPost Try.prog Try.f16 0 0 (hist_Circle_v r) []) (kAt (bodyOf Try.f16) 1) none (hist_Circle_T1 t23 y5 yL0_3 l3 x) (hist_Circle_H1 t23 y5 yL0_3 l3 x) := by
  intro fuel
  induction fuel with
  | zero => intro l3 x r h; rw [hist_Circle_l1] at h; cases h
  | succ fuel ih =>
    intro l3 x r h
    rw [hist_Circle_l1] at h
    rcases itb_some h with ⟨cL1_1, h⟩ | ⟨cL1_1, h⟩
    · skip
      obtain ⟨gL1_2, h⟩ := guard_some h
      obtain ⟨gL1_3, h⟩ := guard_some h
      obtain ⟨yL1_5, eL1_4, h⟩ := bind_some h
      obtain ⟨gL1_6, h⟩ := guard_some h
      obtain ⟨gL1_7, h⟩ := guard_some h
      exact run_to mixed hμ (L := [5, 1, 2, 6]) (n := 35) (s := [.go, .reg [(1, { v := some (.bool true) })], .reg [], .reg [(2, { call := some ((slices_IndexFunc_int_int_2_v yL1_5).ren (sel [1, 2, 3]), preOf (sel [1, 2, 3]) 0 (slices_IndexFunc_int_int_2_objs (y5.getD ((l3.getD ((IntKind.wrap .i64 (((l3).length : Int) - 1))).toNat default)).toNat default) t23 yL0_3 x), upOf (sel [1, 2, 3]) (slices_IndexFunc_int_int_2_up (y5.getD ((l3.getD ((IntKind.wrap .i64 (((l3).length : Int) - 1))).toNat default)).toNat default) t23 yL0_3 x yL1_5)) })], .reg [(5, { os := [(4, .gr 1 ([((y5.getD ((l3.getD ((IntKind.wrap .i64 (((l3).length : Int) - 1))).toNat default)).toNat default).getD yL1_5.toNat default)]).length (rowF (cInt .i64) default [((y5.getD ((l3.getD ((IntKind.wrap .i64 (((l3).length : Int) - 1))).toNat default)).toNat default).getD yL1_5.toNat default)]))], v := some (.gs 4 ([((y5.getD ((l3.getD ((IntKind.wrap .i64 (((l3).length : Int) - 1))).toNat default)).toNat default).getD yL1_5.toNat default)]).length) }), (6, { app := 3, os := [(5, .gr 1 ((l3 ++ [((y5.getD ((l3.getD ((IntKind.wrap .i64 (((l3).length : Int) - 1))).toNat default)).toNat default).getD yL1_5.toNat default)])).length (rowF (cInt .i64) default (l3 ++ [((y5.getD ((l3.getD ((IntKind.wrap .i64 (((l3).length : Int) - 1))).toNat default)).toNat default).getD yL1_5.toNat default)])))], v := some (.gs 5 ((l3 ++ [((y5.getD ((l3.getD ((IntKind.wrap .i64 (((l3).length : Int) - 1))).toNat default)).toNat default).getD yL1_5.toNat default)])).length) })], .reg [], .reg [], .reg []])
        (a_ (a_ (a_ (a_ tr (lt_ 0 1 rfl)) tr) (a_ (a_ tr (a_ (leB cL1_1) tr)) tr)) (a_ (a_ (a_ tr tr) (a_ (a_ tr tr) (a_ (a_ tr tr) (a_ (a_ tr tr) (a_ (a_ tr tr) (a_ (a_ (a_ (Eq.refl 1) gL1_2) tr) (a_ (a_ (a_ (ltN gL1_2) (lt_ 0 1 rfl)) tr) (a_ (a_ (a_ (Eq.refl 1) gL1_3) tr) (a_ (a_ (lt_ 0 1 rfl) tr) (a_ (a_ tr tr) tr)))))))))) (a_ (a_ (a_ tr tr) (a_ (a_ tr tr) (a_ (a_ (a_ (slices_IndexFunc_int_int_2_ok (y5.getD ((l3.getD ((IntKind.wrap .i64 (((l3).length : Int) - 1))).toNat default)).toNat default) t23 yL0_3 x yL1_5 eL1_4 (sel [1, 2, 3]) (sel_inj rfl rfl)) (a_ (LO.Le.refl (.var [.int .i64 t23])) (a_ (LO.Le.refl (.var [.ds 1 (yL0_3).length (rowF (cInt .i64) default yL0_3)])) (a_ (LO.Le.refl (.var [.int .i64 x])) tr)))) tr) (a_ (a_ tr tr) tr)))) (a_ (a_ (a_ tr tr) (a_ (a_ tr tr) (a_ (a_ tr tr) (a_ (a_ (a_ (Eq.refl 1) gL1_6) tr) (a_ (a_ (lt_ 0 1 rfl) tr) (a_ (a_ (a_ (Eq.refl true) (a_ (Eq.refl 1) (a_ (lt_ 0 1 rfl) (le_ 1 16777216 rfl)))) (a_ (le_sl_gs 4 1 (some 1) rfl) (a_ (sub_lit (cInt .i64) default 1 (fun _ => rfl) [((y5.getD ((l3.getD ((IntKind.wrap .i64 (((l3).length : Int) - 1))).toNat default)).toNat default).getD yL1_5.toNat default)]) tr))) (a_ (a_ (a_ (a_ (Eq.refl 1) (Nat.le_refl ([((y5.getD ((l3.getD ((IntKind.wrap .i64 (((l3).length : Int) - 1))).toNat default)).toNat default).getD yL1_5.toNat default)]).length)) (a_ (a_ (lt_ 0 1 rfl) (a_ (lt_ 0 8 rfl) (a_ gL1_7 (a_ (Eq.refl 1) (Eq.refl true))))) (a_ (Eq.refl 1) (Nat.le_refl (l3).length)))) (a_ (le_gs_app 5 l3 [((y5.getD ((l3.getD ((IntKind.wrap .i64 (((l3).length : Int) - 1))).toNat default)).toNat default).getD yL1_5.toNat default)]) (a_ (sub_app (cInt .i64) default 1 l3 [((y5.getD ((l3.getD ((IntKind.wrap .i64 (((l3).length : Int) - 1))).toNat default)).toNat default).getD yL1_5.toNat default)]) tr))) (a_ (a_ tr tr) tr)))))))) (a_ (a_ (a_ (a_ tr (lt_ 0 1 rfl)) tr) tr) (a_ (a_ (a_ tr tr) (a_ (a_ (a_ (Eq.refl 1) (a_ (le_ 1 1 rfl) (Eq.refl 0))) tr) tr)) (a_ (a_ (a_ (a_ tr (lt_ 0 1 rfl)) tr) (a_ (a_ tr tr) (a_ (a_ (a_ (Eq.refl 1) (a_ (le_ 1 1 rfl) (Eq.refl 0))) tr) tr))) tr))))))) (ih _ _ r h) (by kernel_rfl) ⟨fun _ _ => rfl, rfl, rfl, rfl, trivial⟩
    · skip
      exact run_to mixed hμ (L := [0]) (n := 19) (s := [.go, .reg [(1, { v := some (.bool false) })], .reg []])
        (a_ (a_ (a_ (a_ tr (lt_ 0 1 rfl)) tr) (a_ (a_ tr (a_ (leB cL1_1) tr)) tr)) (a_ (a_ (a_ tr tr) (a_ (a_ tr tr) tr)) tr)) (hk0 _ _ r h) (by kernel_rfl) ⟨fun _ _ => rfl, trivial⟩

theorem hist_Circle_l0_ok {w0 : World} {W : Nat → Prop} {μ0 : Emb} (hμ : ∀ c p, μ0 c = some p → c < 0) (y5 : (List (List (Int))))  : ∀ (fuel : Nat) (t23 : Int) (l2 : List (Int)) (r : (List (Int))), hist_Circle_l0 y5  fuel t23 l2 = some r → kont Try.prog w0 W μ0 (FnPost Try.prog Try.f16 0 0 (hist_Circle_v r) []) (kAt (bodyOf Try.f16) 0) none (hist_Circle_T0 y5 t23 l2) (hist_Circle_H0 y5 t23 l2) := by
  intro fuel
  induction fuel with
  | zero => intro t23 l2 r h; rw [hist_Circle_l0] at h; cases h
  | succ fuel ih =>
    intro t23 l2 r h
    rw [hist_Circle_l0] at h
    rcases itb_some h with ⟨cL0_1, h⟩ | ⟨cL0_1, h⟩
    · skip
      obtain ⟨yL0_3, eL0_2, h⟩ := bind_some h
      obtain ⟨gL0_4, h⟩ := guard_some h
      rcases itb_some h with ⟨cL0_5, h⟩ | ⟨cL0_5, h⟩
      · skip
        exact run_to mixed hμ (L := [0]) (n := 32) (s := [.go, .reg [(0, { v := some (.bool true) })], .reg [], .reg [(2, { call := some (hist_back_v yL0_3, [], []) })], .reg [(5, { v := some (.bool true) })], .reg []])
          (a_ (a_ (a_ tr (a_ (leB cL0_1) tr)) tr) (a_ (a_ (a_ tr tr) (a_ (a_ tr tr) (a_ (a_ (a_ (Eq.refl 1) (a_ (le_ 1 1 rfl) (Eq.refl 0))) tr) tr))) (a_ (a_ (a_ tr tr) (a_ (a_ (a_ tr (lt_ 0 1 rfl)) tr) (a_ (a_ (a_ (hist_back_tri y5 t23 yL0_3 eL0_2) tr) tr) (a_ (a_ tr tr) (a_ (a_ (a_ (Eq.refl 1) (a_ (le_ 1 1 rfl) (Eq.refl 0))) tr) tr))))) (a_ (a_ (a_ (a_ tr (lt_ 0 1 rfl)) tr) (a_ (a_ (a_ tr (lt_ 0 1 rfl)) tr) (a_ (a_ (a_ (Eq.refl 1) gL0_4) tr) (a_ (a_ (lt_ 0 1 rfl) tr) (a_ (a_ tr tr) (a_ (a_ tr (a_ (leB cL0_5) tr)) (a_ tr (a_ tr (a_ tr (a_ tr (a_ tr (a_ tr (a_ tr (a_ tr (a_ tr (a_ tr (a_ tr (a_ (a_ tr tr) tr)))))))))))))))))) (a_ (a_ (a_ tr tr) (a_ (a_ tr tr) tr)) tr))))) (ih _ _ r h) (by kernel_rfl) ⟨fun _ _ => rfl, trivial⟩
      · skip
        rcases itb_some h with ⟨cL0_6, h⟩ | ⟨cL0_6, h⟩
        · skip
          rcases itb_some h with ⟨cL0_7, h⟩ | ⟨cL0_7, h⟩
          · skip
            exact run_to mixed hμ (L := [0]) (n := 32) (s := [.go, .reg [(0, { v := some (.bool true) })], .reg [], .reg [(2, { call := some (hist_back_v yL0_3, [], []) })], .reg [(5, { v := some (.bool false) }), (8, { v := some (.bool true) }), (17, { v := some (.bool true) })], .reg []])
              (a_ (a_ (a_ tr (a_ (leB cL0_1) tr)) tr) (a_ (a_ (a_ tr tr) (a_ (a_ tr tr) (a_ (a_ (a_ (Eq.refl 1) (a_ (le_ 1 1 rfl) (Eq.refl 0))) tr) tr))) (a_ (a_ (a_ tr tr) (a_ (a_ (a_ tr (lt_ 0 1 rfl)) tr) (a_ (a_ (a_ (hist_back_tri y5 t23 yL0_3 eL0_2) tr) tr) (a_ (a_ tr tr) (a_ (a_ (a_ (Eq.refl 1) (a_ (le_ 1 1 rfl) (Eq.refl 0))) tr) tr))))) (a_ (a_ (a_ (a_ tr (lt_ 0 1 rfl)) tr) (a_ (a_ (a_ tr (lt_ 0 1 rfl)) tr) (a_ (a_ (a_ (Eq.refl 1) gL0_4) tr) (a_ (a_ (lt_ 0 1 rfl) tr) (a_ (a_ tr tr) (a_ (a_ tr (a_ (leB cL0_5) tr)) (a_ (a_ tr tr) (a_ (a_ tr tr) (a_ (a_ tr (a_ (leB cL0_6) tr)) (a_ (a_ (a_ tr (lt_ 0 1 rfl)) tr) (a_ (a_ (a_ tr (lt_ 0 1 rfl)) tr) (a_ (a_ (a_ (Eq.refl 1) gL0_4) tr) (a_ (a_ (lt_ 0 1 rfl) tr) (a_ (a_ tr tr) (a_ (a_ tr tr) (a_ (a_ tr tr) (a_ (a_ tr tr) (a_ (a_ tr (a_ (leB cL0_7) tr)) tr)))))))))))))))))) (a_ (a_ (a_ tr tr) (a_ (a_ tr tr) tr)) tr))))) (ih _ _ r h) (by kernel_rfl) ⟨fun _ _ => rfl, trivial⟩
          · skip
            exact run_to mixed hμ (L := [3, 1, 2, 4]) (n := 38) (s := [.go, .reg [(0, { v := some (.bool true) })], .reg [], .reg [(2, { call := some (hist_back_v yL0_3, [], []) })], .reg [(5, { v := some (.bool false) }), (8, { v := some (.bool true) }), (17, { v := some (.bool false) })], .reg [(1, { os := [(3, .gr 1 ([t23]).length (rowF (cInt .i64) default [t23]))], v := some (.gs 3 ([t23]).length) })], .reg []])
              (a_ (a_ (a_ tr (a_ (leB cL0_1) tr)) tr) (a_ (a_ (a_ tr tr) (a_ (a_ tr tr) (a_ (a_ (a_ (Eq.refl 1) (a_ (le_ 1 1 rfl) (Eq.refl 0))) tr) tr))) (a_ (a_ (a_ tr tr) (a_ (a_ (a_ tr (lt_ 0 1 rfl)) tr) (a_ (a_ (a_ (hist_back_tri y5 t23 yL0_3 eL0_2) tr) tr) (a_ (a_ tr tr) (a_ (a_ (a_ (Eq.refl 1) (a_ (le_ 1 1 rfl) (Eq.refl 0))) tr) tr))))) (a_ (a_ (a_ (a_ tr (lt_ 0 1 rfl)) tr) (a_ (a_ (a_ tr (lt_ 0 1 rfl)) tr) (a_ (a_ (a_ (Eq.refl 1) gL0_4) tr) (a_ (a_ (lt_ 0 1 rfl) tr) (a_ (a_ tr tr) (a_ (a_ tr (a_ (leB cL0_5) tr)) (a_ (a_ tr tr) (a_ (a_ tr tr) (a_ (a_ tr (a_ (leB cL0_6) tr)) (a_ (a_ (a_ tr (lt_ 0 1 rfl)) tr) (a_ (a_ (a_ tr (lt_ 0 1 rfl)) tr) (a_ (a_ (a_ (Eq.refl 1) gL0_4) tr) (a_ (a_ (lt_ 0 1 rfl) tr) (a_ (a_ tr tr) (a_ (a_ tr tr) (a_ (a_ tr tr) (a_ (a_ tr tr) (a_ (a_ tr (a_ (leB cL0_7) tr)) tr)))))))))))))))))) (a_ (a_ (a_ (a_ tr (lt_ 0 1 rfl)) tr) (a_ (a_ (a_ (Eq.refl true) (a_ (Eq.refl 1) (a_ (lt_ 0 1 rfl) (le_ 1 16777216 rfl)))) (a_ (le_sl_gs 3 1 (some 1) rfl) (a_ (sub_lit (cInt .i64) default 1 (fun _ => rfl) [t23]) tr))) (a_ (a_ tr tr) tr))) (a_ (a_ (a_ (a_ tr (lt_ 0 1 rfl)) tr) (a_ (a_ (a_ tr (lt_ 0 1 rfl)) tr) (a_ (a_ (a_ (Eq.refl 1) gL0_4) tr) (a_ (a_ (lt_ 0 1 rfl) tr) (a_ (a_ tr tr) (a_ (a_ tr tr) (a_ (a_ (a_ (Eq.refl 1) (a_ (le_ 1 1 rfl) (Eq.refl 0))) tr) tr))))))) tr)))))) (hist_Circle_l1_ok hμ t23 y5 yL0_3 (hist_Circle_l0 y5  fuel) (fun t23 l2 r h => ih t23 l2 r h) big _ _ r h) (by kernel_rfl) ⟨fun _ _ => rfl, rfl, rfl, rfl, trivial⟩
        · skip
          exact run_to mixed hμ (L := [3, 1, 2, 4]) (n := 38) (s := [.go, .reg [(0, { v := some (.bool true) })], .reg [], .reg [(2, { call := some (hist_back_v yL0_3, [], []) })], .reg [(5, { v := some (.bool false) }), (8, { v := some (.bool false) })], .reg [(1, { os := [(3, .gr 1 ([t23]).length (rowF (cInt .i64) default [t23]))], v := some (.gs 3 ([t23]).length) })], .reg []])
            (a_ (a_ (a_ tr (a_ (leB cL0_1) tr)) tr) (a_ (a_ (a_ tr tr) (a_ (a_ tr tr) (a_ (a_ (a_ (Eq.refl 1) (a_ (le_ 1 1 rfl) (Eq.refl 0))) tr) tr))) (a_ (a_ (a_ tr tr) (a_ (a_ (a_ tr (lt_ 0 1 rfl)) tr) (a_ (a_ (a_ (hist_back_tri y5 t23 yL0_3 eL0_2) tr) tr) (a_ (a_ tr tr) (a_ (a_ (a_ (Eq.refl 1) (a_ (le_ 1 1 rfl) (Eq.refl 0))) tr) tr))))) (a_ (a_ (a_ (a_ tr (lt_ 0 1 rfl)) tr) (a_ (a_ (a_ tr (lt_ 0 1 rfl)) tr) (a_ (a_ (a_ (Eq.refl 1) gL0_4) tr) (a_ (a_ (lt_ 0 1 rfl) tr) (a_ (a_ tr tr) (a_ (a_ tr (a_ (leB cL0_5) tr)) (a_ (a_ tr tr) (a_ (a_ tr tr) (a_ (a_ tr (a_ (leB cL0_6) tr)) (a_ tr (a_ tr (a_ tr (a_ tr (a_ tr (a_ tr (a_ tr (a_ (a_ tr tr) (a_ (a_ tr tr) tr)))))))))))))))))) (a_ (a_ (a_ (a_ tr (lt_ 0 1 rfl)) tr) (a_ (a_ (a_ (Eq.refl true) (a_ (Eq.refl 1) (a_ (lt_ 0 1 rfl) (le_ 1 16777216 rfl)))) (a_ (le_sl_gs 3 1 (some 1) rfl) (a_ (sub_lit (cInt .i64) default 1 (fun _ => rfl) [t23]) tr))) (a_ (a_ tr tr) tr))) (a_ (a_ (a_ (a_ tr (lt_ 0 1 rfl)) tr) (a_ (a_ (a_ tr (lt_ 0 1 rfl)) tr) (a_ (a_ (a_ (Eq.refl 1) gL0_4) tr) (a_ (a_ (lt_ 0 1 rfl) tr) (a_ (a_ tr tr) (a_ (a_ tr tr) (a_ (a_ (a_ (Eq.refl 1) (a_ (le_ 1 1 rfl) (Eq.refl 0))) tr) tr))))))) tr)))))) (hist_Circle_l1_ok hμ t23 y5 yL0_3 (hist_Circle_l0 y5  fuel) (fun t23 l2 r h => ih t23 l2 r h) big _ _ r h) (by kernel_rfl) ⟨fun _ _ => rfl, rfl, rfl, rfl, trivial⟩
    · skip
      obtain rfl := Option.some.inj h
      exact run_ret mixed (L := []) (n := 20) (s := [.go, .reg [(0, { v := some (.bool false) })], .reg [], .frz 0])
        (a_ (a_ (a_ (a_ tr (a_ (leB cL0_1) tr)) tr) (a_ (a_ (a_ tr tr) (a_ (a_ tr tr) tr)) (a_ (a_ (fz_row (enc := (cInt .i64)) (d := default) (fun _ => rfl) l2) (a_ (Nat.le_refl (l2).length) (a_ (Nat.le_refl (l2).length) (a_ (Nat.le_refl (l2).length) tr)))) tr))) tr) (by kernel_rfl) rfl

theorem hist_Circle_ok (l : List (T_hist_Tx)) (r : (List (Int))) (h : hist_Circle l = some r) : ∀ σ, Inj 0 σ → FnTri Try.prog 16 (renL σ [.ds 4 (l).length (rowF c_T_hist_Tx default l)]) (preOf σ 0 []) ((hist_Circle_v r).ren σ) (upOf σ []) := by
  refine fn_of Try.func16 (by kernel_rfl) (by kernel_rfl) (by kernel_rfl) trivial (by kernel_rfl) trivial (by kernel_rfl) ?_
  intro w0 W μ0 hμ
  unfold hist_Circle at h
  obtain ⟨y2, e1, h⟩ := bind_some h
  rcases itb_some h with ⟨c3, h⟩ | ⟨c3, h⟩
  · skip
    obtain rfl := Option.some.inj h
    exact run_ret mixed (L := []) (n := 23) (s := [.reg [(0, { v := some (.ds 1 (([] : List (Int))).length (rowF (cInt .i64) default ([] : List (Int)))) })], .reg [(1, { call := some (hist_Order_v y2, [], []) })], .reg [(1, { v := some (.bool true) })], .reg [(0, { v := some (.ds 1 (([] : List (Int))).length (rowF (cInt .i64) default ([] : List (Int)))) })]])
      (a_ (a_ (a_ (a_ tr (a_ (le_nil_ds 1 (rowF (cInt .i64) default [])) tr)) tr) (a_ (a_ (a_ tr tr) (a_ (a_ (a_ (hist_Order_tri l y2 e1) tr) tr) (a_ (a_ tr tr) (a_ (a_ tr tr) (a_ (a_ tr tr) (a_ (a_ tr tr) (a_ (a_ tr tr) tr))))))) (a_ (a_ (a_ tr tr) (a_ (a_ tr (a_ (leB c3) tr)) tr)) (a_ (a_ (a_ tr (a_ (le_nil_ds 1 (rowF (cInt .i64) default [])) tr)) tr) tr)))) tr) (by kernel_rfl) rfl
  · skip
    obtain ⟨y5, e4, h⟩ := bind_some h
    exact run_to mixed hμ (L := [0]) (n := 34) (s := [.reg [(0, { v := some (.ds 1 (([] : List (Int))).length (rowF (cInt .i64) default ([] : List (Int)))) })], .reg [(1, { call := some (hist_Order_v y2, [], []) })], .reg [(1, { v := some (.bool false) })], .reg [(1, { call := some (hist_graph_v y5, [], []) })], .void (.gr 1 (([] : List (Int))).length (rowF (cInt .i64) default ([] : List (Int)))), .reg [(0, { v := some (.gs 0 (([] : List (Int))).length) })], .reg []])
      (a_ (a_ (a_ tr (a_ (le_nil_ds 1 (rowF (cInt .i64) default [])) tr)) tr) (a_ (a_ (a_ tr tr) (a_ (a_ (a_ (hist_Order_tri l y2 e1) tr) tr) (a_ (a_ tr tr) (a_ (a_ tr tr) (a_ (a_ tr tr) (a_ (a_ tr tr) (a_ (a_ tr tr) tr))))))) (a_ (a_ (a_ tr tr) (a_ (a_ tr (a_ (leB c3) tr)) tr)) (a_ (a_ (a_ tr tr) (a_ (a_ (a_ (hist_graph_tri l y5 e4) tr) tr) (a_ (a_ tr tr) tr))) (a_ (Eq.refl 0) (a_ (a_ (a_ tr (a_ (le_nil_gs 0) tr)) tr) (a_ (a_ (a_ tr tr) (a_ (a_ tr tr) (a_ (a_ tr tr) tr))) tr))))))) (hist_Circle_l0_ok hμ y5  big _ _ r h) (by kernel_rfl) ⟨fun _ _ => rfl, trivial⟩

theorem hist_Circle_tri (l : List (T_hist_Tx)) (r : (List (Int))) (h : hist_Circle l = some r) : FnTri Try.prog 16 [.ds 4 (l).length (rowF c_T_hist_Tx default l)] [] (hist_Circle_v r) [] := FnTri.none (hist_Circle_ok l r h) rfl rfl

/-- parrel/parrelref01.Ints -/

def parrelref01_Ints_v (r : (Bool)) : LV := .bool r

def parrelref01_Ints_up (a : List (Int)) (b : List (Int)) (r : (Bool)) : Upd := [(0, some (.gr 1 (b).length (rowF (cInt .i64) default b)))]

def parrelref01_Ints_objs (a : List (Int)) (b : List (Int)) : List LO := [.gr 1 (b).length (rowF (cInt .i64) default b)]

def parrelref01_Ints_T0 (a : List (Int)) (b : List (Int)) (i : Int) : List LV := [.ds 1 (a).length (rowF (cInt .i64) default a), .gs 0 (b).length, .any, .any, .any, .int .i64 i, .any, .any, .any, .any, .any, .any, .any, .any, .any, .any, .any, .any, .any, .any, .any, .any, .any, .any, .any, .any]

def parrelref01_Ints_H0 (a : List (Int)) (b : List (Int)) (i : Int) : Heap := [some (.gr 1 (b).length (rowF (cInt .i64) default b))]

def parrelref01_Ints_l0 (a : List (Int)) (b : List (Int))  : Nat → (Int) → Option ((Bool))
  | 0, _ => none
  | fuel + 1, i =>
    if ((decide (i < ((a).length : Int))) : Bool) then
      if 0 ≤ i ∧ i < (((a).length : Nat) : Int) then
      if 0 ≤ i ∧ i < (((b).length : Nat) : Int) then
      if (((a.getD i.toNat default) != (b.getD i.toNat default)) : Bool) then
        some false
      else
        parrelref01_Ints_l0 a b  fuel (IntKind.wrap .i64 (i + 1))
      else none
      else none
    else
      some true

def parrelref01_Ints (a : List (Int)) (b : List (Int)) : Option ((Bool)) :=
  if ((((a).length : Int) != ((b).length : Int)) : Bool) then
    some false
  else
    parrelref01_Ints_l0 a b  big 0

theorem parrelref01_Ints_l0_ok {w0 : World} {W : Nat → Prop} {μ0 : Emb} (hμ : ∀ c p, μ0 c = some p → c < 1) (a : List (Int)) (b : List (Int))  : ∀ (fuel : Nat) (i : Int) (r : (Bool)), parrelref01_Ints_l0 a b  fuel i = some r → kont Try.prog w0 W μ0 (FnPost Try.prog Try.f15 1 1 (parrelref01_Ints_v r) (parrelref01_Ints_up a b r)) (kAt (bodyOf Try.f15) 0) none (parrelref01_Ints_T0 a b i) (parrelref01_Ints_H0 a b i) := by
  intro fuel
  induction fuel with
  | zero => intro i r h; rw [parrelref01_Ints_l0] at h; cases h
  | succ fuel ih =>
    intro i r h
    rw [parrelref01_Ints_l0] at h
    rcases itb_some h with ⟨cL0_1, h⟩ | ⟨cL0_1, h⟩
    · skip
      obtain ⟨gL0_2, h⟩ := guard_some h
      obtain ⟨gL0_3, h⟩ := guard_some h
      rcases itb_some h with ⟨cL0_4, h⟩ | ⟨cL0_4, h⟩
      · skip
        obtain rfl := Option.some.inj h
        exact run_ret mixed (L := []) (n := 25) (s := [.go, .reg [(3, { v := some (.bool true) })], .reg [(8, { v := some (.bool true) })], .reg []])
          (a_ (a_ (a_ (a_ tr tr) (a_ (a_ tr tr) (a_ (a_ tr tr) (a_ (a_ tr (a_ (leB cL0_1) tr)) tr)))) (a_ (a_ (a_ tr tr) (a_ (a_ tr tr) (a_ (a_ (a_ (Eq.refl 1) gL0_2) tr) (a_ (a_ (lt_ 0 1 rfl) tr) (a_ (a_ tr tr) (a_ (a_ tr tr) (a_ (a_ (a_ (Eq.refl 1) gL0_3) tr) (a_ (a_ (a_ (ltN gL0_3) (lt_ 0 1 rfl)) tr) (a_ (a_ tr (a_ (leB cL0_4) tr)) tr))))))))) (a_ (a_ (a_ tr tr) tr) tr))) tr) (by kernel_rfl) rfl
      · skip
        exact run_to mixed hμ (L := []) (n := 26) (s := [.go, .reg [(3, { v := some (.bool true) })], .reg [(8, { v := some (.bool false) })], .reg []])
          (a_ (a_ (a_ tr tr) (a_ (a_ tr tr) (a_ (a_ tr tr) (a_ (a_ tr (a_ (leB cL0_1) tr)) tr)))) (a_ (a_ (a_ tr tr) (a_ (a_ tr tr) (a_ (a_ (a_ (Eq.refl 1) gL0_2) tr) (a_ (a_ (lt_ 0 1 rfl) tr) (a_ (a_ tr tr) (a_ (a_ tr tr) (a_ (a_ (a_ (Eq.refl 1) gL0_3) tr) (a_ (a_ (a_ (ltN gL0_3) (lt_ 0 1 rfl)) tr) (a_ (a_ tr (a_ (leB cL0_4) tr)) tr))))))))) (a_ (a_ (a_ tr tr) (a_ (a_ tr tr) (a_ (a_ tr tr) tr))) tr))) (ih _ r h) (by kernel_rfl) ⟨fun _ _ => rfl, trivial⟩
    · skip
      obtain rfl := Option.some.inj h
      exact run_ret mixed (L := []) (n := 19) (s := [.go, .reg [(3, { v := some (.bool false) })], .reg []])
        (a_ (a_ (a_ (a_ tr tr) (a_ (a_ tr tr) (a_ (a_ tr tr) (a_ (a_ tr (a_ (leB cL0_1) tr)) tr)))) (a_ (a_ (a_ tr tr) tr) tr)) tr) (by kernel_rfl) rfl

theorem parrelref01_Ints_ok (a : List (Int)) (b : List (Int)) (r : (Bool)) (h : parrelref01_Ints a b = some r) : ∀ σ, Inj 1 σ → FnTri Try.prog 15 (renL σ [.ds 1 (a).length (rowF (cInt .i64) default a), .gs 0 (b).length]) (preOf σ 0 (parrelref01_Ints_objs a b)) ((parrelref01_Ints_v r).ren σ) (upOf σ (parrelref01_Ints_up a b r)) := by
  refine fn_of Try.func15 (by kernel_rfl) (by kernel_rfl) (by kernel_rfl) ⟨fun _ _ => rfl, trivial⟩ (by kernel_rfl) ⟨fun _ _ => rfl, trivial⟩ (by kernel_rfl) ?_
  intro w0 W μ0 hμ
  unfold parrelref01_Ints at h
  rcases itb_some h with ⟨c1, h⟩ | ⟨c1, h⟩
  · skip
    obtain rfl := Option.some.inj h
    exact run_ret mixed (L := []) (n := 20) (s := [.reg [], .reg [(4, { v := some (.bool true) })], .reg []])
      (a_ (a_ (a_ (a_ tr tr) tr) (a_ (a_ (a_ tr tr) (a_ (a_ tr tr) (a_ (a_ tr tr) (a_ (a_ tr tr) (a_ (a_ tr (a_ (leB c1) tr)) tr))))) (a_ (a_ (a_ tr tr) tr) tr))) tr) (by kernel_rfl) rfl
  · skip
    exact run_to mixed hμ (L := []) (n := 24) (s := [.reg [], .reg [(4, { v := some (.bool false) })], .reg []])
      (a_ (a_ (a_ tr tr) tr) (a_ (a_ (a_ tr tr) (a_ (a_ tr tr) (a_ (a_ tr tr) (a_ (a_ tr tr) (a_ (a_ tr (a_ (leB c1) tr)) tr))))) (a_ (a_ (a_ tr tr) tr) tr))) (parrelref01_Ints_l0_ok hμ a b  big _ r h) (by kernel_rfl) ⟨fun _ _ => rfl, trivial⟩

/-- parrel/hist.Play -/

def hist_Play_v (r : (Bool)) : LV := .bool r

def hist_Play_T3 (l : List (T_hist_Tx)) (order : List (Int)) (t29 : Int) (m : List (Int × Bool)) (t99 : Int) (m4 : List (A8 (Int) × List UInt8)) : List LV := [.ds 4 (l).length (rowF c_T_hist_Tx default l), .any, .any, .any, .any, .map 0, .map 1, .any, .any, .any, .any, .any, .any, .any, .any, .any, .any, .any, .any, .any, .any, .any, .any, .any, .any, .any, .any, .ds 1 (order).length (rowF (cInt .i64) default order), .int .i64 ((order).length : Int), .int .i64 t29, .any, .any, .any, .any, .any, .any, .any, .any, .any, .any, .any, .any, .any, .any, .any, .any, .any, .any, .any, .any, .any, .any, .any, .any, .any, .any, .any, .any, .any, .any, .any, .any, .any, .any, .any, .any, .any, .any, .any, .any, .any, .any, .any, .any, .any, .any, .any, .any, .any, .any, .any, .any, .any, .any, .any, .any, .any, .any, .any, .any, .any, .any, .any, .any, .any, .any, .any, .ds 10 ((l.getD ((order.getD t29.toNat default)).toNat default).f_Writes).length (rowF c_T_hist_Item default (l.getD ((order.getD t29.toNat default)).toNat default).f_Writes), .int .i64 (((l.getD ((order.getD t29.toNat default)).toNat default).f_Writes).length : Int), .int .i64 t99, .any, .any, .any, .any, .any, .any, .any, .any, .any, .any, .any, .any, .any, .any, .any]

def hist_Play_H3 (l : List (T_hist_Tx)) (order : List (Int)) (t29 : Int) (m : List (Int × Bool)) (t99 : Int) (m4 : List (A8 (Int) × List UInt8)) : Heap := [some (.map false [.int .i64] (encM (LV.int .i64) LV.bool (mset m (order.getD t29.toNat default) true))), some (.map true [.int .u8, .int .u8, .int .u8, .int .u8, .int .u8, .int .u8, .int .u8, .int .u8] (encM (fun z_ : A8 (Int) => LV.agg [.int .u8 z_.a0, .int .u8 z_.a1, .int .u8 z_.a2, .int .u8 z_.a3, .int .u8 z_.a4, .int .u8 z_.a5, .int .u8 z_.a6, .int .u8 z_.a7]) LV.str m4))]

def hist_Play_T2 (l : List (T_hist_Tx)) (order : List (Int)) (t29 : Int) (m : List (Int × Bool)) (m2 : List (A8 (Int) × List UInt8)) (m3 : List (T_hist_version × List UInt8)) (t71 : Int) : List LV := [.ds 4 (l).length (rowF c_T_hist_Tx default l), .any, .any, .any, .any, .map 0, .map 1, .any, .int .i64 (order.getD t29.toNat default), .map 2, .any, .any, .any, .any, .any, .any, .any, .any, .any, .any, .any, .any, .any, .any, .any, .any, .any, .ds 1 (order).length (rowF (cInt .i64) default order), .int .i64 ((order).length : Int), .int .i64 t29, .any, .any, .any, .any, .any, .any, .any, .any, .any, .any, .any, .any, .any, .any, .any, .any, .any, .any, .any, .any, .any, .any, .any, .any, .any, .any, .any, .any, .any, .any, .any, .any, .any, .any, .any, .any, .any, .any, .any, .ds 10 ((l.getD ((order.getD t29.toNat default)).toNat default).f_Reads).length (rowF c_T_hist_Item default (l.getD ((order.getD t29.toNat default)).toNat default).f_Reads), .int .i64 (((l.getD ((order.getD t29.toNat default)).toNat default).f_Reads).length : Int), .int .i64 t71, .any, .any, .any, .any, .any, .any, .any, .any, .any, .any, .any, .any, .any, .any, .any, .any, .any, .any, .any, .any, .any, .any, .any, .any, .any, .any, .any, .any, .any, .any, .any, .any, .any, .any, .any, .any, .any, .any, .any, .any, .any, .any, .any]

def hist_Play_H2 (l : List (T_hist_Tx)) (order : List (Int)) (t29 : Int) (m : List (Int × Bool)) (m2 : List (A8 (Int) × List UInt8)) (m3 : List (T_hist_version × List UInt8)) (t71 : Int) : Heap := [some (.map false [.int .i64] (encM (LV.int .i64) LV.bool (mset m (order.getD t29.toNat default) true))), some (.map true [.int .u8, .int .u8, .int .u8, .int .u8, .int .u8, .int .u8, .int .u8, .int .u8] (encM (fun z_ : A8 (Int) => LV.agg [.int .u8 z_.a0, .int .u8 z_.a1, .int .u8 z_.a2, .int .u8 z_.a3, .int .u8 z_.a4, .int .u8 z_.a5, .int .u8 z_.a6, .int .u8 z_.a7]) LV.str m2)), some (.map true [.int .u8, .int .u8, .int .u8, .int .u8, .int .u8, .int .u8, .int .u8, .int .u8, .int .u32] (encM v_T_hist_version LV.str m3))]

def hist_Play_T1 (l : List (T_hist_Tx)) (order : List (Int)) (t29 : Int) (m : List (Int × Bool)) (m2 : List (A8 (Int) × List UInt8)) (t55 : Int) (m3 : List (T_hist_version × List UInt8)) : List LV := [.ds 4 (l).length (rowF c_T_hist_Tx default l), .any, .any, .any, .any, .map 0, .map 1, .any, .int .i64 (order.getD t29.toNat default), .map 2, .any, .any, .any, .any, .any, .any, .any, .any, .any, .any, .any, .any, .any, .any, .any, .any, .any, .ds 1 (order).length (rowF (cInt .i64) default order), .int .i64 ((order).length : Int), .int .i64 t29, .any, .any, .any, .any, .any, .any, .any, .any, .any, .any, .any, .any, .any, .any, .any, .any, .any, .any, .any, .any, .any, .any, .any, .ds 10 ((l.getD ((order.getD t29.toNat default)).toNat default).f_Writes).length (rowF c_T_hist_Item default (l.getD ((order.getD t29.toNat default)).toNat default).f_Writes), .int .i64 (((l.getD ((order.getD t29.toNat default)).toNat default).f_Writes).length : Int), .int .i64 t55, .any, .any, .any, .any, .any, .any, .any, .any, .any, .any, .any, .any, .any, .any, .any, .any, .any, .any, .any, .any, .any, .any, .any, .any, .any, .any, .any, .any, .any, .any, .any, .any, .any, .any, .any, .any, .any, .any, .any, .any, .any, .any, .any, .any, .any, .any, .any, .any, .any, .any, .any, .any, .any, .any, .any, .any, .any, .any, .any]

def hist_Play_H1 (l : List (T_hist_Tx)) (order : List (Int)) (t29 : Int) (m : List (Int × Bool)) (m2 : List (A8 (Int) × List UInt8)) (t55 : Int) (m3 : List (T_hist_version × List UInt8)) : Heap := [some (.map false [.int .i64] (encM (LV.int .i64) LV.bool (mset m (order.getD t29.toNat default) true))), some (.map true [.int .u8, .int .u8, .int .u8, .int .u8, .int .u8, .int .u8, .int .u8, .int .u8] (encM (fun z_ : A8 (Int) => LV.agg [.int .u8 z_.a0, .int .u8 z_.a1, .int .u8 z_.a2, .int .u8 z_.a3, .int .u8 z_.a4, .int .u8 z_.a5, .int .u8 z_.a6, .int .u8 z_.a7]) LV.str m2)), some (.map true [.int .u8, .int .u8, .int .u8, .int .u8, .int .u8, .int .u8, .int .u8, .int .u8, .int .u32] (encM v_T_hist_version LV.str m3))]

def hist_Play_T0 (l : List (T_hist_Tx)) (order : List (Int)) (t29 : Int) (m : List (Int × Bool)) (m2 : List (A8 (Int) × List UInt8)) : List LV := [.ds 4 (l).length (rowF c_T_hist_Tx default l), .any, .any, .any, .any, .map 0, .map 1, .any, .any, .any, .any, .any, .any, .any, .any, .any, .any, .any, .any, .any, .any, .any, .any, .any, .any, .any, .any, .ds 1 (order).length (rowF (cInt .i64) default order), .int .i64 ((order).length : Int), .int .i64 t29, .any, .any, .any, .any, .any, .any, .any, .any, .any, .any, .any, .any, .any, .any, .any, .any, .any, .any, .any, .any, .any, .any, .any, .any, .any, .any, .any, .any, .any, .any, .any, .any, .any, .any, .any, .any, .any, .any, .any, .any, .any, .any, .any, .any, .any, .any, .any, .any, .any, .any, .any, .any, .any, .any, .any, .any, .any, .any, .any, .any, .any, .any, .any, .any, .any, .any, .any, .any, .any, .any, .any, .any, .any, .any, .any, .any, .any, .any, .any, .any, .any, .any, .any, .any, .any]

def hist_Play_H0 (l : List (T_hist_Tx)) (order : List (Int)) (t29 : Int) (m : List (Int × Bool)) (m2 : List (A8 (Int) × List UInt8)) : Heap := [some (.map false [.int .i64] (encM (LV.int .i64) LV.bool m)), some (.map true [.int .u8, .int .u8, .int .u8, .int .u8, .int .u8, .int .u8, .int .u8, .int .u8] (encM (fun z_ : A8 (Int) => LV.agg [.int .u8 z_.a0, .int .u8 z_.a1, .int .u8 z_.a2, .int .u8 z_.a3, .int .u8 z_.a4, .int .u8 z_.a5, .int .u8 z_.a6, .int .u8 z_.a7]) LV.str m2))]

def hist_Play_l3 (l : List (T_hist_Tx)) (order : List (Int)) (t29 : Int) (m : List (Int × Bool)) (k0 : (Int) → (List (Int × Bool)) → (List (A8 (Int) × List UInt8)) → Option ((Bool))) : Nat → (Int) → (List (A8 (Int) × List UInt8)) → Option ((Bool))
  | 0, _, _ => none
  | fuel + 1, t99, m4 =>
    if ((decide (t99 < (((l.getD ((order.getD t29.toNat default)).toNat default).f_Writes).length : Int))) : Bool) then
      if 0 ≤ t99 ∧ t99 < ((((l.getD ((order.getD t29.toNat default)).toNat default).f_Writes).length : Nat) : Int) then
      hist_Play_l3 l order t29 m k0 fuel (IntKind.wrap .i64 (t99 + 1)) (mset m4 ((l.getD ((order.getD t29.toNat default)).toNat default).f_Writes.getD t99.toNat default).f_Key ((l.getD ((order.getD t29.toNat default)).toNat default).f_Writes.getD t99.toNat default).f_Value)
      else none
    else
      k0 (IntKind.wrap .i64 (t29 + 1)) (mset m (order.getD t29.toNat default) true) m4

def hist_Play_l2 (l : List (T_hist_Tx)) (order : List (Int)) (t29 : Int) (m : List (Int × Bool)) (m2 : List (A8 (Int) × List UInt8)) (m3 : List (T_hist_version × List UInt8)) (k0 : (Int) → (List (Int × Bool)) → (List (A8 (Int) × List UInt8)) → Option ((Bool))) : Nat → (Int) → Option ((Bool))
  | 0, _ => none
  | fuel + 1, t71 =>
    if ((decide (t71 < (((l.getD ((order.getD t29.toNat default)).toNat default).f_Reads).length : Int))) : Bool) then
      if 0 ≤ t71 ∧ t71 < ((((l.getD ((order.getD t29.toNat default)).toNat default).f_Reads).length : Nat) : Int) then
      (hist_of ((l.getD ((order.getD t29.toNat default)).toNat default).f_Reads.getD t71.toNat default)).bind fun yL2_4 =>
      if ((!((mget m3 yL2_4).isSome)) : Bool) then
        if ((!(((l.getD ((order.getD t29.toNat default)).toNat default).f_Reads.getD t71.toNat default).f_Value == ((mget m2 ((l.getD ((order.getD t29.toNat default)).toNat default).f_Reads.getD t71.toNat default).f_Key).getD default))) : Bool) then
          some false
        else
          hist_Play_l2 l order t29 m m2 m3 k0 fuel (IntKind.wrap .i64 (t71 + 1))
      else
        if ((!(((l.getD ((order.getD t29.toNat default)).toNat default).f_Reads.getD t71.toNat default).f_Value == ((mget m3 yL2_4).getD default))) : Bool) then
          some false
        else
          hist_Play_l2 l order t29 m m2 m3 k0 fuel (IntKind.wrap .i64 (t71 + 1))
      else none
    else
      if 0 ≤ (order.getD t29.toNat default) ∧ (order.getD t29.toNat default) < (((l).length : Nat) : Int) then
      hist_Play_l3 l order t29 m k0 big 0 m2
      else none

def hist_Play_l1 (l : List (T_hist_Tx)) (order : List (Int)) (t29 : Int) (m : List (Int × Bool)) (m2 : List (A8 (Int) × List UInt8)) (k0 : (Int) → (List (Int × Bool)) → (List (A8 (Int) × List UInt8)) → Option ((Bool))) : Nat → (Int) → (List (T_hist_version × List UInt8)) → Option ((Bool))
  | 0, _, _ => none
  | fuel + 1, t55, m3 =>
    if ((decide (t55 < (((l.getD ((order.getD t29.toNat default)).toNat default).f_Writes).length : Int))) : Bool) then
      if 0 ≤ t55 ∧ t55 < ((((l.getD ((order.getD t29.toNat default)).toNat default).f_Writes).length : Nat) : Int) then
      (hist_of ((l.getD ((order.getD t29.toNat default)).toNat default).f_Writes.getD t55.toNat default)).bind fun yL1_4 =>
      hist_Play_l1 l order t29 m m2 k0 fuel (IntKind.wrap .i64 (t55 + 1)) (mset m3 yL1_4 ((l.getD ((order.getD t29.toNat default)).toNat default).f_Writes.getD t55.toNat default).f_Value)
      else none
    else
      if 0 ≤ (order.getD t29.toNat default) ∧ (order.getD t29.toNat default) < (((l).length : Nat) : Int) then
      hist_Play_l2 l order t29 m m2 m3 k0 big 0
      else none

def hist_Play_l0 (l : List (T_hist_Tx)) (order : List (Int))  : Nat → (Int) → (List (Int × Bool)) → (List (A8 (Int) × List UInt8)) → Option ((Bool))
  | 0, _, _, _ => none
  | fuel + 1, t29, m, m2 =>
    if ((decide (t29 < ((order).length : Int))) : Bool) then
      if 0 ≤ t29 ∧ t29 < (((order).length : Nat) : Int) then
      if ((decide ((order.getD t29.toNat default) < 0)) : Bool) then
        some false
      else
        if ((decide (((l).length : Int) ≤ (order.getD t29.toNat default))) : Bool) then
          some false
        else
          if (((mget m (order.getD t29.toNat default)).getD default) : Bool) then
            some false
          else
            if 0 ≤ (order.getD t29.toNat default) ∧ (order.getD t29.toNat default) < (((l).length : Nat) : Int) then
            hist_Play_l1 l order t29 m m2 (hist_Play_l0 l order  fuel) big 0 ([] : List (T_hist_version × List UInt8))
            else none
      else none
    else
      some (((m).length : Int) == ((l).length : Int))

def hist_Play (l : List (T_hist_Tx)) (order : List (Int)) : Option ((Bool)) :=
  if ((decide (64 < ((l).length : Int))) : Bool) then
    some false
  else
    (slices_ContainsFunc_hist_Tx_hist_Tx l).bind fun y3 =>
    if (y3 : Bool) then
      some false
    else
      hist_Play_l0 l order  big 0 ([] : List (Int × Bool)) ([] : List (A8 (Int) × List UInt8))

theorem hist_Play_l3_ok {w0 : World} {W : Nat → Prop} {μ0 : Emb} (hμ : ∀ c p, μ0 c = some p → c < 0) (l : List (T_hist_Tx)) (order : List (Int)) (t29 : Int) (m : List (Int × Bool)) (k0 : (Int) → (List (Int × Bool)) → (List (A8 (Int) × List UInt8)) → Option ((Bool))) (hk0 : ∀ (t29 : Int) (m : List (Int × Bool)) (m2 : List (A8 (Int) × List UInt8)) (r : (Bool)), k0 t29 m m2 = some r → kont Try.prog w0 W μ0 (FnPost Try.prog Try.f18 0 0 (hist_Play_v r) []) (kAt (bodyOf Try.f18) 0) none (hist_Play_T0 l order t29 m m2) (hist_Play_H0 l order t29 m m2)) : ∀ (fuel : Nat) (t99 : Int) (m4 : List (A8 (Int) × List UInt8)) (r : (Bool)), hist_Play_l3 l order t29 m k0 fuel t99 m4 = some r → kont Try.prog w0 W μ0 (FnPost Try.prog Try.f18 0 0 (hist_Play_v r) []) (kAt (bodyOf Try.f18) 3) none (hist_Play_T3 l order t29 m t99 m4) (hist_Play_H3 l order t29 m t99 m4) := by
  intro fuel
  induction fuel with
  | zero => intro t99 m4 r h; rw [hist_Play_l3] at h; cases h
  | succ fuel ih =>
    intro t99 m4 r h
    rw [hist_Play_l3] at h
    rcases itb_some h with ⟨cL3_1, h⟩ | ⟨cL3_1, h⟩
    · skip
      obtain ⟨gL3_2, h⟩ := guard_some h
      exact run_to mixed hμ (L := [0, 1]) (n := 26) (s := [.go, .reg [(0, { v := some (.bool true) })], .reg [], .reg [(5, { os := [(1, .map true [.int .u8, .int .u8, .int .u8, .int .u8, .int .u8, .int .u8, .int .u8, .int .u8] (encM (fun z_ : A8 (Int) => LV.agg [.int .u8 z_.a0, .int .u8 z_.a1, .int .u8 z_.a2, .int .u8 z_.a3, .int .u8 z_.a4, .int .u8 z_.a5, .int .u8 z_.a6, .int .u8 z_.a7]) LV.str (mset m4 ((l.getD ((order.getD t29.toNat default)).toNat default).f_Writes.getD t99.toNat default).f_Key ((l.getD ((order.getD t29.toNat default)).toNat default).f_Writes.getD t99.toNat default).f_Value)))] })], .reg []])
        (a_ (a_ (a_ tr (a_ (leB cL3_1) tr)) tr) (a_ (a_ (a_ (a_ (Eq.refl 10) gL3_2) tr) (a_ (a_ (le_ 10 10 rfl) tr) (a_ (a_ tr tr) (a_ (a_ (a_ (Eq.refl 10) (a_ (le_ 10 10 rfl) (Eq.refl 0))) tr) tr)))) (a_ (a_ (a_ tr tr) (a_ (a_ tr tr) (a_ (a_ (a_ tr (le_ 8 10 rfl)) tr) (a_ (a_ tr tr) (a_ (a_ (a_ tr (lt_ 9 10 rfl)) tr) (a_ (a_ (a_ (Eq.refl true) (Eq.refl true)) (a_ (sub_upd (fun z_ : A8 (Int) => LV.agg [.int .u8 z_.a0, .int .u8 z_.a1, .int .u8 z_.a2, .int .u8 z_.a3, .int .u8 z_.a4, .int .u8 z_.a5, .int .u8 z_.a6, .int .u8 z_.a7]) LV.str (k_arr8 .u8) true [.int .u8, .int .u8, .int .u8, .int .u8, .int .u8, .int .u8, .int .u8, .int .u8] m4 ((l.getD ((order.getD t29.toNat default)).toNat default).f_Writes.getD t99.toNat default).f_Key ((l.getD ((order.getD t29.toNat default)).toNat default).f_Writes.getD t99.toNat default).f_Value) tr)) tr)))))) (a_ (a_ (a_ tr tr) (a_ (a_ tr tr) tr)) tr)))) (ih _ _ r h) (by kernel_rfl) ⟨trivial, trivial, trivial⟩
    · skip
      exact run_to mixed hμ (L := [0, 1]) (n := 19) (s := [.go, .reg [(0, { v := some (.bool false) })], .reg []])
        (a_ (a_ (a_ tr (a_ (leB cL3_1) tr)) tr) (a_ (a_ (a_ tr tr) (a_ (a_ tr tr) tr)) tr)) (hk0 _ _ _ r h) (by kernel_rfl) ⟨trivial, trivial, trivial⟩

theorem hist_Play_l2_ok {w0 : World} {W : Nat → Prop} {μ0 : Emb} (hμ : ∀ c p, μ0 c = some p → c < 0) (l : List (T_hist_Tx)) (order : List (Int)) (t29 : Int) (m : List (Int × Bool)) (m2 : List (A8 (Int) × List UInt8)) (m3 : List (T_hist_version × List UInt8)) (k0 : (Int) → (List (Int × Bool)) → (List (A8 (Int) × List UInt8)) → Option ((Bool))) (hk0 : ∀ (t29 : Int) (m : List (Int × Bool)) (m2 : List (A8 (Int) × List UInt8)) (r : (Bool)), k0 t29 m m2 = some r → kont Try.prog w0 W μ0 (FnPost Try.prog Try.f18 0 0 (hist_Play_v r) []) (kAt (bodyOf Try.f18) 0) none (hist_Play_T0 l order t29 m m2) (hist_Play_H0 l order t29 m m2)) : ∀ (fuel : Nat) (t71 : Int) (r : (Bool)), hist_Play_l2 l order t29 m m2 m3 k0 fuel t71 = some r → kont Try.prog w0 W μ0 (FnPost Try.prog Try.f18 0 0 (hist_Play_v r) []) (kAt (bodyOf Try.f18) 2) none (hist_Play_T2 l order t29 m m2 m3 t71) (hist_Play_H2 l order t29 m m2 m3 t71) := by
  intro fuel
  induction fuel with
  | zero => intro t71 r h; rw [hist_Play_l2] at h; cases h
  | succ fuel ih =>
    intro t71 r h
    rw [hist_Play_l2] at h
    rcases itb_some h with ⟨cL2_1, h⟩ | ⟨cL2_1, h⟩
    · skip
      obtain ⟨gL2_2, h⟩ := guard_some h
      obtain ⟨yL2_4, eL2_3, h⟩ := bind_some h
      rcases itb_some h with ⟨cL2_5, h⟩ | ⟨cL2_5, h⟩
      · skip
        rcases itb_some h with ⟨cL2_6, h⟩ | ⟨cL2_6, h⟩
        · skip
          obtain rfl := Option.some.inj h
          exact run_ret mixed (L := []) (n := 38) (s := [.go, .reg [(0, { v := some (.bool true) })], .reg [], .reg [(2, { call := some (hist_of_v yL2_4, [], []) }), (3, { look := ((mget m3 yL2_4).map LV.str), v := some (.tup [.str ((mget m3 yL2_4).getD default), .bool ((mget m3 yL2_4).isSome)]) })], .reg [(1, { v := some (.bool true) })], .reg [(3, { look := ((mget m2 ((l.getD ((order.getD t29.toNat default)).toNat default).f_Reads.getD t71.toNat default).f_Key).map LV.str), v := some (.str ((mget m2 ((l.getD ((order.getD t29.toNat default)).toNat default).f_Reads.getD t71.toNat default).f_Key).getD default)) })], .reg [(3, { v := some (.bool true) })], .reg []])
            (a_ (a_ (a_ (a_ tr (a_ (leB cL2_1) tr)) tr) (a_ (a_ (a_ (a_ (Eq.refl 10) gL2_2) tr) (a_ (a_ (le_ 10 10 rfl) tr) (a_ (a_ tr tr) (a_ (a_ (a_ (Eq.refl 10) (a_ (le_ 10 10 rfl) (Eq.refl 0))) tr) tr)))) (a_ (a_ (a_ tr tr) (a_ (a_ (a_ tr (le_ 10 10 rfl)) tr) (a_ (a_ (a_ (hist_of_tri ((l.getD ((order.getD t29.toNat default)).toNat default).f_Reads.getD t71.toNat default) yL2_4 eL2_3) tr) tr) (a_ (a_ (a_ (Eq.refl true) (findE_enc v_T_hist_version LV.str k_T_hist_version m3 yL2_4)) (a_ (le_lookok LV.str (mget m3 yL2_4) default) tr)) (a_ (a_ tr tr) (a_ (a_ tr tr) (a_ (a_ tr tr) (a_ (a_ tr tr) (a_ (a_ tr tr) tr))))))))) (a_ (a_ (a_ tr tr) (a_ (a_ tr (a_ (leB cL2_5) tr)) tr)) (a_ (a_ (a_ tr tr) (a_ (a_ tr tr) (a_ (a_ (a_ tr (le_ 8 10 rfl)) tr) (a_ (a_ (a_ (Eq.refl true) (findE_enc (fun z_ : A8 (Int) => LV.agg [.int .u8 z_.a0, .int .u8 z_.a1, .int .u8 z_.a2, .int .u8 z_.a3, .int .u8 z_.a4, .int .u8 z_.a5, .int .u8 z_.a6, .int .u8 z_.a7]) LV.str (k_arr8 .u8) m2 ((l.getD ((order.getD t29.toNat default)).toNat default).f_Reads.getD t71.toNat default).f_Key)) (a_ (le_look LV.str (mget m2 ((l.getD ((order.getD t29.toNat default)).toNat default).f_Reads.getD t71.toNat default).f_Key) default) tr)) (a_ (a_ tr tr) tr))))) (a_ (a_ (a_ tr tr) (a_ (a_ (a_ tr (lt_ 9 10 rfl)) tr) (a_ (a_ tr tr) (a_ (a_ tr (a_ (leB cL2_6) tr)) tr)))) (a_ (a_ (a_ tr tr) tr) tr))))))) tr) (by kernel_rfl) rfl
        · skip
          exact run_to mixed hμ (L := [0, 1, 2]) (n := 39) (s := [.go, .reg [(0, { v := some (.bool true) })], .reg [], .reg [(2, { call := some (hist_of_v yL2_4, [], []) }), (3, { look := ((mget m3 yL2_4).map LV.str), v := some (.tup [.str ((mget m3 yL2_4).getD default), .bool ((mget m3 yL2_4).isSome)]) })], .reg [(1, { v := some (.bool true) })], .reg [(3, { look := ((mget m2 ((l.getD ((order.getD t29.toNat default)).toNat default).f_Reads.getD t71.toNat default).f_Key).map LV.str), v := some (.str ((mget m2 ((l.getD ((order.getD t29.toNat default)).toNat default).f_Reads.getD t71.toNat default).f_Key).getD default)) })], .reg [(3, { v := some (.bool false) })], .reg []])
            (a_ (a_ (a_ tr (a_ (leB cL2_1) tr)) tr) (a_ (a_ (a_ (a_ (Eq.refl 10) gL2_2) tr) (a_ (a_ (le_ 10 10 rfl) tr) (a_ (a_ tr tr) (a_ (a_ (a_ (Eq.refl 10) (a_ (le_ 10 10 rfl) (Eq.refl 0))) tr) tr)))) (a_ (a_ (a_ tr tr) (a_ (a_ (a_ tr (le_ 10 10 rfl)) tr) (a_ (a_ (a_ (hist_of_tri ((l.getD ((order.getD t29.toNat default)).toNat default).f_Reads.getD t71.toNat default) yL2_4 eL2_3) tr) tr) (a_ (a_ (a_ (Eq.refl true) (findE_enc v_T_hist_version LV.str k_T_hist_version m3 yL2_4)) (a_ (le_lookok LV.str (mget m3 yL2_4) default) tr)) (a_ (a_ tr tr) (a_ (a_ tr tr) (a_ (a_ tr tr) (a_ (a_ tr tr) (a_ (a_ tr tr) tr))))))))) (a_ (a_ (a_ tr tr) (a_ (a_ tr (a_ (leB cL2_5) tr)) tr)) (a_ (a_ (a_ tr tr) (a_ (a_ tr tr) (a_ (a_ (a_ tr (le_ 8 10 rfl)) tr) (a_ (a_ (a_ (Eq.refl true) (findE_enc (fun z_ : A8 (Int) => LV.agg [.int .u8 z_.a0, .int .u8 z_.a1, .int .u8 z_.a2, .int .u8 z_.a3, .int .u8 z_.a4, .int .u8 z_.a5, .int .u8 z_.a6, .int .u8 z_.a7]) LV.str (k_arr8 .u8) m2 ((l.getD ((order.getD t29.toNat default)).toNat default).f_Reads.getD t71.toNat default).f_Key)) (a_ (le_look LV.str (mget m2 ((l.getD ((order.getD t29.toNat default)).toNat default).f_Reads.getD t71.toNat default).f_Key) default) tr)) (a_ (a_ tr tr) tr))))) (a_ (a_ (a_ tr tr) (a_ (a_ (a_ tr (lt_ 9 10 rfl)) tr) (a_ (a_ tr tr) (a_ (a_ tr (a_ (leB cL2_6) tr)) tr)))) (a_ (a_ (a_ tr tr) (a_ (a_ tr tr) tr)) tr))))))) (ih _ r h) (by kernel_rfl) ⟨trivial, trivial, trivial, trivial⟩
      · skip
        rcases itb_some h with ⟨cL2_6, h⟩ | ⟨cL2_6, h⟩
        · skip
          obtain rfl := Option.some.inj h
          exact run_ret mixed (L := []) (n := 37) (s := [.go, .reg [(0, { v := some (.bool true) })], .reg [], .reg [(2, { call := some (hist_of_v yL2_4, [], []) }), (3, { look := ((mget m3 yL2_4).map LV.str), v := some (.tup [.str ((mget m3 yL2_4).getD default), .bool ((mget m3 yL2_4).isSome)]) })], .reg [(1, { v := some (.bool false) })], .reg [(3, { v := some (.bool true) })], .reg []])
            (a_ (a_ (a_ (a_ tr (a_ (leB cL2_1) tr)) tr) (a_ (a_ (a_ (a_ (Eq.refl 10) gL2_2) tr) (a_ (a_ (le_ 10 10 rfl) tr) (a_ (a_ tr tr) (a_ (a_ (a_ (Eq.refl 10) (a_ (le_ 10 10 rfl) (Eq.refl 0))) tr) tr)))) (a_ (a_ (a_ tr tr) (a_ (a_ (a_ tr (le_ 10 10 rfl)) tr) (a_ (a_ (a_ (hist_of_tri ((l.getD ((order.getD t29.toNat default)).toNat default).f_Reads.getD t71.toNat default) yL2_4 eL2_3) tr) tr) (a_ (a_ (a_ (Eq.refl true) (findE_enc v_T_hist_version LV.str k_T_hist_version m3 yL2_4)) (a_ (le_lookok LV.str (mget m3 yL2_4) default) tr)) (a_ (a_ tr tr) (a_ (a_ tr tr) (a_ (a_ tr tr) (a_ (a_ tr tr) (a_ (a_ tr tr) tr))))))))) (a_ (a_ (a_ tr tr) (a_ (a_ tr (a_ (leB cL2_5) tr)) tr)) (a_ (a_ (a_ tr tr) (a_ (a_ (a_ tr (lt_ 9 10 rfl)) tr) (a_ (a_ tr tr) (a_ (a_ tr (a_ (leB cL2_6) tr)) tr)))) (a_ (a_ (a_ tr tr) tr) tr)))))) tr) (by kernel_rfl) rfl
        · skip
          exact run_to mixed hμ (L := [0, 1, 2]) (n := 38) (s := [.go, .reg [(0, { v := some (.bool true) })], .reg [], .reg [(2, { call := some (hist_of_v yL2_4, [], []) }), (3, { look := ((mget m3 yL2_4).map LV.str), v := some (.tup [.str ((mget m3 yL2_4).getD default), .bool ((mget m3 yL2_4).isSome)]) })], .reg [(1, { v := some (.bool false) })], .reg [(3, { v := some (.bool false) })], .reg []])
            (a_ (a_ (a_ tr (a_ (leB cL2_1) tr)) tr) (a_ (a_ (a_ (a_ (Eq.refl 10) gL2_2) tr) (a_ (a_ (le_ 10 10 rfl) tr) (a_ (a_ tr tr) (a_ (a_ (a_ (Eq.refl 10) (a_ (le_ 10 10 rfl) (Eq.refl 0))) tr) tr)))) (a_ (a_ (a_ tr tr) (a_ (a_ (a_ tr (le_ 10 10 rfl)) tr) (a_ (a_ (a_ (hist_of_tri ((l.getD ((order.getD t29.toNat default)).toNat default).f_Reads.getD t71.toNat default) yL2_4 eL2_3) tr) tr) (a_ (a_ (a_ (Eq.refl true) (findE_enc v_T_hist_version LV.str k_T_hist_version m3 yL2_4)) (a_ (le_lookok LV.str (mget m3 yL2_4) default) tr)) (a_ (a_ tr tr) (a_ (a_ tr tr) (a_ (a_ tr tr) (a_ (a_ tr tr) (a_ (a_ tr tr) tr))))))))) (a_ (a_ (a_ tr tr) (a_ (a_ tr (a_ (leB cL2_5) tr)) tr)) (a_ (a_ (a_ tr tr) (a_ (a_ (a_ tr (lt_ 9 10 rfl)) tr) (a_ (a_ tr tr) (a_ (a_ tr (a_ (leB cL2_6) tr)) tr)))) (a_ (a_ (a_ tr tr) (a_ (a_ tr tr) tr)) tr)))))) (ih _ r h) (by kernel_rfl) ⟨trivial, trivial, trivial, trivial⟩
    · skip
      obtain ⟨gL2_2, h⟩ := guard_some h
      exact run_to mixed hμ (L := [0, 1]) (n := 21) (s := [.go, .reg [(0, { v := some (.bool false) })], .reg []])
        (a_ (a_ (a_ tr (a_ (leB cL2_1) tr)) tr) (a_ (a_ (a_ tr tr) (a_ (a_ tr tr) (a_ (a_ (a_ (Eq.refl 4) gL2_2) tr) (a_ (a_ tr tr) (a_ (a_ (lt_ 0 3 rfl) tr) (a_ (a_ tr tr) (a_ (a_ tr tr) tr))))))) tr)) (hist_Play_l3_ok hμ l order t29 m k0 hk0 big _ _ r h) (by kernel_rfl) ⟨trivial, trivial, trivial⟩

theorem hist_Play_l1_ok {w0 : World} {W : Nat → Prop} {μ0 : Emb} (hμ : ∀ c p, μ0 c = some p → c < 0) (l : List (T_hist_Tx)) (order : List (Int)) (t29 : Int) (m : List (Int × Bool)) (m2 : List (A8 (Int) × List UInt8)) (k0 : (Int) → (List (Int × Bool)) → (List (A8 (Int) × List UInt8)) → Option ((Bool))) (hk0 : ∀ (t29 : Int) (m : List (Int × Bool)) (m2 : List (A8 (Int) × List UInt8)) (r : (Bool)), k0 t29 m m2 = some r → kont Try.prog w0 W μ0 (FnPost Try.prog Try.f18 0 0 (hist_Play_v r) []) (kAt (bodyOf Try.f18) 0) none (hist_Play_T0 l order t29 m m2) (hist_Play_H0 l order t29 m m2)) : ∀ (fuel : Nat) (t55 : Int) (m3 : List (T_hist_version × List UInt8)) (r : (Bool)), hist_Play_l1 l order t29 m m2 k0 fuel t55 m3 = some r → kont Try.prog w0 W μ0 (FnPost Try.prog Try.f18 0 0 (hist_Play_v r) []) (kAt (bodyOf Try.f18) 1) none (hist_Play_T1 l order t29 m m2 t55 m3) (hist_Play_H1 l order t29 m m2 t55 m3) := by
  intro fuel
  induction fuel with
  | zero => intro t55 m3 r h; rw [hist_Play_l1] at h; cases h
  | succ fuel ih =>
    intro t55 m3 r h
    rw [hist_Play_l1] at h
    rcases itb_some h with ⟨cL1_1, h⟩ | ⟨cL1_1, h⟩
    · skip
      obtain ⟨gL1_2, h⟩ := guard_some h
      obtain ⟨yL1_4, eL1_3, h⟩ := bind_some h
      exact run_to mixed hμ (L := [0, 1, 2]) (n := 26) (s := [.go, .reg [(0, { v := some (.bool true) })], .reg [], .reg [(2, { call := some (hist_of_v yL1_4, [], []) }), (5, { os := [(2, .map true [.int .u8, .int .u8, .int .u8, .int .u8, .int .u8, .int .u8, .int .u8, .int .u8, .int .u32] (encM v_T_hist_version LV.str (mset m3 yL1_4 ((l.getD ((order.getD t29.toNat default)).toNat default).f_Writes.getD t55.toNat default).f_Value)))] })], .reg []])
        (a_ (a_ (a_ tr (a_ (leB cL1_1) tr)) tr) (a_ (a_ (a_ (a_ (Eq.refl 10) gL1_2) tr) (a_ (a_ (le_ 10 10 rfl) tr) (a_ (a_ tr tr) (a_ (a_ (a_ (Eq.refl 10) (a_ (le_ 10 10 rfl) (Eq.refl 0))) tr) tr)))) (a_ (a_ (a_ tr tr) (a_ (a_ (a_ tr (le_ 10 10 rfl)) tr) (a_ (a_ (a_ (hist_of_tri ((l.getD ((order.getD t29.toNat default)).toNat default).f_Writes.getD t55.toNat default) yL1_4 eL1_3) tr) tr) (a_ (a_ tr tr) (a_ (a_ (a_ tr (lt_ 9 10 rfl)) tr) (a_ (a_ (a_ (Eq.refl true) (Eq.refl true)) (a_ (sub_upd v_T_hist_version LV.str k_T_hist_version true [.int .u8, .int .u8, .int .u8, .int .u8, .int .u8, .int .u8, .int .u8, .int .u8, .int .u32] m3 yL1_4 ((l.getD ((order.getD t29.toNat default)).toNat default).f_Writes.getD t55.toNat default).f_Value) tr)) tr)))))) (a_ (a_ (a_ tr tr) (a_ (a_ tr tr) tr)) tr)))) (ih _ _ r h) (by kernel_rfl) ⟨trivial, trivial, trivial, trivial⟩
    · skip
      obtain ⟨gL1_2, h⟩ := guard_some h
      exact run_to mixed hμ (L := [0, 1, 2]) (n := 22) (s := [.go, .reg [(0, { v := some (.bool false) })], .reg []])
        (a_ (a_ (a_ tr (a_ (leB cL1_1) tr)) tr) (a_ (a_ (a_ tr tr) (a_ (a_ tr tr) (a_ (a_ (a_ (Eq.refl 4) gL1_2) tr) (a_ (a_ tr tr) (a_ (a_ (lt_ 0 4 rfl) tr) (a_ (a_ tr tr) (a_ (a_ tr tr) tr))))))) tr)) (hist_Play_l2_ok hμ l order t29 m m2 m3 k0 hk0 big _ r h) (by kernel_rfl) ⟨trivial, trivial, trivial, trivial⟩

theorem hist_Play_l0_ok {w0 : World} {W : Nat → Prop} {μ0 : Emb} (hμ : ∀ c p, μ0 c = some p → c < 0) (l : List (T_hist_Tx)) (order : List (Int))  : ∀ (fuel : Nat) (t29 : Int) (m : List (Int × Bool)) (m2 : List (A8 (Int) × List UInt8)) (r : (Bool)), hist_Play_l0 l order  fuel t29 m m2 = some r → kont Try.prog w0 W μ0 (FnPost Try.prog Try.f18 0 0 (hist_Play_v r) []) (kAt (bodyOf Try.f18) 0) none (hist_Play_T0 l order t29 m m2) (hist_Play_H0 l order t29 m m2) := by
  intro fuel
  induction fuel with
  | zero => intro t29 m m2 r h; rw [hist_Play_l0] at h; cases h
  | succ fuel ih =>
    intro t29 m m2 r h
    rw [hist_Play_l0] at h
    rcases itb_some h with ⟨cL0_1, h⟩ | ⟨cL0_1, h⟩
    · skip
      obtain ⟨gL0_2, h⟩ := guard_some h
      rcases itb_some h with ⟨cL0_3, h⟩ | ⟨cL0_3, h⟩
      · skip
        obtain rfl := Option.some.inj h
        exact run_ret mixed (L := []) (n := 29) (s := [.go, .reg [(0, { v := some (.bool true) })], .reg [], .reg [(2, { v := some (.bool true) })], .reg []])
          (a_ (a_ (a_ (a_ tr (a_ (leB cL0_1) tr)) tr) (a_ (a_ (a_ (a_ (Eq.refl 1) gL0_2) tr) (a_ (a_ (lt_ 0 1 rfl) tr) (a_ (a_ tr tr) tr))) (a_ (a_ (a_ tr tr) (a_ (a_ tr tr) (a_ (a_ tr (a_ (leB cL0_3) tr)) (a_ tr (a_ tr (a_ tr (a_ tr (a_ (a_ tr tr) (a_ (a_ tr tr) (a_ tr (a_ tr (a_ tr (a_ (a_ tr tr) tr))))))))))))) (a_ (a_ (a_ tr tr) tr) tr)))) tr) (by kernel_rfl) rfl
      · skip
        rcases itb_some h with ⟨cL0_4, h⟩ | ⟨cL0_4, h⟩
        · skip
          obtain rfl := Option.some.inj h
          exact run_ret mixed (L := []) (n := 29) (s := [.go, .reg [(0, { v := some (.bool true) })], .reg [], .reg [(2, { v := some (.bool false) }), (8, { v := some (.bool true) })], .reg []])
            (a_ (a_ (a_ (a_ tr (a_ (leB cL0_1) tr)) tr) (a_ (a_ (a_ (a_ (Eq.refl 1) gL0_2) tr) (a_ (a_ (lt_ 0 1 rfl) tr) (a_ (a_ tr tr) tr))) (a_ (a_ (a_ tr tr) (a_ (a_ tr tr) (a_ (a_ tr (a_ (leB cL0_3) tr)) (a_ (a_ tr tr) (a_ (a_ tr tr) (a_ (a_ tr tr) (a_ (a_ tr tr) (a_ (a_ tr tr) (a_ (a_ tr (a_ (leB cL0_4) tr)) (a_ tr (a_ tr (a_ tr (a_ (a_ tr tr) tr))))))))))))) (a_ (a_ (a_ tr tr) tr) tr)))) tr) (by kernel_rfl) rfl
        · skip
          rcases itb_some h with ⟨cL0_5, h⟩ | ⟨cL0_5, h⟩
          · skip
            obtain rfl := Option.some.inj h
            exact run_ret mixed (L := []) (n := 29) (s := [.go, .reg [(0, { v := some (.bool true) })], .reg [], .reg [(2, { v := some (.bool false) }), (8, { v := some (.bool false) }), (11, { look := ((mget m (order.getD t29.toNat default)).map LV.bool), v := some (.bool ((mget m (order.getD t29.toNat default)).getD default)) }), (12, { v := some (.bool true) })], .reg []])
              (a_ (a_ (a_ (a_ tr (a_ (leB cL0_1) tr)) tr) (a_ (a_ (a_ (a_ (Eq.refl 1) gL0_2) tr) (a_ (a_ (lt_ 0 1 rfl) tr) (a_ (a_ tr tr) tr))) (a_ (a_ (a_ tr tr) (a_ (a_ tr tr) (a_ (a_ tr (a_ (leB cL0_3) tr)) (a_ (a_ tr tr) (a_ (a_ tr tr) (a_ (a_ tr tr) (a_ (a_ tr tr) (a_ (a_ tr tr) (a_ (a_ tr (a_ (leB cL0_4) tr)) (a_ (a_ tr tr) (a_ (a_ tr tr) (a_ (a_ (a_ (Eq.refl true) (findE_enc (LV.int .i64) LV.bool (k_int .i64) m (order.getD t29.toNat default))) (a_ (le_look LV.bool (mget m (order.getD t29.toNat default)) default) tr)) (a_ (a_ tr (a_ (leB cL0_5) tr)) tr))))))))))))) (a_ (a_ (a_ tr tr) tr) tr)))) tr) (by kernel_rfl) rfl
          · skip
            obtain ⟨gL0_6, h⟩ := guard_some h
            exact run_to mixed hμ (L := [0, 1, 2]) (n := 39) (s := [.go, .reg [(0, { v := some (.bool true) })], .reg [], .reg [(2, { v := some (.bool false) }), (8, { v := some (.bool false) }), (11, { look := ((mget m (order.getD t29.toNat default)).map LV.bool), v := some (.bool ((mget m (order.getD t29.toNat default)).getD default)) }), (12, { v := some (.bool false) })], .reg [(2, { os := [(0, .map false [.int .i64] (encM (LV.int .i64) LV.bool (mset m (order.getD t29.toNat default) true)))] })], .reg [], .reg []])
              (a_ (a_ (a_ tr (a_ (leB cL0_1) tr)) tr) (a_ (a_ (a_ (a_ (Eq.refl 1) gL0_2) tr) (a_ (a_ (lt_ 0 1 rfl) tr) (a_ (a_ tr tr) tr))) (a_ (a_ (a_ tr tr) (a_ (a_ tr tr) (a_ (a_ tr (a_ (leB cL0_3) tr)) (a_ (a_ tr tr) (a_ (a_ tr tr) (a_ (a_ tr tr) (a_ (a_ tr tr) (a_ (a_ tr tr) (a_ (a_ tr (a_ (leB cL0_4) tr)) (a_ (a_ tr tr) (a_ (a_ tr tr) (a_ (a_ (a_ (Eq.refl true) (findE_enc (LV.int .i64) LV.bool (k_int .i64) m (order.getD t29.toNat default))) (a_ (le_look LV.bool (mget m (order.getD t29.toNat default)) default) tr)) (a_ (a_ tr (a_ (leB cL0_5) tr)) tr))))))))))))) (a_ (a_ (a_ tr tr) (a_ (a_ tr tr) (a_ (a_ (a_ (Eq.refl true) (Eq.refl true)) (a_ (sub_upd (LV.int .i64) LV.bool (k_int .i64) false [.int .i64] m (order.getD t29.toNat default) true) tr)) tr))) (a_ (a_ (a_ tr tr) (a_ (a_ tr tr) tr)) (a_ (a_ (a_ tr tr) (a_ (a_ tr tr) (a_ (a_ (a_ (Eq.refl 4) gL0_6) tr) (a_ (a_ tr tr) (a_ (a_ (lt_ 0 3 rfl) tr) (a_ (a_ tr tr) (a_ (a_ tr tr) tr))))))) tr)))))) (hist_Play_l1_ok hμ l order t29 m m2 (hist_Play_l0 l order  fuel) (fun t29 m m2 r h => ih t29 m m2 r h) big _ _ r h) (by kernel_rfl) ⟨trivial, trivial, trivial, trivial⟩
    · skip
      obtain rfl := Option.some.inj h
      exact run_ret mixed (L := []) (n := 19) (s := [.go, .reg [(0, { v := some (.bool false) })], .reg [(1, { v := some (.int .i64 ((m).length : Int)) })]])
        (a_ (a_ (a_ (a_ tr (a_ (leB cL0_1) tr)) tr) (a_ (a_ (a_ tr tr) (a_ (a_ tr (a_ (le_maplen (LV.int .i64) LV.bool m) tr)) (a_ (a_ tr tr) (a_ (a_ tr tr) (a_ (a_ tr tr) (a_ (a_ tr tr) tr)))))) tr)) tr) (by kernel_rfl) rfl

theorem hist_Play_ok (l : List (T_hist_Tx)) (order : List (Int)) (r : (Bool)) (h : hist_Play l order = some r) : ∀ σ, Inj 0 σ → FnTri Try.prog 18 (renL σ [.ds 4 (l).length (rowF c_T_hist_Tx default l), .ds 1 (order).length (rowF (cInt .i64) default order)]) (preOf σ 0 []) ((hist_Play_v r).ren σ) (upOf σ []) := by
  refine fn_of Try.func18 (by kernel_rfl) (by kernel_rfl) (by kernel_rfl) trivial (by kernel_rfl) trivial (by kernel_rfl) ?_
  intro w0 W μ0 hμ
  unfold hist_Play at h
  rcases itb_some h with ⟨c1, h⟩ | ⟨c1, h⟩
  · skip
    obtain rfl := Option.some.inj h
    exact run_ret mixed (L := []) (n := 20) (s := [.reg [], .reg [(3, { v := some (.bool true) })], .reg []])
      (a_ (a_ (a_ (a_ tr tr) tr) (a_ (a_ (a_ tr tr) (a_ (a_ tr tr) (a_ (a_ tr tr) (a_ (a_ tr (a_ (leB c1) tr)) (a_ tr (a_ tr (a_ (a_ tr tr) tr))))))) (a_ (a_ (a_ tr tr) tr) tr))) tr) (by kernel_rfl) rfl
  · skip
    obtain ⟨y3, e2, h⟩ := bind_some h
    rcases itb_some h with ⟨c4, h⟩ | ⟨c4, h⟩
    · skip
      obtain rfl := Option.some.inj h
      exact run_ret mixed (L := []) (n := 20) (s := [.reg [], .reg [(3, { v := some (.bool false) }), (5, { call := some (slices_ContainsFunc_hist_Tx_hist_Tx_v y3, [], []) }), (6, { v := some (.bool true) })], .reg []])
        (a_ (a_ (a_ (a_ tr tr) tr) (a_ (a_ (a_ tr tr) (a_ (a_ tr tr) (a_ (a_ tr tr) (a_ (a_ tr (a_ (leB c1) tr)) (a_ (a_ tr tr) (a_ (a_ (a_ (slices_ContainsFunc_hist_Tx_hist_Tx_tri l y3 e2) tr) tr) (a_ (a_ tr (a_ (leB c4) tr)) tr))))))) (a_ (a_ (a_ tr tr) tr) tr))) tr) (by kernel_rfl) rfl
    · skip
      exact run_to mixed hμ (L := [0, 1]) (n := 30) (s := [.reg [], .reg [(3, { v := some (.bool false) }), (5, { call := some (slices_ContainsFunc_hist_Tx_hist_Tx_v y3, [], []) }), (6, { v := some (.bool false) })], .reg [], .reg [], .reg []])
        (a_ (a_ (a_ tr tr) tr) (a_ (a_ (a_ tr tr) (a_ (a_ tr tr) (a_ (a_ tr tr) (a_ (a_ tr (a_ (leB c1) tr)) (a_ (a_ tr tr) (a_ (a_ (a_ (slices_ContainsFunc_hist_Tx_hist_Tx_tri l y3 e2) tr) tr) (a_ (a_ tr (a_ (leB c4) tr)) tr))))))) (a_ (a_ (a_ tr tr) (a_ (a_ tr tr) tr)) (a_ (a_ (a_ tr tr) (a_ (a_ tr tr) tr)) (a_ (a_ (a_ tr tr) (a_ (a_ tr tr) (a_ (a_ tr tr) tr))) tr))))) (hist_Play_l0_ok hμ l order  big _ _ _ r h) (by kernel_rfl) ⟨trivial, trivial, trivial⟩

theorem hist_Play_tri (l : List (T_hist_Tx)) (order : List (Int)) (r : (Bool)) (h : hist_Play l order = some r) : FnTri Try.prog 18 [.ds 4 (l).length (rowF c_T_hist_Tx default l), .ds 1 (order).length (rowF (cInt .i64) default order)] [] (hist_Play_v r) [] := FnTri.none (hist_Play_ok l order r h) rfl rfl

end Go.Proofs.Ytofkaccoofafmaa.Wk
