/- Printed by tr.py: Go functions as Lean functions, with the proofs that they walk so. -/
import Derived.Test.YtbggiflihpjocaaDoorProg
import Derived.Test.YtbggiflihpjocaaDoorCnW
namespace Go.Proofs.YtbggiflihpjocaaDoor.Wk
open Go Go.Cn
set_option maxRecDepth 100000
set_option maxHeartbeats 4000000
set_option linter.unusedVariables false
set_option linter.unusedSimpArgs false
theorem mixed : Tryd.prog.follows .mixedOrders = true := by kernel_rfl
structure T_api_Tx where
  f_Node : Int
  f_Boot : Int
  f_Num : Int
  deriving DecidableEq, Inhabited

def c_T_api_Tx (x : T_api_Tx) : List LV := [.int .u8 x.f_Node, .int .u32 x.f_Boot, .int .u32 x.f_Num]

def v_T_api_Tx (x : T_api_Tx) : LV := .agg (c_T_api_Tx x)

theorem x_T_api_Tx (a b : T_api_Tx) : a = b ↔ a.f_Node = b.f_Node ∧ a.f_Boot = b.f_Boot ∧ a.f_Num = b.f_Num := by
  cases a; cases b; simp

theorem k_T_api_Tx (a b : T_api_Tx) : eqK (v_T_api_Tx a) (v_T_api_Tx b) = decide (a = b) := by
  rw [Bool.eq_iff_iff, decide_eq_true_eq]
  simp only [x_T_api_Tx, v_T_api_Tx, c_T_api_Tx, eqK, eqCs, eqC, Bool.and_eq_true, beq_iff_eq, and_assoc, and_true]

theorem ext22 (l : List UInt8) (c : Int) : ExtTri Tryd.prog 22 [.str l, .int .u8 c] (.int .i64 (Lib.indexByte l c.toNat.toUInt8)) := ext_indexByte Tryd.func22 (by kernel_rfl) (by kernel_rfl) (by kernel_rfl) (by kernel_rfl) l c

/-- internal/stringslite.IndexByte -/

def internal_stringslite_IndexByte_v (r : (Int)) : LV := .int .i64 r

def internal_stringslite_IndexByte (s : List UInt8) (c : Int) : Option ((Int)) :=
  some (Lib.indexByte s (c).toNat.toUInt8)

theorem internal_stringslite_IndexByte_ok (s : List UInt8) (c : Int) (r : (Int)) (h : internal_stringslite_IndexByte s c = some r) : ∀ σ, Inj 0 σ → FnTri Tryd.prog 16 (renL σ [.str s, .int .u8 c]) (preOf σ 0 []) ((internal_stringslite_IndexByte_v r).ren σ) (upOf σ []) := by
  refine fn_of Tryd.func16 (by kernel_rfl) (by kernel_rfl) (by kernel_rfl) trivial (by kernel_rfl) trivial (by kernel_rfl) ?_
  intro w0 W μ0 hμ
  unfold internal_stringslite_IndexByte at h
  obtain rfl := Option.some.inj h
  exact run_ret mixed (L := []) (n := 15) (s := [.reg [], .reg [(2, { ext := some (.int .i64 (Lib.indexByte s (c).toNat.toUInt8)) })]])
    (a_ (a_ (a_ (a_ tr tr) tr) (a_ (a_ (a_ tr tr) (a_ (a_ tr tr) (a_ (a_ (ext22 s c) tr) (a_ (a_ tr tr) tr)))) tr)) tr) (by kernel_rfl) rfl

theorem internal_stringslite_IndexByte_tri (s : List UInt8) (c : Int) (r : (Int)) (h : internal_stringslite_IndexByte s c = some r) : FnTri Tryd.prog 16 [.str s, .int .u8 c] [] (internal_stringslite_IndexByte_v r) [] := FnTri.none (internal_stringslite_IndexByte_ok s c r h) rfl rfl

/-- strings.IndexByte -/

def strings_IndexByte_v (r : (Int)) : LV := .int .i64 r

def strings_IndexByte (s : List UInt8) (c : Int) : Option ((Int)) :=
  (internal_stringslite_IndexByte s c).bind fun y2 =>
  some y2

theorem strings_IndexByte_ok (s : List UInt8) (c : Int) (r : (Int)) (h : strings_IndexByte s c = some r) : ∀ σ, Inj 0 σ → FnTri Tryd.prog 10 (renL σ [.str s, .int .u8 c]) (preOf σ 0 []) ((strings_IndexByte_v r).ren σ) (upOf σ []) := by
  refine fn_of Tryd.func10 (by kernel_rfl) (by kernel_rfl) (by kernel_rfl) trivial (by kernel_rfl) trivial (by kernel_rfl) ?_
  intro w0 W μ0 hμ
  unfold strings_IndexByte at h
  obtain ⟨y2, e1, h⟩ := bind_some h
  obtain rfl := Option.some.inj h
  exact run_ret mixed (L := []) (n := 15) (s := [.reg [], .reg [(2, { call := some (internal_stringslite_IndexByte_v y2, [], []) })]])
    (a_ (a_ (a_ (a_ tr tr) tr) (a_ (a_ (a_ tr tr) (a_ (a_ tr tr) (a_ (a_ (a_ (internal_stringslite_IndexByte_tri s c y2 e1) tr) tr) (a_ (a_ tr tr) tr)))) tr)) tr) (by kernel_rfl) rfl

theorem strings_IndexByte_tri (s : List UInt8) (c : Int) (r : (Int)) (h : strings_IndexByte s c = some r) : FnTri Tryd.prog 10 [.str s, .int .u8 c] [] (strings_IndexByte_v r) [] := FnTri.none (strings_IndexByte_ok s c r h) rfl rfl

/-- parrel/ids.KeyOf -/

def ids_KeyOf_v (r : (A8 (Int)) × (Int)) : LV := .tup [.agg [.int .u8 r.1.a0, .int .u8 r.1.a1, .int .u8 r.1.a2, .int .u8 r.1.a3, .int .u8 r.1.a4, .int .u8 r.1.a5, .int .u8 r.1.a6, .int .u8 r.1.a7], .int .i64 r.2]

def ids_KeyOf (s : List UInt8) : Option ((A8 (Int)) × (Int)) :=
  if ((s == []) : Bool) then
    some ((A8.mk 0 0 0 0 0 0 0 0), 1)
  else
    if ((decide (8 < ((s).length : Int))) : Bool) then
      some ((A8.mk 0 0 0 0 0 0 0 0), 1)
    else
      (strings_IndexByte s 0).bind fun y4 =>
      if ((decide (0 ≤ y4)) : Bool) then
        some ((A8.mk 0 0 0 0 0 0 0 0), 1)
      else
        some ((A8.mk (if 0 < (s).length then ((s.getD 0 0).toNat : Int) else 0) (if 1 < (s).length then ((s.getD 1 0).toNat : Int) else 0) (if 2 < (s).length then ((s.getD 2 0).toNat : Int) else 0) (if 3 < (s).length then ((s.getD 3 0).toNat : Int) else 0) (if 4 < (s).length then ((s.getD 4 0).toNat : Int) else 0) (if 5 < (s).length then ((s.getD 5 0).toNat : Int) else 0) (if 6 < (s).length then ((s.getD 6 0).toNat : Int) else 0) (if 7 < (s).length then ((s.getD 7 0).toNat : Int) else 0)), 0)

theorem ids_KeyOf_ok (s : List UInt8) (r : (A8 (Int)) × (Int)) (h : ids_KeyOf s = some r) : ∀ σ, Inj 0 σ → FnTri Tryd.prog 5 (renL σ [.str s]) (preOf σ 0 []) ((ids_KeyOf_v r).ren σ) (upOf σ []) := by
  refine fn_of Tryd.func5 (by kernel_rfl) (by kernel_rfl) (by kernel_rfl) trivial (by kernel_rfl) trivial (by kernel_rfl) ?_
  intro w0 W μ0 hμ
  unfold ids_KeyOf at h
  rcases itb_some h with ⟨c1, h⟩ | ⟨c1, h⟩
  · skip
    obtain rfl := Option.some.inj h
    exact run_ret mixed (L := []) (n := 23) (s := [.reg [], .reg [], .reg [(2, { v := some (.bool true) })], .reg []])
      (a_ (a_ (a_ (a_ tr tr) (a_ (a_ tr tr) tr)) (a_ (a_ (a_ tr tr) tr) (a_ (a_ (a_ tr tr) (a_ (a_ tr tr) (a_ (a_ tr (a_ (leB c1) tr)) (a_ tr (a_ tr (a_ tr (a_ (a_ tr tr) (a_ (a_ tr tr) (a_ tr (a_ tr (a_ tr (a_ (a_ tr tr) tr)))))))))))) (a_ (a_ (a_ (a_ tr (le_ 8 8 rfl)) tr) (a_ (a_ (a_ (Eq.refl 8) (a_ (le_ 8 8 rfl) (Eq.refl 0))) tr) (a_ (a_ tr tr) tr))) tr)))) (a_ (a_ tr (le_ 8 8 rfl)) tr)) (by kernel_rfl) rfl
  · skip
    rcases itb_some h with ⟨c2, h⟩ | ⟨c2, h⟩
    · skip
      obtain rfl := Option.some.inj h
      exact run_ret mixed (L := []) (n := 23) (s := [.reg [], .reg [], .reg [(2, { v := some (.bool false) }), (7, { v := some (.bool true) })], .reg []])
        (a_ (a_ (a_ (a_ tr tr) (a_ (a_ tr tr) tr)) (a_ (a_ (a_ tr tr) tr) (a_ (a_ (a_ tr tr) (a_ (a_ tr tr) (a_ (a_ tr (a_ (leB c1) tr)) (a_ (a_ tr tr) (a_ (a_ tr tr) (a_ (a_ tr tr) (a_ (a_ tr tr) (a_ (a_ tr (a_ (leB c2) tr)) (a_ tr (a_ tr (a_ tr (a_ (a_ tr tr) tr)))))))))))) (a_ (a_ (a_ (a_ tr (le_ 8 8 rfl)) tr) (a_ (a_ (a_ (Eq.refl 8) (a_ (le_ 8 8 rfl) (Eq.refl 0))) tr) (a_ (a_ tr tr) tr))) tr)))) (a_ (a_ tr (le_ 8 8 rfl)) tr)) (by kernel_rfl) rfl
    · skip
      obtain ⟨y4, e3, h⟩ := bind_some h
      rcases itb_some h with ⟨c5, h⟩ | ⟨c5, h⟩
      · skip
        obtain rfl := Option.some.inj h
        exact run_ret mixed (L := []) (n := 23) (s := [.reg [], .reg [], .reg [(2, { v := some (.bool false) }), (7, { v := some (.bool false) }), (9, { call := some (strings_IndexByte_v y4, [], []) }), (11, { v := some (.bool true) })], .reg []])
          (a_ (a_ (a_ (a_ tr tr) (a_ (a_ tr tr) tr)) (a_ (a_ (a_ tr tr) tr) (a_ (a_ (a_ tr tr) (a_ (a_ tr tr) (a_ (a_ tr (a_ (leB c1) tr)) (a_ (a_ tr tr) (a_ (a_ tr tr) (a_ (a_ tr tr) (a_ (a_ tr tr) (a_ (a_ tr (a_ (leB c2) tr)) (a_ (a_ tr tr) (a_ (a_ (a_ (strings_IndexByte_tri s 0 y4 e3) tr) tr) (a_ (a_ tr tr) (a_ (a_ tr (a_ (leB c5) tr)) tr)))))))))))) (a_ (a_ (a_ (a_ tr (le_ 8 8 rfl)) tr) (a_ (a_ (a_ (Eq.refl 8) (a_ (le_ 8 8 rfl) (Eq.refl 0))) tr) (a_ (a_ tr tr) tr))) tr)))) (a_ (a_ tr (le_ 8 8 rfl)) tr)) (by kernel_rfl) rfl
      · skip
        obtain rfl := Option.some.inj h
        exact run_ret mixed (L := []) (n := 27) (s := [.reg [], .reg [], .reg [(2, { v := some (.bool false) }), (7, { v := some (.bool false) }), (9, { call := some (strings_IndexByte_v y4, [], []) }), (11, { v := some (.bool false) })], .reg [], .reg []])
          (a_ (a_ (a_ (a_ tr tr) (a_ (a_ tr tr) tr)) (a_ (a_ (a_ tr tr) tr) (a_ (a_ (a_ tr tr) (a_ (a_ tr tr) (a_ (a_ tr (a_ (leB c1) tr)) (a_ (a_ tr tr) (a_ (a_ tr tr) (a_ (a_ tr tr) (a_ (a_ tr tr) (a_ (a_ tr (a_ (leB c2) tr)) (a_ (a_ tr tr) (a_ (a_ (a_ (strings_IndexByte_tri s 0 y4 e3) tr) tr) (a_ (a_ tr tr) (a_ (a_ tr (a_ (leB c5) tr)) tr)))))))))))) (a_ (a_ (a_ (a_ (lei_ 0 0 rfl) (a_ (lei_ 0 8 rfl) (lei_ 8 8 rfl))) tr) (a_ (a_ tr tr) (a_ (a_ (a_ (Eq.refl 1) (a_ (Eq.refl 0) (a_ (le_ 8 8 rfl) (Eq.refl true)))) tr) tr))) (a_ (a_ (a_ (a_ tr (le_ 8 8 rfl)) tr) (a_ (a_ (a_ (Eq.refl 8) (a_ (le_ 8 8 rfl) (Eq.refl 0))) tr) (a_ (a_ tr tr) tr))) tr))))) (a_ (a_ tr (le_ 8 8 rfl)) tr)) (by kernel_rfl) rfl

theorem ids_KeyOf_tri (s : List UInt8) (r : (A8 (Int)) × (Int)) (h : ids_KeyOf s = some r) : FnTri Tryd.prog 5 [.str s] [] (ids_KeyOf_v r) [] := FnTri.none (ids_KeyOf_ok s r h) rfl rfl

/-- parrel/parrelref05.KeyOf -/

def parrelref05_KeyOf_v (r : (A8 (Int)) × (Int)) : LV := .tup [.agg [.int .u8 r.1.a0, .int .u8 r.1.a1, .int .u8 r.1.a2, .int .u8 r.1.a3, .int .u8 r.1.a4, .int .u8 r.1.a5, .int .u8 r.1.a6, .int .u8 r.1.a7], .int .i64 r.2]

def parrelref05_KeyOf_T0 (s : List UInt8) (i : Int) (x : Int) (x2 : Int) (x3 : Int) (x4 : Int) (x5 : Int) (x6 : Int) (x7 : Int) (x8 : Int) : List LV := [.str s, .any, .ptr 0 0 0, .any, .ptr 1 0 0, .int .i64 i, .any, .any, .any, .any, .any, .any, .any, .any, .any, .any, .any, .any, .any, .any, .any, .any, .any, .any, .any, .any, .any, .any, .any, .any, .any, .any, .any]

def parrelref05_KeyOf_H0 (s : List UInt8) (i : Int) (x : Int) (x2 : Int) (x3 : Int) (x4 : Int) (x5 : Int) (x6 : Int) (x7 : Int) (x8 : Int) : Heap := [some (.var [.int .u8 0, .int .u8 0, .int .u8 0, .int .u8 0, .int .u8 0, .int .u8 0, .int .u8 0, .int .u8 0]), some (.var [.int .u8 x, .int .u8 x2, .int .u8 x3, .int .u8 x4, .int .u8 x5, .int .u8 x6, .int .u8 x7, .int .u8 x8])]

def parrelref05_KeyOf_l0 (s : List UInt8)  : Nat → (Int) → (Int) → (Int) → (Int) → (Int) → (Int) → (Int) → (Int) → (Int) → Option ((A8 (Int)) × (Int))
  | 0, _, _, _, _, _, _, _, _, _ => none
  | fuel + 1, i, x, x2, x3, x4, x5, x6, x7, x8 =>
    if ((decide (i < ((s).length : Int))) : Bool) then
      if 0 ≤ i ∧ i < (((s).length : Nat) : Int) then
      if ((((s.getD i.toNat 0).toNat : Int) == 0) : Bool) then
        some ((A8.mk 0 0 0 0 0 0 0 0), 1)
      else
        if 0 ≤ i ∧ i < 8 then
        parrelref05_KeyOf_l0 s  fuel (IntKind.wrap .i64 (i + 1)) (A8.set (A8.mk x x2 x3 x4 x5 x6 x7 x8) ((s.getD i.toNat 0).toNat : Int) i.toNat).a0 (A8.set (A8.mk x x2 x3 x4 x5 x6 x7 x8) ((s.getD i.toNat 0).toNat : Int) i.toNat).a1 (A8.set (A8.mk x x2 x3 x4 x5 x6 x7 x8) ((s.getD i.toNat 0).toNat : Int) i.toNat).a2 (A8.set (A8.mk x x2 x3 x4 x5 x6 x7 x8) ((s.getD i.toNat 0).toNat : Int) i.toNat).a3 (A8.set (A8.mk x x2 x3 x4 x5 x6 x7 x8) ((s.getD i.toNat 0).toNat : Int) i.toNat).a4 (A8.set (A8.mk x x2 x3 x4 x5 x6 x7 x8) ((s.getD i.toNat 0).toNat : Int) i.toNat).a5 (A8.set (A8.mk x x2 x3 x4 x5 x6 x7 x8) ((s.getD i.toNat 0).toNat : Int) i.toNat).a6 (A8.set (A8.mk x x2 x3 x4 x5 x6 x7 x8) ((s.getD i.toNat 0).toNat : Int) i.toNat).a7
        else none
      else none
    else
      some ((A8.mk x x2 x3 x4 x5 x6 x7 x8), 0)

def parrelref05_KeyOf (s : List UInt8) : Option ((A8 (Int)) × (Int)) :=
  if ((decide (((s).length : Int) < 1)) : Bool) then
    some ((A8.mk 0 0 0 0 0 0 0 0), 1)
  else
    if ((decide (8 < ((s).length : Int))) : Bool) then
      some ((A8.mk 0 0 0 0 0 0 0 0), 1)
    else
      parrelref05_KeyOf_l0 s  big 0 0 0 0 0 0 0 0 0

theorem parrelref05_KeyOf_l0_ok {w0 : World} {W : Nat → Prop} {μ0 : Emb} (hμ : ∀ c p, μ0 c = some p → c < 0) (s : List UInt8)  : ∀ (fuel : Nat) (i : Int) (x : Int) (x2 : Int) (x3 : Int) (x4 : Int) (x5 : Int) (x6 : Int) (x7 : Int) (x8 : Int) (r : (A8 (Int)) × (Int)), parrelref05_KeyOf_l0 s  fuel i x x2 x3 x4 x5 x6 x7 x8 = some r → kont Tryd.prog w0 W μ0 (FnPost Tryd.prog Tryd.f6 0 0 (parrelref05_KeyOf_v r) []) (kAt (bodyOf Tryd.f6) 0) none (parrelref05_KeyOf_T0 s i x x2 x3 x4 x5 x6 x7 x8) (parrelref05_KeyOf_H0 s i x x2 x3 x4 x5 x6 x7 x8) := by
  intro fuel
  induction fuel with
  | zero => intro i x x2 x3 x4 x5 x6 x7 x8 r h; rw [parrelref05_KeyOf_l0] at h; cases h
  | succ fuel ih =>
    intro i x x2 x3 x4 x5 x6 x7 x8 r h
    rw [parrelref05_KeyOf_l0] at h
    rcases itb_some h with ⟨cL0_1, h⟩ | ⟨cL0_1, h⟩
    · skip
      obtain ⟨gL0_2, h⟩ := guard_some h
      rcases itb_some h with ⟨cL0_3, h⟩ | ⟨cL0_3, h⟩
      · skip
        obtain rfl := Option.some.inj h
        exact run_ret mixed (L := []) (n := 26) (s := [.go, .reg [(3, { v := some (.bool true) })], .reg [(3, { v := some (.bool true) })], .reg []])
          (a_ (a_ (a_ (a_ tr tr) (a_ (a_ tr tr) (a_ (a_ tr tr) (a_ (a_ tr (a_ (leB cL0_1) tr)) tr)))) (a_ (a_ (a_ tr tr) (a_ (a_ tr tr) (a_ (a_ gL0_2 tr) (a_ (a_ tr (a_ (leB cL0_3) tr)) tr)))) (a_ (a_ (a_ (Eq.refl true) tr) (a_ (a_ (a_ (Eq.refl 8) (a_ (le_ 8 8 rfl) (Eq.refl 0))) tr) (a_ (a_ tr tr) tr))) tr))) (a_ (a_ tr (le_ 8 8 rfl)) tr)) (by kernel_rfl) rfl
      · skip
        obtain ⟨gL0_4, h⟩ := guard_some h
        exact run_to mixed hμ (L := [0, 1]) (n := 29) (s := [.go, .reg [(3, { v := some (.bool true) })], .reg [(3, { v := some (.bool false) })], .reg [(5, { os := [(1, .var [.int .u8 (A8.set (A8.mk x x2 x3 x4 x5 x6 x7 x8) ((s.getD i.toNat 0).toNat : Int) i.toNat).a0, .int .u8 (A8.set (A8.mk x x2 x3 x4 x5 x6 x7 x8) ((s.getD i.toNat 0).toNat : Int) i.toNat).a1, .int .u8 (A8.set (A8.mk x x2 x3 x4 x5 x6 x7 x8) ((s.getD i.toNat 0).toNat : Int) i.toNat).a2, .int .u8 (A8.set (A8.mk x x2 x3 x4 x5 x6 x7 x8) ((s.getD i.toNat 0).toNat : Int) i.toNat).a3, .int .u8 (A8.set (A8.mk x x2 x3 x4 x5 x6 x7 x8) ((s.getD i.toNat 0).toNat : Int) i.toNat).a4, .int .u8 (A8.set (A8.mk x x2 x3 x4 x5 x6 x7 x8) ((s.getD i.toNat 0).toNat : Int) i.toNat).a5, .int .u8 (A8.set (A8.mk x x2 x3 x4 x5 x6 x7 x8) ((s.getD i.toNat 0).toNat : Int) i.toNat).a6, .int .u8 (A8.set (A8.mk x x2 x3 x4 x5 x6 x7 x8) ((s.getD i.toNat 0).toNat : Int) i.toNat).a7])] })], .reg []])
          (a_ (a_ (a_ tr tr) (a_ (a_ tr tr) (a_ (a_ tr tr) (a_ (a_ tr (a_ (leB cL0_1) tr)) tr)))) (a_ (a_ (a_ tr tr) (a_ (a_ tr tr) (a_ (a_ gL0_2 tr) (a_ (a_ tr (a_ (leB cL0_3) tr)) tr)))) (a_ (a_ (a_ tr tr) (a_ (a_ tr tr) (a_ (a_ tr tr) (a_ (a_ gL0_2 tr) (a_ (a_ gL0_4 tr) (a_ (a_ (a_ (Eq.refl 1) (a_ (arrLe (len := 8) gL0_4 0 1 8 1 rfl rfl) (Eq.refl 0))) (a_ (st8 (cInt .u8) 1 (fun _ => rfl) (A8.mk x x2 x3 x4 x5 x6 x7 x8) [] [] 0 rfl i.toNat (lt8N gL0_4) ((s.getD i.toNat 0).toNat : Int)) tr)) tr)))))) (a_ (a_ (a_ tr tr) (a_ (a_ tr tr) (a_ (a_ tr tr) tr))) tr)))) (ih _ _ _ _ _ _ _ _ _ r h) (by kernel_rfl) ⟨rfl, rfl, trivial⟩
    · skip
      obtain rfl := Option.some.inj h
      exact run_ret mixed (L := []) (n := 19) (s := [.go, .reg [(3, { v := some (.bool false) })], .reg []])
        (a_ (a_ (a_ (a_ tr tr) (a_ (a_ tr tr) (a_ (a_ tr tr) (a_ (a_ tr (a_ (leB cL0_1) tr)) tr)))) (a_ (a_ (a_ (a_ tr (le_ 8 8 rfl)) tr) (a_ (a_ (a_ (Eq.refl 8) (a_ (le_ 8 8 rfl) (Eq.refl 0))) tr) (a_ (a_ tr tr) tr))) tr)) (a_ (a_ tr (le_ 8 8 rfl)) tr)) (by kernel_rfl) rfl

theorem parrelref05_KeyOf_ok (s : List UInt8) (r : (A8 (Int)) × (Int)) (h : parrelref05_KeyOf s = some r) : ∀ σ, Inj 0 σ → FnTri Tryd.prog 6 (renL σ [.str s]) (preOf σ 0 []) ((parrelref05_KeyOf_v r).ren σ) (upOf σ []) := by
  refine fn_of Tryd.func6 (by kernel_rfl) (by kernel_rfl) (by kernel_rfl) trivial (by kernel_rfl) trivial (by kernel_rfl) ?_
  intro w0 W μ0 hμ
  unfold parrelref05_KeyOf at h
  rcases itb_some h with ⟨c1, h⟩ | ⟨c1, h⟩
  · skip
    obtain rfl := Option.some.inj h
    exact run_ret mixed (L := []) (n := 23) (s := [.reg [], .reg [], .reg [(3, { v := some (.bool true) })], .reg []])
      (a_ (a_ (a_ (a_ tr tr) (a_ (a_ tr tr) tr)) (a_ (a_ (a_ (Eq.refl true) tr) (a_ (a_ tr tr) (a_ (a_ (a_ (Eq.refl 8) (a_ (le_ 8 8 rfl) (Eq.refl 0))) tr) tr))) (a_ (a_ (a_ tr tr) (a_ (a_ tr tr) (a_ (a_ tr tr) (a_ (a_ tr (a_ (leB c1) tr)) (a_ tr (a_ tr (a_ tr (a_ (a_ tr tr) tr)))))))) (a_ (a_ (a_ (a_ tr (le_ 8 8 rfl)) tr) (a_ (a_ (a_ (Eq.refl 8) (a_ (le_ 8 8 rfl) (Eq.refl 0))) tr) (a_ (a_ tr tr) tr))) tr)))) (a_ (a_ tr (le_ 8 8 rfl)) tr)) (by kernel_rfl) rfl
  · skip
    rcases itb_some h with ⟨c2, h⟩ | ⟨c2, h⟩
    · skip
      obtain rfl := Option.some.inj h
      exact run_ret mixed (L := []) (n := 23) (s := [.reg [], .reg [], .reg [(3, { v := some (.bool false) }), (7, { v := some (.bool true) })], .reg []])
        (a_ (a_ (a_ (a_ tr tr) (a_ (a_ tr tr) tr)) (a_ (a_ (a_ (Eq.refl true) tr) (a_ (a_ tr tr) (a_ (a_ (a_ (Eq.refl 8) (a_ (le_ 8 8 rfl) (Eq.refl 0))) tr) tr))) (a_ (a_ (a_ tr tr) (a_ (a_ tr tr) (a_ (a_ tr tr) (a_ (a_ tr (a_ (leB c1) tr)) (a_ (a_ tr tr) (a_ (a_ tr tr) (a_ (a_ tr tr) (a_ (a_ tr (a_ (leB c2) tr)) tr)))))))) (a_ (a_ (a_ (a_ tr (le_ 8 8 rfl)) tr) (a_ (a_ (a_ (Eq.refl 8) (a_ (le_ 8 8 rfl) (Eq.refl 0))) tr) (a_ (a_ tr tr) tr))) tr)))) (a_ (a_ tr (le_ 8 8 rfl)) tr)) (by kernel_rfl) rfl
    · skip
      exact run_to mixed hμ (L := [0, 1]) (n := 27) (s := [.reg [], .reg [], .reg [(3, { v := some (.bool false) }), (7, { v := some (.bool false) })], .reg []])
        (a_ (a_ (a_ tr tr) (a_ (a_ tr tr) tr)) (a_ (a_ (a_ (Eq.refl true) tr) (a_ (a_ tr tr) (a_ (a_ (a_ (Eq.refl 8) (a_ (le_ 8 8 rfl) (Eq.refl 0))) tr) tr))) (a_ (a_ (a_ tr tr) (a_ (a_ tr tr) (a_ (a_ tr tr) (a_ (a_ tr (a_ (leB c1) tr)) (a_ (a_ tr tr) (a_ (a_ tr tr) (a_ (a_ tr tr) (a_ (a_ tr (a_ (leB c2) tr)) tr)))))))) (a_ (a_ (a_ tr tr) tr) tr)))) (parrelref05_KeyOf_l0_ok hμ s  big _ _ _ _ _ _ _ _ _ r h) (by kernel_rfl) ⟨rfl, rfl, trivial⟩

theorem parrelref05_KeyOf_tri (s : List UInt8) (r : (A8 (Int)) × (Int)) (h : parrelref05_KeyOf s = some r) : FnTri Tryd.prog 6 [.str s] [] (parrelref05_KeyOf_v r) [] := FnTri.none (parrelref05_KeyOf_ok s r h) rfl rfl

/-- strings.trimRightByte -/

def strings_trimRightByte_v (r : (List UInt8)) : LV := .str r

def strings_trimRightByte_T0 (c : Int) (s2 : List UInt8) : List LV := [.str s2, .int .u8 c, .any, .any, .any, .any, .any, .any, .any, .any, .any, .any, .any, .any, .any, .any, .any, .any, .any, .any, .any, .any, .any]

def strings_trimRightByte_H0 (c : Int) (s2 : List UInt8) : Heap := []

def strings_trimRightByte_l0 (c : Int)  : Nat → (List UInt8) → Option ((List UInt8))
  | 0, _ => none
  | fuel + 1, s2 =>
    if ((decide (0 < ((s2).length : Int))) : Bool) then
      if 0 ≤ (IntKind.wrap .i64 (((s2).length : Int) - 1)) ∧ (IntKind.wrap .i64 (((s2).length : Int) - 1)) < (((s2).length : Nat) : Int) then
      if ((((s2.getD ((IntKind.wrap .i64 (((s2).length : Int) - 1))).toNat 0).toNat : Int) == c) : Bool) then
        if 0 ≤ (0 : Int) ∧ (0 : Int) ≤ (IntKind.wrap .i64 (((s2).length : Int) - 1)) ∧ (IntKind.wrap .i64 (((s2).length : Int) - 1)) ≤ (((s2).length : Nat) : Int) then
        strings_trimRightByte_l0 c  fuel ((s2.drop 0).take (((IntKind.wrap .i64 (((s2).length : Int) - 1))).toNat - 0))
        else none
      else
        some s2
      else none
    else
      some s2

def strings_trimRightByte (s : List UInt8) (c : Int) : Option ((List UInt8)) :=
  strings_trimRightByte_l0 c  big s

theorem strings_trimRightByte_l0_ok {w0 : World} {W : Nat → Prop} {μ0 : Emb} (hμ : ∀ c p, μ0 c = some p → c < 0) (c : Int)  : ∀ (fuel : Nat) (s2 : List UInt8) (r : (List UInt8)), strings_trimRightByte_l0 c  fuel s2 = some r → kont Tryd.prog w0 W μ0 (FnPost Tryd.prog Tryd.f17 0 0 (strings_trimRightByte_v r) []) (kAt (bodyOf Tryd.f17) 0) none (strings_trimRightByte_T0 c s2) (strings_trimRightByte_H0 c s2) := by
  intro fuel
  induction fuel with
  | zero => intro s2 r h; rw [strings_trimRightByte_l0] at h; cases h
  | succ fuel ih =>
    intro s2 r h
    rw [strings_trimRightByte_l0] at h
    rcases itb_some h with ⟨cL0_1, h⟩ | ⟨cL0_1, h⟩
    · skip
      obtain ⟨gL0_2, h⟩ := guard_some h
      rcases itb_some h with ⟨cL0_3, h⟩ | ⟨cL0_3, h⟩
      · skip
        obtain ⟨gL0_4, h⟩ := guard_some h
        exact run_to mixed hμ (L := []) (n := 20) (s := [.go, .reg [(3, { v := some (.bool true) }), (11, { v := some (.bool true) })], .reg []])
          (a_ (a_ (a_ tr tr) (a_ (a_ tr tr) (a_ (a_ tr tr) (a_ (a_ tr (a_ (leB cL0_1) tr)) (a_ (a_ tr tr) (a_ (a_ tr tr) (a_ (a_ tr tr) (a_ (a_ tr tr) (a_ (a_ gL0_2 tr) (a_ (a_ tr tr) (a_ (a_ tr tr) (a_ (a_ tr (a_ (leB cL0_3) tr)) tr)))))))))))) (a_ (a_ (a_ tr tr) (a_ (a_ tr tr) (a_ (a_ tr tr) (a_ (a_ tr tr) (a_ (a_ gL0_4 tr) (a_ (a_ tr tr) tr)))))) tr)) (ih _ r h) (by kernel_rfl) trivial
      · skip
        obtain rfl := Option.some.inj h
        exact run_ret mixed (L := []) (n := 19) (s := [.go, .reg [(3, { v := some (.bool true) }), (11, { v := some (.bool false) })], .reg []])
          (a_ (a_ (a_ (a_ tr tr) (a_ (a_ tr tr) (a_ (a_ tr tr) (a_ (a_ tr (a_ (leB cL0_1) tr)) (a_ (a_ tr tr) (a_ (a_ tr tr) (a_ (a_ tr tr) (a_ (a_ tr tr) (a_ (a_ gL0_2 tr) (a_ (a_ tr tr) (a_ (a_ tr tr) (a_ (a_ tr (a_ (leB cL0_3) tr)) tr)))))))))))) (a_ (a_ (a_ tr tr) (a_ (a_ tr tr) tr)) tr)) tr) (by kernel_rfl) rfl
    · skip
      obtain rfl := Option.some.inj h
      exact run_ret mixed (L := []) (n := 19) (s := [.go, .reg [(3, { v := some (.bool false) })], .reg []])
        (a_ (a_ (a_ (a_ tr tr) (a_ (a_ tr tr) (a_ (a_ tr tr) (a_ (a_ tr (a_ (leB cL0_1) tr)) (a_ tr (a_ tr (a_ tr (a_ tr (a_ tr (a_ tr (a_ tr (a_ (a_ tr tr) tr)))))))))))) (a_ (a_ (a_ tr tr) (a_ (a_ tr tr) tr)) tr)) tr) (by kernel_rfl) rfl

theorem strings_trimRightByte_ok (s : List UInt8) (c : Int) (r : (List UInt8)) (h : strings_trimRightByte s c = some r) : ∀ σ, Inj 0 σ → FnTri Tryd.prog 17 (renL σ [.str s, .int .u8 c]) (preOf σ 0 []) ((strings_trimRightByte_v r).ren σ) (upOf σ []) := by
  refine fn_of Tryd.func17 (by kernel_rfl) (by kernel_rfl) (by kernel_rfl) trivial (by kernel_rfl) trivial (by kernel_rfl) ?_
  intro w0 W μ0 hμ
  unfold strings_trimRightByte at h
  exact run_to mixed hμ (L := []) (n := 15) (s := [.reg []])
    (a_ (a_ (a_ tr tr) tr) tr) (strings_trimRightByte_l0_ok hμ c  big _ r h) (by kernel_rfl) trivial

theorem strings_trimRightByte_tri (s : List UInt8) (c : Int) (r : (List UInt8)) (h : strings_trimRightByte s c = some r) : FnTri Tryd.prog 17 [.str s, .int .u8 c] [] (strings_trimRightByte_v r) [] := FnTri.none (strings_trimRightByte_ok s c r h) rfl rfl

/-- strings.TrimRight -/

def strings_TrimRight_v (r : (List UInt8)) : LV := .str r

def strings_TrimRight (s : List UInt8) : Option ((List UInt8)) :=
  if ((s == []) : Bool) then
    some s
  else
    (strings_trimRightByte s 0).bind fun y3 =>
    some y3

theorem strings_TrimRight_ok (s : List UInt8) (r : (List UInt8)) (h : strings_TrimRight s = some r) : ∀ σ, Inj 0 σ → FnTri Tryd.prog 11 (renL σ [.str s, .str ([0] : List UInt8)]) (preOf σ 0 []) ((strings_TrimRight_v r).ren σ) (upOf σ []) := by
  refine fn_of Tryd.func11 (by kernel_rfl) (by kernel_rfl) (by kernel_rfl) trivial (by kernel_rfl) trivial (by kernel_rfl) ?_
  intro w0 W μ0 hμ
  unfold strings_TrimRight at h
  rcases itb_some h with ⟨c1, h⟩ | ⟨c1, h⟩
  · skip
    obtain rfl := Option.some.inj h
    exact run_ret mixed (L := []) (n := 20) (s := [.reg [], .reg [(2, { v := some (.bool true) })], .reg []])
      (a_ (a_ (a_ (a_ tr tr) tr) (a_ (a_ (a_ tr tr) (a_ (a_ tr tr) (a_ (a_ tr (a_ (leB c1) tr)) (a_ tr (a_ tr (a_ (a_ tr tr) tr)))))) (a_ (a_ (a_ tr tr) (a_ (a_ tr tr) tr)) tr))) tr) (by kernel_rfl) rfl
  · skip
    obtain ⟨y3, e2, h⟩ := bind_some h
    obtain rfl := Option.some.inj h
    exact run_ret mixed (L := []) (n := 26) (s := [.reg [], .reg [(2, { v := some (.bool false) })], .reg [], .reg [(3, { call := some (strings_trimRightByte_v y3, [], []) })]])
      (a_ (a_ (a_ (a_ tr tr) tr) (a_ (a_ (a_ tr tr) (a_ (a_ tr tr) (a_ (a_ tr (a_ (leB c1) tr)) (a_ (a_ tr tr) (a_ (a_ tr tr) (a_ (a_ tr tr) tr)))))) (a_ (a_ (a_ tr tr) (a_ (a_ tr tr) (a_ (a_ tr tr) (a_ (a_ tr tr) (a_ (a_ tr tr) (a_ (a_ (a_ (lei_ 0 0 rfl) (lti_ 0 1 rfl)) tr) (a_ (a_ tr tr) (a_ (a_ tr tr) tr)))))))) (a_ (a_ (a_ tr tr) (a_ (a_ tr tr) (a_ (a_ (a_ (lei_ 0 0 rfl) (lti_ 0 1 rfl)) tr) (a_ (a_ (a_ (strings_trimRightByte_tri s 0 y3 e2) tr) tr) (a_ (a_ tr tr) tr))))) tr)))) tr) (by kernel_rfl) rfl

theorem strings_TrimRight_tri (s : List UInt8) (r : (List UInt8)) (h : strings_TrimRight s = some r) : FnTri Tryd.prog 11 [.str s, .str ([0] : List UInt8)] [] (strings_TrimRight_v r) [] := FnTri.none (strings_TrimRight_ok s r h) rfl rfl

/-- parrel/ids.Name -/

def ids_Name_v (r : (List UInt8) × (Bool)) : LV := .tup [.str r.1, .bool r.2]

def ids_Name (x_k : A8 (Int)) : Option ((List UInt8) × (Bool)) :=
  (strings_TrimRight (strI (([x_k.a0, x_k.a1, x_k.a2, x_k.a3, x_k.a4, x_k.a5, x_k.a6, x_k.a7] : List Int).take 8))).bind fun y2 =>
  (ids_KeyOf y2).bind fun y4 =>
  if ((y4.2 != 0) : Bool) then
    some ([], false)
  else
    if ((!decide (y4.1 = x_k)) : Bool) then
      some ([], false)
    else
      some (y2, true)

theorem ids_Name_ok (x_k : A8 (Int)) (r : (List UInt8) × (Bool)) (h : ids_Name x_k = some r) : ∀ σ, Inj 0 σ → FnTri Tryd.prog 7 (renL σ [.agg [.int .u8 x_k.a0, .int .u8 x_k.a1, .int .u8 x_k.a2, .int .u8 x_k.a3, .int .u8 x_k.a4, .int .u8 x_k.a5, .int .u8 x_k.a6, .int .u8 x_k.a7]]) (preOf σ 0 []) ((ids_Name_v r).ren σ) (upOf σ []) := by
  refine fn_of Tryd.func7 (by kernel_rfl) (by kernel_rfl) (by kernel_rfl) trivial (by kernel_rfl) trivial (by kernel_rfl) ?_
  intro w0 W μ0 hμ
  unfold ids_Name at h
  obtain ⟨y2, e1, h⟩ := bind_some h
  obtain ⟨y4, e3, h⟩ := bind_some h
  rcases itb_some h with ⟨c5, h⟩ | ⟨c5, h⟩
  · skip
    obtain rfl := Option.some.inj h
    exact run_ret mixed (L := []) (n := 26) (s := [.reg [], .reg [(1, { v := some (.str (strI (([x_k.a0, x_k.a1, x_k.a2, x_k.a3, x_k.a4, x_k.a5, x_k.a6, x_k.a7] : List Int).take 8))) }), (2, { call := some (strings_TrimRight_v y2, [], []) })], .reg [(1, { call := some (ids_KeyOf_v y4, [], []) })], .reg [(2, { v := some (.bool true) })], .reg []])
      (a_ (a_ (a_ (a_ tr tr) (a_ (a_ tr tr) (a_ (a_ tr tr) tr))) (a_ (a_ (a_ (a_ (lei_ 0 0 rfl) (a_ (lei_ 0 8 rfl) (lei_ 8 8 rfl))) tr) (a_ (a_ (arr_ob [x_k.a0, x_k.a1, x_k.a2, x_k.a3, x_k.a4, x_k.a5, x_k.a6, x_k.a7] 8 8 (le_ 8 8 rfl) rfl) (a_ (le_arr [x_k.a0, x_k.a1, x_k.a2, x_k.a3, x_k.a4, x_k.a5, x_k.a6, x_k.a7] 8 8 (le_ 8 8 rfl) rfl) tr)) (a_ (a_ (a_ (strings_TrimRight_tri (strI (([x_k.a0, x_k.a1, x_k.a2, x_k.a3, x_k.a4, x_k.a5, x_k.a6, x_k.a7] : List Int).take 8)) y2 e1) tr) tr) (a_ (a_ tr tr) tr)))) (a_ (a_ (a_ tr tr) (a_ (a_ (a_ (ids_KeyOf_tri y2 y4 e3) tr) tr) (a_ (a_ tr tr) (a_ (a_ tr tr) (a_ (a_ tr tr) (a_ (a_ tr tr) (a_ (a_ (a_ (Eq.refl 8) (a_ (le_ 8 8 rfl) (Eq.refl 0))) tr) (a_ (a_ tr tr) tr)))))))) (a_ (a_ (a_ tr tr) (a_ (a_ tr tr) (a_ (a_ tr (a_ (leB c5) tr)) (a_ tr (a_ tr (a_ tr (a_ (a_ tr tr) tr))))))) (a_ (a_ (a_ tr tr) (a_ (a_ tr tr) tr)) tr))))) tr) (by kernel_rfl) rfl
  · skip
    rcases itb_some h with ⟨c6, h⟩ | ⟨c6, h⟩
    · skip
      obtain rfl := Option.some.inj h
      exact run_ret mixed (L := []) (n := 26) (s := [.reg [], .reg [(1, { v := some (.str (strI (([x_k.a0, x_k.a1, x_k.a2, x_k.a3, x_k.a4, x_k.a5, x_k.a6, x_k.a7] : List Int).take 8))) }), (2, { call := some (strings_TrimRight_v y2, [], []) })], .reg [(1, { call := some (ids_KeyOf_v y4, [], []) })], .reg [(2, { v := some (.bool false) }), (5, { v := some (.bool (!decide (y4.1 = x_k))) }), (6, { v := some (.bool true) })], .reg []])
        (a_ (a_ (a_ (a_ tr tr) (a_ (a_ tr tr) (a_ (a_ tr tr) tr))) (a_ (a_ (a_ (a_ (lei_ 0 0 rfl) (a_ (lei_ 0 8 rfl) (lei_ 8 8 rfl))) tr) (a_ (a_ (arr_ob [x_k.a0, x_k.a1, x_k.a2, x_k.a3, x_k.a4, x_k.a5, x_k.a6, x_k.a7] 8 8 (le_ 8 8 rfl) rfl) (a_ (le_arr [x_k.a0, x_k.a1, x_k.a2, x_k.a3, x_k.a4, x_k.a5, x_k.a6, x_k.a7] 8 8 (le_ 8 8 rfl) rfl) tr)) (a_ (a_ (a_ (strings_TrimRight_tri (strI (([x_k.a0, x_k.a1, x_k.a2, x_k.a3, x_k.a4, x_k.a5, x_k.a6, x_k.a7] : List Int).take 8)) y2 e1) tr) tr) (a_ (a_ tr tr) tr)))) (a_ (a_ (a_ tr tr) (a_ (a_ (a_ (ids_KeyOf_tri y2 y4 e3) tr) tr) (a_ (a_ tr tr) (a_ (a_ tr tr) (a_ (a_ tr tr) (a_ (a_ tr tr) (a_ (a_ (a_ (Eq.refl 8) (a_ (le_ 8 8 rfl) (Eq.refl 0))) tr) (a_ (a_ tr tr) tr)))))))) (a_ (a_ (a_ tr tr) (a_ (a_ tr tr) (a_ (a_ tr (a_ (leB c5) tr)) (a_ (a_ (a_ tr (le_ 8 8 rfl)) tr) (a_ (a_ (a_ tr (le_ 8 8 rfl)) tr) (a_ (a_ tr (a_ (leB (congrArg not ((k_arr8 .u8) y4.1 x_k))) tr)) (a_ (a_ tr (a_ (leB c6) tr)) tr))))))) (a_ (a_ (a_ tr tr) (a_ (a_ tr tr) tr)) tr))))) tr) (by kernel_rfl) rfl
    · skip
      obtain rfl := Option.some.inj h
      exact run_ret mixed (L := []) (n := 27) (s := [.reg [], .reg [(1, { v := some (.str (strI (([x_k.a0, x_k.a1, x_k.a2, x_k.a3, x_k.a4, x_k.a5, x_k.a6, x_k.a7] : List Int).take 8))) }), (2, { call := some (strings_TrimRight_v y2, [], []) })], .reg [(1, { call := some (ids_KeyOf_v y4, [], []) })], .reg [(2, { v := some (.bool false) }), (5, { v := some (.bool (!decide (y4.1 = x_k))) }), (6, { v := some (.bool false) })], .reg []])
        (a_ (a_ (a_ (a_ tr tr) (a_ (a_ tr tr) (a_ (a_ tr tr) tr))) (a_ (a_ (a_ (a_ (lei_ 0 0 rfl) (a_ (lei_ 0 8 rfl) (lei_ 8 8 rfl))) tr) (a_ (a_ (arr_ob [x_k.a0, x_k.a1, x_k.a2, x_k.a3, x_k.a4, x_k.a5, x_k.a6, x_k.a7] 8 8 (le_ 8 8 rfl) rfl) (a_ (le_arr [x_k.a0, x_k.a1, x_k.a2, x_k.a3, x_k.a4, x_k.a5, x_k.a6, x_k.a7] 8 8 (le_ 8 8 rfl) rfl) tr)) (a_ (a_ (a_ (strings_TrimRight_tri (strI (([x_k.a0, x_k.a1, x_k.a2, x_k.a3, x_k.a4, x_k.a5, x_k.a6, x_k.a7] : List Int).take 8)) y2 e1) tr) tr) (a_ (a_ tr tr) tr)))) (a_ (a_ (a_ tr tr) (a_ (a_ (a_ (ids_KeyOf_tri y2 y4 e3) tr) tr) (a_ (a_ tr tr) (a_ (a_ tr tr) (a_ (a_ tr tr) (a_ (a_ tr tr) (a_ (a_ (a_ (Eq.refl 8) (a_ (le_ 8 8 rfl) (Eq.refl 0))) tr) (a_ (a_ tr tr) tr)))))))) (a_ (a_ (a_ tr tr) (a_ (a_ tr tr) (a_ (a_ tr (a_ (leB c5) tr)) (a_ (a_ (a_ tr (le_ 8 8 rfl)) tr) (a_ (a_ (a_ tr (le_ 8 8 rfl)) tr) (a_ (a_ tr (a_ (leB (congrArg not ((k_arr8 .u8) y4.1 x_k))) tr)) (a_ (a_ tr (a_ (leB c6) tr)) tr))))))) (a_ (a_ (a_ tr tr) (a_ (a_ tr tr) (a_ (a_ tr tr) tr))) tr))))) tr) (by kernel_rfl) rfl

theorem ids_Name_tri (x_k : A8 (Int)) (r : (List UInt8) × (Bool)) (h : ids_Name x_k = some r) : FnTri Tryd.prog 7 [.agg [.int .u8 x_k.a0, .int .u8 x_k.a1, .int .u8 x_k.a2, .int .u8 x_k.a3, .int .u8 x_k.a4, .int .u8 x_k.a5, .int .u8 x_k.a6, .int .u8 x_k.a7]] [] (ids_Name_v r) [] := FnTri.none (ids_Name_ok x_k r h) rfl rfl

/-- parrel/parrelref05.Name -/

def parrelref05_Name_v (r : (List UInt8) × (Bool)) : LV := .tup [.str r.1, .bool r.2]

def parrelref05_Name_T1 (x_k : A8 (Int)) (x_n : Int) (i : Int) : List LV := [.any, .ptr 0 0 0, .any, .any, .int .i64 x_n, .int .i64 i, .any, .any, .any, .any, .any, .any, .any, .any, .any, .any, .any, .any, .any, .any, .any, .any, .any, .any, .any, .any, .any, .any, .any, .any]

def parrelref05_Name_H1 (x_k : A8 (Int)) (x_n : Int) (i : Int) : Heap := [some (.var [.int .u8 x_k.a0, .int .u8 x_k.a1, .int .u8 x_k.a2, .int .u8 x_k.a3, .int .u8 x_k.a4, .int .u8 x_k.a5, .int .u8 x_k.a6, .int .u8 x_k.a7])]

def parrelref05_Name_T0 (x_k : A8 (Int)) (x_n : Int) : List LV := [.any, .ptr 0 0 0, .any, .any, .int .i64 x_n, .any, .any, .any, .any, .any, .any, .any, .any, .any, .any, .any, .any, .any, .any, .any, .any, .any, .any, .any, .any, .any, .any, .any, .any, .any]

def parrelref05_Name_H0 (x_k : A8 (Int)) (x_n : Int) : Heap := [some (.var [.int .u8 x_k.a0, .int .u8 x_k.a1, .int .u8 x_k.a2, .int .u8 x_k.a3, .int .u8 x_k.a4, .int .u8 x_k.a5, .int .u8 x_k.a6, .int .u8 x_k.a7])]

def parrelref05_Name_l1 (x_k : A8 (Int)) (x_n : Int)  : Nat → (Int) → Option ((List UInt8) × (Bool))
  | 0, _ => none
  | fuel + 1, i =>
    if ((decide (i < 8)) : Bool) then
      if 0 ≤ i ∧ i < 8 then
      if (((A8.get x_k i.toNat) != 0) : Bool) then
        some ([], false)
      else
        parrelref05_Name_l1 x_k x_n  fuel (IntKind.wrap .i64 (i + 1))
      else none
    else
      if ((x_n == 0) : Bool) then
        some ([], false)
      else
        if 0 ≤ (0 : Int) ∧ 0 ≤ x_n ∧ x_n ≤ 8 then
        some ((strI (([x_k.a0, x_k.a1, x_k.a2, x_k.a3, x_k.a4, x_k.a5, x_k.a6, x_k.a7] : List Int).take (x_n.toNat))), true)
        else none

def parrelref05_Name_l0 (x_k : A8 (Int))  : Nat → (Int) → Option ((List UInt8) × (Bool))
  | 0, _ => none
  | fuel + 1, x_n =>
    if ((decide (x_n < 8)) : Bool) then
      if 0 ≤ x_n ∧ x_n < 8 then
      if (((A8.get x_k x_n.toNat) != 0) : Bool) then
        parrelref05_Name_l0 x_k  fuel (IntKind.wrap .i64 (x_n + 1))
      else
        parrelref05_Name_l1 x_k x_n  big x_n
      else none
    else
      parrelref05_Name_l1 x_k x_n  big x_n

def parrelref05_Name (x_k : A8 (Int)) : Option ((List UInt8) × (Bool)) :=
  parrelref05_Name_l0 x_k  big 0

theorem parrelref05_Name_l1_ok {w0 : World} {W : Nat → Prop} {μ0 : Emb} (hμ : ∀ c p, μ0 c = some p → c < 0) (x_k : A8 (Int)) (x_n : Int)  : ∀ (fuel : Nat) (i : Int) (r : (List UInt8) × (Bool)), parrelref05_Name_l1 x_k x_n  fuel i = some r → kont Tryd.prog w0 W μ0 (FnPost Tryd.prog Tryd.f8 0 0 (parrelref05_Name_v r) []) (kAt (bodyOf Tryd.f8) 1) none (parrelref05_Name_T1 x_k x_n i) (parrelref05_Name_H1 x_k x_n i) := by
  intro fuel
  induction fuel with
  | zero => intro i r h; rw [parrelref05_Name_l1] at h; cases h
  | succ fuel ih =>
    intro i r h
    rw [parrelref05_Name_l1] at h
    rcases itb_some h with ⟨cL1_1, h⟩ | ⟨cL1_1, h⟩
    · skip
      obtain ⟨gL1_2, h⟩ := guard_some h
      rcases itb_some h with ⟨cL1_3, h⟩ | ⟨cL1_3, h⟩
      · skip
        obtain rfl := Option.some.inj h
        exact run_ret mixed (L := []) (n := 25) (s := [.go, .reg [(1, { v := some (.bool true) })], .reg [(2, { v := some (.int .u8 (A8.get x_k i.toNat)) }), (3, { v := some (.bool true) })], .reg []])
          (a_ (a_ (a_ (a_ tr tr) (a_ (a_ tr (a_ (leB cL1_1) tr)) tr)) (a_ (a_ (a_ tr tr) (a_ (a_ gL1_2 tr) (a_ (a_ (a_ tr (arrLt (len := 8) gL1_2 0 1 8 rfl rfl)) (a_ (ld8s (cInt .u8) 1 (fun _ => rfl) x_k [] [] 0 rfl i.toNat (lt8N gL1_2) (le_ (0 + 1) 1 rfl)) tr)) (a_ (a_ tr (a_ (leB cL1_3) tr)) tr)))) (a_ (a_ (a_ tr tr) (a_ (a_ tr tr) tr)) tr))) tr) (by kernel_rfl) rfl
      · skip
        exact run_to mixed hμ (L := [0]) (n := 26) (s := [.go, .reg [(1, { v := some (.bool true) })], .reg [(2, { v := some (.int .u8 (A8.get x_k i.toNat)) }), (3, { v := some (.bool false) })], .reg []])
          (a_ (a_ (a_ tr tr) (a_ (a_ tr (a_ (leB cL1_1) tr)) tr)) (a_ (a_ (a_ tr tr) (a_ (a_ gL1_2 tr) (a_ (a_ (a_ tr (arrLt (len := 8) gL1_2 0 1 8 rfl rfl)) (a_ (ld8s (cInt .u8) 1 (fun _ => rfl) x_k [] [] 0 rfl i.toNat (lt8N gL1_2) (le_ (0 + 1) 1 rfl)) tr)) (a_ (a_ tr (a_ (leB cL1_3) tr)) tr)))) (a_ (a_ (a_ tr tr) (a_ (a_ tr tr) (a_ (a_ tr tr) tr))) tr))) (ih _ r h) (by kernel_rfl) ⟨rfl, trivial⟩
    · skip
      rcases itb_some h with ⟨cL1_2, h⟩ | ⟨cL1_2, h⟩
      · skip
        obtain rfl := Option.some.inj h
        exact run_ret mixed (L := []) (n := 24) (s := [.go, .reg [(1, { v := some (.bool false) })], .reg [(1, { v := some (.bool true) })], .reg []])
          (a_ (a_ (a_ (a_ tr tr) (a_ (a_ tr (a_ (leB cL1_1) tr)) tr)) (a_ (a_ (a_ tr tr) (a_ (a_ tr (a_ (leB cL1_2) tr)) tr)) (a_ (a_ (a_ tr tr) (a_ (a_ tr tr) tr)) tr))) tr) (by kernel_rfl) rfl
      · skip
        obtain ⟨gL1_3, h⟩ := guard_some h
        obtain rfl := Option.some.inj h
        exact run_ret mixed (L := []) (n := 25) (s := [.go, .reg [(1, { v := some (.bool false) })], .reg [(1, { v := some (.bool false) })], .reg [(2, { v := some (.str (strI (([x_k.a0, x_k.a1, x_k.a2, x_k.a3, x_k.a4, x_k.a5, x_k.a6, x_k.a7] : List Int).take (x_n.toNat)))) })]])
          (a_ (a_ (a_ (a_ tr tr) (a_ (a_ tr (a_ (leB cL1_1) tr)) tr)) (a_ (a_ (a_ tr tr) (a_ (a_ tr (a_ (leB cL1_2) tr)) tr)) (a_ (a_ (a_ tr tr) (a_ (a_ gL1_3 tr) (a_ (a_ (arr_ob [x_k.a0, x_k.a1, x_k.a2, x_k.a3, x_k.a4, x_k.a5, x_k.a6, x_k.a7] (x_n.toNat) 8 (toN_le (n := 8) gL1_3.2.2) rfl) (a_ (le_arr [x_k.a0, x_k.a1, x_k.a2, x_k.a3, x_k.a4, x_k.a5, x_k.a6, x_k.a7] (x_n.toNat) 8 (toN_le (n := 8) gL1_3.2.2) rfl) tr)) (a_ (a_ tr tr) (a_ (a_ tr tr) tr))))) tr))) tr) (by kernel_rfl) rfl

theorem parrelref05_Name_l0_ok {w0 : World} {W : Nat → Prop} {μ0 : Emb} (hμ : ∀ c p, μ0 c = some p → c < 0) (x_k : A8 (Int))  : ∀ (fuel : Nat) (x_n : Int) (r : (List UInt8) × (Bool)), parrelref05_Name_l0 x_k  fuel x_n = some r → kont Tryd.prog w0 W μ0 (FnPost Tryd.prog Tryd.f8 0 0 (parrelref05_Name_v r) []) (kAt (bodyOf Tryd.f8) 0) none (parrelref05_Name_T0 x_k x_n) (parrelref05_Name_H0 x_k x_n) := by
  intro fuel
  induction fuel with
  | zero => intro x_n r h; rw [parrelref05_Name_l0] at h; cases h
  | succ fuel ih =>
    intro x_n r h
    rw [parrelref05_Name_l0] at h
    rcases itb_some h with ⟨cL0_1, h⟩ | ⟨cL0_1, h⟩
    · skip
      obtain ⟨gL0_2, h⟩ := guard_some h
      rcases itb_some h with ⟨cL0_3, h⟩ | ⟨cL0_3, h⟩
      · skip
        exact run_to mixed hμ (L := [0]) (n := 20) (s := [.go, .reg [(2, { v := some (.bool true) }), (5, { v := some (.int .u8 (A8.get x_k x_n.toNat)) }), (7, { v := some (.bool true) })], .reg []])
          (a_ (a_ (a_ tr tr) (a_ (a_ tr tr) (a_ (a_ tr (a_ (leB cL0_1) tr)) (a_ (a_ tr tr) (a_ (a_ gL0_2 tr) (a_ (a_ (a_ tr (arrLt (len := 8) gL0_2 0 1 8 rfl rfl)) (a_ (ld8s (cInt .u8) 1 (fun _ => rfl) x_k [] [] 0 rfl x_n.toNat (lt8N gL0_2) (le_ (0 + 1) 1 rfl)) tr)) (a_ (a_ tr tr) (a_ (a_ tr (a_ (leB cL0_3) tr)) tr)))))))) (a_ (a_ (a_ tr tr) (a_ (a_ tr tr) (a_ (a_ tr tr) tr))) tr)) (ih _ r h) (by kernel_rfl) ⟨rfl, trivial⟩
      · skip
        exact run_to mixed hμ (L := [0]) (n := 22) (s := [.go, .reg [(2, { v := some (.bool true) }), (5, { v := some (.int .u8 (A8.get x_k x_n.toNat)) }), (7, { v := some (.bool false) })], .reg []])
          (a_ (a_ (a_ tr tr) (a_ (a_ tr tr) (a_ (a_ tr (a_ (leB cL0_1) tr)) (a_ (a_ tr tr) (a_ (a_ gL0_2 tr) (a_ (a_ (a_ tr (arrLt (len := 8) gL0_2 0 1 8 rfl rfl)) (a_ (ld8s (cInt .u8) 1 (fun _ => rfl) x_k [] [] 0 rfl x_n.toNat (lt8N gL0_2) (le_ (0 + 1) 1 rfl)) tr)) (a_ (a_ tr tr) (a_ (a_ tr (a_ (leB cL0_3) tr)) tr)))))))) (a_ (a_ (a_ tr tr) (a_ (a_ tr tr) tr)) tr)) (parrelref05_Name_l1_ok hμ x_k x_n  big _ r h) (by kernel_rfl) ⟨rfl, trivial⟩
    · skip
      exact run_to mixed hμ (L := [0]) (n := 22) (s := [.go, .reg [(2, { v := some (.bool false) })], .reg []])
        (a_ (a_ (a_ tr tr) (a_ (a_ tr tr) (a_ (a_ tr (a_ (leB cL0_1) tr)) (a_ tr (a_ tr (a_ tr (a_ tr (a_ (a_ tr tr) tr)))))))) (a_ (a_ (a_ tr tr) (a_ (a_ tr tr) tr)) tr)) (parrelref05_Name_l1_ok hμ x_k x_n  big _ r h) (by kernel_rfl) ⟨rfl, trivial⟩

theorem parrelref05_Name_ok (x_k : A8 (Int)) (r : (List UInt8) × (Bool)) (h : parrelref05_Name x_k = some r) : ∀ σ, Inj 0 σ → FnTri Tryd.prog 8 (renL σ [.agg [.int .u8 x_k.a0, .int .u8 x_k.a1, .int .u8 x_k.a2, .int .u8 x_k.a3, .int .u8 x_k.a4, .int .u8 x_k.a5, .int .u8 x_k.a6, .int .u8 x_k.a7]]) (preOf σ 0 []) ((parrelref05_Name_v r).ren σ) (upOf σ []) := by
  refine fn_of Tryd.func8 (by kernel_rfl) (by kernel_rfl) (by kernel_rfl) trivial (by kernel_rfl) trivial (by kernel_rfl) ?_
  intro w0 W μ0 hμ
  unfold parrelref05_Name at h
  exact run_to mixed hμ (L := [0]) (n := 18) (s := [.reg [], .reg []])
    (a_ (a_ (a_ tr tr) (a_ (a_ tr tr) (a_ (a_ tr tr) tr))) (a_ (a_ (a_ tr tr) tr) tr)) (parrelref05_Name_l0_ok hμ x_k  big _ r h) (by kernel_rfl) ⟨rfl, trivial⟩

theorem parrelref05_Name_tri (x_k : A8 (Int)) (r : (List UInt8) × (Bool)) (h : parrelref05_Name x_k = some r) : FnTri Tryd.prog 8 [.agg [.int .u8 x_k.a0, .int .u8 x_k.a1, .int .u8 x_k.a2, .int .u8 x_k.a3, .int .u8 x_k.a4, .int .u8 x_k.a5, .int .u8 x_k.a6, .int .u8 x_k.a7]] [] (parrelref05_Name_v r) [] := FnTri.none (parrelref05_Name_ok x_k r h) rfl rfl

/-- parrel/ids.New -/

def ids_New_v (r : (List (T_api_Tx × Bool))) : LV := .ptr 0 0 0

def ids_New_up  (r : (List (T_api_Tx × Bool))) : Upd := [(0, some (.var [.map 1])), (1, some (.map true [.int .u8, .int .u32, .int .u32] (encM v_T_api_Tx LV.bool r)))]

def ids_New  : Option ((List (T_api_Tx × Bool))) :=
  some ([] : List (T_api_Tx × Bool))

theorem ids_New_ok  (r : (List (T_api_Tx × Bool))) (h : ids_New  = some r) : ∀ σ, Inj 2 σ → FnTri Tryd.prog 12 (renL σ []) (preOf σ 0 []) ((ids_New_v r).ren σ) (upOf σ (ids_New_up  r)) := by
  refine fn_of Tryd.func12 (by kernel_rfl) (by kernel_rfl) (by kernel_rfl) trivial (by kernel_rfl) ⟨rfl, trivial, trivial⟩ (by kernel_rfl) ?_
  intro w0 W μ0 hμ
  unfold ids_New at h
  obtain rfl := Option.some.inj h
  exact run_ret mixed (L := [1, 0]) (n := 15) (s := [.reg [], .reg []])
    (a_ (a_ (a_ (a_ tr tr) tr) (a_ (a_ (a_ tr tr) (a_ (a_ (Eq.refl true) tr) (a_ (a_ tr tr) (a_ (a_ tr tr) tr)))) tr)) tr) (by kernel_rfl) rfl

/-- (*parrel/ids.Set).Add -/

def ids_Set_Add_v (r : (Bool) × (List (T_api_Tx × Bool))) : LV := .bool r.1

def ids_Set_Add_up (m : List (T_api_Tx × Bool)) (t : T_api_Tx) (r : (Bool) × (List (T_api_Tx × Bool))) : Upd := [(0, some (.var [.map 1])), (1, some (.map true [.int .u8, .int .u32, .int .u32] (encM v_T_api_Tx LV.bool r.2)))]

def ids_Set_Add_objs (m : List (T_api_Tx × Bool)) (t : T_api_Tx) : List LO := [.var [.map 1], .map true [.int .u8, .int .u32, .int .u32] (encM v_T_api_Tx LV.bool m)]

def ids_Set_Add (m : List (T_api_Tx × Bool)) (t : T_api_Tx) : Option ((Bool) × (List (T_api_Tx × Bool))) :=
  if (((mget m t).getD default) : Bool) then
    some (false, m)
  else
    some (true, (mset m t true))

theorem ids_Set_Add_ok (m : List (T_api_Tx × Bool)) (t : T_api_Tx) (r : (Bool) × (List (T_api_Tx × Bool))) (h : ids_Set_Add m t = some r) : ∀ σ, Inj 2 σ → FnTri Tryd.prog 13 (renL σ [.ptr 0 0 0, v_T_api_Tx t]) (preOf σ 0 (ids_Set_Add_objs m t)) ((ids_Set_Add_v r).ren σ) (upOf σ (ids_Set_Add_up m t r)) := by
  refine fn_of Tryd.func13 (by kernel_rfl) (by kernel_rfl) (by kernel_rfl) ⟨rfl, trivial, trivial⟩ (by kernel_rfl) ⟨rfl, trivial, trivial⟩ (by kernel_rfl) ?_
  intro w0 W μ0 hμ
  unfold ids_Set_Add at h
  rcases itb_some h with ⟨c1, h⟩ | ⟨c1, h⟩
  · skip
    obtain rfl := Option.some.inj h
    exact run_ret mixed (L := []) (n := 20) (s := [.reg [], .reg [(15, { look := ((mget m t).map LV.bool), v := some (.bool ((mget m t).getD default)) }), (16, { v := some (.bool true) })], .reg []])
      (a_ (a_ (a_ (a_ tr tr) (a_ (a_ tr tr) tr)) (a_ (a_ (a_ tr tr) (a_ (a_ tr tr) (a_ (a_ tr tr) (a_ (a_ tr tr) (a_ (a_ tr tr) (a_ (a_ tr tr) (a_ (a_ (a_ tr (lt_ 0 1 rfl)) tr) (a_ (a_ tr tr) (a_ (a_ tr tr) (a_ (a_ tr tr) (a_ (a_ tr tr) (a_ (a_ tr tr) (a_ (a_ tr tr) (a_ (a_ (a_ tr (lt_ 0 1 rfl)) tr) (a_ (a_ (a_ tr (le_ 3 3 rfl)) tr) (a_ (a_ (a_ (Eq.refl true) (findE_enc v_T_api_Tx LV.bool k_T_api_Tx m t)) (a_ (le_look LV.bool (mget m t) default) tr)) (a_ (a_ tr (a_ (leB c1) tr)) tr))))))))))))))))) (a_ (a_ (a_ tr tr) tr) tr))) tr) (by kernel_rfl) rfl
  · skip
    obtain rfl := Option.some.inj h
    exact run_ret mixed (L := []) (n := 24) (s := [.reg [], .reg [(15, { look := ((mget m t).map LV.bool), v := some (.bool ((mget m t).getD default)) }), (16, { v := some (.bool false) })], .reg [(5, { os := [(1, .map true [.int .u8, .int .u32, .int .u32] (encM v_T_api_Tx LV.bool (mset m t true)))] })], .reg []])
      (a_ (a_ (a_ (a_ tr tr) (a_ (a_ tr tr) tr)) (a_ (a_ (a_ tr tr) (a_ (a_ tr tr) (a_ (a_ tr tr) (a_ (a_ tr tr) (a_ (a_ tr tr) (a_ (a_ tr tr) (a_ (a_ (a_ tr (lt_ 0 1 rfl)) tr) (a_ (a_ tr tr) (a_ (a_ tr tr) (a_ (a_ tr tr) (a_ (a_ tr tr) (a_ (a_ tr tr) (a_ (a_ tr tr) (a_ (a_ (a_ tr (lt_ 0 1 rfl)) tr) (a_ (a_ (a_ tr (le_ 3 3 rfl)) tr) (a_ (a_ (a_ (Eq.refl true) (findE_enc v_T_api_Tx LV.bool k_T_api_Tx m t)) (a_ (le_look LV.bool (mget m t) default) tr)) (a_ (a_ tr (a_ (leB c1) tr)) tr))))))))))))))))) (a_ (a_ (a_ tr tr) (a_ (a_ tr tr) (a_ (a_ tr tr) (a_ (a_ (a_ tr (lt_ 0 1 rfl)) tr) (a_ (a_ (a_ tr (le_ 3 3 rfl)) tr) (a_ (a_ (a_ (Eq.refl true) (Eq.refl true)) (a_ (sub_upd v_T_api_Tx LV.bool k_T_api_Tx true [.int .u8, .int .u32, .int .u32] m t true) tr)) tr)))))) (a_ (a_ (a_ tr tr) tr) tr)))) tr) (by kernel_rfl) rfl

/-- (*parrel/ids.Set).Has -/

def ids_Set_Has_v (r : (Bool)) : LV := .bool r

def ids_Set_Has_up (m : List (T_api_Tx × Bool)) (t : T_api_Tx) (r : (Bool)) : Upd := [(0, some (.var [.map 1])), (1, some (.map true [.int .u8, .int .u32, .int .u32] (encM v_T_api_Tx LV.bool m)))]

def ids_Set_Has_objs (m : List (T_api_Tx × Bool)) (t : T_api_Tx) : List LO := [.var [.map 1], .map true [.int .u8, .int .u32, .int .u32] (encM v_T_api_Tx LV.bool m)]

def ids_Set_Has (m : List (T_api_Tx × Bool)) (t : T_api_Tx) : Option ((Bool)) :=
  some ((mget m t).getD default)

theorem ids_Set_Has_ok (m : List (T_api_Tx × Bool)) (t : T_api_Tx) (r : (Bool)) (h : ids_Set_Has m t = some r) : ∀ σ, Inj 2 σ → FnTri Tryd.prog 14 (renL σ [.ptr 0 0 0, v_T_api_Tx t]) (preOf σ 0 (ids_Set_Has_objs m t)) ((ids_Set_Has_v r).ren σ) (upOf σ (ids_Set_Has_up m t r)) := by
  refine fn_of Tryd.func14 (by kernel_rfl) (by kernel_rfl) (by kernel_rfl) ⟨rfl, trivial, trivial⟩ (by kernel_rfl) ⟨rfl, trivial, trivial⟩ (by kernel_rfl) ?_
  intro w0 W μ0 hμ
  unfold ids_Set_Has at h
  obtain rfl := Option.some.inj h
  exact run_ret mixed (L := []) (n := 15) (s := [.reg [], .reg [(8, { look := ((mget m t).map LV.bool), v := some (.bool ((mget m t).getD default)) })]])
    (a_ (a_ (a_ (a_ tr tr) (a_ (a_ tr tr) tr)) (a_ (a_ (a_ tr tr) (a_ (a_ tr tr) (a_ (a_ tr tr) (a_ (a_ tr tr) (a_ (a_ tr tr) (a_ (a_ tr tr) (a_ (a_ (a_ tr (lt_ 0 1 rfl)) tr) (a_ (a_ (a_ tr (le_ 3 3 rfl)) tr) (a_ (a_ (a_ (Eq.refl true) (findE_enc v_T_api_Tx LV.bool k_T_api_Tx m t)) (a_ (le_look LV.bool (mget m t) default) tr)) (a_ (a_ tr tr) (a_ (a_ tr tr) tr))))))))))) tr)) tr) (by kernel_rfl) rfl

/-- parrel/ids.isCount -/

def ids_isCount_v (r : (Bool)) : LV := .bool r

def ids_isCount (x_n : Int) : Option ((Bool)) :=
  some (decide ((IntKind.wrap .u32 (x_n - 1)) < 2147483647))

theorem ids_isCount_ok (x_n : Int) (r : (Bool)) (h : ids_isCount x_n = some r) : ∀ σ, Inj 0 σ → FnTri Tryd.prog 21 (renL σ [.int .u32 x_n]) (preOf σ 0 []) ((ids_isCount_v r).ren σ) (upOf σ []) := by
  refine fn_of Tryd.func21 (by kernel_rfl) (by kernel_rfl) (by kernel_rfl) trivial (by kernel_rfl) trivial (by kernel_rfl) ?_
  intro w0 W μ0 hμ
  unfold ids_isCount at h
  obtain rfl := Option.some.inj h
  exact run_ret mixed (L := []) (n := 15) (s := [.reg [], .reg []])
    (a_ (a_ (a_ (a_ tr tr) tr) (a_ (a_ (a_ tr tr) (a_ (a_ tr tr) (a_ (a_ tr tr) (a_ (a_ tr tr) tr)))) tr)) tr) (by kernel_rfl) rfl

theorem ids_isCount_tri (x_n : Int) (r : (Bool)) (h : ids_isCount x_n = some r) : FnTri Tryd.prog 21 [.int .u32 x_n] [] (ids_isCount_v r) [] := FnTri.none (ids_isCount_ok x_n r h) rfl rfl

/-- parrel/ids.TxMay -/

def ids_TxMay_v (r : (Bool)) : LV := .bool r

def ids_TxMay (t : T_api_Tx) : Option ((Bool)) :=
  if ((decide (t.f_Node < 8)) : Bool) then
    (ids_isCount t.f_Boot).bind fun y3 =>
    if (y3 : Bool) then
      (ids_isCount t.f_Num).bind fun y6 =>
      some y6
    else
      some false
  else
    some false

theorem ids_TxMay_ok (t : T_api_Tx) (r : (Bool)) (h : ids_TxMay t = some r) : ∀ σ, Inj 0 σ → FnTri Tryd.prog 15 (renL σ [v_T_api_Tx t]) (preOf σ 0 []) ((ids_TxMay_v r).ren σ) (upOf σ []) := by
  refine fn_of Tryd.func15 (by kernel_rfl) (by kernel_rfl) (by kernel_rfl) trivial (by kernel_rfl) trivial (by kernel_rfl) ?_
  intro w0 W μ0 hμ
  unfold ids_TxMay at h
  rcases itb_some h with ⟨c1, h⟩ | ⟨c1, h⟩
  · skip
    obtain ⟨y3, e2, h⟩ := bind_some h
    rcases itb_some h with ⟨c4, h⟩ | ⟨c4, h⟩
    · skip
      obtain ⟨y6, e5, h⟩ := bind_some h
      obtain rfl := Option.some.inj h
      exact run_ret mixed (L := []) (n := 15) (s := [.reg [], .reg [(3, { v := some (.bool true) }), (6, { call := some (ids_isCount_v y3, [], []) }), (8, { v := some (.bool true) }), (11, { call := some (ids_isCount_v y6, [], []) })]])
        (a_ (a_ (a_ (a_ tr tr) (a_ (a_ tr tr) tr)) (a_ (a_ (a_ tr tr) (a_ (a_ (a_ tr (lt_ 0 3 rfl)) tr) (a_ (a_ tr tr) (a_ (a_ tr (a_ (leB c1) tr)) (a_ (a_ tr tr) (a_ (a_ (a_ tr (lt_ 1 3 rfl)) tr) (a_ (a_ (a_ (ids_isCount_tri t.f_Boot y3 e2) tr) tr) (a_ (a_ tr tr) (a_ (a_ tr (a_ (leB c4) tr)) (a_ (a_ tr tr) (a_ (a_ (a_ tr (lt_ 2 3 rfl)) tr) (a_ (a_ (a_ (ids_isCount_tri t.f_Num y6 e5) tr) tr) (a_ (a_ tr tr) (a_ (a_ tr tr) tr)))))))))))))) tr)) tr) (by kernel_rfl) rfl
    · skip
      obtain rfl := Option.some.inj h
      exact run_ret mixed (L := []) (n := 15) (s := [.reg [], .reg [(3, { v := some (.bool true) }), (6, { call := some (ids_isCount_v y3, [], []) }), (8, { v := some (.bool false) })]])
        (a_ (a_ (a_ (a_ tr tr) (a_ (a_ tr tr) tr)) (a_ (a_ (a_ tr tr) (a_ (a_ (a_ tr (lt_ 0 3 rfl)) tr) (a_ (a_ tr tr) (a_ (a_ tr (a_ (leB c1) tr)) (a_ (a_ tr tr) (a_ (a_ (a_ tr (lt_ 1 3 rfl)) tr) (a_ (a_ (a_ (ids_isCount_tri t.f_Boot y3 e2) tr) tr) (a_ (a_ tr tr) (a_ (a_ tr (a_ (leB c4) tr)) (a_ tr (a_ tr (a_ tr (a_ (a_ tr tr) (a_ (a_ tr tr) tr)))))))))))))) tr)) tr) (by kernel_rfl) rfl
  · skip
    obtain rfl := Option.some.inj h
    exact run_ret mixed (L := []) (n := 15) (s := [.reg [], .reg [(3, { v := some (.bool false) })]])
      (a_ (a_ (a_ (a_ tr tr) (a_ (a_ tr tr) tr)) (a_ (a_ (a_ tr tr) (a_ (a_ (a_ tr (lt_ 0 3 rfl)) tr) (a_ (a_ tr tr) (a_ (a_ tr (a_ (leB c1) tr)) (a_ tr (a_ tr (a_ tr (a_ (a_ tr tr) (a_ (a_ tr tr) (a_ tr (a_ tr (a_ tr (a_ (a_ tr tr) (a_ (a_ tr tr) tr)))))))))))))) tr)) tr) (by kernel_rfl) rfl

theorem ids_TxMay_tri (t : T_api_Tx) (r : (Bool)) (h : ids_TxMay t = some r) : FnTri Tryd.prog 15 [v_T_api_Tx t] [] (ids_TxMay_v r) [] := FnTri.none (ids_TxMay_ok t r h) rfl rfl

/-- parrel/parrellaw05.alive -/

def parrellaw05_alive_v (r : (Bool)) : LV := .bool r

def parrellaw05_alive  : Option ((Bool)) :=
  (ids_KeyOf ([97, 98] : List UInt8)).bind fun y2 =>
  (ids_New).bind fun y4 =>
  if ((decide (y2.1 = (A8.mk 97 98 0 0 0 0 0 0))) : Bool) then
    if ((y2.2 == 0) : Bool) then
      (ids_Set_Add y4 (T_api_Tx.mk 1 2 3)).bind fun y8 =>
      if (y8.1 : Bool) then
        (ids_Set_Has y8.2 (T_api_Tx.mk 1 2 3)).bind fun y11 =>
        if (y11 : Bool) then
          (ids_Set_Add y8.2 (T_api_Tx.mk 1 2 3)).bind fun y14 =>
          if ((!y14.1) : Bool) then
            (ids_TxMay (T_api_Tx.mk 1 2 3)).bind fun y17 =>
            some y17
          else
            some false
        else
          some false
      else
        some false
    else
      some false
  else
    some false

theorem parrellaw05_alive_ok  (r : (Bool)) (h : parrellaw05_alive  = some r) : ∀ σ, Inj 0 σ → FnTri Tryd.prog 9 (renL σ []) (preOf σ 0 []) ((parrellaw05_alive_v r).ren σ) (upOf σ []) := by
  refine fn_of Tryd.func9 (by kernel_rfl) (by kernel_rfl) (by kernel_rfl) trivial (by kernel_rfl) trivial (by kernel_rfl) ?_
  intro w0 W μ0 hμ
  unfold parrellaw05_alive at h
  obtain ⟨y2, e1, h⟩ := bind_some h
  obtain ⟨y4, e3, h⟩ := bind_some h
  rcases itb_some h with ⟨c5, h⟩ | ⟨c5, h⟩
  · skip
    rcases itb_some h with ⟨c6, h⟩ | ⟨c6, h⟩
    · skip
      obtain ⟨y8, e7, h⟩ := bind_some h
      rcases itb_some h with ⟨c9, h⟩ | ⟨c9, h⟩
      · skip
        obtain ⟨y11, e10, h⟩ := bind_some h
        rcases itb_some h with ⟨c12, h⟩ | ⟨c12, h⟩
        · skip
          obtain ⟨y14, e13, h⟩ := bind_some h
          rcases itb_some h with ⟨c15, h⟩ | ⟨c15, h⟩
          · skip
            obtain ⟨y17, e16, h⟩ := bind_some h
            obtain rfl := Option.some.inj h
            exact run_ret mixed (L := []) (n := 24) (s := [.reg [], .reg [(0, { call := some (ids_KeyOf_v y2, [], []) })], .reg [(0, { call := some ((ids_New_v y4).ren (sel [1, 2]), preOf (sel [1, 2]) 0 [], upOf (sel [1, 2]) (ids_New_up  y4)) })], .reg [], .reg [(2, { v := some (.bool (decide (y2.1 = (A8.mk 97 98 0 0 0 0 0 0)))) }), (3, { v := some (.bool true) }), (7, { v := some (.bool true) }), (14, { call := some ((ids_Set_Add_v y8).ren (sel [1, 2]), preOf (sel [1, 2]) 0 (ids_Set_Add_objs y4 (T_api_Tx.mk 1 2 3)), upOf (sel [1, 2]) (ids_Set_Add_up y4 (T_api_Tx.mk 1 2 3) y8)) }), (16, { v := some (.bool true) }), (19, { call := some ((ids_Set_Has_v y11).ren (sel [1, 2]), preOf (sel [1, 2]) 0 (ids_Set_Has_objs y8.2 (T_api_Tx.mk 1 2 3)), upOf (sel [1, 2]) (ids_Set_Has_up y8.2 (T_api_Tx.mk 1 2 3) y11)) }), (21, { v := some (.bool true) }), (24, { call := some ((ids_Set_Add_v y14).ren (sel [1, 2]), preOf (sel [1, 2]) 0 (ids_Set_Add_objs y8.2 (T_api_Tx.mk 1 2 3)), upOf (sel [1, 2]) (ids_Set_Add_up y8.2 (T_api_Tx.mk 1 2 3) y14)) }), (27, { v := some (.bool true) }), (29, { call := some (ids_TxMay_v y17, [], []) })]])
              (a_ (a_ (a_ (a_ tr tr) tr) (a_ (a_ (a_ (a_ (ids_KeyOf_tri ([97, 98] : List UInt8) y2 e1) tr) tr) (a_ (a_ tr tr) (a_ (a_ tr tr) (a_ (a_ tr tr) (a_ (a_ tr tr) (a_ (a_ (a_ (Eq.refl 8) (a_ (le_ 8 8 rfl) (Eq.refl 0))) tr) (a_ (a_ tr tr) tr))))))) (a_ (a_ (a_ (a_ (ids_New_ok  y4 e3 (sel [1, 2]) (sel_inj rfl rfl)) tr) tr) (a_ (a_ tr tr) tr)) (a_ (a_ (a_ (Eq.refl true) tr) (a_ (a_ tr tr) (a_ (a_ (a_ (Eq.refl 3) (a_ (le_ 3 3 rfl) (Eq.refl 0))) tr) tr))) (a_ (a_ (a_ (a_ tr (le_ 8 8 rfl)) tr) (a_ (a_ (Eq.refl true) tr) (a_ (a_ tr (a_ (leB ((k_arr8 .u8) y2.1 (A8.mk 97 98 0 0 0 0 0 0))) tr)) (a_ (a_ tr (a_ (leB c5) tr)) (a_ (a_ tr tr) (a_ (a_ tr tr) (a_ (a_ tr tr) (a_ (a_ tr (a_ (leB c6) tr)) (a_ (a_ tr tr) (a_ (a_ tr tr) (a_ (a_ tr tr) (a_ (a_ tr tr) (a_ (a_ tr tr) (a_ (a_ (a_ tr (le_ 3 3 rfl)) tr) (a_ (a_ (a_ (ids_Set_Add_ok y4 (T_api_Tx.mk 1 2 3) y8 e7 (sel [1, 2]) (sel_inj rfl rfl)) (a_ (LO.Le.refl (.var [.map 2])) (a_ (LO.Le.refl (.map true [.int .u8, .int .u32, .int .u32] (encM v_T_api_Tx LV.bool y4))) tr))) tr) (a_ (a_ tr tr) (a_ (a_ tr (a_ (leB c9) tr)) (a_ (a_ tr tr) (a_ (a_ (a_ tr (le_ 3 3 rfl)) tr) (a_ (a_ (a_ (ids_Set_Has_ok y8.2 (T_api_Tx.mk 1 2 3) y11 e10 (sel [1, 2]) (sel_inj rfl rfl)) (a_ (LO.Le.refl (.var [.map 2])) (a_ (LO.Le.refl (.map true [.int .u8, .int .u32, .int .u32] (encM v_T_api_Tx LV.bool y8.2))) tr))) tr) (a_ (a_ tr tr) (a_ (a_ tr (a_ (leB c12) tr)) (a_ (a_ tr tr) (a_ (a_ (a_ tr (le_ 3 3 rfl)) tr) (a_ (a_ (a_ (ids_Set_Add_ok y8.2 (T_api_Tx.mk 1 2 3) y14 e13 (sel [1, 2]) (sel_inj rfl rfl)) (a_ (LO.Le.refl (.var [.map 2])) (a_ (LO.Le.refl (.map true [.int .u8, .int .u32, .int .u32] (encM v_T_api_Tx LV.bool y8.2))) tr))) tr) (a_ (a_ tr tr) (a_ (a_ tr tr) (a_ (a_ tr (a_ (leB c15) tr)) (a_ (a_ (a_ tr (le_ 3 3 rfl)) tr) (a_ (a_ (a_ (ids_TxMay_tri (T_api_Tx.mk 1 2 3) y17 e16) tr) tr) (a_ (a_ tr tr) (a_ (a_ tr tr) tr)))))))))))))))))))))))))))))))) tr))))) tr) (by kernel_rfl) rfl
          · skip
            obtain rfl := Option.some.inj h
            exact run_ret mixed (L := []) (n := 24) (s := [.reg [], .reg [(0, { call := some (ids_KeyOf_v y2, [], []) })], .reg [(0, { call := some ((ids_New_v y4).ren (sel [1, 2]), preOf (sel [1, 2]) 0 [], upOf (sel [1, 2]) (ids_New_up  y4)) })], .reg [], .reg [(2, { v := some (.bool (decide (y2.1 = (A8.mk 97 98 0 0 0 0 0 0)))) }), (3, { v := some (.bool true) }), (7, { v := some (.bool true) }), (14, { call := some ((ids_Set_Add_v y8).ren (sel [1, 2]), preOf (sel [1, 2]) 0 (ids_Set_Add_objs y4 (T_api_Tx.mk 1 2 3)), upOf (sel [1, 2]) (ids_Set_Add_up y4 (T_api_Tx.mk 1 2 3) y8)) }), (16, { v := some (.bool true) }), (19, { call := some ((ids_Set_Has_v y11).ren (sel [1, 2]), preOf (sel [1, 2]) 0 (ids_Set_Has_objs y8.2 (T_api_Tx.mk 1 2 3)), upOf (sel [1, 2]) (ids_Set_Has_up y8.2 (T_api_Tx.mk 1 2 3) y11)) }), (21, { v := some (.bool true) }), (24, { call := some ((ids_Set_Add_v y14).ren (sel [1, 2]), preOf (sel [1, 2]) 0 (ids_Set_Add_objs y8.2 (T_api_Tx.mk 1 2 3)), upOf (sel [1, 2]) (ids_Set_Add_up y8.2 (T_api_Tx.mk 1 2 3) y14)) }), (27, { v := some (.bool false) })]])
              (a_ (a_ (a_ (a_ tr tr) tr) (a_ (a_ (a_ (a_ (ids_KeyOf_tri ([97, 98] : List UInt8) y2 e1) tr) tr) (a_ (a_ tr tr) (a_ (a_ tr tr) (a_ (a_ tr tr) (a_ (a_ tr tr) (a_ (a_ (a_ (Eq.refl 8) (a_ (le_ 8 8 rfl) (Eq.refl 0))) tr) (a_ (a_ tr tr) tr))))))) (a_ (a_ (a_ (a_ (ids_New_ok  y4 e3 (sel [1, 2]) (sel_inj rfl rfl)) tr) tr) (a_ (a_ tr tr) tr)) (a_ (a_ (a_ (Eq.refl true) tr) (a_ (a_ tr tr) (a_ (a_ (a_ (Eq.refl 3) (a_ (le_ 3 3 rfl) (Eq.refl 0))) tr) tr))) (a_ (a_ (a_ (a_ tr (le_ 8 8 rfl)) tr) (a_ (a_ (Eq.refl true) tr) (a_ (a_ tr (a_ (leB ((k_arr8 .u8) y2.1 (A8.mk 97 98 0 0 0 0 0 0))) tr)) (a_ (a_ tr (a_ (leB c5) tr)) (a_ (a_ tr tr) (a_ (a_ tr tr) (a_ (a_ tr tr) (a_ (a_ tr (a_ (leB c6) tr)) (a_ (a_ tr tr) (a_ (a_ tr tr) (a_ (a_ tr tr) (a_ (a_ tr tr) (a_ (a_ tr tr) (a_ (a_ (a_ tr (le_ 3 3 rfl)) tr) (a_ (a_ (a_ (ids_Set_Add_ok y4 (T_api_Tx.mk 1 2 3) y8 e7 (sel [1, 2]) (sel_inj rfl rfl)) (a_ (LO.Le.refl (.var [.map 2])) (a_ (LO.Le.refl (.map true [.int .u8, .int .u32, .int .u32] (encM v_T_api_Tx LV.bool y4))) tr))) tr) (a_ (a_ tr tr) (a_ (a_ tr (a_ (leB c9) tr)) (a_ (a_ tr tr) (a_ (a_ (a_ tr (le_ 3 3 rfl)) tr) (a_ (a_ (a_ (ids_Set_Has_ok y8.2 (T_api_Tx.mk 1 2 3) y11 e10 (sel [1, 2]) (sel_inj rfl rfl)) (a_ (LO.Le.refl (.var [.map 2])) (a_ (LO.Le.refl (.map true [.int .u8, .int .u32, .int .u32] (encM v_T_api_Tx LV.bool y8.2))) tr))) tr) (a_ (a_ tr tr) (a_ (a_ tr (a_ (leB c12) tr)) (a_ (a_ tr tr) (a_ (a_ (a_ tr (le_ 3 3 rfl)) tr) (a_ (a_ (a_ (ids_Set_Add_ok y8.2 (T_api_Tx.mk 1 2 3) y14 e13 (sel [1, 2]) (sel_inj rfl rfl)) (a_ (LO.Le.refl (.var [.map 2])) (a_ (LO.Le.refl (.map true [.int .u8, .int .u32, .int .u32] (encM v_T_api_Tx LV.bool y8.2))) tr))) tr) (a_ (a_ tr tr) (a_ (a_ tr tr) (a_ (a_ tr (a_ (leB c15) tr)) (a_ tr (a_ tr (a_ (a_ tr tr) (a_ (a_ tr tr) tr)))))))))))))))))))))))))))))))) tr))))) tr) (by kernel_rfl) rfl
        · skip
          obtain rfl := Option.some.inj h
          exact run_ret mixed (L := []) (n := 24) (s := [.reg [], .reg [(0, { call := some (ids_KeyOf_v y2, [], []) })], .reg [(0, { call := some ((ids_New_v y4).ren (sel [1, 2]), preOf (sel [1, 2]) 0 [], upOf (sel [1, 2]) (ids_New_up  y4)) })], .reg [], .reg [(2, { v := some (.bool (decide (y2.1 = (A8.mk 97 98 0 0 0 0 0 0)))) }), (3, { v := some (.bool true) }), (7, { v := some (.bool true) }), (14, { call := some ((ids_Set_Add_v y8).ren (sel [1, 2]), preOf (sel [1, 2]) 0 (ids_Set_Add_objs y4 (T_api_Tx.mk 1 2 3)), upOf (sel [1, 2]) (ids_Set_Add_up y4 (T_api_Tx.mk 1 2 3) y8)) }), (16, { v := some (.bool true) }), (19, { call := some ((ids_Set_Has_v y11).ren (sel [1, 2]), preOf (sel [1, 2]) 0 (ids_Set_Has_objs y8.2 (T_api_Tx.mk 1 2 3)), upOf (sel [1, 2]) (ids_Set_Has_up y8.2 (T_api_Tx.mk 1 2 3) y11)) }), (21, { v := some (.bool false) })]])
            (a_ (a_ (a_ (a_ tr tr) tr) (a_ (a_ (a_ (a_ (ids_KeyOf_tri ([97, 98] : List UInt8) y2 e1) tr) tr) (a_ (a_ tr tr) (a_ (a_ tr tr) (a_ (a_ tr tr) (a_ (a_ tr tr) (a_ (a_ (a_ (Eq.refl 8) (a_ (le_ 8 8 rfl) (Eq.refl 0))) tr) (a_ (a_ tr tr) tr))))))) (a_ (a_ (a_ (a_ (ids_New_ok  y4 e3 (sel [1, 2]) (sel_inj rfl rfl)) tr) tr) (a_ (a_ tr tr) tr)) (a_ (a_ (a_ (Eq.refl true) tr) (a_ (a_ tr tr) (a_ (a_ (a_ (Eq.refl 3) (a_ (le_ 3 3 rfl) (Eq.refl 0))) tr) tr))) (a_ (a_ (a_ (a_ tr (le_ 8 8 rfl)) tr) (a_ (a_ (Eq.refl true) tr) (a_ (a_ tr (a_ (leB ((k_arr8 .u8) y2.1 (A8.mk 97 98 0 0 0 0 0 0))) tr)) (a_ (a_ tr (a_ (leB c5) tr)) (a_ (a_ tr tr) (a_ (a_ tr tr) (a_ (a_ tr tr) (a_ (a_ tr (a_ (leB c6) tr)) (a_ (a_ tr tr) (a_ (a_ tr tr) (a_ (a_ tr tr) (a_ (a_ tr tr) (a_ (a_ tr tr) (a_ (a_ (a_ tr (le_ 3 3 rfl)) tr) (a_ (a_ (a_ (ids_Set_Add_ok y4 (T_api_Tx.mk 1 2 3) y8 e7 (sel [1, 2]) (sel_inj rfl rfl)) (a_ (LO.Le.refl (.var [.map 2])) (a_ (LO.Le.refl (.map true [.int .u8, .int .u32, .int .u32] (encM v_T_api_Tx LV.bool y4))) tr))) tr) (a_ (a_ tr tr) (a_ (a_ tr (a_ (leB c9) tr)) (a_ (a_ tr tr) (a_ (a_ (a_ tr (le_ 3 3 rfl)) tr) (a_ (a_ (a_ (ids_Set_Has_ok y8.2 (T_api_Tx.mk 1 2 3) y11 e10 (sel [1, 2]) (sel_inj rfl rfl)) (a_ (LO.Le.refl (.var [.map 2])) (a_ (LO.Le.refl (.map true [.int .u8, .int .u32, .int .u32] (encM v_T_api_Tx LV.bool y8.2))) tr))) tr) (a_ (a_ tr tr) (a_ (a_ tr (a_ (leB c12) tr)) (a_ tr (a_ tr (a_ tr (a_ tr (a_ (a_ tr tr) (a_ (a_ tr tr) (a_ tr (a_ tr (a_ (a_ tr tr) (a_ (a_ tr tr) tr)))))))))))))))))))))))))))))))) tr))))) tr) (by kernel_rfl) rfl
      · skip
        obtain rfl := Option.some.inj h
        exact run_ret mixed (L := []) (n := 24) (s := [.reg [], .reg [(0, { call := some (ids_KeyOf_v y2, [], []) })], .reg [(0, { call := some ((ids_New_v y4).ren (sel [1, 2]), preOf (sel [1, 2]) 0 [], upOf (sel [1, 2]) (ids_New_up  y4)) })], .reg [], .reg [(2, { v := some (.bool (decide (y2.1 = (A8.mk 97 98 0 0 0 0 0 0)))) }), (3, { v := some (.bool true) }), (7, { v := some (.bool true) }), (14, { call := some ((ids_Set_Add_v y8).ren (sel [1, 2]), preOf (sel [1, 2]) 0 (ids_Set_Add_objs y4 (T_api_Tx.mk 1 2 3)), upOf (sel [1, 2]) (ids_Set_Add_up y4 (T_api_Tx.mk 1 2 3) y8)) }), (16, { v := some (.bool false) })]])
          (a_ (a_ (a_ (a_ tr tr) tr) (a_ (a_ (a_ (a_ (ids_KeyOf_tri ([97, 98] : List UInt8) y2 e1) tr) tr) (a_ (a_ tr tr) (a_ (a_ tr tr) (a_ (a_ tr tr) (a_ (a_ tr tr) (a_ (a_ (a_ (Eq.refl 8) (a_ (le_ 8 8 rfl) (Eq.refl 0))) tr) (a_ (a_ tr tr) tr))))))) (a_ (a_ (a_ (a_ (ids_New_ok  y4 e3 (sel [1, 2]) (sel_inj rfl rfl)) tr) tr) (a_ (a_ tr tr) tr)) (a_ (a_ (a_ (Eq.refl true) tr) (a_ (a_ tr tr) (a_ (a_ (a_ (Eq.refl 3) (a_ (le_ 3 3 rfl) (Eq.refl 0))) tr) tr))) (a_ (a_ (a_ (a_ tr (le_ 8 8 rfl)) tr) (a_ (a_ (Eq.refl true) tr) (a_ (a_ tr (a_ (leB ((k_arr8 .u8) y2.1 (A8.mk 97 98 0 0 0 0 0 0))) tr)) (a_ (a_ tr (a_ (leB c5) tr)) (a_ (a_ tr tr) (a_ (a_ tr tr) (a_ (a_ tr tr) (a_ (a_ tr (a_ (leB c6) tr)) (a_ (a_ tr tr) (a_ (a_ tr tr) (a_ (a_ tr tr) (a_ (a_ tr tr) (a_ (a_ tr tr) (a_ (a_ (a_ tr (le_ 3 3 rfl)) tr) (a_ (a_ (a_ (ids_Set_Add_ok y4 (T_api_Tx.mk 1 2 3) y8 e7 (sel [1, 2]) (sel_inj rfl rfl)) (a_ (LO.Le.refl (.var [.map 2])) (a_ (LO.Le.refl (.map true [.int .u8, .int .u32, .int .u32] (encM v_T_api_Tx LV.bool y4))) tr))) tr) (a_ (a_ tr tr) (a_ (a_ tr (a_ (leB c9) tr)) (a_ tr (a_ tr (a_ tr (a_ (a_ tr tr) (a_ (a_ tr tr) (a_ tr (a_ tr (a_ tr (a_ tr (a_ (a_ tr tr) (a_ (a_ tr tr) (a_ tr (a_ tr (a_ (a_ tr tr) (a_ (a_ tr tr) tr)))))))))))))))))))))))))))))))) tr))))) tr) (by kernel_rfl) rfl
    · skip
      obtain rfl := Option.some.inj h
      exact run_ret mixed (L := []) (n := 24) (s := [.reg [], .reg [(0, { call := some (ids_KeyOf_v y2, [], []) })], .reg [(0, { call := some ((ids_New_v y4).ren (sel [1, 2]), preOf (sel [1, 2]) 0 [], upOf (sel [1, 2]) (ids_New_up  y4)) })], .reg [], .reg [(2, { v := some (.bool (decide (y2.1 = (A8.mk 97 98 0 0 0 0 0 0)))) }), (3, { v := some (.bool true) }), (7, { v := some (.bool false) })]])
        (a_ (a_ (a_ (a_ tr tr) tr) (a_ (a_ (a_ (a_ (ids_KeyOf_tri ([97, 98] : List UInt8) y2 e1) tr) tr) (a_ (a_ tr tr) (a_ (a_ tr tr) (a_ (a_ tr tr) (a_ (a_ tr tr) (a_ (a_ (a_ (Eq.refl 8) (a_ (le_ 8 8 rfl) (Eq.refl 0))) tr) (a_ (a_ tr tr) tr))))))) (a_ (a_ (a_ (a_ (ids_New_ok  y4 e3 (sel [1, 2]) (sel_inj rfl rfl)) tr) tr) (a_ (a_ tr tr) tr)) (a_ (a_ (a_ (Eq.refl true) tr) (a_ (a_ tr tr) (a_ (a_ (a_ (Eq.refl 3) (a_ (le_ 3 3 rfl) (Eq.refl 0))) tr) tr))) (a_ (a_ (a_ (a_ tr (le_ 8 8 rfl)) tr) (a_ (a_ (Eq.refl true) tr) (a_ (a_ tr (a_ (leB ((k_arr8 .u8) y2.1 (A8.mk 97 98 0 0 0 0 0 0))) tr)) (a_ (a_ tr (a_ (leB c5) tr)) (a_ (a_ tr tr) (a_ (a_ tr tr) (a_ (a_ tr tr) (a_ (a_ tr (a_ (leB c6) tr)) (a_ tr (a_ tr (a_ (a_ tr tr) (a_ (a_ tr tr) (a_ tr (a_ tr (a_ tr (a_ (a_ tr tr) (a_ (a_ tr tr) (a_ tr (a_ tr (a_ tr (a_ (a_ tr tr) (a_ (a_ tr tr) (a_ tr (a_ tr (a_ tr (a_ tr (a_ (a_ tr tr) (a_ (a_ tr tr) (a_ tr (a_ tr (a_ (a_ tr tr) (a_ (a_ tr tr) tr)))))))))))))))))))))))))))))))) tr))))) tr) (by kernel_rfl) rfl
  · skip
    obtain rfl := Option.some.inj h
    exact run_ret mixed (L := []) (n := 24) (s := [.reg [], .reg [(0, { call := some (ids_KeyOf_v y2, [], []) })], .reg [(0, { call := some ((ids_New_v y4).ren (sel [1, 2]), preOf (sel [1, 2]) 0 [], upOf (sel [1, 2]) (ids_New_up  y4)) })], .reg [], .reg [(2, { v := some (.bool (decide (y2.1 = (A8.mk 97 98 0 0 0 0 0 0)))) }), (3, { v := some (.bool false) })]])
      (a_ (a_ (a_ (a_ tr tr) tr) (a_ (a_ (a_ (a_ (ids_KeyOf_tri ([97, 98] : List UInt8) y2 e1) tr) tr) (a_ (a_ tr tr) (a_ (a_ tr tr) (a_ (a_ tr tr) (a_ (a_ tr tr) (a_ (a_ (a_ (Eq.refl 8) (a_ (le_ 8 8 rfl) (Eq.refl 0))) tr) (a_ (a_ tr tr) tr))))))) (a_ (a_ (a_ (a_ (ids_New_ok  y4 e3 (sel [1, 2]) (sel_inj rfl rfl)) tr) tr) (a_ (a_ tr tr) tr)) (a_ (a_ (a_ (Eq.refl true) tr) (a_ (a_ tr tr) (a_ (a_ (a_ (Eq.refl 3) (a_ (le_ 3 3 rfl) (Eq.refl 0))) tr) tr))) (a_ (a_ (a_ (a_ tr (le_ 8 8 rfl)) tr) (a_ (a_ (Eq.refl true) tr) (a_ (a_ tr (a_ (leB ((k_arr8 .u8) y2.1 (A8.mk 97 98 0 0 0 0 0 0))) tr)) (a_ (a_ tr (a_ (leB c5) tr)) (a_ tr (a_ tr (a_ (a_ tr tr) (a_ (a_ tr tr) (a_ tr (a_ tr (a_ (a_ tr tr) (a_ (a_ tr tr) (a_ tr (a_ tr (a_ tr (a_ (a_ tr tr) (a_ (a_ tr tr) (a_ tr (a_ tr (a_ tr (a_ (a_ tr tr) (a_ (a_ tr tr) (a_ tr (a_ tr (a_ tr (a_ tr (a_ (a_ tr tr) (a_ (a_ tr tr) (a_ tr (a_ tr (a_ (a_ tr tr) (a_ (a_ tr tr) tr)))))))))))))))))))))))))))))))) tr))))) tr) (by kernel_rfl) rfl

theorem parrellaw05_alive_tri  (r : (Bool)) (h : parrellaw05_alive  = some r) : FnTri Tryd.prog 9 [] [] (parrellaw05_alive_v r) [] := FnTri.none (parrellaw05_alive_ok  r h) rfl rfl

/-- parrel/parrellaw05.IdsKeys -/

def parrellaw05_IdsKeys_v (r : (Bool)) : LV := .bool r

def parrellaw05_IdsKeys (s : List UInt8) (x_k : A8 (Int)) : Option ((Bool)) :=
  (ids_KeyOf s).bind fun y2 =>
  (parrelref05_KeyOf s).bind fun y4 =>
  (ids_Name x_k).bind fun y6 =>
  (parrelref05_Name x_k).bind fun y8 =>
  if ((decide (y2.1 = y4.1)) : Bool) then
    if ((y2.2 == y4.2) : Bool) then
      if ((y6.1 == y8.1) : Bool) then
        if ((y6.2 == y8.2) : Bool) then
          (parrellaw05_alive).bind fun y14 =>
          some y14
        else
          some false
      else
        some false
    else
      some false
  else
    some false

theorem parrellaw05_IdsKeys_ok (s : List UInt8) (x_k : A8 (Int)) (r : (Bool)) (h : parrellaw05_IdsKeys s x_k = some r) : ∀ σ, Inj 0 σ → FnTri Tryd.prog 3 (renL σ [.str s, .agg [.int .u8 x_k.a0, .int .u8 x_k.a1, .int .u8 x_k.a2, .int .u8 x_k.a3, .int .u8 x_k.a4, .int .u8 x_k.a5, .int .u8 x_k.a6, .int .u8 x_k.a7]]) (preOf σ 0 []) ((parrellaw05_IdsKeys_v r).ren σ) (upOf σ []) := by
  refine fn_of Tryd.func3 (by kernel_rfl) (by kernel_rfl) (by kernel_rfl) trivial (by kernel_rfl) trivial (by kernel_rfl) ?_
  intro w0 W μ0 hμ
  unfold parrellaw05_IdsKeys at h
  obtain ⟨y2, e1, h⟩ := bind_some h
  obtain ⟨y4, e3, h⟩ := bind_some h
  obtain ⟨y6, e5, h⟩ := bind_some h
  obtain ⟨y8, e7, h⟩ := bind_some h
  rcases itb_some h with ⟨c9, h⟩ | ⟨c9, h⟩
  · skip
    rcases itb_some h with ⟨c10, h⟩ | ⟨c10, h⟩
    · skip
      rcases itb_some h with ⟨c11, h⟩ | ⟨c11, h⟩
      · skip
        rcases itb_some h with ⟨c12, h⟩ | ⟨c12, h⟩
        · skip
          obtain ⟨y14, e13, h⟩ := bind_some h
          obtain rfl := Option.some.inj h
          exact run_ret mixed (L := []) (n := 27) (s := [.reg [], .reg [(1, { call := some (ids_KeyOf_v y2, [], []) })], .reg [(1, { call := some (parrelref05_KeyOf_v y4, [], []) })], .reg [(1, { call := some (ids_Name_v y6, [], []) })], .reg [(1, { call := some (parrelref05_Name_v y8, [], []) })], .reg [(2, { v := some (.bool (decide (y2.1 = y4.1))) }), (3, { v := some (.bool true) }), (8, { v := some (.bool true) }), (13, { v := some (.bool true) }), (18, { v := some (.bool true) }), (19, { call := some (parrellaw05_alive_v y14, [], []) })]])
            (a_ (a_ (a_ (a_ tr tr) (a_ (a_ tr tr) tr)) (a_ (a_ (a_ tr tr) (a_ (a_ (a_ (ids_KeyOf_tri s y2 e1) tr) tr) (a_ (a_ tr tr) (a_ (a_ tr tr) (a_ (a_ tr tr) (a_ (a_ tr tr) (a_ (a_ (a_ (Eq.refl 8) (a_ (le_ 8 8 rfl) (Eq.refl 0))) tr) (a_ (a_ tr tr) tr)))))))) (a_ (a_ (a_ tr tr) (a_ (a_ (a_ (parrelref05_KeyOf_tri s y4 e3) tr) tr) (a_ (a_ tr tr) (a_ (a_ tr tr) (a_ (a_ tr tr) (a_ (a_ tr tr) (a_ (a_ (a_ (Eq.refl 8) (a_ (le_ 8 8 rfl) (Eq.refl 0))) tr) (a_ (a_ tr tr) tr)))))))) (a_ (a_ (a_ (a_ tr (le_ 8 8 rfl)) tr) (a_ (a_ (a_ (ids_Name_tri x_k y6 e5) tr) tr) (a_ (a_ tr tr) (a_ (a_ tr tr) (a_ (a_ tr tr) (a_ (a_ tr tr) (a_ (a_ tr tr) tr))))))) (a_ (a_ (a_ (a_ tr (le_ 8 8 rfl)) tr) (a_ (a_ (a_ (parrelref05_Name_tri x_k y8 e7) tr) tr) (a_ (a_ tr tr) (a_ (a_ tr tr) (a_ (a_ tr tr) (a_ (a_ tr tr) (a_ (a_ tr tr) tr))))))) (a_ (a_ (a_ (a_ tr (le_ 8 8 rfl)) tr) (a_ (a_ (a_ tr (le_ 8 8 rfl)) tr) (a_ (a_ tr (a_ (leB ((k_arr8 .u8) y2.1 y4.1)) tr)) (a_ (a_ tr (a_ (leB c9) tr)) (a_ (a_ tr tr) (a_ (a_ tr tr) (a_ (a_ tr tr) (a_ (a_ tr tr) (a_ (a_ tr (a_ (leB c10) tr)) (a_ (a_ tr tr) (a_ (a_ tr tr) (a_ (a_ tr tr) (a_ (a_ tr tr) (a_ (a_ tr (a_ (leB c11) tr)) (a_ (a_ tr tr) (a_ (a_ tr tr) (a_ (a_ tr tr) (a_ (a_ tr tr) (a_ (a_ tr (a_ (leB c12) tr)) (a_ (a_ (a_ (parrellaw05_alive_tri  y14 e13) tr) tr) (a_ (a_ tr tr) (a_ (a_ tr tr) tr)))))))))))))))))))))) tr)))))) tr) (by kernel_rfl) rfl
        · skip
          obtain rfl := Option.some.inj h
          exact run_ret mixed (L := []) (n := 27) (s := [.reg [], .reg [(1, { call := some (ids_KeyOf_v y2, [], []) })], .reg [(1, { call := some (parrelref05_KeyOf_v y4, [], []) })], .reg [(1, { call := some (ids_Name_v y6, [], []) })], .reg [(1, { call := some (parrelref05_Name_v y8, [], []) })], .reg [(2, { v := some (.bool (decide (y2.1 = y4.1))) }), (3, { v := some (.bool true) }), (8, { v := some (.bool true) }), (13, { v := some (.bool true) }), (18, { v := some (.bool false) })]])
            (a_ (a_ (a_ (a_ tr tr) (a_ (a_ tr tr) tr)) (a_ (a_ (a_ tr tr) (a_ (a_ (a_ (ids_KeyOf_tri s y2 e1) tr) tr) (a_ (a_ tr tr) (a_ (a_ tr tr) (a_ (a_ tr tr) (a_ (a_ tr tr) (a_ (a_ (a_ (Eq.refl 8) (a_ (le_ 8 8 rfl) (Eq.refl 0))) tr) (a_ (a_ tr tr) tr)))))))) (a_ (a_ (a_ tr tr) (a_ (a_ (a_ (parrelref05_KeyOf_tri s y4 e3) tr) tr) (a_ (a_ tr tr) (a_ (a_ tr tr) (a_ (a_ tr tr) (a_ (a_ tr tr) (a_ (a_ (a_ (Eq.refl 8) (a_ (le_ 8 8 rfl) (Eq.refl 0))) tr) (a_ (a_ tr tr) tr)))))))) (a_ (a_ (a_ (a_ tr (le_ 8 8 rfl)) tr) (a_ (a_ (a_ (ids_Name_tri x_k y6 e5) tr) tr) (a_ (a_ tr tr) (a_ (a_ tr tr) (a_ (a_ tr tr) (a_ (a_ tr tr) (a_ (a_ tr tr) tr))))))) (a_ (a_ (a_ (a_ tr (le_ 8 8 rfl)) tr) (a_ (a_ (a_ (parrelref05_Name_tri x_k y8 e7) tr) tr) (a_ (a_ tr tr) (a_ (a_ tr tr) (a_ (a_ tr tr) (a_ (a_ tr tr) (a_ (a_ tr tr) tr))))))) (a_ (a_ (a_ (a_ tr (le_ 8 8 rfl)) tr) (a_ (a_ (a_ tr (le_ 8 8 rfl)) tr) (a_ (a_ tr (a_ (leB ((k_arr8 .u8) y2.1 y4.1)) tr)) (a_ (a_ tr (a_ (leB c9) tr)) (a_ (a_ tr tr) (a_ (a_ tr tr) (a_ (a_ tr tr) (a_ (a_ tr tr) (a_ (a_ tr (a_ (leB c10) tr)) (a_ (a_ tr tr) (a_ (a_ tr tr) (a_ (a_ tr tr) (a_ (a_ tr tr) (a_ (a_ tr (a_ (leB c11) tr)) (a_ (a_ tr tr) (a_ (a_ tr tr) (a_ (a_ tr tr) (a_ (a_ tr tr) (a_ (a_ tr (a_ (leB c12) tr)) (a_ tr (a_ (a_ tr tr) (a_ (a_ tr tr) tr)))))))))))))))))))))) tr)))))) tr) (by kernel_rfl) rfl
      · skip
        obtain rfl := Option.some.inj h
        exact run_ret mixed (L := []) (n := 27) (s := [.reg [], .reg [(1, { call := some (ids_KeyOf_v y2, [], []) })], .reg [(1, { call := some (parrelref05_KeyOf_v y4, [], []) })], .reg [(1, { call := some (ids_Name_v y6, [], []) })], .reg [(1, { call := some (parrelref05_Name_v y8, [], []) })], .reg [(2, { v := some (.bool (decide (y2.1 = y4.1))) }), (3, { v := some (.bool true) }), (8, { v := some (.bool true) }), (13, { v := some (.bool false) })]])
          (a_ (a_ (a_ (a_ tr tr) (a_ (a_ tr tr) tr)) (a_ (a_ (a_ tr tr) (a_ (a_ (a_ (ids_KeyOf_tri s y2 e1) tr) tr) (a_ (a_ tr tr) (a_ (a_ tr tr) (a_ (a_ tr tr) (a_ (a_ tr tr) (a_ (a_ (a_ (Eq.refl 8) (a_ (le_ 8 8 rfl) (Eq.refl 0))) tr) (a_ (a_ tr tr) tr)))))))) (a_ (a_ (a_ tr tr) (a_ (a_ (a_ (parrelref05_KeyOf_tri s y4 e3) tr) tr) (a_ (a_ tr tr) (a_ (a_ tr tr) (a_ (a_ tr tr) (a_ (a_ tr tr) (a_ (a_ (a_ (Eq.refl 8) (a_ (le_ 8 8 rfl) (Eq.refl 0))) tr) (a_ (a_ tr tr) tr)))))))) (a_ (a_ (a_ (a_ tr (le_ 8 8 rfl)) tr) (a_ (a_ (a_ (ids_Name_tri x_k y6 e5) tr) tr) (a_ (a_ tr tr) (a_ (a_ tr tr) (a_ (a_ tr tr) (a_ (a_ tr tr) (a_ (a_ tr tr) tr))))))) (a_ (a_ (a_ (a_ tr (le_ 8 8 rfl)) tr) (a_ (a_ (a_ (parrelref05_Name_tri x_k y8 e7) tr) tr) (a_ (a_ tr tr) (a_ (a_ tr tr) (a_ (a_ tr tr) (a_ (a_ tr tr) (a_ (a_ tr tr) tr))))))) (a_ (a_ (a_ (a_ tr (le_ 8 8 rfl)) tr) (a_ (a_ (a_ tr (le_ 8 8 rfl)) tr) (a_ (a_ tr (a_ (leB ((k_arr8 .u8) y2.1 y4.1)) tr)) (a_ (a_ tr (a_ (leB c9) tr)) (a_ (a_ tr tr) (a_ (a_ tr tr) (a_ (a_ tr tr) (a_ (a_ tr tr) (a_ (a_ tr (a_ (leB c10) tr)) (a_ (a_ tr tr) (a_ (a_ tr tr) (a_ (a_ tr tr) (a_ (a_ tr tr) (a_ (a_ tr (a_ (leB c11) tr)) (a_ tr (a_ tr (a_ tr (a_ (a_ tr tr) (a_ (a_ tr tr) (a_ tr (a_ (a_ tr tr) (a_ (a_ tr tr) tr)))))))))))))))))))))) tr)))))) tr) (by kernel_rfl) rfl
    · skip
      obtain rfl := Option.some.inj h
      exact run_ret mixed (L := []) (n := 27) (s := [.reg [], .reg [(1, { call := some (ids_KeyOf_v y2, [], []) })], .reg [(1, { call := some (parrelref05_KeyOf_v y4, [], []) })], .reg [(1, { call := some (ids_Name_v y6, [], []) })], .reg [(1, { call := some (parrelref05_Name_v y8, [], []) })], .reg [(2, { v := some (.bool (decide (y2.1 = y4.1))) }), (3, { v := some (.bool true) }), (8, { v := some (.bool false) })]])
        (a_ (a_ (a_ (a_ tr tr) (a_ (a_ tr tr) tr)) (a_ (a_ (a_ tr tr) (a_ (a_ (a_ (ids_KeyOf_tri s y2 e1) tr) tr) (a_ (a_ tr tr) (a_ (a_ tr tr) (a_ (a_ tr tr) (a_ (a_ tr tr) (a_ (a_ (a_ (Eq.refl 8) (a_ (le_ 8 8 rfl) (Eq.refl 0))) tr) (a_ (a_ tr tr) tr)))))))) (a_ (a_ (a_ tr tr) (a_ (a_ (a_ (parrelref05_KeyOf_tri s y4 e3) tr) tr) (a_ (a_ tr tr) (a_ (a_ tr tr) (a_ (a_ tr tr) (a_ (a_ tr tr) (a_ (a_ (a_ (Eq.refl 8) (a_ (le_ 8 8 rfl) (Eq.refl 0))) tr) (a_ (a_ tr tr) tr)))))))) (a_ (a_ (a_ (a_ tr (le_ 8 8 rfl)) tr) (a_ (a_ (a_ (ids_Name_tri x_k y6 e5) tr) tr) (a_ (a_ tr tr) (a_ (a_ tr tr) (a_ (a_ tr tr) (a_ (a_ tr tr) (a_ (a_ tr tr) tr))))))) (a_ (a_ (a_ (a_ tr (le_ 8 8 rfl)) tr) (a_ (a_ (a_ (parrelref05_Name_tri x_k y8 e7) tr) tr) (a_ (a_ tr tr) (a_ (a_ tr tr) (a_ (a_ tr tr) (a_ (a_ tr tr) (a_ (a_ tr tr) tr))))))) (a_ (a_ (a_ (a_ tr (le_ 8 8 rfl)) tr) (a_ (a_ (a_ tr (le_ 8 8 rfl)) tr) (a_ (a_ tr (a_ (leB ((k_arr8 .u8) y2.1 y4.1)) tr)) (a_ (a_ tr (a_ (leB c9) tr)) (a_ (a_ tr tr) (a_ (a_ tr tr) (a_ (a_ tr tr) (a_ (a_ tr tr) (a_ (a_ tr (a_ (leB c10) tr)) (a_ tr (a_ tr (a_ tr (a_ (a_ tr tr) (a_ (a_ tr tr) (a_ tr (a_ tr (a_ tr (a_ (a_ tr tr) (a_ (a_ tr tr) (a_ tr (a_ (a_ tr tr) (a_ (a_ tr tr) tr)))))))))))))))))))))) tr)))))) tr) (by kernel_rfl) rfl
  · skip
    obtain rfl := Option.some.inj h
    exact run_ret mixed (L := []) (n := 27) (s := [.reg [], .reg [(1, { call := some (ids_KeyOf_v y2, [], []) })], .reg [(1, { call := some (parrelref05_KeyOf_v y4, [], []) })], .reg [(1, { call := some (ids_Name_v y6, [], []) })], .reg [(1, { call := some (parrelref05_Name_v y8, [], []) })], .reg [(2, { v := some (.bool (decide (y2.1 = y4.1))) }), (3, { v := some (.bool false) })]])
      (a_ (a_ (a_ (a_ tr tr) (a_ (a_ tr tr) tr)) (a_ (a_ (a_ tr tr) (a_ (a_ (a_ (ids_KeyOf_tri s y2 e1) tr) tr) (a_ (a_ tr tr) (a_ (a_ tr tr) (a_ (a_ tr tr) (a_ (a_ tr tr) (a_ (a_ (a_ (Eq.refl 8) (a_ (le_ 8 8 rfl) (Eq.refl 0))) tr) (a_ (a_ tr tr) tr)))))))) (a_ (a_ (a_ tr tr) (a_ (a_ (a_ (parrelref05_KeyOf_tri s y4 e3) tr) tr) (a_ (a_ tr tr) (a_ (a_ tr tr) (a_ (a_ tr tr) (a_ (a_ tr tr) (a_ (a_ (a_ (Eq.refl 8) (a_ (le_ 8 8 rfl) (Eq.refl 0))) tr) (a_ (a_ tr tr) tr)))))))) (a_ (a_ (a_ (a_ tr (le_ 8 8 rfl)) tr) (a_ (a_ (a_ (ids_Name_tri x_k y6 e5) tr) tr) (a_ (a_ tr tr) (a_ (a_ tr tr) (a_ (a_ tr tr) (a_ (a_ tr tr) (a_ (a_ tr tr) tr))))))) (a_ (a_ (a_ (a_ tr (le_ 8 8 rfl)) tr) (a_ (a_ (a_ (parrelref05_Name_tri x_k y8 e7) tr) tr) (a_ (a_ tr tr) (a_ (a_ tr tr) (a_ (a_ tr tr) (a_ (a_ tr tr) (a_ (a_ tr tr) tr))))))) (a_ (a_ (a_ (a_ tr (le_ 8 8 rfl)) tr) (a_ (a_ (a_ tr (le_ 8 8 rfl)) tr) (a_ (a_ tr (a_ (leB ((k_arr8 .u8) y2.1 y4.1)) tr)) (a_ (a_ tr (a_ (leB c9) tr)) (a_ tr (a_ tr (a_ tr (a_ (a_ tr tr) (a_ (a_ tr tr) (a_ tr (a_ tr (a_ tr (a_ (a_ tr tr) (a_ (a_ tr tr) (a_ tr (a_ tr (a_ tr (a_ (a_ tr tr) (a_ (a_ tr tr) (a_ tr (a_ (a_ tr tr) (a_ (a_ tr tr) tr)))))))))))))))))))))) tr)))))) tr) (by kernel_rfl) rfl

theorem parrellaw05_IdsKeys_tri (s : List UInt8) (x_k : A8 (Int)) (r : (Bool)) (h : parrellaw05_IdsKeys s x_k = some r) : FnTri Tryd.prog 3 [.str s, .agg [.int .u8 x_k.a0, .int .u8 x_k.a1, .int .u8 x_k.a2, .int .u8 x_k.a3, .int .u8 x_k.a4, .int .u8 x_k.a5, .int .u8 x_k.a6, .int .u8 x_k.a7]] [] (parrellaw05_IdsKeys_v r) [] := FnTri.none (parrellaw05_IdsKeys_ok s x_k r h) rfl rfl

/-- parrel/parrellaw05.IdsNames -/

def parrellaw05_IdsNames_v (r : (Bool)) : LV := .bool r

def parrellaw05_IdsNames (s : List UInt8) (x_k : A8 (Int)) : Option ((Bool)) :=
  (ids_KeyOf s).bind fun y2 =>
  if ((y2.2 == 0) : Bool) then
    (ids_Name y2.1).bind fun y5 =>
    if ((!y5.2) : Bool) then
      some false
    else
      if ((!(y5.1 == s)) : Bool) then
        some false
      else
        (ids_Name x_k).bind fun y9 =>
        if ((!y9.2) : Bool) then
          if ((y9.1 == []) : Bool) then
            (parrellaw05_alive).bind fun y13 =>
            some y13
          else
            some false
        else
          (ids_KeyOf y9.1).bind fun y12 =>
          if ((decide (y12.1 = x_k)) : Bool) then
            if ((y12.2 == 0) : Bool) then
              if ((decide (1 ≤ ((y9.1).length : Int))) : Bool) then
                (parrellaw05_alive).bind fun y17 =>
                some y17
              else
                some false
            else
              some false
          else
            some false
  else
    if ((!decide (y2.1 = (A8.mk 0 0 0 0 0 0 0 0))) : Bool) then
      some false
    else
      (ids_Name x_k).bind fun y6 =>
      if ((!y6.2) : Bool) then
        if ((y6.1 == []) : Bool) then
          (parrellaw05_alive).bind fun y10 =>
          some y10
        else
          some false
      else
        (ids_KeyOf y6.1).bind fun y9 =>
        if ((decide (y9.1 = x_k)) : Bool) then
          if ((y9.2 == 0) : Bool) then
            if ((decide (1 ≤ ((y6.1).length : Int))) : Bool) then
              (parrellaw05_alive).bind fun y14 =>
              some y14
            else
              some false
          else
            some false
        else
          some false

theorem parrellaw05_IdsNames_ok (s : List UInt8) (x_k : A8 (Int)) (r : (Bool)) (h : parrellaw05_IdsNames s x_k = some r) : ∀ σ, Inj 0 σ → FnTri Tryd.prog 4 (renL σ [.str s, .agg [.int .u8 x_k.a0, .int .u8 x_k.a1, .int .u8 x_k.a2, .int .u8 x_k.a3, .int .u8 x_k.a4, .int .u8 x_k.a5, .int .u8 x_k.a6, .int .u8 x_k.a7]]) (preOf σ 0 []) ((parrellaw05_IdsNames_v r).ren σ) (upOf σ []) := by
  refine fn_of Tryd.func4 (by kernel_rfl) (by kernel_rfl) (by kernel_rfl) trivial (by kernel_rfl) trivial (by kernel_rfl) ?_
  intro w0 W μ0 hμ
  unfold parrellaw05_IdsNames at h
  obtain ⟨y2, e1, h⟩ := bind_some h
  rcases itb_some h with ⟨c3, h⟩ | ⟨c3, h⟩
  · skip
    obtain ⟨y5, e4, h⟩ := bind_some h
    rcases itb_some h with ⟨c6, h⟩ | ⟨c6, h⟩
    · skip
      obtain rfl := Option.some.inj h
      exact run_ret mixed (L := []) (n := 30) (s := [.reg [], .reg [(1, { call := some (ids_KeyOf_v y2, [], []) })], .reg [(1, { v := some (.bool true) })], .reg [(1, { call := some (ids_Name_v y5, [], []) })], .reg [(2, { v := some (.bool true) })], .reg []])
        (a_ (a_ (a_ (a_ tr tr) (a_ (a_ tr tr) tr)) (a_ (a_ (a_ tr tr) (a_ (a_ (a_ (ids_KeyOf_tri s y2 e1) tr) tr) (a_ (a_ tr tr) (a_ (a_ tr tr) (a_ (a_ tr tr) (a_ (a_ tr tr) (a_ (a_ (a_ (Eq.refl 8) (a_ (le_ 8 8 rfl) (Eq.refl 0))) tr) (a_ (a_ tr tr) tr)))))))) (a_ (a_ (a_ tr tr) (a_ (a_ tr (a_ (leB c3) tr)) tr)) (a_ (a_ (a_ (a_ tr (le_ 8 8 rfl)) tr) (a_ (a_ (a_ (ids_Name_tri y2.1 y5 e4) tr) tr) (a_ (a_ tr tr) (a_ (a_ tr tr) (a_ (a_ tr tr) (a_ (a_ tr tr) (a_ (a_ tr tr) tr))))))) (a_ (a_ (a_ tr tr) (a_ (a_ tr tr) (a_ (a_ tr (a_ (leB c6) tr)) (a_ tr (a_ tr (a_ tr (a_ (a_ tr tr) tr))))))) (a_ (a_ (a_ tr tr) tr) tr)))))) tr) (by kernel_rfl) rfl
    · skip
      rcases itb_some h with ⟨c7, h⟩ | ⟨c7, h⟩
      · skip
        obtain rfl := Option.some.inj h
        exact run_ret mixed (L := []) (n := 30) (s := [.reg [], .reg [(1, { call := some (ids_KeyOf_v y2, [], []) })], .reg [(1, { v := some (.bool true) })], .reg [(1, { call := some (ids_Name_v y5, [], []) })], .reg [(2, { v := some (.bool false) }), (6, { v := some (.bool true) })], .reg []])
          (a_ (a_ (a_ (a_ tr tr) (a_ (a_ tr tr) tr)) (a_ (a_ (a_ tr tr) (a_ (a_ (a_ (ids_KeyOf_tri s y2 e1) tr) tr) (a_ (a_ tr tr) (a_ (a_ tr tr) (a_ (a_ tr tr) (a_ (a_ tr tr) (a_ (a_ (a_ (Eq.refl 8) (a_ (le_ 8 8 rfl) (Eq.refl 0))) tr) (a_ (a_ tr tr) tr)))))))) (a_ (a_ (a_ tr tr) (a_ (a_ tr (a_ (leB c3) tr)) tr)) (a_ (a_ (a_ (a_ tr (le_ 8 8 rfl)) tr) (a_ (a_ (a_ (ids_Name_tri y2.1 y5 e4) tr) tr) (a_ (a_ tr tr) (a_ (a_ tr tr) (a_ (a_ tr tr) (a_ (a_ tr tr) (a_ (a_ tr tr) tr))))))) (a_ (a_ (a_ tr tr) (a_ (a_ tr tr) (a_ (a_ tr (a_ (leB c6) tr)) (a_ (a_ tr tr) (a_ (a_ tr tr) (a_ (a_ tr tr) (a_ (a_ tr (a_ (leB c7) tr)) tr))))))) (a_ (a_ (a_ tr tr) tr) tr)))))) tr) (by kernel_rfl) rfl
      · skip
        obtain ⟨y9, e8, h⟩ := bind_some h
        rcases itb_some h with ⟨c10, h⟩ | ⟨c10, h⟩
        · skip
          rcases itb_some h with ⟨c11, h⟩ | ⟨c11, h⟩
          · skip
            obtain ⟨y13, e12, h⟩ := bind_some h
            obtain rfl := Option.some.inj h
            exact run_ret mixed (L := []) (n := 39) (s := [.reg [], .reg [(1, { call := some (ids_KeyOf_v y2, [], []) })], .reg [(1, { v := some (.bool true) })], .reg [(1, { call := some (ids_Name_v y5, [], []) })], .reg [(2, { v := some (.bool false) }), (6, { v := some (.bool false) })], .reg [(1, { call := some (ids_Name_v y9, [], []) })], .reg [(1, { v := some (.bool true) })], .reg [(2, { v := some (.bool true) }), (3, { call := some (parrellaw05_alive_v y13, [], []) })]])
              (a_ (a_ (a_ (a_ tr tr) (a_ (a_ tr tr) tr)) (a_ (a_ (a_ tr tr) (a_ (a_ (a_ (ids_KeyOf_tri s y2 e1) tr) tr) (a_ (a_ tr tr) (a_ (a_ tr tr) (a_ (a_ tr tr) (a_ (a_ tr tr) (a_ (a_ (a_ (Eq.refl 8) (a_ (le_ 8 8 rfl) (Eq.refl 0))) tr) (a_ (a_ tr tr) tr)))))))) (a_ (a_ (a_ tr tr) (a_ (a_ tr (a_ (leB c3) tr)) tr)) (a_ (a_ (a_ (a_ tr (le_ 8 8 rfl)) tr) (a_ (a_ (a_ (ids_Name_tri y2.1 y5 e4) tr) tr) (a_ (a_ tr tr) (a_ (a_ tr tr) (a_ (a_ tr tr) (a_ (a_ tr tr) (a_ (a_ tr tr) tr))))))) (a_ (a_ (a_ tr tr) (a_ (a_ tr tr) (a_ (a_ tr (a_ (leB c6) tr)) (a_ (a_ tr tr) (a_ (a_ tr tr) (a_ (a_ tr tr) (a_ (a_ tr (a_ (leB c7) tr)) tr))))))) (a_ (a_ (a_ (a_ tr (le_ 8 8 rfl)) tr) (a_ (a_ (a_ (ids_Name_tri x_k y9 e8) tr) tr) (a_ (a_ tr tr) (a_ (a_ tr tr) (a_ (a_ tr tr) (a_ (a_ tr tr) (a_ (a_ tr tr) tr))))))) (a_ (a_ (a_ tr tr) (a_ (a_ tr (a_ (leB c10) tr)) tr)) (a_ (a_ (a_ tr tr) (a_ (a_ tr tr) (a_ (a_ tr (a_ (leB c11) tr)) (a_ (a_ (a_ (parrellaw05_alive_tri  y13 e12) tr) tr) (a_ (a_ tr tr) (a_ (a_ tr tr) tr)))))) tr)))))))) tr) (by kernel_rfl) rfl
          · skip
            obtain rfl := Option.some.inj h
            exact run_ret mixed (L := []) (n := 39) (s := [.reg [], .reg [(1, { call := some (ids_KeyOf_v y2, [], []) })], .reg [(1, { v := some (.bool true) })], .reg [(1, { call := some (ids_Name_v y5, [], []) })], .reg [(2, { v := some (.bool false) }), (6, { v := some (.bool false) })], .reg [(1, { call := some (ids_Name_v y9, [], []) })], .reg [(1, { v := some (.bool true) })], .reg [(2, { v := some (.bool false) })]])
              (a_ (a_ (a_ (a_ tr tr) (a_ (a_ tr tr) tr)) (a_ (a_ (a_ tr tr) (a_ (a_ (a_ (ids_KeyOf_tri s y2 e1) tr) tr) (a_ (a_ tr tr) (a_ (a_ tr tr) (a_ (a_ tr tr) (a_ (a_ tr tr) (a_ (a_ (a_ (Eq.refl 8) (a_ (le_ 8 8 rfl) (Eq.refl 0))) tr) (a_ (a_ tr tr) tr)))))))) (a_ (a_ (a_ tr tr) (a_ (a_ tr (a_ (leB c3) tr)) tr)) (a_ (a_ (a_ (a_ tr (le_ 8 8 rfl)) tr) (a_ (a_ (a_ (ids_Name_tri y2.1 y5 e4) tr) tr) (a_ (a_ tr tr) (a_ (a_ tr tr) (a_ (a_ tr tr) (a_ (a_ tr tr) (a_ (a_ tr tr) tr))))))) (a_ (a_ (a_ tr tr) (a_ (a_ tr tr) (a_ (a_ tr (a_ (leB c6) tr)) (a_ (a_ tr tr) (a_ (a_ tr tr) (a_ (a_ tr tr) (a_ (a_ tr (a_ (leB c7) tr)) tr))))))) (a_ (a_ (a_ (a_ tr (le_ 8 8 rfl)) tr) (a_ (a_ (a_ (ids_Name_tri x_k y9 e8) tr) tr) (a_ (a_ tr tr) (a_ (a_ tr tr) (a_ (a_ tr tr) (a_ (a_ tr tr) (a_ (a_ tr tr) tr))))))) (a_ (a_ (a_ tr tr) (a_ (a_ tr (a_ (leB c10) tr)) tr)) (a_ (a_ (a_ tr tr) (a_ (a_ tr tr) (a_ (a_ tr (a_ (leB c11) tr)) (a_ tr (a_ (a_ tr tr) (a_ (a_ tr tr) tr)))))) tr)))))))) tr) (by kernel_rfl) rfl
        · skip
          obtain ⟨y12, e11, h⟩ := bind_some h
          rcases itb_some h with ⟨c13, h⟩ | ⟨c13, h⟩
          · skip
            rcases itb_some h with ⟨c14, h⟩ | ⟨c14, h⟩
            · skip
              rcases itb_some h with ⟨c15, h⟩ | ⟨c15, h⟩
              · skip
                obtain ⟨y17, e16, h⟩ := bind_some h
                obtain rfl := Option.some.inj h
                exact run_ret mixed (L := []) (n := 43) (s := [.reg [], .reg [(1, { call := some (ids_KeyOf_v y2, [], []) })], .reg [(1, { v := some (.bool true) })], .reg [(1, { call := some (ids_Name_v y5, [], []) })], .reg [(2, { v := some (.bool false) }), (6, { v := some (.bool false) })], .reg [(1, { call := some (ids_Name_v y9, [], []) })], .reg [(1, { v := some (.bool false) })], .reg [(1, { call := some (ids_KeyOf_v y12, [], []) })], .reg [(2, { v := some (.bool (decide (y12.1 = x_k))) }), (3, { v := some (.bool true) }), (7, { v := some (.bool true) }), (12, { v := some (.bool true) }), (13, { call := some (parrellaw05_alive_v y17, [], []) })]])
                  (a_ (a_ (a_ (a_ tr tr) (a_ (a_ tr tr) tr)) (a_ (a_ (a_ tr tr) (a_ (a_ (a_ (ids_KeyOf_tri s y2 e1) tr) tr) (a_ (a_ tr tr) (a_ (a_ tr tr) (a_ (a_ tr tr) (a_ (a_ tr tr) (a_ (a_ (a_ (Eq.refl 8) (a_ (le_ 8 8 rfl) (Eq.refl 0))) tr) (a_ (a_ tr tr) tr)))))))) (a_ (a_ (a_ tr tr) (a_ (a_ tr (a_ (leB c3) tr)) tr)) (a_ (a_ (a_ (a_ tr (le_ 8 8 rfl)) tr) (a_ (a_ (a_ (ids_Name_tri y2.1 y5 e4) tr) tr) (a_ (a_ tr tr) (a_ (a_ tr tr) (a_ (a_ tr tr) (a_ (a_ tr tr) (a_ (a_ tr tr) tr))))))) (a_ (a_ (a_ tr tr) (a_ (a_ tr tr) (a_ (a_ tr (a_ (leB c6) tr)) (a_ (a_ tr tr) (a_ (a_ tr tr) (a_ (a_ tr tr) (a_ (a_ tr (a_ (leB c7) tr)) tr))))))) (a_ (a_ (a_ (a_ tr (le_ 8 8 rfl)) tr) (a_ (a_ (a_ (ids_Name_tri x_k y9 e8) tr) tr) (a_ (a_ tr tr) (a_ (a_ tr tr) (a_ (a_ tr tr) (a_ (a_ tr tr) (a_ (a_ tr tr) tr))))))) (a_ (a_ (a_ tr tr) (a_ (a_ tr (a_ (leB c10) tr)) tr)) (a_ (a_ (a_ tr tr) (a_ (a_ (a_ (ids_KeyOf_tri y9.1 y12 e11) tr) tr) (a_ (a_ tr tr) (a_ (a_ tr tr) (a_ (a_ tr tr) (a_ (a_ tr tr) (a_ (a_ (a_ (Eq.refl 8) (a_ (le_ 8 8 rfl) (Eq.refl 0))) tr) (a_ (a_ tr tr) tr)))))))) (a_ (a_ (a_ (a_ tr (le_ 8 8 rfl)) tr) (a_ (a_ (a_ tr (le_ 8 8 rfl)) tr) (a_ (a_ tr (a_ (leB ((k_arr8 .u8) y12.1 x_k)) tr)) (a_ (a_ tr (a_ (leB c13) tr)) (a_ (a_ tr tr) (a_ (a_ tr tr) (a_ (a_ tr tr) (a_ (a_ tr (a_ (leB c14) tr)) (a_ (a_ tr tr) (a_ (a_ tr tr) (a_ (a_ tr tr) (a_ (a_ tr tr) (a_ (a_ tr (a_ (leB c15) tr)) (a_ (a_ (a_ (parrellaw05_alive_tri  y17 e16) tr) tr) (a_ (a_ tr tr) (a_ (a_ tr tr) tr)))))))))))))))) tr))))))))) tr) (by kernel_rfl) rfl
              · skip
                obtain rfl := Option.some.inj h
                exact run_ret mixed (L := []) (n := 43) (s := [.reg [], .reg [(1, { call := some (ids_KeyOf_v y2, [], []) })], .reg [(1, { v := some (.bool true) })], .reg [(1, { call := some (ids_Name_v y5, [], []) })], .reg [(2, { v := some (.bool false) }), (6, { v := some (.bool false) })], .reg [(1, { call := some (ids_Name_v y9, [], []) })], .reg [(1, { v := some (.bool false) })], .reg [(1, { call := some (ids_KeyOf_v y12, [], []) })], .reg [(2, { v := some (.bool (decide (y12.1 = x_k))) }), (3, { v := some (.bool true) }), (7, { v := some (.bool true) }), (12, { v := some (.bool false) })]])
                  (a_ (a_ (a_ (a_ tr tr) (a_ (a_ tr tr) tr)) (a_ (a_ (a_ tr tr) (a_ (a_ (a_ (ids_KeyOf_tri s y2 e1) tr) tr) (a_ (a_ tr tr) (a_ (a_ tr tr) (a_ (a_ tr tr) (a_ (a_ tr tr) (a_ (a_ (a_ (Eq.refl 8) (a_ (le_ 8 8 rfl) (Eq.refl 0))) tr) (a_ (a_ tr tr) tr)))))))) (a_ (a_ (a_ tr tr) (a_ (a_ tr (a_ (leB c3) tr)) tr)) (a_ (a_ (a_ (a_ tr (le_ 8 8 rfl)) tr) (a_ (a_ (a_ (ids_Name_tri y2.1 y5 e4) tr) tr) (a_ (a_ tr tr) (a_ (a_ tr tr) (a_ (a_ tr tr) (a_ (a_ tr tr) (a_ (a_ tr tr) tr))))))) (a_ (a_ (a_ tr tr) (a_ (a_ tr tr) (a_ (a_ tr (a_ (leB c6) tr)) (a_ (a_ tr tr) (a_ (a_ tr tr) (a_ (a_ tr tr) (a_ (a_ tr (a_ (leB c7) tr)) tr))))))) (a_ (a_ (a_ (a_ tr (le_ 8 8 rfl)) tr) (a_ (a_ (a_ (ids_Name_tri x_k y9 e8) tr) tr) (a_ (a_ tr tr) (a_ (a_ tr tr) (a_ (a_ tr tr) (a_ (a_ tr tr) (a_ (a_ tr tr) tr))))))) (a_ (a_ (a_ tr tr) (a_ (a_ tr (a_ (leB c10) tr)) tr)) (a_ (a_ (a_ tr tr) (a_ (a_ (a_ (ids_KeyOf_tri y9.1 y12 e11) tr) tr) (a_ (a_ tr tr) (a_ (a_ tr tr) (a_ (a_ tr tr) (a_ (a_ tr tr) (a_ (a_ (a_ (Eq.refl 8) (a_ (le_ 8 8 rfl) (Eq.refl 0))) tr) (a_ (a_ tr tr) tr)))))))) (a_ (a_ (a_ (a_ tr (le_ 8 8 rfl)) tr) (a_ (a_ (a_ tr (le_ 8 8 rfl)) tr) (a_ (a_ tr (a_ (leB ((k_arr8 .u8) y12.1 x_k)) tr)) (a_ (a_ tr (a_ (leB c13) tr)) (a_ (a_ tr tr) (a_ (a_ tr tr) (a_ (a_ tr tr) (a_ (a_ tr (a_ (leB c14) tr)) (a_ (a_ tr tr) (a_ (a_ tr tr) (a_ (a_ tr tr) (a_ (a_ tr tr) (a_ (a_ tr (a_ (leB c15) tr)) (a_ tr (a_ (a_ tr tr) (a_ (a_ tr tr) tr)))))))))))))))) tr))))))))) tr) (by kernel_rfl) rfl
            · skip
              obtain rfl := Option.some.inj h
              exact run_ret mixed (L := []) (n := 43) (s := [.reg [], .reg [(1, { call := some (ids_KeyOf_v y2, [], []) })], .reg [(1, { v := some (.bool true) })], .reg [(1, { call := some (ids_Name_v y5, [], []) })], .reg [(2, { v := some (.bool false) }), (6, { v := some (.bool false) })], .reg [(1, { call := some (ids_Name_v y9, [], []) })], .reg [(1, { v := some (.bool false) })], .reg [(1, { call := some (ids_KeyOf_v y12, [], []) })], .reg [(2, { v := some (.bool (decide (y12.1 = x_k))) }), (3, { v := some (.bool true) }), (7, { v := some (.bool false) })]])
                (a_ (a_ (a_ (a_ tr tr) (a_ (a_ tr tr) tr)) (a_ (a_ (a_ tr tr) (a_ (a_ (a_ (ids_KeyOf_tri s y2 e1) tr) tr) (a_ (a_ tr tr) (a_ (a_ tr tr) (a_ (a_ tr tr) (a_ (a_ tr tr) (a_ (a_ (a_ (Eq.refl 8) (a_ (le_ 8 8 rfl) (Eq.refl 0))) tr) (a_ (a_ tr tr) tr)))))))) (a_ (a_ (a_ tr tr) (a_ (a_ tr (a_ (leB c3) tr)) tr)) (a_ (a_ (a_ (a_ tr (le_ 8 8 rfl)) tr) (a_ (a_ (a_ (ids_Name_tri y2.1 y5 e4) tr) tr) (a_ (a_ tr tr) (a_ (a_ tr tr) (a_ (a_ tr tr) (a_ (a_ tr tr) (a_ (a_ tr tr) tr))))))) (a_ (a_ (a_ tr tr) (a_ (a_ tr tr) (a_ (a_ tr (a_ (leB c6) tr)) (a_ (a_ tr tr) (a_ (a_ tr tr) (a_ (a_ tr tr) (a_ (a_ tr (a_ (leB c7) tr)) tr))))))) (a_ (a_ (a_ (a_ tr (le_ 8 8 rfl)) tr) (a_ (a_ (a_ (ids_Name_tri x_k y9 e8) tr) tr) (a_ (a_ tr tr) (a_ (a_ tr tr) (a_ (a_ tr tr) (a_ (a_ tr tr) (a_ (a_ tr tr) tr))))))) (a_ (a_ (a_ tr tr) (a_ (a_ tr (a_ (leB c10) tr)) tr)) (a_ (a_ (a_ tr tr) (a_ (a_ (a_ (ids_KeyOf_tri y9.1 y12 e11) tr) tr) (a_ (a_ tr tr) (a_ (a_ tr tr) (a_ (a_ tr tr) (a_ (a_ tr tr) (a_ (a_ (a_ (Eq.refl 8) (a_ (le_ 8 8 rfl) (Eq.refl 0))) tr) (a_ (a_ tr tr) tr)))))))) (a_ (a_ (a_ (a_ tr (le_ 8 8 rfl)) tr) (a_ (a_ (a_ tr (le_ 8 8 rfl)) tr) (a_ (a_ tr (a_ (leB ((k_arr8 .u8) y12.1 x_k)) tr)) (a_ (a_ tr (a_ (leB c13) tr)) (a_ (a_ tr tr) (a_ (a_ tr tr) (a_ (a_ tr tr) (a_ (a_ tr (a_ (leB c14) tr)) (a_ tr (a_ tr (a_ tr (a_ (a_ tr tr) (a_ (a_ tr tr) (a_ tr (a_ (a_ tr tr) (a_ (a_ tr tr) tr)))))))))))))))) tr))))))))) tr) (by kernel_rfl) rfl
          · skip
            obtain rfl := Option.some.inj h
            exact run_ret mixed (L := []) (n := 43) (s := [.reg [], .reg [(1, { call := some (ids_KeyOf_v y2, [], []) })], .reg [(1, { v := some (.bool true) })], .reg [(1, { call := some (ids_Name_v y5, [], []) })], .reg [(2, { v := some (.bool false) }), (6, { v := some (.bool false) })], .reg [(1, { call := some (ids_Name_v y9, [], []) })], .reg [(1, { v := some (.bool false) })], .reg [(1, { call := some (ids_KeyOf_v y12, [], []) })], .reg [(2, { v := some (.bool (decide (y12.1 = x_k))) }), (3, { v := some (.bool false) })]])
              (a_ (a_ (a_ (a_ tr tr) (a_ (a_ tr tr) tr)) (a_ (a_ (a_ tr tr) (a_ (a_ (a_ (ids_KeyOf_tri s y2 e1) tr) tr) (a_ (a_ tr tr) (a_ (a_ tr tr) (a_ (a_ tr tr) (a_ (a_ tr tr) (a_ (a_ (a_ (Eq.refl 8) (a_ (le_ 8 8 rfl) (Eq.refl 0))) tr) (a_ (a_ tr tr) tr)))))))) (a_ (a_ (a_ tr tr) (a_ (a_ tr (a_ (leB c3) tr)) tr)) (a_ (a_ (a_ (a_ tr (le_ 8 8 rfl)) tr) (a_ (a_ (a_ (ids_Name_tri y2.1 y5 e4) tr) tr) (a_ (a_ tr tr) (a_ (a_ tr tr) (a_ (a_ tr tr) (a_ (a_ tr tr) (a_ (a_ tr tr) tr))))))) (a_ (a_ (a_ tr tr) (a_ (a_ tr tr) (a_ (a_ tr (a_ (leB c6) tr)) (a_ (a_ tr tr) (a_ (a_ tr tr) (a_ (a_ tr tr) (a_ (a_ tr (a_ (leB c7) tr)) tr))))))) (a_ (a_ (a_ (a_ tr (le_ 8 8 rfl)) tr) (a_ (a_ (a_ (ids_Name_tri x_k y9 e8) tr) tr) (a_ (a_ tr tr) (a_ (a_ tr tr) (a_ (a_ tr tr) (a_ (a_ tr tr) (a_ (a_ tr tr) tr))))))) (a_ (a_ (a_ tr tr) (a_ (a_ tr (a_ (leB c10) tr)) tr)) (a_ (a_ (a_ tr tr) (a_ (a_ (a_ (ids_KeyOf_tri y9.1 y12 e11) tr) tr) (a_ (a_ tr tr) (a_ (a_ tr tr) (a_ (a_ tr tr) (a_ (a_ tr tr) (a_ (a_ (a_ (Eq.refl 8) (a_ (le_ 8 8 rfl) (Eq.refl 0))) tr) (a_ (a_ tr tr) tr)))))))) (a_ (a_ (a_ (a_ tr (le_ 8 8 rfl)) tr) (a_ (a_ (a_ tr (le_ 8 8 rfl)) tr) (a_ (a_ tr (a_ (leB ((k_arr8 .u8) y12.1 x_k)) tr)) (a_ (a_ tr (a_ (leB c13) tr)) (a_ tr (a_ tr (a_ (a_ tr tr) (a_ (a_ tr tr) (a_ tr (a_ tr (a_ tr (a_ (a_ tr tr) (a_ (a_ tr tr) (a_ tr (a_ (a_ tr tr) (a_ (a_ tr tr) tr)))))))))))))))) tr))))))))) tr) (by kernel_rfl) rfl
  · skip
    rcases itb_some h with ⟨c4, h⟩ | ⟨c4, h⟩
    · skip
      obtain rfl := Option.some.inj h
      exact run_ret mixed (L := []) (n := 27) (s := [.reg [], .reg [(1, { call := some (ids_KeyOf_v y2, [], []) })], .reg [(1, { v := some (.bool false) })], .reg [(2, { v := some (.bool true) })], .reg []])
        (a_ (a_ (a_ (a_ tr tr) (a_ (a_ tr tr) tr)) (a_ (a_ (a_ tr tr) (a_ (a_ (a_ (ids_KeyOf_tri s y2 e1) tr) tr) (a_ (a_ tr tr) (a_ (a_ tr tr) (a_ (a_ tr tr) (a_ (a_ tr tr) (a_ (a_ (a_ (Eq.refl 8) (a_ (le_ 8 8 rfl) (Eq.refl 0))) tr) (a_ (a_ tr tr) tr)))))))) (a_ (a_ (a_ tr tr) (a_ (a_ tr (a_ (leB c3) tr)) tr)) (a_ (a_ (a_ (a_ tr (le_ 8 8 rfl)) tr) (a_ (a_ (Eq.refl true) tr) (a_ (a_ tr (a_ (LV.Le.trans (leB (congrArg not ((k_arr8 .u8) y2.1 (A8.mk 0 0 0 0 0 0 0 0)))) (leB c4)) tr)) tr))) (a_ (a_ (a_ tr tr) tr) tr))))) tr) (by kernel_rfl) rfl
    · skip
      obtain ⟨y6, e5, h⟩ := bind_some h
      rcases itb_some h with ⟨c7, h⟩ | ⟨c7, h⟩
      · skip
        rcases itb_some h with ⟨c8, h⟩ | ⟨c8, h⟩
        · skip
          obtain ⟨y10, e9, h⟩ := bind_some h
          obtain rfl := Option.some.inj h
          exact run_ret mixed (L := []) (n := 36) (s := [.reg [], .reg [(1, { call := some (ids_KeyOf_v y2, [], []) })], .reg [(1, { v := some (.bool false) })], .reg [(2, { v := some (.bool false) })], .reg [(1, { call := some (ids_Name_v y6, [], []) })], .reg [(1, { v := some (.bool true) })], .reg [(2, { v := some (.bool true) }), (3, { call := some (parrellaw05_alive_v y10, [], []) })]])
            (a_ (a_ (a_ (a_ tr tr) (a_ (a_ tr tr) tr)) (a_ (a_ (a_ tr tr) (a_ (a_ (a_ (ids_KeyOf_tri s y2 e1) tr) tr) (a_ (a_ tr tr) (a_ (a_ tr tr) (a_ (a_ tr tr) (a_ (a_ tr tr) (a_ (a_ (a_ (Eq.refl 8) (a_ (le_ 8 8 rfl) (Eq.refl 0))) tr) (a_ (a_ tr tr) tr)))))))) (a_ (a_ (a_ tr tr) (a_ (a_ tr (a_ (leB c3) tr)) tr)) (a_ (a_ (a_ (a_ tr (le_ 8 8 rfl)) tr) (a_ (a_ (Eq.refl true) tr) (a_ (a_ tr (a_ (LV.Le.trans (leB (congrArg not ((k_arr8 .u8) y2.1 (A8.mk 0 0 0 0 0 0 0 0)))) (leB c4)) tr)) tr))) (a_ (a_ (a_ (a_ tr (le_ 8 8 rfl)) tr) (a_ (a_ (a_ (ids_Name_tri x_k y6 e5) tr) tr) (a_ (a_ tr tr) (a_ (a_ tr tr) (a_ (a_ tr tr) (a_ (a_ tr tr) (a_ (a_ tr tr) tr))))))) (a_ (a_ (a_ tr tr) (a_ (a_ tr (a_ (leB c7) tr)) tr)) (a_ (a_ (a_ tr tr) (a_ (a_ tr tr) (a_ (a_ tr (a_ (leB c8) tr)) (a_ (a_ (a_ (parrellaw05_alive_tri  y10 e9) tr) tr) (a_ (a_ tr tr) (a_ (a_ tr tr) tr)))))) tr))))))) tr) (by kernel_rfl) rfl
        · skip
          obtain rfl := Option.some.inj h
          exact run_ret mixed (L := []) (n := 36) (s := [.reg [], .reg [(1, { call := some (ids_KeyOf_v y2, [], []) })], .reg [(1, { v := some (.bool false) })], .reg [(2, { v := some (.bool false) })], .reg [(1, { call := some (ids_Name_v y6, [], []) })], .reg [(1, { v := some (.bool true) })], .reg [(2, { v := some (.bool false) })]])
            (a_ (a_ (a_ (a_ tr tr) (a_ (a_ tr tr) tr)) (a_ (a_ (a_ tr tr) (a_ (a_ (a_ (ids_KeyOf_tri s y2 e1) tr) tr) (a_ (a_ tr tr) (a_ (a_ tr tr) (a_ (a_ tr tr) (a_ (a_ tr tr) (a_ (a_ (a_ (Eq.refl 8) (a_ (le_ 8 8 rfl) (Eq.refl 0))) tr) (a_ (a_ tr tr) tr)))))))) (a_ (a_ (a_ tr tr) (a_ (a_ tr (a_ (leB c3) tr)) tr)) (a_ (a_ (a_ (a_ tr (le_ 8 8 rfl)) tr) (a_ (a_ (Eq.refl true) tr) (a_ (a_ tr (a_ (LV.Le.trans (leB (congrArg not ((k_arr8 .u8) y2.1 (A8.mk 0 0 0 0 0 0 0 0)))) (leB c4)) tr)) tr))) (a_ (a_ (a_ (a_ tr (le_ 8 8 rfl)) tr) (a_ (a_ (a_ (ids_Name_tri x_k y6 e5) tr) tr) (a_ (a_ tr tr) (a_ (a_ tr tr) (a_ (a_ tr tr) (a_ (a_ tr tr) (a_ (a_ tr tr) tr))))))) (a_ (a_ (a_ tr tr) (a_ (a_ tr (a_ (leB c7) tr)) tr)) (a_ (a_ (a_ tr tr) (a_ (a_ tr tr) (a_ (a_ tr (a_ (leB c8) tr)) (a_ tr (a_ (a_ tr tr) (a_ (a_ tr tr) tr)))))) tr))))))) tr) (by kernel_rfl) rfl
      · skip
        obtain ⟨y9, e8, h⟩ := bind_some h
        rcases itb_some h with ⟨c10, h⟩ | ⟨c10, h⟩
        · skip
          rcases itb_some h with ⟨c11, h⟩ | ⟨c11, h⟩
          · skip
            rcases itb_some h with ⟨c12, h⟩ | ⟨c12, h⟩
            · skip
              obtain ⟨y14, e13, h⟩ := bind_some h
              obtain rfl := Option.some.inj h
              exact run_ret mixed (L := []) (n := 40) (s := [.reg [], .reg [(1, { call := some (ids_KeyOf_v y2, [], []) })], .reg [(1, { v := some (.bool false) })], .reg [(2, { v := some (.bool false) })], .reg [(1, { call := some (ids_Name_v y6, [], []) })], .reg [(1, { v := some (.bool false) })], .reg [(1, { call := some (ids_KeyOf_v y9, [], []) })], .reg [(2, { v := some (.bool (decide (y9.1 = x_k))) }), (3, { v := some (.bool true) }), (7, { v := some (.bool true) }), (12, { v := some (.bool true) }), (13, { call := some (parrellaw05_alive_v y14, [], []) })]])
                (a_ (a_ (a_ (a_ tr tr) (a_ (a_ tr tr) tr)) (a_ (a_ (a_ tr tr) (a_ (a_ (a_ (ids_KeyOf_tri s y2 e1) tr) tr) (a_ (a_ tr tr) (a_ (a_ tr tr) (a_ (a_ tr tr) (a_ (a_ tr tr) (a_ (a_ (a_ (Eq.refl 8) (a_ (le_ 8 8 rfl) (Eq.refl 0))) tr) (a_ (a_ tr tr) tr)))))))) (a_ (a_ (a_ tr tr) (a_ (a_ tr (a_ (leB c3) tr)) tr)) (a_ (a_ (a_ (a_ tr (le_ 8 8 rfl)) tr) (a_ (a_ (Eq.refl true) tr) (a_ (a_ tr (a_ (LV.Le.trans (leB (congrArg not ((k_arr8 .u8) y2.1 (A8.mk 0 0 0 0 0 0 0 0)))) (leB c4)) tr)) tr))) (a_ (a_ (a_ (a_ tr (le_ 8 8 rfl)) tr) (a_ (a_ (a_ (ids_Name_tri x_k y6 e5) tr) tr) (a_ (a_ tr tr) (a_ (a_ tr tr) (a_ (a_ tr tr) (a_ (a_ tr tr) (a_ (a_ tr tr) tr))))))) (a_ (a_ (a_ tr tr) (a_ (a_ tr (a_ (leB c7) tr)) tr)) (a_ (a_ (a_ tr tr) (a_ (a_ (a_ (ids_KeyOf_tri y6.1 y9 e8) tr) tr) (a_ (a_ tr tr) (a_ (a_ tr tr) (a_ (a_ tr tr) (a_ (a_ tr tr) (a_ (a_ (a_ (Eq.refl 8) (a_ (le_ 8 8 rfl) (Eq.refl 0))) tr) (a_ (a_ tr tr) tr)))))))) (a_ (a_ (a_ (a_ tr (le_ 8 8 rfl)) tr) (a_ (a_ (a_ tr (le_ 8 8 rfl)) tr) (a_ (a_ tr (a_ (leB ((k_arr8 .u8) y9.1 x_k)) tr)) (a_ (a_ tr (a_ (leB c10) tr)) (a_ (a_ tr tr) (a_ (a_ tr tr) (a_ (a_ tr tr) (a_ (a_ tr (a_ (leB c11) tr)) (a_ (a_ tr tr) (a_ (a_ tr tr) (a_ (a_ tr tr) (a_ (a_ tr tr) (a_ (a_ tr (a_ (leB c12) tr)) (a_ (a_ (a_ (parrellaw05_alive_tri  y14 e13) tr) tr) (a_ (a_ tr tr) (a_ (a_ tr tr) tr)))))))))))))))) tr)))))))) tr) (by kernel_rfl) rfl
            · skip
              obtain rfl := Option.some.inj h
              exact run_ret mixed (L := []) (n := 40) (s := [.reg [], .reg [(1, { call := some (ids_KeyOf_v y2, [], []) })], .reg [(1, { v := some (.bool false) })], .reg [(2, { v := some (.bool false) })], .reg [(1, { call := some (ids_Name_v y6, [], []) })], .reg [(1, { v := some (.bool false) })], .reg [(1, { call := some (ids_KeyOf_v y9, [], []) })], .reg [(2, { v := some (.bool (decide (y9.1 = x_k))) }), (3, { v := some (.bool true) }), (7, { v := some (.bool true) }), (12, { v := some (.bool false) })]])
                (a_ (a_ (a_ (a_ tr tr) (a_ (a_ tr tr) tr)) (a_ (a_ (a_ tr tr) (a_ (a_ (a_ (ids_KeyOf_tri s y2 e1) tr) tr) (a_ (a_ tr tr) (a_ (a_ tr tr) (a_ (a_ tr tr) (a_ (a_ tr tr) (a_ (a_ (a_ (Eq.refl 8) (a_ (le_ 8 8 rfl) (Eq.refl 0))) tr) (a_ (a_ tr tr) tr)))))))) (a_ (a_ (a_ tr tr) (a_ (a_ tr (a_ (leB c3) tr)) tr)) (a_ (a_ (a_ (a_ tr (le_ 8 8 rfl)) tr) (a_ (a_ (Eq.refl true) tr) (a_ (a_ tr (a_ (LV.Le.trans (leB (congrArg not ((k_arr8 .u8) y2.1 (A8.mk 0 0 0 0 0 0 0 0)))) (leB c4)) tr)) tr))) (a_ (a_ (a_ (a_ tr (le_ 8 8 rfl)) tr) (a_ (a_ (a_ (ids_Name_tri x_k y6 e5) tr) tr) (a_ (a_ tr tr) (a_ (a_ tr tr) (a_ (a_ tr tr) (a_ (a_ tr tr) (a_ (a_ tr tr) tr))))))) (a_ (a_ (a_ tr tr) (a_ (a_ tr (a_ (leB c7) tr)) tr)) (a_ (a_ (a_ tr tr) (a_ (a_ (a_ (ids_KeyOf_tri y6.1 y9 e8) tr) tr) (a_ (a_ tr tr) (a_ (a_ tr tr) (a_ (a_ tr tr) (a_ (a_ tr tr) (a_ (a_ (a_ (Eq.refl 8) (a_ (le_ 8 8 rfl) (Eq.refl 0))) tr) (a_ (a_ tr tr) tr)))))))) (a_ (a_ (a_ (a_ tr (le_ 8 8 rfl)) tr) (a_ (a_ (a_ tr (le_ 8 8 rfl)) tr) (a_ (a_ tr (a_ (leB ((k_arr8 .u8) y9.1 x_k)) tr)) (a_ (a_ tr (a_ (leB c10) tr)) (a_ (a_ tr tr) (a_ (a_ tr tr) (a_ (a_ tr tr) (a_ (a_ tr (a_ (leB c11) tr)) (a_ (a_ tr tr) (a_ (a_ tr tr) (a_ (a_ tr tr) (a_ (a_ tr tr) (a_ (a_ tr (a_ (leB c12) tr)) (a_ tr (a_ (a_ tr tr) (a_ (a_ tr tr) tr)))))))))))))))) tr)))))))) tr) (by kernel_rfl) rfl
          · skip
            obtain rfl := Option.some.inj h
            exact run_ret mixed (L := []) (n := 40) (s := [.reg [], .reg [(1, { call := some (ids_KeyOf_v y2, [], []) })], .reg [(1, { v := some (.bool false) })], .reg [(2, { v := some (.bool false) })], .reg [(1, { call := some (ids_Name_v y6, [], []) })], .reg [(1, { v := some (.bool false) })], .reg [(1, { call := some (ids_KeyOf_v y9, [], []) })], .reg [(2, { v := some (.bool (decide (y9.1 = x_k))) }), (3, { v := some (.bool true) }), (7, { v := some (.bool false) })]])
              (a_ (a_ (a_ (a_ tr tr) (a_ (a_ tr tr) tr)) (a_ (a_ (a_ tr tr) (a_ (a_ (a_ (ids_KeyOf_tri s y2 e1) tr) tr) (a_ (a_ tr tr) (a_ (a_ tr tr) (a_ (a_ tr tr) (a_ (a_ tr tr) (a_ (a_ (a_ (Eq.refl 8) (a_ (le_ 8 8 rfl) (Eq.refl 0))) tr) (a_ (a_ tr tr) tr)))))))) (a_ (a_ (a_ tr tr) (a_ (a_ tr (a_ (leB c3) tr)) tr)) (a_ (a_ (a_ (a_ tr (le_ 8 8 rfl)) tr) (a_ (a_ (Eq.refl true) tr) (a_ (a_ tr (a_ (LV.Le.trans (leB (congrArg not ((k_arr8 .u8) y2.1 (A8.mk 0 0 0 0 0 0 0 0)))) (leB c4)) tr)) tr))) (a_ (a_ (a_ (a_ tr (le_ 8 8 rfl)) tr) (a_ (a_ (a_ (ids_Name_tri x_k y6 e5) tr) tr) (a_ (a_ tr tr) (a_ (a_ tr tr) (a_ (a_ tr tr) (a_ (a_ tr tr) (a_ (a_ tr tr) tr))))))) (a_ (a_ (a_ tr tr) (a_ (a_ tr (a_ (leB c7) tr)) tr)) (a_ (a_ (a_ tr tr) (a_ (a_ (a_ (ids_KeyOf_tri y6.1 y9 e8) tr) tr) (a_ (a_ tr tr) (a_ (a_ tr tr) (a_ (a_ tr tr) (a_ (a_ tr tr) (a_ (a_ (a_ (Eq.refl 8) (a_ (le_ 8 8 rfl) (Eq.refl 0))) tr) (a_ (a_ tr tr) tr)))))))) (a_ (a_ (a_ (a_ tr (le_ 8 8 rfl)) tr) (a_ (a_ (a_ tr (le_ 8 8 rfl)) tr) (a_ (a_ tr (a_ (leB ((k_arr8 .u8) y9.1 x_k)) tr)) (a_ (a_ tr (a_ (leB c10) tr)) (a_ (a_ tr tr) (a_ (a_ tr tr) (a_ (a_ tr tr) (a_ (a_ tr (a_ (leB c11) tr)) (a_ tr (a_ tr (a_ tr (a_ (a_ tr tr) (a_ (a_ tr tr) (a_ tr (a_ (a_ tr tr) (a_ (a_ tr tr) tr)))))))))))))))) tr)))))))) tr) (by kernel_rfl) rfl
        · skip
          obtain rfl := Option.some.inj h
          exact run_ret mixed (L := []) (n := 40) (s := [.reg [], .reg [(1, { call := some (ids_KeyOf_v y2, [], []) })], .reg [(1, { v := some (.bool false) })], .reg [(2, { v := some (.bool false) })], .reg [(1, { call := some (ids_Name_v y6, [], []) })], .reg [(1, { v := some (.bool false) })], .reg [(1, { call := some (ids_KeyOf_v y9, [], []) })], .reg [(2, { v := some (.bool (decide (y9.1 = x_k))) }), (3, { v := some (.bool false) })]])
            (a_ (a_ (a_ (a_ tr tr) (a_ (a_ tr tr) tr)) (a_ (a_ (a_ tr tr) (a_ (a_ (a_ (ids_KeyOf_tri s y2 e1) tr) tr) (a_ (a_ tr tr) (a_ (a_ tr tr) (a_ (a_ tr tr) (a_ (a_ tr tr) (a_ (a_ (a_ (Eq.refl 8) (a_ (le_ 8 8 rfl) (Eq.refl 0))) tr) (a_ (a_ tr tr) tr)))))))) (a_ (a_ (a_ tr tr) (a_ (a_ tr (a_ (leB c3) tr)) tr)) (a_ (a_ (a_ (a_ tr (le_ 8 8 rfl)) tr) (a_ (a_ (Eq.refl true) tr) (a_ (a_ tr (a_ (LV.Le.trans (leB (congrArg not ((k_arr8 .u8) y2.1 (A8.mk 0 0 0 0 0 0 0 0)))) (leB c4)) tr)) tr))) (a_ (a_ (a_ (a_ tr (le_ 8 8 rfl)) tr) (a_ (a_ (a_ (ids_Name_tri x_k y6 e5) tr) tr) (a_ (a_ tr tr) (a_ (a_ tr tr) (a_ (a_ tr tr) (a_ (a_ tr tr) (a_ (a_ tr tr) tr))))))) (a_ (a_ (a_ tr tr) (a_ (a_ tr (a_ (leB c7) tr)) tr)) (a_ (a_ (a_ tr tr) (a_ (a_ (a_ (ids_KeyOf_tri y6.1 y9 e8) tr) tr) (a_ (a_ tr tr) (a_ (a_ tr tr) (a_ (a_ tr tr) (a_ (a_ tr tr) (a_ (a_ (a_ (Eq.refl 8) (a_ (le_ 8 8 rfl) (Eq.refl 0))) tr) (a_ (a_ tr tr) tr)))))))) (a_ (a_ (a_ (a_ tr (le_ 8 8 rfl)) tr) (a_ (a_ (a_ tr (le_ 8 8 rfl)) tr) (a_ (a_ tr (a_ (leB ((k_arr8 .u8) y9.1 x_k)) tr)) (a_ (a_ tr (a_ (leB c10) tr)) (a_ tr (a_ tr (a_ (a_ tr tr) (a_ (a_ tr tr) (a_ tr (a_ tr (a_ tr (a_ (a_ tr tr) (a_ (a_ tr tr) (a_ tr (a_ (a_ tr tr) (a_ (a_ tr tr) tr)))))))))))))))) tr)))))))) tr) (by kernel_rfl) rfl

theorem parrellaw05_IdsNames_tri (s : List UInt8) (x_k : A8 (Int)) (r : (Bool)) (h : parrellaw05_IdsNames s x_k = some r) : FnTri Tryd.prog 4 [.str s, .agg [.int .u8 x_k.a0, .int .u8 x_k.a1, .int .u8 x_k.a2, .int .u8 x_k.a3, .int .u8 x_k.a4, .int .u8 x_k.a5, .int .u8 x_k.a6, .int .u8 x_k.a7]] [] (parrellaw05_IdsNames_v r) [] := FnTri.none (parrellaw05_IdsNames_ok s x_k r h) rfl rfl

end Go.Proofs.YtbggiflihpjocaaDoor.Wk
