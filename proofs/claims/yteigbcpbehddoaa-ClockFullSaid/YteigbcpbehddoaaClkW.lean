/- Printed by tr.py: Go functions as Lean functions, with the proofs that they walk so. -/
import Derived.Test.YteigbcpbehddoaaProg
import Derived.Test.YteigbcpbehddoaaCnW
import Derived.Test.YteigbcpbehddoaaCnXa
import Derived.WalkKit
import Derived.TacticsInMore
import Derived.RegionIn
import Derived.LoopNIn
import Derived.LoopIn
import Derived.ControlIn
import Derived.Test.YteigbcpbehddoaaCnZa
namespace Go.Proofs.Yteigbcpbehddoaa.Wk
open Go Go.Cn Go.RowKit
set_option maxRecDepth 100000
set_option maxHeartbeats 4000000
set_option linter.unusedVariables false
set_option linter.unusedSimpArgs false
noncomputable section
theorem mixed : Try.prog.follows .mixedOrders = true := by kernel_rfl
structure T_api_Tx where
  f_Node : Int
  f_Boot : Int
  f_Num : Int
  deriving DecidableEq, Inhabited

def c_T_api_Tx (x : T_api_Tx) : List LV := [.int .u8 x.f_Node, .int .u32 x.f_Boot, .int .u32 x.f_Num]

def v_T_api_Tx (x : T_api_Tx) : LV := .agg (c_T_api_Tx x)

theorem x_T_api_Tx (a b : T_api_Tx) : a = b ↔ a.f_Node = b.f_Node ∧ a.f_Boot = b.f_Boot ∧ a.f_Num = b.f_Num := by
  cases a; cases b; simp

theorem k_T_api_Tx (a b : T_api_Tx) : eqK (v_T_api_Tx a) (v_T_api_Tx b) = decide (a = b) := by
  rw [Bool.eq_iff_iff, decide_eq_true_eq]
  simp only [x_T_api_Tx, v_T_api_Tx, c_T_api_Tx, eqK, eqCs, eqC, Bool.and_eq_true, beq_iff_eq, and_assoc, and_true]

structure T_parrelref09_Name where
  f_Kind : Int
  f_Tx : T_api_Tx
  deriving DecidableEq, Inhabited

def c_T_parrelref09_Name (x : T_parrelref09_Name) : List LV := [.int .u8 x.f_Kind, .int .u8 x.f_Tx.f_Node, .int .u32 x.f_Tx.f_Boot, .int .u32 x.f_Tx.f_Num]

def v_T_parrelref09_Name (x : T_parrelref09_Name) : LV := .agg (c_T_parrelref09_Name x)

theorem x_T_parrelref09_Name (a b : T_parrelref09_Name) : a = b ↔ a.f_Kind = b.f_Kind ∧ a.f_Tx = b.f_Tx := by
  cases a; cases b; simp

theorem k_T_parrelref09_Name (a b : T_parrelref09_Name) : eqK (v_T_parrelref09_Name a) (v_T_parrelref09_Name b) = decide (a = b) := by
  rw [Bool.eq_iff_iff, decide_eq_true_eq]
  simp only [x_T_parrelref09_Name, x_T_api_Tx, v_T_parrelref09_Name, c_T_parrelref09_Name, eqK, eqCs, eqC, Bool.and_eq_true, beq_iff_eq, and_assoc, and_true]

structure T_parrellaw09_Act where
  f_Kind : Int
  f_Name : T_parrelref09_Name
  f_After : Int
  deriving DecidableEq, Inhabited

def c_T_parrellaw09_Act (x : T_parrellaw09_Act) : List LV := [.int .u8 x.f_Kind, .int .u8 x.f_Name.f_Kind, .int .u8 x.f_Name.f_Tx.f_Node, .int .u32 x.f_Name.f_Tx.f_Boot, .int .u32 x.f_Name.f_Tx.f_Num, .int .u32 x.f_After]

def v_T_parrellaw09_Act (x : T_parrellaw09_Act) : LV := .agg (c_T_parrellaw09_Act x)

theorem x_T_parrellaw09_Act (a b : T_parrellaw09_Act) : a = b ↔ a.f_Kind = b.f_Kind ∧ a.f_Name = b.f_Name ∧ a.f_After = b.f_After := by
  cases a; cases b; simp

theorem k_T_parrellaw09_Act (a b : T_parrellaw09_Act) : eqK (v_T_parrellaw09_Act a) (v_T_parrellaw09_Act b) = decide (a = b) := by
  rw [Bool.eq_iff_iff, decide_eq_true_eq]
  simp only [x_T_parrellaw09_Act, x_T_parrelref09_Name, x_T_api_Tx, v_T_parrellaw09_Act, c_T_parrellaw09_Act, eqK, eqCs, eqC, Bool.and_eq_true, beq_iff_eq, and_assoc, and_true]

structure T_clock_Name where
  f_Kind : Int
  f_Tx : T_api_Tx
  deriving DecidableEq, Inhabited

def c_T_clock_Name (x : T_clock_Name) : List LV := [.int .u8 x.f_Kind, .int .u8 x.f_Tx.f_Node, .int .u32 x.f_Tx.f_Boot, .int .u32 x.f_Tx.f_Num]

def v_T_clock_Name (x : T_clock_Name) : LV := .agg (c_T_clock_Name x)

theorem x_T_clock_Name (a b : T_clock_Name) : a = b ↔ a.f_Kind = b.f_Kind ∧ a.f_Tx = b.f_Tx := by
  cases a; cases b; simp

theorem k_T_clock_Name (a b : T_clock_Name) : eqK (v_T_clock_Name a) (v_T_clock_Name b) = decide (a = b) := by
  rw [Bool.eq_iff_iff, decide_eq_true_eq]
  simp only [x_T_clock_Name, x_T_api_Tx, v_T_clock_Name, c_T_clock_Name, eqK, eqCs, eqC, Bool.and_eq_true, beq_iff_eq, and_assoc, and_true]

/-- parrel/clock.New -/

def clock_New_v (r : (Nat → Option (List (T_clock_Name × Int))) × (List (T_clock_Name × Int))) : LV := .ptr 0 0 0

def clock_New_up  (r : (Nat → Option (List (T_clock_Name × Int))) × (List (T_clock_Name × Int))) : Upd := [(0, some (.vw [.int .u32 0, .map 1] true [.int .u8, .int .u8, .int .u32, .int .u32] 64 (fun q_ => (r.1 q_).map (encM v_T_clock_Name (LV.int .u32))) [])), (1, some (.map true [.int .u8, .int .u8, .int .u32, .int .u32] (encM v_T_clock_Name (LV.int .u32) r.2)))]

def clock_New_T0  (t6 : Int) (wheel : Nat → Option (List (T_clock_Name × Int))) : List LV := [.any, .ptr 0 0 0, .any, .any, .any, .any, .int .i64 t6, .any, .any, .any, .any, .any, .any, .any, .any, .any, .any]

def clock_New_H0  (t6 : Int) (wheel : Nat → Option (List (T_clock_Name × Int))) : Heap := [some (.vw [.int .u32 0, .map 1] true [.int .u8, .int .u8, .int .u32, .int .u32] 64 (fun q_ => (wheel q_).map (encM v_T_clock_Name (LV.int .u32))) []), some (.map true [.int .u8, .int .u8, .int .u32, .int .u32] (encM v_T_clock_Name (LV.int .u32) ([] : List (T_clock_Name × Int))))]

def clock_New_l0   : Nat → (Int) → (Nat → Option (List (T_clock_Name × Int))) → Option ((Nat → Option (List (T_clock_Name × Int))) × (List (T_clock_Name × Int)))
  | 0, _, _ => none
  | fuel + 1, t6, wheel =>
    if ((decide (t6 < 64)) : Bool) then
      if 0 ≤ t6 ∧ t6 < 64 then
      clock_New_l0   fuel (IntKind.wrap .i64 (t6 + 1)) (fun q_ => if q_ = t6.toNat then some ([] : List (T_clock_Name × Int)) else wheel q_)
      else none
    else
      some (wheel, ([] : List (T_clock_Name × Int)))

def clock_New  : Option ((Nat → Option (List (T_clock_Name × Int))) × (List (T_clock_Name × Int))) :=
  clock_New_l0   big 0 (fun _ => none : Nat → Option (List (T_clock_Name × Int)))

theorem clock_New_l0_ok {w0 : World} {W : Nat → Prop} {μ0 : Emb} (hμ : ∀ c p, μ0 c = some p → c < 0)   : ∀ (fuel : Nat) (t6 : Int) (wheel : Nat → Option (List (T_clock_Name × Int))) (r : (Nat → Option (List (T_clock_Name × Int))) × (List (T_clock_Name × Int))), clock_New_l0   fuel t6 wheel = some r → kont Try.prog w0 W μ0 (FnPost Try.prog Try.f8 0 2 (clock_New_v r) (clock_New_up  r)) (kAt (bodyOf Try.f8) 0) none (clock_New_T0  t6 wheel) (clock_New_H0  t6 wheel) := by
  intro fuel
  induction fuel with
  | zero => intro t6 wheel r h; rw [clock_New_l0] at h; cases h
  | succ fuel ih =>
    intro t6 wheel r h
    rw [clock_New_l0] at h
    rcases itb_some h with ⟨cL0_1, h⟩ | ⟨cL0_1, h⟩
    · skip
      obtain ⟨gL0_2, h⟩ := guard_some h
      exact run_to mixed hμ (L := [0, 1]) (n := 26) (s := [.go, .reg [(0, hT)], .reg [], .reg [(6, { os := [(0, .vw [.int .u32 0, .map 1] true [.int .u8, .int .u8, .int .u32, .int .u32] 64 (fun q_ => ((fun q_ => if q_ = t6.toNat then some ([] : List (T_clock_Name × Int)) else wheel q_) q_).map (encM v_T_clock_Name (LV.int .u32))) [])] })], .reg []])
        (a_ (f_ cL0_1 tr) (a_ (r2_ tr) (a_ (r1_ (r4_ (a_ (a_ gL0_2 tr) (a_ (a_ (a_ (vwst (off := 2) (n := 64) gL0_2).1 (a_ (vwst (off := 2) (n := 64) gL0_2).2 (a_ (Eq.refl true) (a_ (Eq.refl ([.int .u8, .int .u8, .int .u32, .int .u32] : List CK)) (show 0 ≠ 2 from by decide))))) (a_ (vwset (cs := [.int .u32 0, .map 1]) (ag := true) (ks := [.int .u8, .int .u8, .int .u32, .int .u32]) (n := 64) (off := 2) (encM v_T_clock_Name (LV.int .u32)) wheel t6 ([] : List (T_clock_Name × Int)) rfl) tr)) tr)))) (a_ (r2_ tr) tr)))) (ih _ _ r h) (by kernel_rfl) ⟨⟨rfl, under_no⟩, trivial, trivial⟩
    · skip
      obtain rfl := Option.some.inj h
      exact run_ret mixed (L := [0, 1]) (n := 19) (s := [.go, .reg [(0, hF)], .reg []])
        (a_ (a_ (f_ cL0_1 tr) (a_ (r2_ tr) tr)) tr) (by kernel_rfl) rfl

theorem clock_New_ok  (r : (Nat → Option (List (T_clock_Name × Int))) × (List (T_clock_Name × Int))) (h : clock_New  = some r) : ∀ σ, Inj 2 σ → FnTri Try.prog 8 (renL σ []) (preOf σ 0 []) ((clock_New_v r).ren σ) (upOf σ (clock_New_up  r)) := by
  refine fn_of Try.func8 (by kernel_rfl) (by kernel_rfl) (by kernel_rfl) trivial (by kernel_rfl) ⟨⟨rfl, under_no⟩, trivial, trivial⟩ (by kernel_rfl) ?_
  intro w0 W μ0 hμ
  unfold clock_New at h
  exact run_to mixed hμ (L := [1, 0]) (n := 22) (s := [.reg [], .reg [], .x (.vwn 1 64 true [.int .u8, .int .u8, .int .u32, .int .u32]), .reg []])
    (a_ (r1_ tr) (a_ (r1_ (a_ (a_ (Eq.refl true) tr) (r2_ tr))) (a_ (And.intro (le_ 64 66 rfl) (Eq.refl (List.replicate 64 LV.nilmap))) (a_ (r1_ tr) tr)))) (clock_New_l0_ok hμ   big _ _ r h) (by kernel_rfl) ⟨⟨rfl, under_no⟩, trivial, trivial⟩

/-- (*parrel/clock.Clock).ok -/

def clock_Clock_ok_v (r : Unit) : LV := .bool true

def clock_Clock_ok_up (now : Int) (x_at : List (T_clock_Name × Int)) (wheel : Nat → Option (List (T_clock_Name × Int))) (r : Unit) : Upd := [(0, some (.vw [.int .u32 now, .map 1] true [.int .u8, .int .u8, .int .u32, .int .u32] 64 (fun q_ => (wheel q_).map (encM v_T_clock_Name (LV.int .u32))) [])), (1, some (.map true [.int .u8, .int .u8, .int .u32, .int .u32] (encM v_T_clock_Name (LV.int .u32) x_at)))]

def clock_Clock_ok_objs (now : Int) (x_at : List (T_clock_Name × Int)) (wheel : Nat → Option (List (T_clock_Name × Int))) : List LO := [.vw [.int .u32 now, .map 1] true [.int .u8, .int .u8, .int .u32, .int .u32] 64 (fun q_ => (wheel q_).map (encM v_T_clock_Name (LV.int .u32))) [], .map true [.int .u8, .int .u8, .int .u32, .int .u32] (encM v_T_clock_Name (LV.int .u32) x_at)]

def clock_Clock_ok (now : Int) (x_at : List (T_clock_Name × Int)) (wheel : Nat → Option (List (T_clock_Name × Int))) : Option (Unit) :=
  some ()

theorem clock_Clock_ok_ok (now : Int) (x_at : List (T_clock_Name × Int)) (wheel : Nat → Option (List (T_clock_Name × Int))) (r : Unit) (h : clock_Clock_ok now x_at wheel = some r) : ∀ σ, Inj 2 σ → FnTri Try.prog 26 (renL σ [.ptr 0 0 0]) (preOf σ 0 (clock_Clock_ok_objs now x_at wheel)) ((clock_Clock_ok_v r).ren σ) (upOf σ (clock_Clock_ok_up now x_at wheel r)) := by
  refine fn_of Try.func26 (by kernel_rfl) (by kernel_rfl) (by kernel_rfl) ⟨⟨rfl, under_no⟩, trivial, trivial⟩ (by kernel_rfl) ⟨⟨rfl, under_no⟩, trivial, trivial⟩ (by kernel_rfl) ?_
  intro w0 W μ0 hμ
  unfold clock_Clock_ok at h
  obtain rfl := Option.some.inj h
  exact run_ret mixed (L := []) (n := 15) (s := [.reg [], .reg []])
    (a_ (a_ (r1_ tr) (a_ (r2_ (r4_ (a_ (a_ (lt_ 1 2 rfl) tr) (r1_ (r2_ tr))))) tr)) tr) (by kernel_rfl) rfl

/-- (*parrel/clock.Clock).Until -/

def clock_Clock_Until_v (r : (Int) × (Bool)) : LV := .tup [.int .u32 r.1, .bool r.2]

def clock_Clock_Until_up (now : Int) (x_at : List (T_clock_Name × Int)) (wheel : Nat → Option (List (T_clock_Name × Int))) (x_n : T_clock_Name) (r : (Int) × (Bool)) : Upd := [(0, some (.vw [.int .u32 now, .map 1] true [.int .u8, .int .u8, .int .u32, .int .u32] 64 (fun q_ => (wheel q_).map (encM v_T_clock_Name (LV.int .u32))) [])), (1, some (.map true [.int .u8, .int .u8, .int .u32, .int .u32] (encM v_T_clock_Name (LV.int .u32) x_at)))]

def clock_Clock_Until_objs (now : Int) (x_at : List (T_clock_Name × Int)) (wheel : Nat → Option (List (T_clock_Name × Int))) (x_n : T_clock_Name) : List LO := [.vw [.int .u32 now, .map 1] true [.int .u8, .int .u8, .int .u32, .int .u32] 64 (fun q_ => (wheel q_).map (encM v_T_clock_Name (LV.int .u32))) [], .map true [.int .u8, .int .u8, .int .u32, .int .u32] (encM v_T_clock_Name (LV.int .u32) x_at)]

def clock_Clock_Until (now : Int) (x_at : List (T_clock_Name × Int)) (wheel : Nat → Option (List (T_clock_Name × Int))) (x_n : T_clock_Name) : Option ((Int) × (Bool)) :=
  (clock_Clock_ok now x_at wheel).bind fun y2 =>
  some (((mget x_at x_n).getD default), ((mget x_at x_n).isSome))

theorem clock_Clock_Until_ok (now : Int) (x_at : List (T_clock_Name × Int)) (wheel : Nat → Option (List (T_clock_Name × Int))) (x_n : T_clock_Name) (r : (Int) × (Bool)) (h : clock_Clock_Until now x_at wheel x_n = some r) : ∀ σ, Inj 2 σ → FnTri Try.prog 14 (renL σ [.ptr 0 0 0, v_T_clock_Name x_n]) (preOf σ 0 (clock_Clock_Until_objs now x_at wheel x_n)) ((clock_Clock_Until_v r).ren σ) (upOf σ (clock_Clock_Until_up now x_at wheel x_n r)) := by
  refine fn_of Try.func14 (by kernel_rfl) (by kernel_rfl) (by kernel_rfl) ⟨⟨rfl, under_no⟩, trivial, trivial⟩ (by kernel_rfl) ⟨⟨rfl, under_no⟩, trivial, trivial⟩ (by kernel_rfl) ?_
  intro w0 W μ0 hμ
  unfold clock_Clock_Until at h
  obtain ⟨y2, e1, h⟩ := bind_some h
  obtain rfl := Option.some.inj h
  exact run_ret mixed (L := []) (n := 24) (s := [.reg [], .reg [(1, { call := some ((clock_Clock_ok_v y2).ren (sel [0, 1]), preOf (sel [0, 1]) 0 (clock_Clock_ok_objs now x_at wheel), upOf (sel [0, 1]) (clock_Clock_ok_up now x_at wheel y2)) })], .reg [(5, { look := ((mget x_at x_n).map (LV.int .u32)), v := some (.tup [.int .u32 ((mget x_at x_n).getD default), .bool ((mget x_at x_n).isSome)]) })], .reg []])
    (a_ (a_ (r1_ (r2_ tr)) (a_ (r1_ (a_ (a_ (a_ (clock_Clock_ok_ok now x_at wheel y2 e1 (sel [0, 1]) (sel_inj rfl rfl)) (a_ (Eq.refl (.vw [.int .u32 now, .map 1] true [.int .u8, .int .u8, .int .u32, .int .u32] 64 (fun q_ => (wheel q_).map (encM v_T_clock_Name (LV.int .u32))) [] : LO)) (a_ (LO.Le.refl (.map true [.int .u8, .int .u8, .int .u32, .int .u32] (encM v_T_clock_Name (LV.int .u32) x_at))) tr))) tr) (r1_ tr))) (a_ (r1_ (r2_ (a_ (a_ (lt_ 1 2 rfl) tr) (m_ 4 4 rfl (a_ (a_ (a_ (Eq.refl true) (findE_enc v_T_clock_Name (LV.int .u32) k_T_clock_Name x_at x_n)) (a_ (le_lookok (LV.int .u32) (mget x_at x_n) default) tr)) (r1_ (r4_ tr))))))) (a_ (r4_ tr) tr)))) tr) (by kernel_rfl) rfl

/-- (*parrel/clock.Clock).slot -/

def clock_Clock_slot_v (r : Unit) : LV := .map 1

def clock_Clock_slot_up (j : Int) (es : List (T_clock_Name × Int)) (at_ : Int) (r : Unit) : Upd := []

def clock_Clock_slot_objs (j : Int) (es : List (T_clock_Name × Int)) (at_ : Int) : List LO := [.vwr [.any, .any] 64 [(j.toNat, 1)], .mapR true [.int .u8, .int .u8, .int .u32, .int .u32] (encM v_T_clock_Name (LV.int .u32) es)]

def clock_Clock_slot (j : Int) (es : List (T_clock_Name × Int)) (at_ : Int) : Option (Unit) :=
  if 0 ≤ (Int.tmod at_ 64) ∧ (Int.tmod at_ 64) < 64 then
  if j.toNat = ((Int.tmod at_ 64)).toNat then
  some ()
  else none
  else none

theorem clock_Clock_slot_ok (j : Int) (es : List (T_clock_Name × Int)) (at_ : Int) (r : Unit) (h : clock_Clock_slot j es at_ = some r) : ∀ σ, Inj 2 σ → FnTri Try.prog 28 (renL σ [.ptr 0 0 0, .int .u32 at_]) (preOf σ 0 (clock_Clock_slot_objs j es at_)) ((clock_Clock_slot_v r).ren σ) (upOf σ (clock_Clock_slot_up j es at_ r)) := by
  refine fn_of Try.func28 (by kernel_rfl) (by kernel_rfl) (by kernel_rfl) ⟨⟨rfl, under_opn (lt_ 1 2 rfl)⟩, trivial, trivial⟩ (by kernel_rfl) trivial (by kernel_rfl) ?_
  intro w0 W μ0 hμ
  unfold clock_Clock_slot at h
  obtain ⟨g1, h⟩ := guard_some h
  obtain ⟨g2, h⟩ := guard_some h
  obtain rfl := Option.some.inj h
  exact run_ret mixed (L := []) (n := 15) (s := [.reg [], .reg [(6, { app := 8 })]])
    (a_ (a_ (r1_ tr) (a_ (r2_ (a_ (a_ (ne0 64 rfl) tr) (r2_ (a_ (a_ g1 tr) (a_ (a_ (vwl (off := 2) (n := 64) g2 g1) tr) (r1_ tr)))))) tr)) tr) (by kernel_rfl) rfl

/-- (*parrel/clock.Clock).Stop -/

def clock_Clock_Stop_v (r : (Bool) × (Int) × (Nat → Option (List (T_clock_Name × Int))) × (List (T_clock_Name × Int))) : LV := .bool r.1

def clock_Clock_Stop_up (now : Int) (x_at : List (T_clock_Name × Int)) (wheel : Nat → Option (List (T_clock_Name × Int))) (x_n : T_clock_Name) (r : (Bool) × (Int) × (Nat → Option (List (T_clock_Name × Int))) × (List (T_clock_Name × Int))) : Upd := [(0, some (.vw [.int .u32 r.2.1, .map 1] true [.int .u8, .int .u8, .int .u32, .int .u32] 64 (fun q_ => (r.2.2.1 q_).map (encM v_T_clock_Name (LV.int .u32))) [])), (1, some (.map true [.int .u8, .int .u8, .int .u32, .int .u32] (encM v_T_clock_Name (LV.int .u32) r.2.2.2)))]

def clock_Clock_Stop_objs (now : Int) (x_at : List (T_clock_Name × Int)) (wheel : Nat → Option (List (T_clock_Name × Int))) (x_n : T_clock_Name) : List LO := [.vw [.int .u32 now, .map 1] true [.int .u8, .int .u8, .int .u32, .int .u32] 64 (fun q_ => (wheel q_).map (encM v_T_clock_Name (LV.int .u32))) [], .map true [.int .u8, .int .u8, .int .u32, .int .u32] (encM v_T_clock_Name (LV.int .u32) x_at)]

def clock_Clock_Stop (now : Int) (x_at : List (T_clock_Name × Int)) (wheel : Nat → Option (List (T_clock_Name × Int))) (x_n : T_clock_Name) : Option ((Bool) × (Int) × (Nat → Option (List (T_clock_Name × Int))) × (List (T_clock_Name × Int))) :=
  (clock_Clock_Until now x_at wheel x_n).bind fun y2 =>
  if (y2.2 : Bool) then
    if 0 ≤ (Int.tmod y2.1 64) ∧ (Int.tmod y2.1 64) < 64 then
    (wheel ((Int.tmod y2.1 64)).toNat).bind fun y5 =>
    (clock_Clock_slot (Int.tmod y2.1 64) y5 y2.1).bind fun y8 =>
    some (y2.2, now, (fun q_ => if q_ = ((Int.tmod y2.1 64)).toNat then some (mdel y5 x_n) else wheel q_), (mdel x_at x_n))
    else none
  else
    some (y2.2, now, wheel, x_at)

theorem clock_Clock_Stop_ok (now : Int) (x_at : List (T_clock_Name × Int)) (wheel : Nat → Option (List (T_clock_Name × Int))) (x_n : T_clock_Name) (r : (Bool) × (Int) × (Nat → Option (List (T_clock_Name × Int))) × (List (T_clock_Name × Int))) (h : clock_Clock_Stop now x_at wheel x_n = some r) : ∀ σ, Inj 2 σ → FnTri Try.prog 17 (renL σ [.ptr 0 0 0, v_T_clock_Name x_n]) (preOf σ 0 (clock_Clock_Stop_objs now x_at wheel x_n)) ((clock_Clock_Stop_v r).ren σ) (upOf σ (clock_Clock_Stop_up now x_at wheel x_n r)) := by
  refine fn_of Try.func17 (by kernel_rfl) (by kernel_rfl) (by kernel_rfl) ⟨⟨rfl, under_no⟩, trivial, trivial⟩ (by kernel_rfl) ⟨⟨rfl, under_no⟩, trivial, trivial⟩ (by kernel_rfl) ?_
  intro w0 W μ0 hμ
  unfold clock_Clock_Stop at h
  obtain ⟨y2, e1, h⟩ := bind_some h
  rcases itb_some h with ⟨c3, h⟩ | ⟨c3, h⟩
  · skip
    obtain ⟨g4, h⟩ := guard_some h
    obtain ⟨y5, e6, h⟩ := bind_some h
    obtain ⟨y8, e7, h⟩ := bind_some h
    obtain rfl := Option.some.inj h
    exact run_ret mixed (L := []) (n := 31) (s := [.reg [], .reg [(2, { call := some ((clock_Clock_Until_v y2).ren (sel [0, 1]), preOf (sel [0, 1]) 0 (clock_Clock_Until_objs now x_at wheel x_n), upOf (sel [0, 1]) (clock_Clock_Until_up now x_at wheel x_n y2)) })], .reg [(0, hT)], .reg [(5, { os := [(1, .map true [.int .u8, .int .u8, .int .u32, .int .u32] (encM v_T_clock_Name (LV.int .u32) (mdel x_at x_n)))] })], .x (.vwo 0 ((Int.tmod y2.1 64)).toNat (encM v_T_clock_Name (LV.int .u32) y5)), .reg [(2, { call := some ((clock_Clock_slot_v y8).ren (sel [0, 3]), preOf (sel [0, 3]) 0 (clock_Clock_slot_objs (Int.tmod y2.1 64) y5 y2.1), upOf (sel [0, 3]) (clock_Clock_slot_up (Int.tmod y2.1 64) y5 y2.1 y8)) }), (4, { os := [(3, .map true [.int .u8, .int .u8, .int .u32, .int .u32] (encM v_T_clock_Name (LV.int .u32) (mdel y5 x_n)))] })], .x (.vwc 0), .x (.vww 0 (fun q_ => ((fun q_ => if q_ = ((Int.tmod y2.1 64)).toNat then some (mdel y5 x_n) else wheel q_) q_).map (encM v_T_clock_Name (LV.int .u32)))), .reg []])
      (a_ (a_ (r2_ tr) (a_ (r1_ (m_ 4 4 rfl (a_ (a_ (a_ (clock_Clock_Until_ok now x_at wheel x_n y2 e1 (sel [0, 1]) (sel_inj rfl rfl)) (a_ (Eq.refl (.vw [.int .u32 now, .map 1] true [.int .u8, .int .u8, .int .u32, .int .u32] 64 (fun q_ => (wheel q_).map (encM v_T_clock_Name (LV.int .u32))) [] : LO)) (a_ (LO.Le.refl (.map true [.int .u8, .int .u8, .int .u32, .int .u32] (encM v_T_clock_Name (LV.int .u32) x_at))) tr))) tr) (r1_ (r4_ tr))))) (a_ (f_ c3 tr) (a_ (r1_ (r2_ (a_ (a_ (lt_ 1 2 rfl) tr) (m_ 4 4 rfl (a_ (a_ (Eq.refl true) (a_ (sub_del v_T_clock_Name (LV.int .u32) k_T_clock_Name true [.int .u8, .int .u8, .int .u32, .int .u32] x_at x_n) tr)) tr))))) (a_ (a_ (vwlt (n := 64) g4) (vwget (f := encM v_T_clock_Name (LV.int .u32)) e6)) (a_ (r2_ (a_ (a_ (a_ (clock_Clock_slot_ok (Int.tmod y2.1 64) y5 y2.1 y8 e7 (sel [0, 3]) (sel_inj rfl rfl)) (a_ (le_vwr (cs := [.int .u32 now, .map 1]) (ds := [.any, .any]) (ag := true) (ks := [.int .u8, .int .u8, .int .u32, .int .u32]) (n := 64) (W := (fun q_ => (wheel q_).map (encM v_T_clock_Name (LV.int .u32)))) (opn := [(((Int.tmod y2.1 64)).toNat, 3)]) (a_ (le_any (.int .u32 now)) (a_ (le_any (.map 1)) tr))) (a_ (le_mapR (ag := true) (ks := [.int .u8, .int .u8, .int .u32, .int .u32]) (es := encM v_T_clock_Name (LV.int .u32) y5)) tr))) tr) (m_ 4 4 rfl (a_ (a_ (Eq.refl true) (a_ (sub_del v_T_clock_Name (LV.int .u32) k_T_clock_Name true [.int .u8, .int .u8, .int .u32, .int .u32] y5 x_n) tr)) tr)))) (a_ (a_ (vwlt (n := 64) g4) (a_ (Eq.refl true) (a_ (Eq.refl ([.int .u8, .int .u8, .int .u32, .int .u32] : List CK)) (show 0 ≠ 3 from by decide)))) (a_ (fun (q_ : Nat) (_ : q_ < 64) => vwput (encM v_T_clock_Name (LV.int .u32)) wheel ((Int.tmod y2.1 64)).toNat (mdel y5 x_n) q_) (a_ (r2_ tr) tr))))))))) tr) (by kernel_rfl) rfl
  · skip
    obtain rfl := Option.some.inj h
    exact run_ret mixed (L := []) (n := 24) (s := [.reg [], .reg [(2, { call := some ((clock_Clock_Until_v y2).ren (sel [0, 1]), preOf (sel [0, 1]) 0 (clock_Clock_Until_objs now x_at wheel x_n), upOf (sel [0, 1]) (clock_Clock_Until_up now x_at wheel x_n y2)) })], .reg [(0, hF)], .reg []])
      (a_ (a_ (r2_ tr) (a_ (r1_ (m_ 4 4 rfl (a_ (a_ (a_ (clock_Clock_Until_ok now x_at wheel x_n y2 e1 (sel [0, 1]) (sel_inj rfl rfl)) (a_ (Eq.refl (.vw [.int .u32 now, .map 1] true [.int .u8, .int .u8, .int .u32, .int .u32] 64 (fun q_ => (wheel q_).map (encM v_T_clock_Name (LV.int .u32))) [] : LO)) (a_ (LO.Le.refl (.map true [.int .u8, .int .u8, .int .u32, .int .u32] (encM v_T_clock_Name (LV.int .u32) x_at))) tr))) tr) (r1_ (r4_ tr))))) (a_ (f_ c3 tr) (a_ (r2_ tr) tr)))) tr) (by kernel_rfl) rfl

/-- (*parrel/clock.Clock).Set -/

def clock_Clock_Set_v (r : (Int) × (Int) × (Nat → Option (List (T_clock_Name × Int))) × (List (T_clock_Name × Int))) : LV := .int .i64 r.1

def clock_Clock_Set_up (now : Int) (x_at : List (T_clock_Name × Int)) (wheel : Nat → Option (List (T_clock_Name × Int))) (x_n : T_clock_Name) (after : Int) (r : (Int) × (Int) × (Nat → Option (List (T_clock_Name × Int))) × (List (T_clock_Name × Int))) : Upd := [(0, some (.vw [.int .u32 r.2.1, .map 1] true [.int .u8, .int .u8, .int .u32, .int .u32] 64 (fun q_ => (r.2.2.1 q_).map (encM v_T_clock_Name (LV.int .u32))) [])), (1, some (.map true [.int .u8, .int .u8, .int .u32, .int .u32] (encM v_T_clock_Name (LV.int .u32) r.2.2.2)))]

def clock_Clock_Set_objs (now : Int) (x_at : List (T_clock_Name × Int)) (wheel : Nat → Option (List (T_clock_Name × Int))) (x_n : T_clock_Name) (after : Int) : List LO := [.vw [.int .u32 now, .map 1] true [.int .u8, .int .u8, .int .u32, .int .u32] 64 (fun q_ => (wheel q_).map (encM v_T_clock_Name (LV.int .u32))) [], .map true [.int .u8, .int .u8, .int .u32, .int .u32] (encM v_T_clock_Name (LV.int .u32) x_at)]

def clock_Clock_Set (now : Int) (x_at : List (T_clock_Name × Int)) (wheel : Nat → Option (List (T_clock_Name × Int))) (x_n : T_clock_Name) (after : Int) : Option ((Int) × (Int) × (Nat → Option (List (T_clock_Name × Int))) × (List (T_clock_Name × Int))) :=
  (clock_Clock_Until now x_at wheel x_n).bind fun y2 =>
  (clock_Clock_ok now x_at wheel).bind fun y4 =>
  if ((after == 0) : Bool) then
    some (1, now, wheel, x_at)
  else
    if ((decide ((IntKind.wrap .u32 (2147483647 - now)) < after)) : Bool) then
      some (17, now, wheel, x_at)
    else
      if ((!y2.2) : Bool) then
        if ((((x_at).length : Int) == 1024) : Bool) then
          some (5, now, wheel, x_at)
        else
          (clock_Clock_Stop now x_at wheel x_n).bind fun y10 =>
          if 0 ≤ (Int.tmod (IntKind.wrap .u32 (y10.2.1 + after)) 64) ∧ (Int.tmod (IntKind.wrap .u32 (y10.2.1 + after)) 64) < 64 then
          (y10.2.2.1 ((Int.tmod (IntKind.wrap .u32 (y10.2.1 + after)) 64)).toNat).bind fun y12 =>
          (clock_Clock_slot (Int.tmod (IntKind.wrap .u32 (y10.2.1 + after)) 64) y12 (IntKind.wrap .u32 (y10.2.1 + after))).bind fun y15 =>
          some (0, y10.2.1, (fun q_ => if q_ = ((Int.tmod (IntKind.wrap .u32 (y10.2.1 + after)) 64)).toNat then some (mset y12 x_n (IntKind.wrap .u32 (y10.2.1 + after))) else y10.2.2.1 q_), (mset y10.2.2.2 x_n (IntKind.wrap .u32 (y10.2.1 + after))))
          else none
      else
        (clock_Clock_Stop now x_at wheel x_n).bind fun y9 =>
        if 0 ≤ (Int.tmod (IntKind.wrap .u32 (y9.2.1 + after)) 64) ∧ (Int.tmod (IntKind.wrap .u32 (y9.2.1 + after)) 64) < 64 then
        (y9.2.2.1 ((Int.tmod (IntKind.wrap .u32 (y9.2.1 + after)) 64)).toNat).bind fun y11 =>
        (clock_Clock_slot (Int.tmod (IntKind.wrap .u32 (y9.2.1 + after)) 64) y11 (IntKind.wrap .u32 (y9.2.1 + after))).bind fun y14 =>
        some (0, y9.2.1, (fun q_ => if q_ = ((Int.tmod (IntKind.wrap .u32 (y9.2.1 + after)) 64)).toNat then some (mset y11 x_n (IntKind.wrap .u32 (y9.2.1 + after))) else y9.2.2.1 q_), (mset y9.2.2.2 x_n (IntKind.wrap .u32 (y9.2.1 + after))))
        else none

theorem clock_Clock_Set_ok (now : Int) (x_at : List (T_clock_Name × Int)) (wheel : Nat → Option (List (T_clock_Name × Int))) (x_n : T_clock_Name) (after : Int) (r : (Int) × (Int) × (Nat → Option (List (T_clock_Name × Int))) × (List (T_clock_Name × Int))) (h : clock_Clock_Set now x_at wheel x_n after = some r) : ∀ σ, Inj 2 σ → FnTri Try.prog 11 (renL σ [.ptr 0 0 0, v_T_clock_Name x_n, .int .u32 after]) (preOf σ 0 (clock_Clock_Set_objs now x_at wheel x_n after)) ((clock_Clock_Set_v r).ren σ) (upOf σ (clock_Clock_Set_up now x_at wheel x_n after r)) := by
  refine fn_of Try.func11 (by kernel_rfl) (by kernel_rfl) (by kernel_rfl) ⟨⟨rfl, under_no⟩, trivial, trivial⟩ (by kernel_rfl) ⟨⟨rfl, under_no⟩, trivial, trivial⟩ (by kernel_rfl) ?_
  intro w0 W μ0 hμ
  unfold clock_Clock_Set at h
  obtain ⟨y2, e1, h⟩ := bind_some h
  obtain ⟨y4, e3, h⟩ := bind_some h
  rcases itb_some h with ⟨c5, h⟩ | ⟨c5, h⟩
  · skip
    obtain rfl := Option.some.inj h
    exact run_ret mixed (L := []) (n := 28) (s := [.reg [], .reg [(2, { call := some ((clock_Clock_Until_v y2).ren (sel [0, 1]), preOf (sel [0, 1]) 0 (clock_Clock_Until_objs now x_at wheel x_n), upOf (sel [0, 1]) (clock_Clock_Until_up now x_at wheel x_n y2)) })], .reg [(1, { call := some ((clock_Clock_ok_v y4).ren (sel [0, 1]), preOf (sel [0, 1]) 0 (clock_Clock_ok_objs now x_at wheel), upOf (sel [0, 1]) (clock_Clock_ok_up now x_at wheel y4)) })], .reg [(2, hT)], .reg []])
      (a_ (a_ (r2_ tr) (a_ (r1_ (m_ 4 4 rfl (a_ (a_ (a_ (clock_Clock_Until_ok now x_at wheel x_n y2 e1 (sel [0, 1]) (sel_inj rfl rfl)) (a_ (Eq.refl (.vw [.int .u32 now, .map 1] true [.int .u8, .int .u8, .int .u32, .int .u32] 64 (fun q_ => (wheel q_).map (encM v_T_clock_Name (LV.int .u32))) [] : LO)) (a_ (LO.Le.refl (.map true [.int .u8, .int .u8, .int .u32, .int .u32] (encM v_T_clock_Name (LV.int .u32) x_at))) tr))) tr) (r1_ (r4_ tr))))) (a_ (r1_ (a_ (a_ (a_ (clock_Clock_ok_ok now x_at wheel y4 e3 (sel [0, 1]) (sel_inj rfl rfl)) (a_ (Eq.refl (.vw [.int .u32 now, .map 1] true [.int .u8, .int .u8, .int .u32, .int .u32] 64 (fun q_ => (wheel q_).map (encM v_T_clock_Name (LV.int .u32))) [] : LO)) (a_ (LO.Le.refl (.map true [.int .u8, .int .u8, .int .u32, .int .u32] (encM v_T_clock_Name (LV.int .u32) x_at))) tr))) tr) (r2_ tr))) (a_ (r2_ (f_ c5 tr)) (a_ (r1_ tr) tr))))) tr) (by kernel_rfl) rfl
  · skip
    rcases itb_some h with ⟨c6, h⟩ | ⟨c6, h⟩
    · skip
      obtain rfl := Option.some.inj h
      exact run_ret mixed (L := []) (n := 32) (s := [.reg [], .reg [(2, { call := some ((clock_Clock_Until_v y2).ren (sel [0, 1]), preOf (sel [0, 1]) 0 (clock_Clock_Until_objs now x_at wheel x_n), upOf (sel [0, 1]) (clock_Clock_Until_up now x_at wheel x_n y2)) })], .reg [(1, { call := some ((clock_Clock_ok_v y4).ren (sel [0, 1]), preOf (sel [0, 1]) 0 (clock_Clock_ok_objs now x_at wheel), upOf (sel [0, 1]) (clock_Clock_ok_up now x_at wheel y4)) })], .reg [(2, hF)], .reg [(7, hT)], .reg []])
        (a_ (a_ (r2_ tr) (a_ (r1_ (m_ 4 4 rfl (a_ (a_ (a_ (clock_Clock_Until_ok now x_at wheel x_n y2 e1 (sel [0, 1]) (sel_inj rfl rfl)) (a_ (Eq.refl (.vw [.int .u32 now, .map 1] true [.int .u8, .int .u8, .int .u32, .int .u32] 64 (fun q_ => (wheel q_).map (encM v_T_clock_Name (LV.int .u32))) [] : LO)) (a_ (LO.Le.refl (.map true [.int .u8, .int .u8, .int .u32, .int .u32] (encM v_T_clock_Name (LV.int .u32) x_at))) tr))) tr) (r1_ (r4_ tr))))) (a_ (r1_ (a_ (a_ (a_ (clock_Clock_ok_ok now x_at wheel y4 e3 (sel [0, 1]) (sel_inj rfl rfl)) (a_ (Eq.refl (.vw [.int .u32 now, .map 1] true [.int .u8, .int .u8, .int .u32, .int .u32] 64 (fun q_ => (wheel q_).map (encM v_T_clock_Name (LV.int .u32))) [] : LO)) (a_ (LO.Le.refl (.map true [.int .u8, .int .u8, .int .u32, .int .u32] (encM v_T_clock_Name (LV.int .u32) x_at))) tr))) tr) (r2_ tr))) (a_ (r2_ (f_ c5 tr)) (a_ (r4_ (a_ (a_ (lt_ 0 2 rfl) tr) (r2_ (f_ c6 tr)))) (a_ (r1_ tr) tr)))))) tr) (by kernel_rfl) rfl
    · skip
      rcases itb_some h with ⟨c7, h⟩ | ⟨c7, h⟩
      · skip
        rcases itb_some h with ⟨c8, h⟩ | ⟨c8, h⟩
        · skip
          obtain rfl := Option.some.inj h
          exact run_ret mixed (L := []) (n := 36) (s := [.reg [], .reg [(2, { call := some ((clock_Clock_Until_v y2).ren (sel [0, 1]), preOf (sel [0, 1]) 0 (clock_Clock_Until_objs now x_at wheel x_n), upOf (sel [0, 1]) (clock_Clock_Until_up now x_at wheel x_n y2)) })], .reg [(1, { call := some ((clock_Clock_ok_v y4).ren (sel [0, 1]), preOf (sel [0, 1]) 0 (clock_Clock_ok_objs now x_at wheel), upOf (sel [0, 1]) (clock_Clock_ok_up now x_at wheel y4)) })], .reg [(2, hF)], .reg [(7, hF)], .reg [(2, hT), (7, { v := some (.int .i64 ((x_at).length : Int)) }), (10, hT)], .reg []])
            (a_ (a_ (r2_ tr) (a_ (r1_ (m_ 4 4 rfl (a_ (a_ (a_ (clock_Clock_Until_ok now x_at wheel x_n y2 e1 (sel [0, 1]) (sel_inj rfl rfl)) (a_ (Eq.refl (.vw [.int .u32 now, .map 1] true [.int .u8, .int .u8, .int .u32, .int .u32] 64 (fun q_ => (wheel q_).map (encM v_T_clock_Name (LV.int .u32))) [] : LO)) (a_ (LO.Le.refl (.map true [.int .u8, .int .u8, .int .u32, .int .u32] (encM v_T_clock_Name (LV.int .u32) x_at))) tr))) tr) (r1_ (r4_ tr))))) (a_ (r1_ (a_ (a_ (a_ (clock_Clock_ok_ok now x_at wheel y4 e3 (sel [0, 1]) (sel_inj rfl rfl)) (a_ (Eq.refl (.vw [.int .u32 now, .map 1] true [.int .u8, .int .u8, .int .u32, .int .u32] 64 (fun q_ => (wheel q_).map (encM v_T_clock_Name (LV.int .u32))) [] : LO)) (a_ (LO.Le.refl (.map true [.int .u8, .int .u8, .int .u32, .int .u32] (encM v_T_clock_Name (LV.int .u32) x_at))) tr))) tr) (r2_ tr))) (a_ (r2_ (f_ c5 tr)) (a_ (r4_ (a_ (a_ (lt_ 0 2 rfl) tr) (r2_ (f_ c6 tr)))) (a_ (r2_ (f_ c7 (r1_ (r2_ (a_ (a_ (lt_ 1 2 rfl) tr) (a_ (a_ tr (a_ (le_maplen v_T_clock_Name (LV.int .u32) x_at) tr)) (r2_ (f_ c8 tr)))))))) (a_ (r1_ tr) tr))))))) tr) (by kernel_rfl) rfl
        · skip
          obtain ⟨y10, e9, h⟩ := bind_some h
          obtain ⟨g11, h⟩ := guard_some h
          obtain ⟨y12, e13, h⟩ := bind_some h
          obtain ⟨y15, e14, h⟩ := bind_some h
          obtain rfl := Option.some.inj h
          exact run_ret mixed (L := []) (n := 51) (s := [.reg [], .reg [(2, { call := some ((clock_Clock_Until_v y2).ren (sel [0, 1]), preOf (sel [0, 1]) 0 (clock_Clock_Until_objs now x_at wheel x_n), upOf (sel [0, 1]) (clock_Clock_Until_up now x_at wheel x_n y2)) })], .reg [(1, { call := some ((clock_Clock_ok_v y4).ren (sel [0, 1]), preOf (sel [0, 1]) 0 (clock_Clock_ok_objs now x_at wheel), upOf (sel [0, 1]) (clock_Clock_ok_up now x_at wheel y4)) })], .reg [(2, hF)], .reg [(7, hF)], .reg [(2, hT), (7, { v := some (.int .i64 ((x_at).length : Int)) }), (10, hF)], .reg [(2, { call := some ((clock_Clock_Stop_v y10).ren (sel [0, 1]), preOf (sel [0, 1]) 0 (clock_Clock_Stop_objs now x_at wheel x_n), upOf (sel [0, 1]) (clock_Clock_Stop_up now x_at wheel x_n y10)) })], .reg [], .wk [] [(1, .mapP true [.int .u8, .int .u8, .int .u32, .int .u32] (encM v_T_clock_Name (LV.int .u32) y10.2.2.2) (v_T_clock_Name x_n) (.int .u32 0))], .x (.vwo 0 ((Int.tmod (IntKind.wrap .u32 (y10.2.1 + after)) 64)).toNat (encM v_T_clock_Name (LV.int .u32) y12)), .reg [(7, { call := some ((clock_Clock_slot_v y15).ren (sel [0, 3]), preOf (sel [0, 3]) 0 (clock_Clock_slot_objs (Int.tmod (IntKind.wrap .u32 (y10.2.1 + after)) 64) y12 (IntKind.wrap .u32 (y10.2.1 + after))), upOf (sel [0, 3]) (clock_Clock_slot_up (Int.tmod (IntKind.wrap .u32 (y10.2.1 + after)) 64) y12 (IntKind.wrap .u32 (y10.2.1 + after)) y15)) }), (11, { soft := some 1 }), (13, { os := [(1, .map true [.int .u8, .int .u8, .int .u32, .int .u32] (encM v_T_clock_Name (LV.int .u32) (mset y10.2.2.2 x_n (IntKind.wrap .u32 (y10.2.1 + after)))))] }), (14, { os := [(3, .map true [.int .u8, .int .u8, .int .u32, .int .u32] (encM v_T_clock_Name (LV.int .u32) (mset y12 x_n (IntKind.wrap .u32 (y10.2.1 + after)))))] })], .x (.vwc 0), .x (.vww 0 (fun q_ => ((fun q_ => if q_ = ((Int.tmod (IntKind.wrap .u32 (y10.2.1 + after)) 64)).toNat then some (mset y12 x_n (IntKind.wrap .u32 (y10.2.1 + after))) else y10.2.2.1 q_) q_).map (encM v_T_clock_Name (LV.int .u32)))), .reg []])
            (a_ (a_ (r2_ tr) (a_ (r1_ (m_ 4 4 rfl (a_ (a_ (a_ (clock_Clock_Until_ok now x_at wheel x_n y2 e1 (sel [0, 1]) (sel_inj rfl rfl)) (a_ (Eq.refl (.vw [.int .u32 now, .map 1] true [.int .u8, .int .u8, .int .u32, .int .u32] 64 (fun q_ => (wheel q_).map (encM v_T_clock_Name (LV.int .u32))) [] : LO)) (a_ (LO.Le.refl (.map true [.int .u8, .int .u8, .int .u32, .int .u32] (encM v_T_clock_Name (LV.int .u32) x_at))) tr))) tr) (r1_ (r4_ tr))))) (a_ (r1_ (a_ (a_ (a_ (clock_Clock_ok_ok now x_at wheel y4 e3 (sel [0, 1]) (sel_inj rfl rfl)) (a_ (Eq.refl (.vw [.int .u32 now, .map 1] true [.int .u8, .int .u8, .int .u32, .int .u32] 64 (fun q_ => (wheel q_).map (encM v_T_clock_Name (LV.int .u32))) [] : LO)) (a_ (LO.Le.refl (.map true [.int .u8, .int .u8, .int .u32, .int .u32] (encM v_T_clock_Name (LV.int .u32) x_at))) tr))) tr) (r2_ tr))) (a_ (r2_ (f_ c5 tr)) (a_ (r4_ (a_ (a_ (lt_ 0 2 rfl) tr) (r2_ (f_ c6 tr)))) (a_ (r2_ (f_ c7 (r1_ (r2_ (a_ (a_ (lt_ 1 2 rfl) tr) (a_ (a_ tr (a_ (le_maplen v_T_clock_Name (LV.int .u32) x_at) tr)) (r2_ (f_ c8 tr)))))))) (a_ (r1_ (m_ 4 4 rfl (a_ (a_ (a_ (clock_Clock_Stop_ok now x_at wheel x_n y10 e9 (sel [0, 1]) (sel_inj rfl rfl)) (a_ (Eq.refl (.vw [.int .u32 now, .map 1] true [.int .u8, .int .u8, .int .u32, .int .u32] 64 (fun q_ => (wheel q_).map (encM v_T_clock_Name (LV.int .u32))) [] : LO)) (a_ (LO.Le.refl (.map true [.int .u8, .int .u8, .int .u32, .int .u32] (encM v_T_clock_Name (LV.int .u32) x_at))) tr))) tr) tr))) (a_ (r1_ (r2_ (a_ (a_ (lt_ 0 2 rfl) tr) (r1_ (r2_ tr))))) (a_ (a_ tr (a_ (sub_begin true [.int .u8, .int .u8, .int .u32, .int .u32] (encM v_T_clock_Name (LV.int .u32) y10.2.2.2) (v_T_clock_Name x_n) (.int .u32 0)) tr)) (a_ (a_ (vwlt (n := 64) g11) (vwget (f := encM v_T_clock_Name (LV.int .u32)) e13)) (a_ (a_ (r1_ (r2_ (a_ (a_ (lt_ 1 2 rfl) tr) (m_ 4 4 rfl (r2_ (a_ (a_ (a_ (clock_Clock_slot_ok (Int.tmod (IntKind.wrap .u32 (y10.2.1 + after)) 64) y12 (IntKind.wrap .u32 (y10.2.1 + after)) y15 e14 (sel [0, 3]) (sel_inj rfl rfl)) (a_ (le_vwr (cs := [.int .u32 y10.2.1, .map 1]) (ds := [.any, .any]) (ag := true) (ks := [.int .u8, .int .u8, .int .u32, .int .u32]) (n := 64) (W := (fun q_ => (y10.2.2.1 q_).map (encM v_T_clock_Name (LV.int .u32)))) (opn := [(((Int.tmod (IntKind.wrap .u32 (y10.2.1 + after)) 64)).toNat, 3)]) (a_ (le_any (.int .u32 y10.2.1)) (a_ (le_any (.map 1)) tr))) (a_ (le_mapR (ag := true) (ks := [.int .u8, .int .u8, .int .u32, .int .u32]) (es := encM v_T_clock_Name (LV.int .u32) y12)) tr))) tr) (m_ 4 4 rfl (r2_ (a_ (a_ (a_ (Eq.refl true) (a_ (Eq.refl true) (a_ (eqk_self v_T_clock_Name k_T_clock_Name x_n) (a_ (Eq.refl (v_T_clock_Name x_n)) (Eq.refl (.int .u32 0 : LV)))))) tr) (r1_ (a_ (a_ (a_ (Eq.refl true) (eqk_self v_T_clock_Name k_T_clock_Name x_n)) (a_ (sub_upd v_T_clock_Name (LV.int .u32) k_T_clock_Name true [.int .u8, .int .u8, .int .u32, .int .u32] y10.2.2.2 x_n (IntKind.wrap .u32 (y10.2.1 + after))) tr)) (a_ (a_ (a_ (Eq.refl true) (Eq.refl true)) (a_ (sub_upd v_T_clock_Name (LV.int .u32) k_T_clock_Name true [.int .u8, .int .u8, .int .u32, .int .u32] y12 x_n (IntKind.wrap .u32 (y10.2.1 + after))) tr)) tr)))))))))))) (sub_begun true [.int .u8, .int .u8, .int .u32, .int .u32] (encM v_T_clock_Name (LV.int .u32) y10.2.2.2) (v_T_clock_Name x_n) (.int .u32 0 : LV) 4)) (a_ (a_ (vwlt (n := 64) g11) (a_ (Eq.refl true) (a_ (Eq.refl ([.int .u8, .int .u8, .int .u32, .int .u32] : List CK)) (show 0 ≠ 3 from by decide)))) (a_ (fun (q_ : Nat) (_ : q_ < 64) => vwput (encM v_T_clock_Name (LV.int .u32)) y10.2.2.1 ((Int.tmod (IntKind.wrap .u32 (y10.2.1 + after)) 64)).toNat (mset y12 x_n (IntKind.wrap .u32 (y10.2.1 + after))) q_) (a_ (r1_ tr) tr)))))))))))))) tr) (by kernel_rfl) rfl
      · skip
        obtain ⟨y9, e8, h⟩ := bind_some h
        obtain ⟨g10, h⟩ := guard_some h
        obtain ⟨y11, e12, h⟩ := bind_some h
        obtain ⟨y14, e13, h⟩ := bind_some h
        obtain rfl := Option.some.inj h
        exact run_ret mixed (L := []) (n := 51) (s := [.reg [], .reg [(2, { call := some ((clock_Clock_Until_v y2).ren (sel [0, 1]), preOf (sel [0, 1]) 0 (clock_Clock_Until_objs now x_at wheel x_n), upOf (sel [0, 1]) (clock_Clock_Until_up now x_at wheel x_n y2)) })], .reg [(1, { call := some ((clock_Clock_ok_v y4).ren (sel [0, 1]), preOf (sel [0, 1]) 0 (clock_Clock_ok_objs now x_at wheel), upOf (sel [0, 1]) (clock_Clock_ok_up now x_at wheel y4)) })], .reg [(2, hF)], .reg [(7, hF)], .reg [(2, hF)], .reg [(2, { call := some ((clock_Clock_Stop_v y9).ren (sel [0, 1]), preOf (sel [0, 1]) 0 (clock_Clock_Stop_objs now x_at wheel x_n), upOf (sel [0, 1]) (clock_Clock_Stop_up now x_at wheel x_n y9)) })], .reg [], .wk [] [(1, .mapP true [.int .u8, .int .u8, .int .u32, .int .u32] (encM v_T_clock_Name (LV.int .u32) y9.2.2.2) (v_T_clock_Name x_n) (.int .u32 0))], .x (.vwo 0 ((Int.tmod (IntKind.wrap .u32 (y9.2.1 + after)) 64)).toNat (encM v_T_clock_Name (LV.int .u32) y11)), .reg [(7, { call := some ((clock_Clock_slot_v y14).ren (sel [0, 3]), preOf (sel [0, 3]) 0 (clock_Clock_slot_objs (Int.tmod (IntKind.wrap .u32 (y9.2.1 + after)) 64) y11 (IntKind.wrap .u32 (y9.2.1 + after))), upOf (sel [0, 3]) (clock_Clock_slot_up (Int.tmod (IntKind.wrap .u32 (y9.2.1 + after)) 64) y11 (IntKind.wrap .u32 (y9.2.1 + after)) y14)) }), (11, { soft := some 1 }), (13, { os := [(1, .map true [.int .u8, .int .u8, .int .u32, .int .u32] (encM v_T_clock_Name (LV.int .u32) (mset y9.2.2.2 x_n (IntKind.wrap .u32 (y9.2.1 + after)))))] }), (14, { os := [(3, .map true [.int .u8, .int .u8, .int .u32, .int .u32] (encM v_T_clock_Name (LV.int .u32) (mset y11 x_n (IntKind.wrap .u32 (y9.2.1 + after)))))] })], .x (.vwc 0), .x (.vww 0 (fun q_ => ((fun q_ => if q_ = ((Int.tmod (IntKind.wrap .u32 (y9.2.1 + after)) 64)).toNat then some (mset y11 x_n (IntKind.wrap .u32 (y9.2.1 + after))) else y9.2.2.1 q_) q_).map (encM v_T_clock_Name (LV.int .u32)))), .reg []])
          (a_ (a_ (r2_ tr) (a_ (r1_ (m_ 4 4 rfl (a_ (a_ (a_ (clock_Clock_Until_ok now x_at wheel x_n y2 e1 (sel [0, 1]) (sel_inj rfl rfl)) (a_ (Eq.refl (.vw [.int .u32 now, .map 1] true [.int .u8, .int .u8, .int .u32, .int .u32] 64 (fun q_ => (wheel q_).map (encM v_T_clock_Name (LV.int .u32))) [] : LO)) (a_ (LO.Le.refl (.map true [.int .u8, .int .u8, .int .u32, .int .u32] (encM v_T_clock_Name (LV.int .u32) x_at))) tr))) tr) (r1_ (r4_ tr))))) (a_ (r1_ (a_ (a_ (a_ (clock_Clock_ok_ok now x_at wheel y4 e3 (sel [0, 1]) (sel_inj rfl rfl)) (a_ (Eq.refl (.vw [.int .u32 now, .map 1] true [.int .u8, .int .u8, .int .u32, .int .u32] 64 (fun q_ => (wheel q_).map (encM v_T_clock_Name (LV.int .u32))) [] : LO)) (a_ (LO.Le.refl (.map true [.int .u8, .int .u8, .int .u32, .int .u32] (encM v_T_clock_Name (LV.int .u32) x_at))) tr))) tr) (r2_ tr))) (a_ (r2_ (f_ c5 tr)) (a_ (r4_ (a_ (a_ (lt_ 0 2 rfl) tr) (r2_ (f_ c6 tr)))) (a_ (r2_ (f_ c7 (t2_ (t4_ (r2_ tr))))) (a_ (r1_ (m_ 4 4 rfl (a_ (a_ (a_ (clock_Clock_Stop_ok now x_at wheel x_n y9 e8 (sel [0, 1]) (sel_inj rfl rfl)) (a_ (Eq.refl (.vw [.int .u32 now, .map 1] true [.int .u8, .int .u8, .int .u32, .int .u32] 64 (fun q_ => (wheel q_).map (encM v_T_clock_Name (LV.int .u32))) [] : LO)) (a_ (LO.Le.refl (.map true [.int .u8, .int .u8, .int .u32, .int .u32] (encM v_T_clock_Name (LV.int .u32) x_at))) tr))) tr) tr))) (a_ (r1_ (r2_ (a_ (a_ (lt_ 0 2 rfl) tr) (r1_ (r2_ tr))))) (a_ (a_ tr (a_ (sub_begin true [.int .u8, .int .u8, .int .u32, .int .u32] (encM v_T_clock_Name (LV.int .u32) y9.2.2.2) (v_T_clock_Name x_n) (.int .u32 0)) tr)) (a_ (a_ (vwlt (n := 64) g10) (vwget (f := encM v_T_clock_Name (LV.int .u32)) e12)) (a_ (a_ (r1_ (r2_ (a_ (a_ (lt_ 1 2 rfl) tr) (m_ 4 4 rfl (r2_ (a_ (a_ (a_ (clock_Clock_slot_ok (Int.tmod (IntKind.wrap .u32 (y9.2.1 + after)) 64) y11 (IntKind.wrap .u32 (y9.2.1 + after)) y14 e13 (sel [0, 3]) (sel_inj rfl rfl)) (a_ (le_vwr (cs := [.int .u32 y9.2.1, .map 1]) (ds := [.any, .any]) (ag := true) (ks := [.int .u8, .int .u8, .int .u32, .int .u32]) (n := 64) (W := (fun q_ => (y9.2.2.1 q_).map (encM v_T_clock_Name (LV.int .u32)))) (opn := [(((Int.tmod (IntKind.wrap .u32 (y9.2.1 + after)) 64)).toNat, 3)]) (a_ (le_any (.int .u32 y9.2.1)) (a_ (le_any (.map 1)) tr))) (a_ (le_mapR (ag := true) (ks := [.int .u8, .int .u8, .int .u32, .int .u32]) (es := encM v_T_clock_Name (LV.int .u32) y11)) tr))) tr) (m_ 4 4 rfl (r2_ (a_ (a_ (a_ (Eq.refl true) (a_ (Eq.refl true) (a_ (eqk_self v_T_clock_Name k_T_clock_Name x_n) (a_ (Eq.refl (v_T_clock_Name x_n)) (Eq.refl (.int .u32 0 : LV)))))) tr) (r1_ (a_ (a_ (a_ (Eq.refl true) (eqk_self v_T_clock_Name k_T_clock_Name x_n)) (a_ (sub_upd v_T_clock_Name (LV.int .u32) k_T_clock_Name true [.int .u8, .int .u8, .int .u32, .int .u32] y9.2.2.2 x_n (IntKind.wrap .u32 (y9.2.1 + after))) tr)) (a_ (a_ (a_ (Eq.refl true) (Eq.refl true)) (a_ (sub_upd v_T_clock_Name (LV.int .u32) k_T_clock_Name true [.int .u8, .int .u8, .int .u32, .int .u32] y11 x_n (IntKind.wrap .u32 (y9.2.1 + after))) tr)) tr)))))))))))) (sub_begun true [.int .u8, .int .u8, .int .u32, .int .u32] (encM v_T_clock_Name (LV.int .u32) y9.2.2.2) (v_T_clock_Name x_n) (.int .u32 0 : LV) 4)) (a_ (a_ (vwlt (n := 64) g10) (a_ (Eq.refl true) (a_ (Eq.refl ([.int .u8, .int .u8, .int .u32, .int .u32] : List CK)) (show 0 ≠ 3 from by decide)))) (a_ (fun (q_ : Nat) (_ : q_ < 64) => vwput (encM v_T_clock_Name (LV.int .u32)) y9.2.2.1 ((Int.tmod (IntKind.wrap .u32 (y9.2.1 + after)) 64)).toNat (mset y11 x_n (IntKind.wrap .u32 (y9.2.1 + after))) q_) (a_ (r1_ tr) tr)))))))))))))) tr) (by kernel_rfl) rfl

/-- (*parrel/clock.Clock).Len -/

def clock_Clock_Len_v (r : (Int)) : LV := .int .i64 r

def clock_Clock_Len_up (now : Int) (x_at : List (T_clock_Name × Int)) (wheel : Nat → Option (List (T_clock_Name × Int))) (r : (Int)) : Upd := [(0, some (.vw [.int .u32 now, .map 1] true [.int .u8, .int .u8, .int .u32, .int .u32] 64 (fun q_ => (wheel q_).map (encM v_T_clock_Name (LV.int .u32))) [])), (1, some (.map true [.int .u8, .int .u8, .int .u32, .int .u32] (encM v_T_clock_Name (LV.int .u32) x_at)))]

def clock_Clock_Len_objs (now : Int) (x_at : List (T_clock_Name × Int)) (wheel : Nat → Option (List (T_clock_Name × Int))) : List LO := [.vw [.int .u32 now, .map 1] true [.int .u8, .int .u8, .int .u32, .int .u32] 64 (fun q_ => (wheel q_).map (encM v_T_clock_Name (LV.int .u32))) [], .map true [.int .u8, .int .u8, .int .u32, .int .u32] (encM v_T_clock_Name (LV.int .u32) x_at)]

def clock_Clock_Len (now : Int) (x_at : List (T_clock_Name × Int)) (wheel : Nat → Option (List (T_clock_Name × Int))) : Option ((Int)) :=
  (clock_Clock_ok now x_at wheel).bind fun y2 =>
  some ((x_at).length : Int)

theorem clock_Clock_Len_ok (now : Int) (x_at : List (T_clock_Name × Int)) (wheel : Nat → Option (List (T_clock_Name × Int))) (r : (Int)) (h : clock_Clock_Len now x_at wheel = some r) : ∀ σ, Inj 2 σ → FnTri Try.prog 13 (renL σ [.ptr 0 0 0]) (preOf σ 0 (clock_Clock_Len_objs now x_at wheel)) ((clock_Clock_Len_v r).ren σ) (upOf σ (clock_Clock_Len_up now x_at wheel r)) := by
  refine fn_of Try.func13 (by kernel_rfl) (by kernel_rfl) (by kernel_rfl) ⟨⟨rfl, under_no⟩, trivial, trivial⟩ (by kernel_rfl) ⟨⟨rfl, under_no⟩, trivial, trivial⟩ (by kernel_rfl) ?_
  intro w0 W μ0 hμ
  unfold clock_Clock_Len at h
  obtain ⟨y2, e1, h⟩ := bind_some h
  obtain rfl := Option.some.inj h
  exact run_ret mixed (L := []) (n := 21) (s := [.reg [], .reg [(1, { call := some ((clock_Clock_ok_v y2).ren (sel [0, 1]), preOf (sel [0, 1]) 0 (clock_Clock_ok_objs now x_at wheel), upOf (sel [0, 1]) (clock_Clock_ok_up now x_at wheel y2)) })], .reg [(4, { v := some (.int .i64 ((x_at).length : Int)) })]])
    (a_ (a_ (r1_ tr) (a_ (r1_ (a_ (a_ (a_ (clock_Clock_ok_ok now x_at wheel y2 e1 (sel [0, 1]) (sel_inj rfl rfl)) (a_ (Eq.refl (.vw [.int .u32 now, .map 1] true [.int .u8, .int .u8, .int .u32, .int .u32] 64 (fun q_ => (wheel q_).map (encM v_T_clock_Name (LV.int .u32))) [] : LO)) (a_ (LO.Le.refl (.map true [.int .u8, .int .u8, .int .u32, .int .u32] (encM v_T_clock_Name (LV.int .u32) x_at))) tr))) tr) (r1_ tr))) (a_ (r1_ (r2_ (a_ (a_ (lt_ 1 2 rfl) tr) (a_ (a_ tr (a_ (le_maplen v_T_clock_Name (LV.int .u32) x_at) tr)) (r1_ tr))))) tr))) tr) (by kernel_rfl) rfl

/-- parrel/bits.Next -/

def bits_Next_v (r : (Int) × (Int)) : LV := .tup [.int .u32 r.1, .int .i64 r.2]

def bits_Next (x_n : Int) : Option ((Int) × (Int)) :=
  if ((decide (2147483647 ≤ x_n)) : Bool) then
    some (x_n, 17)
  else
    some ((IntKind.wrap .u32 (x_n + 1)), 0)

theorem bits_Next_ok (x_n : Int) (r : (Int) × (Int)) (h : bits_Next x_n = some r) : ∀ σ, Inj 0 σ → FnTri Try.prog 27 (renL σ [.int .u32 x_n]) (preOf σ 0 []) ((bits_Next_v r).ren σ) (upOf σ []) := by
  refine fn_of Try.func27 (by kernel_rfl) (by kernel_rfl) (by kernel_rfl) trivial (by kernel_rfl) trivial (by kernel_rfl) ?_
  intro w0 W μ0 hμ
  unfold bits_Next at h
  rcases itb_some h with ⟨c1, h⟩ | ⟨c1, h⟩
  · skip
    obtain rfl := Option.some.inj h
    exact run_ret mixed (L := []) (n := 20) (s := [.reg [], .reg [(1, hT)], .reg []])
      (a_ (a_ (r2_ tr) (a_ (r1_ (f_ c1 tr)) (a_ (r1_ (r2_ tr)) tr))) tr) (by kernel_rfl) rfl
  · skip
    obtain rfl := Option.some.inj h
    exact run_ret mixed (L := []) (n := 21) (s := [.reg [], .reg [(1, hF)], .reg []])
      (a_ (a_ (r2_ tr) (a_ (r1_ (f_ c1 tr)) (a_ (r4_ tr) tr))) tr) (by kernel_rfl) rfl

theorem bits_Next_tri (x_n : Int) (r : (Int) × (Int)) (h : bits_Next x_n = some r) : FnTri Try.prog 27 [.int .u32 x_n] [] (bits_Next_v r) [] := FnTri.none (bits_Next_ok x_n r h) rfl rfl

/-! Keys of a map, sorted: PRE -/
def so33_kc (x : (T_clock_Name)) : List Value := [.int .u8 x.f_Kind, .int .u8 x.f_Tx.f_Node, .int .u32 x.f_Tx.f_Boot, .int .u32 x.f_Tx.f_Num]
def so33_kv (x : (T_clock_Name)) : Value := .agg #[.int .u8 x.f_Kind, .int .u8 x.f_Tx.f_Node, .int .u32 x.f_Tx.f_Boot, .int .u32 x.f_Tx.f_Num]
def so33_kd (v : Value) : (T_clock_Name) :=
  match v with
  | .agg cs => match cs.toList with
    | [.int _ a0, .int _ a1, .int _ a2, .int _ a3] => (T_clock_Name.mk a0 (T_api_Tx.mk a1 a2 a3))
    | _ => default
  | _ => default
theorem so33_kdv (x : (T_clock_Name)) : so33_kd (so33_kv x) = x := rfl
theorem so33_len (x : (T_clock_Name)) : (so33_kc x).length = 4 := rfl
theorem so33_one (x : (T_clock_Name)) : ∀ v ∈ so33_kc x, v.oneCell' = true := by
  intro u hu
  simp only [so33_kc, List.mem_cons, List.not_mem_nil, or_false] at hu
  rcases hu with rfl | rfl | rfl | rfl <;> rfl
theorem so33_enc (φ : Fro) (x : (T_clock_Name)) : RelFL φ (c_T_clock_Name x) (so33_kc x) := ⟨_, _, rfl, rfl, ⟨_, _, rfl, rfl, ⟨_, _, rfl, rfl, ⟨_, _, rfl, rfl, rfl⟩⟩⟩⟩
theorem so33_det (φ : Fro) (x : (T_clock_Name)) (v : Value) (h : RelF φ (.agg (c_T_clock_Name x)) v) : v = so33_kv x := by
  obtain ⟨vs, rfl, h⟩ := h
  have key : ∀ (l : List Value), RelFL φ (c_T_clock_Name x) l → l = so33_kc x := by
    intro l h
    obtain ⟨r0, e0, h0⟩ := det_int h
    obtain ⟨r1, e1, h1⟩ := det_int h0
    obtain ⟨r2, e2, h2⟩ := det_int h1
    obtain ⟨r3, e3, h3⟩ := det_int h2
    have e : _ = [] := h3
    subst e
    subst_vars
    rfl
  have := key _ h
  rw [← Array.toArray_toList (xs := vs), this]
  rfl

theorem so33_info : ∃ i, Try.prog.info? 38 = some i ∧ i.zero = some (.agg #[.int .u8 0, .int .u8 0, .int .u32 0, .int .u32 0]) ∧ i.size = 4 ∧ i.bytes = 16 := by
  have h : (Try.prog.info? 38).map (fun i => (i.zero, i.size, i.bytes)) = some (some (.agg #[.int .u8 0, .int .u8 0, .int .u32 0, .int .u32 0]), 4, 16) := by kernel_rfl
  obtain ⟨i, h1, h2⟩ := Option.map_eq_some_iff.1 h
  exact ⟨i, h1, congrArg (·.1) h2, congrArg (·.2.1) h2, congrArg (·.2.2) h2⟩

/-- Between two rounds: the box holds what has come so far. -/
def so33_ApI (w : World) (pre : List (T_clock_Name)) (W : World) : Prop :=
  (∃ v, Boxed W w.heap.size 33 v ∧ W.ownsRow w.heap.size 38 4 v pre.length (pre.flatMap so33_kc) ∧ (v = .slice none 0 0 ↔ pre = [])) ∧ Below w.heap.size w W ∧ w.drawn ≤ W.drawn
theorem so33_ApI.own (w : World) (B : Nat) (hB : w.heap.size ≤ B) : OwnD B (so33_ApI w) :=
  OwnD.and (OwnFrom.d ((holdsRow_own w.heap.size w.heap.size 33 38 4 (fun (pre : List (T_clock_Name)) => pre.length) (fun pre => pre.flatMap so33_kc) (fun pre v => v = .slice none 0 0 ↔ pre = [])).from B)) (OwnD.and (OwnFrom.d (ownFrom_below (Nat.le_refl _) hB)) (ownD_drawn B _))

theorem so33_appendSeq (n : Nat) (hn : 2 ≤ n) (g : Nat) (lb : Array Value) (eg : ∀ args w, (callFunc g args).run Try.prog w = .ok (.enter g args) w) (S : List (T_clock_Name) → Prop) (N : Nat) (hN : N ≤ maxLen) (hNb : N * 16 ≤ 140737488355328)
    (w : World) (hseq : SeqD Fence.wide (n - 1) Try.prog g lb so33_kv S N w) :
    CallsIn Fence.wide n Try.prog 59 #[.slice none 0 0, .func (.func g) #[] lb] w fun e w' => ∃ (v : Value) (ss : List (T_clock_Name)), e = .returned v ∧ S ss ∧ w'.ownsRow w.heap.size 38 4 v ss.length (ss.flatMap so33_kc) ∧ (v = .slice none 0 0 ↔ ss = []) ∧ Below w.heap.size w w' ∧ w.drawn ≤ w'.drawn := by
  have h1 : 1 ≤ n := by omega
  refine callsIn_of_wp_marks Try.func59 rfl trivial ?_ rfl
  simp only [Try.ntmps59, List.size_toArray, List.length_cons, List.length_nil, Nat.reduceAdd, Nat.reduceSub, Array.replicate_succ, Array.replicate_zero, List.push_toArray, List.append_toArray, List.nil_append, List.cons_append]
  gi_wp2
  obtain ⟨W0, hW0⟩ : ∃ W0, w.alloc (.cells #[.slice none 0 0] 33) = W0 := ⟨_, rfl⟩
  have hs0 : W0.heap.size = w.heap.size + 1 := by rw [← hW0]; simp
  have hB0 : Boxed W0 w.heap.size 33 (.slice none 0 0) := by rw [← hW0]; exact Boxed.new w _ _
  have hb0 : Below w.heap.size w W0 := by rw [← hW0]; exact (Below.refl _ w).alloc (Nat.le_refl _) _
  rw [hW0]
  refine rangeFunc_box rfl h1 (gf := g) (lb := lb) rfl trivial eg hseq hb0 rfl (so33_ApI w) (so33_ApI.own w _ (by omega)) ⟨⟨_, hB0, World.ownsRow_nil _ _ _ _, by simp⟩, hb0, by rw [← hW0]; exact Nat.le_refl _⟩
    (fun pre x a1 W => so33_ApI w pre W ∧ ∃ bx, W.heap[bx]? = some (.cells #[.int .u8 x.f_Kind, .int .u8 x.f_Tx.f_Node, .int .u32 x.f_Tx.f_Boot, .int .u32 x.f_Tx.f_Num] 38 (0, 0)) ∧
      a1 = { tmps := #[.slice none 0 0, .func (.func g) #[] lb, .pointer (some ⟨w.heap.size, 0, none⟩), undef, .slice none 0 0, .pointer (some ⟨bx, 0, none⟩), .func (.func g) #[] lb, so33_kv x, undef, undef, undef, undef, undef], defers := [] })
    (fun x a1 => OwnD.and (so33_ApI.own w _ (by omega)) (fun s X Y row hs hg _ hr => by
      obtain ⟨bx, hx, e⟩ := hs
      exact ⟨bx, (grownBy_keeps_cells hg (fun r e => (hr r e).2) hx rfl).trans hx, e⟩)) ?assign ?body ?done
  case assign =>
    intro l pre x W hI hlen
    unfold so33_kv
    gi_wp2_with (rw [Oper.semAt_eq _ _ _ (fun c h => by cases h)]; go_simp; try go_bits)
    exact ⟨⟨(so33_ApI.own w w.heap.size (Nat.le_refl _)).alloc _ hI, W.heap.size, World.alloc_heap_new W _, rfl⟩, KeepsOthers.alloc _ _⟩
  case body =>
    rintro l pre x a1 W ⟨⟨⟨v, hv, hrow, hnil⟩, hB, hD0⟩, bx, hbx, rfl⟩ hlen
    obtain ⟨i0, hi, hz0, hz1, hz2⟩ := so33_info
    have hc := hv.cell
    have hf := hv.frozen
    have hx0 : W.cell? ⟨bx, 0, none⟩ = some (.int .u8 x.f_Kind) := by simp [World.cell?, hbx]
    have hx1 : W.cell? ⟨bx, 1, none⟩ = some (.int .u8 x.f_Tx.f_Node) := by simp [World.cell?, hbx]
    have hx2 : W.cell? ⟨bx, 2, none⟩ = some (.int .u32 x.f_Tx.f_Boot) := by simp [World.cell?, hbx]
    have hx3 : W.cell? ⟨bx, 3, none⟩ = some (.int .u32 x.f_Tx.f_Num) := by simp [World.cell?, hbx]
    have hbs := hB.size
    unfold so33_kv
    gi_wp2_with (first
      | (gi_at_builtin; refine wpListIn_append_d _ rfl _ _ 33 rfl w.heap.size 38 i0 _ 4 16 Try.underlying33 hi hz0 hz1 hz2 rfl (by decide) _ _ _ rfl (hrow.alloc _) ⟨W.heap.size, 0, none⟩ 1 1 (so33_kc x) rfl rfl ?_ ?_ (by omega) (by omega) (by simp; omega) ?_)
      | (rw [Oper.semAt_eq _ _ _ (fun c h => by cases h)]; go_simp; try go_bits))
    · exact fun j u hj => cell_new W (so33_kc x) 38 j u hj
    · intro u hu
      simp only [so33_kc, List.mem_cons, List.not_mem_nil, or_false] at hu
      rcases hu with rfl | rfl | rfl | rfl <;> rfl
    · intro v' w3 hown' hg3 hd3 hnil3
      obtain ⟨hv3, hv4, hrow4, hko, hbe⟩ := hv.appended (by decide) hrow hbs (Nat.le_refl _) hown' hg3
      have hc3 := hv3.cell
      have hf3 := hv3.frozen
      obtain ⟨g', cap', hv'⟩ := ownsRow_succ hown'
      subst hv'
      gi_wp2_with (rw [Oper.semAt_eq _ _ _ (fun c h => by cases h)]; go_simp; try go_bits)
      refine ⟨⟨_, hv4, ?_, by simp⟩, hB.trans hbe, Nat.le_trans hD0 hd3⟩
      rw [List.length_append, List.flatMap_append]
      simpa using hrow4
  case done =>
    rintro D ss W hD hS ⟨⟨v, hv, hrow, hnil⟩, hB, hD0⟩ hK
    have hc := hv.cell
    have hf := hv.frozen
    gi_wp2
    refine ⟨by simp, .inl ⟨_, _, rfl, run_takeDeferred hK, ?_⟩⟩
    exact ⟨_, results_tmp rfl _ _ _, v, ss, rfl, hS, ownsRow_putObj hrow _ hK rfl, hnil, hB.grown (grownBy_putObj' _ _ _) hB.size (fun k e => by cases e; omega), hD0⟩

theorem so33_collect (n : Nat) (hn : 3 ≤ n) (g : Nat) (lb : Array Value) (eg : ∀ args w, (callFunc g args).run Try.prog w = .ok (.enter g args) w) (S : List (T_clock_Name) → Prop) (N : Nat) (hN : N ≤ maxLen) (hNb : N * 16 ≤ 140737488355328)
    (w : World) (hseq : SeqD Fence.wide (n - 1 - 1) Try.prog g lb so33_kv S N w) :
    CallsIn Fence.wide n Try.prog 43 #[.func (.func g) #[] lb] w fun e w' => ∃ (v : Value) (ss : List (T_clock_Name)), e = .returned v ∧ S ss ∧ w'.ownsRow w.heap.size 38 4 v ss.length (ss.flatMap so33_kc) ∧ (v = .slice none 0 0 ↔ ss = []) ∧ Below w.heap.size w w' ∧ w.drawn ≤ w'.drawn := by
  have h1 : 1 ≤ n := by omega
  have F78 : Fence.wide.fn 59 := trivial
  refine callsIn_of_wp Try.func43 rfl trivial ?_ rfl
  simp only [Try.ntmps43, List.size_toArray, List.length_cons, List.length_nil, Nat.reduceAdd, Nat.reduceSub, Array.replicate_succ, Array.replicate_zero, List.push_toArray, List.append_toArray, List.nil_append, List.cons_append]
  gi_wp2_with (gi_at_call 59; refine (so33_appendSeq (n - 1) (by omega) g lb eg S N hN hNb _ hseq).mono ?_; rintro e w' ⟨v, ss, rfl, hS, hrow, hnil, hb⟩)
  go_ret
  exact ⟨v, ss, rfl, hS, hrow, hnil, hb⟩

def so33_lay_ren : Go.Shelf.Ren := ⟨fun | 6 => 29 | 15 => 39 | 14 => 38 | 28 => 54 | 29 => 55 | 20 => 46 | 21 => 47 | 22 => 48 | 23 => 49 | 24 => 50 | 25 => 51 | 26 => 52 | 27 => 53 | 46 => 60 | 47 => 61 | 48 => 62 | 49 => 63 | 50 => 64 | 57 => 65 | n => n, fun | 22 => 33 | 24 => 38 | 25 => 76 | 3 => 3 | 39 => 90 | 0 => 0 | 53 => 23 | 55 => 106 | 4 => 4 | 46 => 98 | 45 => 97 | 50 => 102 | 5 => 5 | 9 => 9 | 66 => 112 | 70 => 116 | 76 => 118 | 77 => 119 | n => n, fun | n => n⟩
theorem so33_lay : Go.Proofs.SlLaysF0.n6 Try.prog so33_lay_ren where
  mixed := by kernel_rfl
  f6 := ⟨Try.f29.name, by decide, Try.func29.trans (congrArg some (by kernel_rfl))⟩
  f14 := ⟨Try.f38.name, by decide, Try.func38.trans (congrArg some (by kernel_rfl))⟩
  f15 := Try.func39.trans (congrArg some (by kernel_rfl))
  f20 := ⟨Try.f46.name, by decide, Try.func46.trans (congrArg some (by kernel_rfl))⟩
  f21 := ⟨Try.f47.name, by decide, Try.func47.trans (congrArg some (by kernel_rfl))⟩
  f22 := ⟨Try.f48.name, by decide, Try.func48.trans (congrArg some (by kernel_rfl))⟩
  f23 := ⟨Try.f49.name, by decide, Try.func49.trans (congrArg some (by kernel_rfl))⟩
  f24 := ⟨Try.f50.name, by decide, Try.func50.trans (congrArg some (by kernel_rfl))⟩
  f25 := ⟨Try.f51.name, by decide, Try.func51.trans (congrArg some (by kernel_rfl))⟩
  f26 := ⟨Try.f52.name, by decide, Try.func52.trans (congrArg some (by kernel_rfl))⟩
  f27 := ⟨Try.f53.name, by decide, Try.func53.trans (congrArg some (by kernel_rfl))⟩
  f28 := Try.func54.trans (congrArg some (by kernel_rfl))
  f29 := Try.func55.trans (congrArg some (by kernel_rfl))
  f46 := ⟨Try.f60.name, by decide, Try.func60.trans (congrArg some (by kernel_rfl))⟩
  f47 := Try.func61.trans (congrArg some (by kernel_rfl))
  f48 := Try.func62.trans (congrArg some (by kernel_rfl))
  f49 := ⟨Try.f63.name, by decide, Try.func63.trans (congrArg some (by kernel_rfl))⟩
  f50 := ⟨Try.f64.name, by decide, Try.func64.trans (congrArg some (by kernel_rfl))⟩
  f57 := ⟨Try.f65.name, by decide, Try.func65.trans (congrArg some (by kernel_rfl))⟩
  t0 := Try.underlying0
  a0 := Try.isAgg0
  z0 := Try.sizeOf0
  v0 := Try.zeroValue0
  t3 := Try.underlying3
  a3 := Try.isAgg3
  z3 := Try.sizeOf3
  v3 := Try.zeroValue3
  t4 := Try.underlying4
  a4 := Try.isAgg4
  z4 := Try.sizeOf4
  v4 := Try.zeroValue4
  t5 := Try.underlying5
  a5 := Try.isAgg5
  z5 := Try.sizeOf5
  v5 := Try.zeroValue5
  t9 := Try.underlying9
  a9 := Try.isAgg9
  z9 := Try.sizeOf9
  v9 := Try.zeroValue9
  t22 := Try.underlying33
  a22 := Try.isAgg33
  z22 := Try.sizeOf33
  v22 := Try.zeroValue33
  t25 := Try.underlying76
  a25 := Try.isAgg76
  z25 := Try.sizeOf76
  v25 := Try.zeroValue76
  t39 := Try.underlying90
  a39 := Try.isAgg90
  z39 := Try.sizeOf90
  v39 := Try.zeroValue90
  t45 := Try.underlying97
  a45 := Try.isAgg97
  z45 := Try.sizeOf97
  v45 := Try.zeroValue97
  t46 := Try.underlying98
  a46 := Try.isAgg98
  z46 := Try.sizeOf98
  v46 := Try.zeroValue98
  t50 := Try.underlying102
  a50 := Try.isAgg102
  z50 := Try.sizeOf102
  v50 := Try.zeroValue102
  t53 := Try.underlying23
  a53 := Try.isAgg23
  z53 := Try.sizeOf23
  v53 := Try.zeroValue23
  t55 := Try.underlying106
  a55 := Try.isAgg106
  z55 := Try.sizeOf106
  v55 := Try.zeroValue106
  t66 := Try.underlying112
  a66 := Try.isAgg112
  z66 := Try.sizeOf112
  v66 := Try.zeroValue112
  t70 := Try.underlying116
  a70 := Try.isAgg116
  z70 := Try.sizeOf116
  v70 := Try.zeroValue116
  t76 := Try.underlying118
  a76 := Try.isAgg118
  z76 := Try.sizeOf118
  v76 := Try.zeroValue118
  t77 := Try.underlying119
  a77 := Try.isAgg119
  z77 := Try.sizeOf119
  v77 := Try.zeroValue119

theorem so33_sortedF (k1 g : Nat) (lb lbg : Array Value) (e1 : ∀ args w, (callFunc k1 args).run Try.prog w = .ok (.enter k1 args) w) (eg : ∀ args w, (callFunc g args).run Try.prog w = .ok (.enter g args) w)
    (cf : (T_clock_Name) → (T_clock_Name) → Int) (hT : TotCmp cf)
    (ks : List (T_clock_Name)) (hN : ks.length ≤ maxLen) (hNb : ks.length * 16 ≤ 140737488355328) (w : World) (hcmp : ∀ w1 blk off size, Below w.heap.size w w1 → w.heap.size ≤ blk → Go.Proofs.CmpLays Try.prog g lbg so33_kc 4 cf blk off size w1) (hseq : SeqD Fence.wide 8 Try.prog k1 lb so33_kv (fun xs => xs.Perm ks) ks.length w) :
    Calls Try.prog 33 #[.func (.func k1) #[] lb, .func (.func g) #[] lbg] w fun e w' => ∃ v, e = .returned v ∧ Below w.heap.size w w' ∧ w.drawn ≤ w'.drawn ∧ SortedAt so33_kc 4 w w' v (sortL cf ks) := by
  have hc : Calls Try.prog 43 #[.func (.func k1) #[] lb] w _ := callsIn_wide.1 (so33_collect 10 (by omega) k1 lb e1 _ ks.length hN hNb w hseq)
  have hsort : ∀ (w1 : World) (v : Value) (ss : List (T_clock_Name)), ss.Perm ks → w1.ownsRow w.heap.size 38 4 v ss.length (ss.flatMap so33_kc) → (v = .slice none 0 0 ↔ ss = []) → Below w.heap.size w w1 →
      Calls Try.prog 29 #[v, .func (.func g) #[] lbg] w1 fun e w' => e = .returned (.tuple #[]) ∧ Below w.heap.size w1 w' ∧ w1.drawn ≤ w'.drawn ∧ SortedAt so33_kc 4 w w' v (sortL cf ks) := by
    intro w1 v ss hS hrow hnil hb
    by_cases hss : ss = []
    · subst hss
      rw [hnil.2 rfl]
      have hks : ks = [] := List.length_eq_zero_iff.1 (by rw [← hS.length_eq]; rfl)
      have h := Go.Proofs.AnyF.slices_SortFunc_none so33_lay none 0 (.func (.func g) #[] lbg) w1
      change Calls Try.prog 29 _ _ _ at h
      refine h.mono ?_
      rintro e w' ⟨rfl, rfl⟩
      exact ⟨rfl, Below.refl _ _, Nat.le_refl _, .inl ⟨rfl, by subst hks; exact List.eq_nil_of_length_eq_zero (sortL_len cf [])⟩⟩
    · obtain ⟨m, hm⟩ : ∃ m, ss.length = m + 1 := ⟨ss.length - 1, by have := List.length_pos_iff.2 hss; omega⟩
      obtain ⟨blk, cap, hv⟩ := ownsRow_succ (by rw [hm] at hrow; exact hrow)
      rw [← hm] at hv
      subst hv
      obtain ⟨h1, h2, h3, h4, _⟩ := holds_of_owns so33_len hrow
      have hsz : ss.toArray.size < 4611686018427387904 := by
        have := hS.length_eq
        simp only [List.size_toArray]
        omega
      have h := Go.Proofs.AnyQ.slices_SortFunc_total so33_lay 4 Try.isAgg38 Try.sizeOf38 so33_kc so33_len so33_one cf hT.swo g lbg blk 0 cap ss.toArray w1 eg (hcmp w1 blk 0 _ hb h2) h1 h3 hsz hT.tot
      change Calls Try.prog 29 _ _ _ at h
      rw [List.size_toArray] at h
      refine h.mono ?_
      rintro e w' ⟨rfl, n, os, rfl⟩
      have hbs := below_sort so33_kc 4 w1 blk 0 n (sortL cf ss).toArray os w.heap.size h2 hb.size
      refine ⟨rfl, hbs.1, hbs.2, ?_⟩
      rw [← sortL_of_perm hT hS]
      exact sortedAt_of so33_len (by decide) (Nat.le_refl _) hrow (sortL_len cf ss) hss rfl
  clear hseq hcmp
  go_enter Try.func33, Try.ntmps33
  go_wp2_with (first
    | (go_at_call 43; refine hc.mono ?_; rintro e w1 ⟨v, ss, rfl, hS, hrow, hnil, hb, hd⟩)
    | (go_at_call 29; refine (hsort w1 v ss hS hrow hnil hb).mono ?_; rintro e w2 ⟨rfl, hb2, hd2, hs2⟩))
  go_ret
  exact ⟨v, rfl, hb.trans hb2, Nat.le_trans hd hd2, hs2⟩

theorem so33_detL (μ : Emb) (x : (T_clock_Name)) (l : List Value) (h : RelL μ (c_T_clock_Name x) l) : l = so33_kc x := by
    obtain ⟨r0, e0, h0⟩ := det_intL h
    obtain ⟨r1, e1, h1⟩ := det_intL h0
    obtain ⟨r2, e2, h2⟩ := det_intL h1
    obtain ⟨r3, e3, h3⟩ := det_intL h2
    have e : _ = [] := h3
    subst e
    subst_vars
    rfl
theorem so33_sortG (g : FuncId) (cmp : (T_clock_Name) → (T_clock_Name) → Option Int) (r : List (T_clock_Name)) (caps : List LV) (pre : Pre) (hcmp : ∀ x y r, cmp x y = some r → FnTri Try.prog g (v_T_clock_Name x :: v_T_clock_Name y :: caps) pre (.int .i64 r) []) (c : Nat) (hc : ∀ o, (c, o) ∉ pre) (l : List (T_clock_Name)) (h : sortO cmp 16 l = some r) :
    FnTri Try.prog 29 [.gs c l.length, .fn g [] caps] ((c, .gr 4 l.length (rowF c_T_clock_Name default l)) :: pre) (.tup []) [(c, some (.gr 4 r.length (rowF c_T_clock_Name default r)))] := by
  obtain ⟨cf, hT, hcf, hL1, hL2, rfl⟩ := sortO_some h
  have eg := enters_tri (hcmp default default _ (hcf default default)).1
  refine sortG_tri (ek := v_T_clock_Name) hT ⟨_, Try.func29, by kernel_rfl, by kernel_rfl⟩ (fun q cap fv w => ?_) (fun cb blk off cap d w hcl hH hb hs => ?_) so33_enc so33_len so33_one so33_detL (fun μ x => ⟨_, rfl, RelFL.rel (so33_enc μ.fro x)⟩) (fun x y => hcmp x y _ (hcf x y)) c hc l (by omega)
  · exact Go.Proofs.AnyF.slices_SortFunc_none so33_lay q cap fv w
  · exact Go.Proofs.AnyQ.slices_SortFunc_total so33_lay 4 Try.isAgg38 Try.sizeOf38 so33_kc so33_len so33_one cf hT.swo g cb blk off cap d w eg hcl hH hb hs hT.tot

/-- cmp.isNaN[uint8] -/

def cmp_isNaN_uint8_v (r : (Bool)) : LV := .bool r

def cmp_isNaN_uint8 (x : Int) : Option ((Bool)) :=
  some (x != x)

theorem cmp_isNaN_uint8_ok (x : Int) (r : (Bool)) (h : cmp_isNaN_uint8 x = some r) : ∀ σ, Inj 0 σ → FnTri Try.prog 56 (renL σ [.int .u8 x]) (preOf σ 0 []) ((cmp_isNaN_uint8_v r).ren σ) (upOf σ []) := by
  refine fn_of Try.func56 (by kernel_rfl) (by kernel_rfl) (by kernel_rfl) trivial (by kernel_rfl) trivial (by kernel_rfl) ?_
  intro w0 W μ0 hμ
  unfold cmp_isNaN_uint8 at h
  obtain rfl := Option.some.inj h
  exact run_ret mixed (L := []) (n := 15) (s := [.reg [], .reg []])
    (a_ (a_ (r1_ tr) (a_ (r4_ tr) tr)) tr) (by kernel_rfl) rfl

theorem cmp_isNaN_uint8_tri (x : Int) (r : (Bool)) (h : cmp_isNaN_uint8 x = some r) : FnTri Try.prog 56 [.int .u8 x] [] (cmp_isNaN_uint8_v r) [] := FnTri.none (cmp_isNaN_uint8_ok x r h) rfl rfl

/-- cmp.Compare[uint8] -/

def cmp_Compare_uint8_v (r : (Int)) : LV := .int .i64 r

def cmp_Compare_uint8 (x : Int) (y : Int) : Option ((Int)) :=
  (cmp_isNaN_uint8 x).bind fun y2 =>
  (cmp_isNaN_uint8 y).bind fun y4 =>
  if (y2 : Bool) then
    if (y4 : Bool) then
      some 0
    else
      some (-1)
  else
    if (y4 : Bool) then
      some 1
    else
      if ((decide (x < y)) : Bool) then
        some (-1)
      else
        if ((decide (y < x)) : Bool) then
          some 1
        else
          some 0

theorem cmp_Compare_uint8_ok (x : Int) (y : Int) (r : (Int)) (h : cmp_Compare_uint8 x y = some r) : ∀ σ, Inj 0 σ → FnTri Try.prog 40 (renL σ [.int .u8 x, .int .u8 y]) (preOf σ 0 []) ((cmp_Compare_uint8_v r).ren σ) (upOf σ []) := by
  refine fn_of Try.func40 (by kernel_rfl) (by kernel_rfl) (by kernel_rfl) trivial (by kernel_rfl) trivial (by kernel_rfl) ?_
  intro w0 W μ0 hμ
  unfold cmp_Compare_uint8 at h
  obtain ⟨y2, e1, h⟩ := bind_some h
  obtain ⟨y4, e3, h⟩ := bind_some h
  rcases itb_some h with ⟨c5, h⟩ | ⟨c5, h⟩
  · skip
    rcases itb_some h with ⟨c6, h⟩ | ⟨c6, h⟩
    · skip
      obtain rfl := Option.some.inj h
      exact run_ret mixed (L := []) (n := 31) (s := [.reg [], .reg [(1, hC (cmp_isNaN_uint8_v y2))], .reg [(1, hC (cmp_isNaN_uint8_v y4))], .reg [(0, hT)], .reg [(0, hT)], .reg []])
        (a_ (a_ (r1_ tr) (a_ (r1_ (c_ (cmp_isNaN_uint8_tri x y2 e1) (r1_ tr))) (a_ (r1_ (c_ (cmp_isNaN_uint8_tri y y4 e3) (r1_ tr))) (a_ (f_ c5 tr) (a_ (f_ c6 tr) (a_ (r1_ tr) tr)))))) tr) (by kernel_rfl) rfl
    · skip
      obtain rfl := Option.some.inj h
      exact run_ret mixed (L := []) (n := 32) (s := [.reg [], .reg [(1, hC (cmp_isNaN_uint8_v y2))], .reg [(1, hC (cmp_isNaN_uint8_v y4))], .reg [(0, hT)], .reg [(0, hF)], .reg []])
        (a_ (a_ (r1_ tr) (a_ (r1_ (c_ (cmp_isNaN_uint8_tri x y2 e1) (r1_ tr))) (a_ (r1_ (c_ (cmp_isNaN_uint8_tri y y4 e3) (r1_ tr))) (a_ (f_ c5 tr) (a_ (f_ c6 tr) (a_ (r1_ tr) tr)))))) tr) (by kernel_rfl) rfl
  · skip
    rcases itb_some h with ⟨c6, h⟩ | ⟨c6, h⟩
    · skip
      obtain rfl := Option.some.inj h
      exact run_ret mixed (L := []) (n := 32) (s := [.reg [], .reg [(1, hC (cmp_isNaN_uint8_v y2))], .reg [(1, hC (cmp_isNaN_uint8_v y4))], .reg [(0, hF)], .reg [(0, hT)], .reg []])
        (a_ (a_ (r1_ tr) (a_ (r1_ (c_ (cmp_isNaN_uint8_tri x y2 e1) (r1_ tr))) (a_ (r1_ (c_ (cmp_isNaN_uint8_tri y y4 e3) (r1_ tr))) (a_ (f_ c5 tr) (a_ (f_ c6 tr) (a_ (r1_ tr) tr)))))) tr) (by kernel_rfl) rfl
    · skip
      rcases itb_some h with ⟨c7, h⟩ | ⟨c7, h⟩
      · skip
        obtain rfl := Option.some.inj h
        exact run_ret mixed (L := []) (n := 38) (s := [.reg [], .reg [(1, hC (cmp_isNaN_uint8_v y2))], .reg [(1, hC (cmp_isNaN_uint8_v y4))], .reg [(0, hF)], .reg [(0, hF)], .reg [(2, hT)], .reg []])
          (a_ (a_ (r1_ tr) (a_ (r1_ (c_ (cmp_isNaN_uint8_tri x y2 e1) (r1_ tr))) (a_ (r1_ (c_ (cmp_isNaN_uint8_tri y y4 e3) (r1_ tr))) (a_ (f_ c5 tr) (a_ (f_ c6 tr) (a_ (r2_ (f_ c7 tr)) (a_ (r1_ tr) tr))))))) tr) (by kernel_rfl) rfl
      · skip
        rcases itb_some h with ⟨c8, h⟩ | ⟨c8, h⟩
        · skip
          obtain rfl := Option.some.inj h
          exact run_ret mixed (L := []) (n := 44) (s := [.reg [], .reg [(1, hC (cmp_isNaN_uint8_v y2))], .reg [(1, hC (cmp_isNaN_uint8_v y4))], .reg [(0, hF)], .reg [(0, hF)], .reg [(2, hF)], .reg [(2, hT)], .reg []])
            (a_ (a_ (r1_ tr) (a_ (r1_ (c_ (cmp_isNaN_uint8_tri x y2 e1) (r1_ tr))) (a_ (r1_ (c_ (cmp_isNaN_uint8_tri y y4 e3) (r1_ tr))) (a_ (f_ c5 tr) (a_ (f_ c6 tr) (a_ (r2_ (f_ c7 tr)) (a_ (r2_ (f_ c8 tr)) (a_ (r1_ tr) tr)))))))) tr) (by kernel_rfl) rfl
        · skip
          obtain rfl := Option.some.inj h
          exact run_ret mixed (L := []) (n := 45) (s := [.reg [], .reg [(1, hC (cmp_isNaN_uint8_v y2))], .reg [(1, hC (cmp_isNaN_uint8_v y4))], .reg [(0, hF)], .reg [(0, hF)], .reg [(2, hF)], .reg [(2, hF)], .reg []])
            (a_ (a_ (r1_ tr) (a_ (r1_ (c_ (cmp_isNaN_uint8_tri x y2 e1) (r1_ tr))) (a_ (r1_ (c_ (cmp_isNaN_uint8_tri y y4 e3) (r1_ tr))) (a_ (f_ c5 tr) (a_ (f_ c6 tr) (a_ (r2_ (f_ c7 tr)) (a_ (r2_ (f_ c8 tr)) (a_ (r1_ tr) tr)))))))) tr) (by kernel_rfl) rfl

theorem cmp_Compare_uint8_tri (x : Int) (y : Int) (r : (Int)) (h : cmp_Compare_uint8 x y = some r) : FnTri Try.prog 40 [.int .u8 x, .int .u8 y] [] (cmp_Compare_uint8_v r) [] := FnTri.none (cmp_Compare_uint8_ok x y r h) rfl rfl

/-- cmp.isNaN[uint32] -/

def cmp_isNaN_uint32_v (r : (Bool)) : LV := .bool r

def cmp_isNaN_uint32 (x : Int) : Option ((Bool)) :=
  some (x != x)

theorem cmp_isNaN_uint32_ok (x : Int) (r : (Bool)) (h : cmp_isNaN_uint32 x = some r) : ∀ σ, Inj 0 σ → FnTri Try.prog 45 (renL σ [.int .u32 x]) (preOf σ 0 []) ((cmp_isNaN_uint32_v r).ren σ) (upOf σ []) := by
  refine fn_of Try.func45 (by kernel_rfl) (by kernel_rfl) (by kernel_rfl) trivial (by kernel_rfl) trivial (by kernel_rfl) ?_
  intro w0 W μ0 hμ
  unfold cmp_isNaN_uint32 at h
  obtain rfl := Option.some.inj h
  exact run_ret mixed (L := []) (n := 15) (s := [.reg [], .reg []])
    (a_ (a_ (r1_ tr) (a_ (r4_ tr) tr)) tr) (by kernel_rfl) rfl

theorem cmp_isNaN_uint32_tri (x : Int) (r : (Bool)) (h : cmp_isNaN_uint32 x = some r) : FnTri Try.prog 45 [.int .u32 x] [] (cmp_isNaN_uint32_v r) [] := FnTri.none (cmp_isNaN_uint32_ok x r h) rfl rfl

/-- cmp.Compare[uint32] -/

def cmp_Compare_uint32_v (r : (Int)) : LV := .int .i64 r

def cmp_Compare_uint32 (x : Int) (y : Int) : Option ((Int)) :=
  (cmp_isNaN_uint32 x).bind fun y2 =>
  (cmp_isNaN_uint32 y).bind fun y4 =>
  if (y2 : Bool) then
    if (y4 : Bool) then
      some 0
    else
      some (-1)
  else
    if (y4 : Bool) then
      some 1
    else
      if ((decide (x < y)) : Bool) then
        some (-1)
      else
        if ((decide (y < x)) : Bool) then
          some 1
        else
          some 0

theorem cmp_Compare_uint32_ok (x : Int) (y : Int) (r : (Int)) (h : cmp_Compare_uint32 x y = some r) : ∀ σ, Inj 0 σ → FnTri Try.prog 37 (renL σ [.int .u32 x, .int .u32 y]) (preOf σ 0 []) ((cmp_Compare_uint32_v r).ren σ) (upOf σ []) := by
  refine fn_of Try.func37 (by kernel_rfl) (by kernel_rfl) (by kernel_rfl) trivial (by kernel_rfl) trivial (by kernel_rfl) ?_
  intro w0 W μ0 hμ
  unfold cmp_Compare_uint32 at h
  obtain ⟨y2, e1, h⟩ := bind_some h
  obtain ⟨y4, e3, h⟩ := bind_some h
  rcases itb_some h with ⟨c5, h⟩ | ⟨c5, h⟩
  · skip
    rcases itb_some h with ⟨c6, h⟩ | ⟨c6, h⟩
    · skip
      obtain rfl := Option.some.inj h
      exact run_ret mixed (L := []) (n := 31) (s := [.reg [], .reg [(1, hC (cmp_isNaN_uint32_v y2))], .reg [(1, hC (cmp_isNaN_uint32_v y4))], .reg [(0, hT)], .reg [(0, hT)], .reg []])
        (a_ (a_ (r1_ tr) (a_ (r1_ (c_ (cmp_isNaN_uint32_tri x y2 e1) (r1_ tr))) (a_ (r1_ (c_ (cmp_isNaN_uint32_tri y y4 e3) (r1_ tr))) (a_ (f_ c5 tr) (a_ (f_ c6 tr) (a_ (r1_ tr) tr)))))) tr) (by kernel_rfl) rfl
    · skip
      obtain rfl := Option.some.inj h
      exact run_ret mixed (L := []) (n := 32) (s := [.reg [], .reg [(1, hC (cmp_isNaN_uint32_v y2))], .reg [(1, hC (cmp_isNaN_uint32_v y4))], .reg [(0, hT)], .reg [(0, hF)], .reg []])
        (a_ (a_ (r1_ tr) (a_ (r1_ (c_ (cmp_isNaN_uint32_tri x y2 e1) (r1_ tr))) (a_ (r1_ (c_ (cmp_isNaN_uint32_tri y y4 e3) (r1_ tr))) (a_ (f_ c5 tr) (a_ (f_ c6 tr) (a_ (r1_ tr) tr)))))) tr) (by kernel_rfl) rfl
  · skip
    rcases itb_some h with ⟨c6, h⟩ | ⟨c6, h⟩
    · skip
      obtain rfl := Option.some.inj h
      exact run_ret mixed (L := []) (n := 32) (s := [.reg [], .reg [(1, hC (cmp_isNaN_uint32_v y2))], .reg [(1, hC (cmp_isNaN_uint32_v y4))], .reg [(0, hF)], .reg [(0, hT)], .reg []])
        (a_ (a_ (r1_ tr) (a_ (r1_ (c_ (cmp_isNaN_uint32_tri x y2 e1) (r1_ tr))) (a_ (r1_ (c_ (cmp_isNaN_uint32_tri y y4 e3) (r1_ tr))) (a_ (f_ c5 tr) (a_ (f_ c6 tr) (a_ (r1_ tr) tr)))))) tr) (by kernel_rfl) rfl
    · skip
      rcases itb_some h with ⟨c7, h⟩ | ⟨c7, h⟩
      · skip
        obtain rfl := Option.some.inj h
        exact run_ret mixed (L := []) (n := 38) (s := [.reg [], .reg [(1, hC (cmp_isNaN_uint32_v y2))], .reg [(1, hC (cmp_isNaN_uint32_v y4))], .reg [(0, hF)], .reg [(0, hF)], .reg [(2, hT)], .reg []])
          (a_ (a_ (r1_ tr) (a_ (r1_ (c_ (cmp_isNaN_uint32_tri x y2 e1) (r1_ tr))) (a_ (r1_ (c_ (cmp_isNaN_uint32_tri y y4 e3) (r1_ tr))) (a_ (f_ c5 tr) (a_ (f_ c6 tr) (a_ (r2_ (f_ c7 tr)) (a_ (r1_ tr) tr))))))) tr) (by kernel_rfl) rfl
      · skip
        rcases itb_some h with ⟨c8, h⟩ | ⟨c8, h⟩
        · skip
          obtain rfl := Option.some.inj h
          exact run_ret mixed (L := []) (n := 44) (s := [.reg [], .reg [(1, hC (cmp_isNaN_uint32_v y2))], .reg [(1, hC (cmp_isNaN_uint32_v y4))], .reg [(0, hF)], .reg [(0, hF)], .reg [(2, hF)], .reg [(2, hT)], .reg []])
            (a_ (a_ (r1_ tr) (a_ (r1_ (c_ (cmp_isNaN_uint32_tri x y2 e1) (r1_ tr))) (a_ (r1_ (c_ (cmp_isNaN_uint32_tri y y4 e3) (r1_ tr))) (a_ (f_ c5 tr) (a_ (f_ c6 tr) (a_ (r2_ (f_ c7 tr)) (a_ (r2_ (f_ c8 tr)) (a_ (r1_ tr) tr)))))))) tr) (by kernel_rfl) rfl
        · skip
          obtain rfl := Option.some.inj h
          exact run_ret mixed (L := []) (n := 45) (s := [.reg [], .reg [(1, hC (cmp_isNaN_uint32_v y2))], .reg [(1, hC (cmp_isNaN_uint32_v y4))], .reg [(0, hF)], .reg [(0, hF)], .reg [(2, hF)], .reg [(2, hF)], .reg []])
            (a_ (a_ (r1_ tr) (a_ (r1_ (c_ (cmp_isNaN_uint32_tri x y2 e1) (r1_ tr))) (a_ (r1_ (c_ (cmp_isNaN_uint32_tri y y4 e3) (r1_ tr))) (a_ (f_ c5 tr) (a_ (f_ c6 tr) (a_ (r2_ (f_ c7 tr)) (a_ (r2_ (f_ c8 tr)) (a_ (r1_ tr) tr)))))))) tr) (by kernel_rfl) rfl

theorem cmp_Compare_uint32_tri (x : Int) (y : Int) (r : (Int)) (h : cmp_Compare_uint32 x y = some r) : FnTri Try.prog 37 [.int .u32 x, .int .u32 y] [] (cmp_Compare_uint32_v r) [] := FnTri.none (cmp_Compare_uint32_ok x y r h) rfl rfl

/-- cmp.Or[int] -/

def cmp_Or_int_v (r : (Int)) : LV := .int .i64 r

def cmp_Or_int_T0 (vals : List (Int)) (t8 : Int) : List LV := [.any, .any, .any, .int .i64 0, .any, .any, .ds 1 (vals).length (rowF (cInt .i64) default vals), .int .i64 ((vals).length : Int), .int .i64 t8, .any, .any, .any, .any, .any, .any, .any, .any, .any]

def cmp_Or_int_H0 (vals : List (Int)) (t8 : Int) : Heap := []

def cmp_Or_int_l0 (vals : List (Int))  : Nat → (Int) → Option ((Int))
  | 0, _ => none
  | fuel + 1, t8 =>
    if ((decide (t8 < ((vals).length : Int))) : Bool) then
      if 0 ≤ t8 ∧ t8 < (((vals).length : Nat) : Int) then
      if (((vals.getD t8.toNat default) != 0) : Bool) then
        some (vals.getD t8.toNat default)
      else
        cmp_Or_int_l0 vals  fuel (IntKind.wrap .i64 (t8 + 1))
      else none
    else
      some 0

def cmp_Or_int (vals : List (Int)) : Option ((Int)) :=
  cmp_Or_int_l0 vals  big 0

theorem cmp_Or_int_l0_ok {w0 : World} {W : Nat → Prop} {μ0 : Emb} (hμ : ∀ c p, μ0 c = some p → c < 0) (vals : List (Int))  : ∀ (fuel : Nat) (t8 : Int) (r : (Int)), cmp_Or_int_l0 vals  fuel t8 = some r → kont Try.prog w0 W μ0 (FnPost Try.prog Try.f36 0 0 (cmp_Or_int_v r) []) (kAt (bodyOf Try.f36) 0) none (cmp_Or_int_T0 vals t8) (cmp_Or_int_H0 vals t8) := by
  intro fuel
  induction fuel with
  | zero => intro t8 r h; rw [cmp_Or_int_l0] at h; cases h
  | succ fuel ih =>
    intro t8 r h
    rw [cmp_Or_int_l0] at h
    rcases itb_some h with ⟨cL0_1, h⟩ | ⟨cL0_1, h⟩
    · skip
      obtain ⟨gL0_2, h⟩ := guard_some h
      rcases itb_some h with ⟨cL0_3, h⟩ | ⟨cL0_3, h⟩
      · skip
        obtain rfl := Option.some.inj h
        exact run_ret mixed (L := []) (n := 28) (s := [.go, .reg [(0, hT)], .reg [], .reg [(2, hT)], .reg []])
          (a_ (a_ (f_ cL0_1 tr) (a_ (a_ (a_ (a_ (Eq.refl 1) gL0_2) tr) (a_ (a_ (lt_ 0 1 rfl) tr) (r1_ tr))) (a_ (r2_ (f_ cL0_3 tr)) (a_ (r2_ tr) tr)))) tr) (by kernel_rfl) rfl
      · skip
        exact run_to mixed hμ (L := []) (n := 29) (s := [.go, .reg [(0, hT)], .reg [], .reg [(2, hF)], .reg []])
          (a_ (f_ cL0_1 tr) (a_ (a_ (a_ (a_ (Eq.refl 1) gL0_2) tr) (a_ (a_ (lt_ 0 1 rfl) tr) (r1_ tr))) (a_ (r2_ (f_ cL0_3 tr)) (a_ (r2_ tr) tr)))) (ih _ r h) (by kernel_rfl) trivial
    · skip
      obtain rfl := Option.some.inj h
      exact run_ret mixed (L := []) (n := 19) (s := [.go, .reg [(0, hF)], .reg []])
        (a_ (a_ (f_ cL0_1 tr) (a_ (r2_ tr) tr)) tr) (by kernel_rfl) rfl

theorem cmp_Or_int_ok (vals : List (Int)) (r : (Int)) (h : cmp_Or_int vals = some r) : ∀ σ, Inj 0 σ → FnTri Try.prog 36 (renL σ [.ds 1 (vals).length (rowF (cInt .i64) default vals)]) (preOf σ 0 []) ((cmp_Or_int_v r).ren σ) (upOf σ []) := by
  refine fn_of Try.func36 (by kernel_rfl) (by kernel_rfl) (by kernel_rfl) trivial (by kernel_rfl) trivial (by kernel_rfl) ?_
  intro w0 W μ0 hμ
  unfold cmp_Or_int at h
  exact run_to mixed hμ (L := []) (n := 21) (s := [.reg [], .reg [], .reg []])
    (a_ (r1_ tr) (a_ (r1_ tr) (a_ (r1_ (r2_ tr)) tr))) (cmp_Or_int_l0_ok hμ vals  big _ r h) (by kernel_rfl) trivial

theorem cmp_Or_int_tri (vals : List (Int)) (r : (Int)) (h : cmp_Or_int vals = some r) : FnTri Try.prog 36 [.ds 1 (vals).length (rowF (cInt .i64) default vals)] [] (cmp_Or_int_v r) [] := FnTri.none (cmp_Or_int_ok vals r h) rfl rfl

/-- parrel/ids.Txs -/

def ids_Txs_v (r : (Int)) : LV := .int .i64 r

def ids_Txs (a : T_api_Tx) (b : T_api_Tx) : Option ((Int)) :=
  (cmp_Compare_uint8 a.f_Node b.f_Node).bind fun y2 =>
  (cmp_Compare_uint32 a.f_Boot b.f_Boot).bind fun y4 =>
  (cmp_Compare_uint32 a.f_Num b.f_Num).bind fun y6 =>
  (cmp_Or_int ([y2, y4, y6] : List (Int))).bind fun y8 =>
  some y8

theorem ids_Txs_ok (a : T_api_Tx) (b : T_api_Tx) (r : (Int)) (h : ids_Txs a b = some r) : ∀ σ, Inj 0 σ → FnTri Try.prog 41 (renL σ [v_T_api_Tx a, v_T_api_Tx b]) (preOf σ 0 []) ((ids_Txs_v r).ren σ) (upOf σ []) := by
  refine fn_of Try.func41 (by kernel_rfl) (by kernel_rfl) (by kernel_rfl) trivial (by kernel_rfl) trivial (by kernel_rfl) ?_
  intro w0 W μ0 hμ
  unfold ids_Txs at h
  obtain ⟨y2, e1, h⟩ := bind_some h
  obtain ⟨y4, e3, h⟩ := bind_some h
  obtain ⟨y6, e5, h⟩ := bind_some h
  obtain ⟨y8, e7, h⟩ := bind_some h
  obtain rfl := Option.some.inj h
  exact run_ret mixed (L := []) (n := 15) (s := [.reg [], .reg [(4, hC (cmp_Compare_uint8_v y2)), (9, hC (cmp_Compare_uint32_v y4)), (14, hC (cmp_Compare_uint32_v y6)), (15, { os := [(2, .gr 1 (([y2, y4, y6] : List (Int))).length (rowF (cInt .i64) default ([y2, y4, y6] : List (Int))))], v := some (.gs 2 (([y2, y4, y6] : List (Int))).length), fz := true }), (16, hC (cmp_Or_int_v y8))]])
    (a_ (a_ (r1_ (r2_ tr)) (a_ (r1_ (l_ 0 3 rfl (r1_ (l_ 0 3 rfl (c_ (cmp_Compare_uint8_tri a.f_Node b.f_Node y2 e1) (r1_ (l_ 1 3 rfl (r1_ (l_ 1 3 rfl (c_ (cmp_Compare_uint32_tri a.f_Boot b.f_Boot y4 e3) (r1_ (l_ 2 3 rfl (r1_ (l_ 2 3 rfl (c_ (cmp_Compare_uint32_tri a.f_Num b.f_Num y6 e5) (a_ (a_ (a_ (a_ (Eq.refl true) (a_ (Eq.refl 1) (a_ (lt_ 0 1 rfl) (le_ 3 16777216 rfl)))) (a_ (le_sl_gs 2 3 (some 3) rfl) (a_ (sub_lit (cInt .i64) default 1 (fun _ => rfl) ([y2, y4, y6] : List (Int))) tr))) (a_ (Nat.le_refl (([y2, y4, y6] : List (Int))).length) (fz_row (enc := (cInt .i64)) (d := default) (fun _ => rfl) ([y2, y4, y6] : List (Int))))) (a_ (a_ (a_ (cmp_Or_int_tri ([y2, y4, y6] : List (Int)) y8 e7) tr) tr) (r1_ tr)))))))))))))))))) tr)) tr) (by kernel_rfl) rfl

theorem ids_Txs_tri (a : T_api_Tx) (b : T_api_Tx) (r : (Int)) (h : ids_Txs a b = some r) : FnTri Try.prog 41 [v_T_api_Tx a, v_T_api_Tx b] [] (ids_Txs_v r) [] := FnTri.none (ids_Txs_ok a b r h) rfl rfl

/-- parrel/clock.names -/

def clock_names_v (r : (Int)) : LV := .int .i64 r

def clock_names (a : T_clock_Name) (b : T_clock_Name) : Option ((Int)) :=
  (cmp_Compare_uint8 a.f_Kind b.f_Kind).bind fun y2 =>
  (ids_Txs a.f_Tx b.f_Tx).bind fun y4 =>
  (cmp_Or_int ([y2, y4] : List (Int))).bind fun y6 =>
  some y6

theorem clock_names_ok (a : T_clock_Name) (b : T_clock_Name) (r : (Int)) (h : clock_names a b = some r) : ∀ σ, Inj 0 σ → FnTri Try.prog 30 (renL σ [v_T_clock_Name a, v_T_clock_Name b]) (preOf σ 0 []) ((clock_names_v r).ren σ) (upOf σ []) := by
  refine fn_of Try.func30 (by kernel_rfl) (by kernel_rfl) (by kernel_rfl) trivial (by kernel_rfl) trivial (by kernel_rfl) ?_
  intro w0 W μ0 hμ
  unfold clock_names at h
  obtain ⟨y2, e1, h⟩ := bind_some h
  obtain ⟨y4, e3, h⟩ := bind_some h
  obtain ⟨y6, e5, h⟩ := bind_some h
  obtain rfl := Option.some.inj h
  exact run_ret mixed (L := []) (n := 15) (s := [.reg [], .reg [(4, hC (cmp_Compare_uint8_v y2)), (9, hC (ids_Txs_v y4)), (10, { os := [(2, .gr 1 (([y2, y4] : List (Int))).length (rowF (cInt .i64) default ([y2, y4] : List (Int))))], v := some (.gs 2 (([y2, y4] : List (Int))).length), fz := true }), (11, hC (cmp_Or_int_v y6))]])
    (a_ (a_ (r1_ (r2_ tr)) (a_ (r1_ (l_ 0 4 rfl (r1_ (l_ 0 4 rfl (c_ (cmp_Compare_uint8_tri a.f_Kind b.f_Kind y2 e1) (r1_ (m_ 4 4 rfl (r1_ (m_ 4 4 rfl (c_ (ids_Txs_tri a.f_Tx b.f_Tx y4 e3) (a_ (a_ (a_ (a_ (Eq.refl true) (a_ (Eq.refl 1) (a_ (lt_ 0 1 rfl) (le_ 2 16777216 rfl)))) (a_ (le_sl_gs 2 2 (some 2) rfl) (a_ (sub_lit (cInt .i64) default 1 (fun _ => rfl) ([y2, y4] : List (Int))) tr))) (a_ (Nat.le_refl (([y2, y4] : List (Int))).length) (fz_row (enc := (cInt .i64)) (d := default) (fun _ => rfl) ([y2, y4] : List (Int))))) (a_ (a_ (a_ (cmp_Or_int_tri ([y2, y4] : List (Int)) y6 e5) tr) tr) (r1_ tr))))))))))))) tr)) tr) (by kernel_rfl) rfl

theorem clock_names_tri (a : T_clock_Name) (b : T_clock_Name) (r : (Int)) (h : clock_names a b = some r) : FnTri Try.prog 30 [v_T_clock_Name a, v_T_clock_Name b] [] (clock_names_v r) [] := FnTri.none (clock_names_ok a b r h) rfl rfl

/-- (*parrel/clock.Clock).Tick -/

def clock_Clock_Tick_v (r : (List (T_clock_Name)) × (Int) × (Int) × (Nat → Option (List (T_clock_Name × Int))) × (List (T_clock_Name × Int))) : LV := .tup [.ds 4 (r.1).length (rowF c_T_clock_Name default r.1), .int .i64 r.2.1]

def clock_Clock_Tick_up (now : Int) (x_at : List (T_clock_Name × Int)) (wheel : Nat → Option (List (T_clock_Name × Int))) (r : (List (T_clock_Name)) × (Int) × (Int) × (Nat → Option (List (T_clock_Name × Int))) × (List (T_clock_Name × Int))) : Upd := [(0, some (.vw [.int .u32 r.2.2.1, .map 1] true [.int .u8, .int .u8, .int .u32, .int .u32] 64 (fun q_ => (r.2.2.2.1 q_).map (encM v_T_clock_Name (LV.int .u32))) [])), (1, some (.map true [.int .u8, .int .u8, .int .u32, .int .u32] (encM v_T_clock_Name (LV.int .u32) r.2.2.2.2)))]

def clock_Clock_Tick_objs (now : Int) (x_at : List (T_clock_Name × Int)) (wheel : Nat → Option (List (T_clock_Name × Int))) : List LO := [.vw [.int .u32 now, .map 1] true [.int .u8, .int .u8, .int .u32, .int .u32] 64 (fun q_ => (wheel q_).map (encM v_T_clock_Name (LV.int .u32))) [], .map true [.int .u8, .int .u8, .int .u32, .int .u32] (encM v_T_clock_Name (LV.int .u32) x_at)]

def clock_Clock_Tick_T1 (l : List (T_clock_Name)) (yL0_4 : List (T_clock_Name)) (t49 : Int) (now2 : Int) (wheel2 : Nat → Option (List (T_clock_Name × Int))) (m : List (T_clock_Name × Int)) : List LV := [.ptr 0 0 0, .any, .any, .any, .any, .any, .gs 2 (yL0_4).length, .any, .any, .any, .any, .any, .any, .any, .any, .any, .any, .any, .any, .any, .any, .any, .any, .any, .any, .any, .any, .any, .any, .any, .any, .any, .any, .any, .any, .any, .any, .any, .any, .any, .any, .any, .any, .any, .any, .any, .any, .gs 2 (yL0_4).length, .int .i64 ((l).length : Int), .int .i64 t49, .any, .any, .any, .any, .any, .any, .any, .any]

def clock_Clock_Tick_H1 (l : List (T_clock_Name)) (yL0_4 : List (T_clock_Name)) (t49 : Int) (now2 : Int) (wheel2 : Nat → Option (List (T_clock_Name × Int))) (m : List (T_clock_Name × Int)) : Heap := [some (.vw [.int .u32 now2, .map 1] true [.int .u8, .int .u8, .int .u32, .int .u32] 64 (fun q_ => (wheel2 q_).map (encM v_T_clock_Name (LV.int .u32))) []), some (.map true [.int .u8, .int .u8, .int .u32, .int .u32] (encM v_T_clock_Name (LV.int .u32) m)), some (.gr 4 (yL0_4).length (rowF c_T_clock_Name default yL0_4))]

def clock_Clock_Tick_T0 (x_at : List (T_clock_Name × Int)) (wheel : Nat → Option (List (T_clock_Name × Int))) (y4 : (Int) × (Int)) (y7 : List (T_clock_Name × Int)) (l : List (T_clock_Name)) (rest : List (T_clock_Name × Int)) : List LV := [.ptr 0 0 0, .any, .any, .any, .int .u32 y4.1, .any, .gs 2 (l).length, .any, .any, .any, .any, .any, .any, .any, .any, .any, .any, .any, .any, .any, .any, .any, .any, .any, .any, .any, .any, .any, .any, .any, .any, .any, .ptr 3 0 0, .any, .any, .any, .any, .any, .any, .any, .any, .any, .any, .any, .any, .any, .any, .any, .any, .any, .any, .any, .any, .any, .any, .any, .any, .any]

def clock_Clock_Tick_H0 (x_at : List (T_clock_Name × Int)) (wheel : Nat → Option (List (T_clock_Name × Int))) (y4 : (Int) × (Int)) (y7 : List (T_clock_Name × Int)) (l : List (T_clock_Name)) (rest : List (T_clock_Name × Int)) : Heap := [some (.vw [.int .u32 y4.1, .map 1] true [.int .u8, .int .u8, .int .u32, .int .u32] 64 (fun q_ => (wheel q_).map (encM v_T_clock_Name (LV.int .u32))) [(((Int.tmod y4.1 64)).toNat, 4)]), some (.map true [.int .u8, .int .u8, .int .u32, .int .u32] (encM v_T_clock_Name (LV.int .u32) x_at)), some (.gr 4 (l).length (rowF c_T_clock_Name default l)), some (.mit 4 true [.int .u8, .int .u8, .int .u32, .int .u32] (encM v_T_clock_Name (LV.int .u32) y7) none (encM v_T_clock_Name (LV.int .u32) rest)), none]

def clock_Clock_Tick_l1 (now : Int) (x_at : List (T_clock_Name × Int)) (wheel : Nat → Option (List (T_clock_Name × Int))) (l : List (T_clock_Name)) (yL0_4 : List (T_clock_Name))  : Nat → (Int) → (Int) → (Nat → Option (List (T_clock_Name × Int))) → (List (T_clock_Name × Int)) → Option ((List (T_clock_Name)) × (Int) × (Int) × (Nat → Option (List (T_clock_Name × Int))) × (List (T_clock_Name × Int)))
  | 0, _, _, _, _ => none
  | fuel + 1, t49, now2, wheel2, m =>
    if ((decide (t49 < ((l).length : Int))) : Bool) then
      if 0 ≤ t49 ∧ t49 < (((yL0_4).length : Nat) : Int) then
      (clock_Clock_Stop now2 m wheel2 (yL0_4.getD t49.toNat default)).bind fun yL1_4 =>
      clock_Clock_Tick_l1 now x_at wheel l yL0_4  fuel (IntKind.wrap .i64 (t49 + 1)) yL1_4.2.1 yL1_4.2.2.1 yL1_4.2.2.2
      else none
    else
      some (yL0_4, 0, now2, wheel2, m)

def clock_Clock_Tick_l0 (now : Int) (x_at : List (T_clock_Name × Int)) (wheel : Nat → Option (List (T_clock_Name × Int))) (y4 : (Int) × (Int)) (y7 : List (T_clock_Name × Int))  : Nat → (List (T_clock_Name)) → (List (T_clock_Name × Int)) → Option ((List (T_clock_Name)) × (Int) × (Int) × (Nat → Option (List (T_clock_Name × Int))) × (List (T_clock_Name × Int)))
  | 0, _, _ => none
  | fuel + 1, l, rest =>
    if ((List.isEmpty rest) : Bool) then
      if 0 ≤ (Int.tmod y4.1 64) ∧ (Int.tmod y4.1 64) < 64 then
      (sortO clock_names 16 l).bind fun yL0_4 =>
      if (l).length = (yL0_4).length then
      clock_Clock_Tick_l1 now x_at wheel l yL0_4  big 0 y4.1 (fun q_ => if q_ = ((Int.tmod y4.1 64)).toNat then some y7 else wheel q_) x_at
      else none
      else none
    else agree rest fun aL0_1 rsL0_2 =>
      if ((aL0_1.2 == y4.1) : Bool) then
        if ((l).length + (([aL0_1.1] : List (T_clock_Name))).length) * 16 ≤ 140737488351232 then
        clock_Clock_Tick_l0 now x_at wheel y4 y7  fuel (l ++ ([aL0_1.1] : List (T_clock_Name))) rsL0_2
        else none
      else
        clock_Clock_Tick_l0 now x_at wheel y4 y7  fuel l rsL0_2

def clock_Clock_Tick (now : Int) (x_at : List (T_clock_Name × Int)) (wheel : Nat → Option (List (T_clock_Name × Int))) : Option ((List (T_clock_Name)) × (Int) × (Int) × (Nat → Option (List (T_clock_Name × Int))) × (List (T_clock_Name × Int))) :=
  (clock_Clock_ok now x_at wheel).bind fun y2 =>
  (bits_Next now).bind fun y4 =>
  if ((y4.2 != 0) : Bool) then
    some (([] : List (T_clock_Name)), y4.2, now, wheel, x_at)
  else
    if 0 ≤ (Int.tmod y4.1 64) ∧ (Int.tmod y4.1 64) < 64 then
    (wheel ((Int.tmod y4.1 64)).toNat).bind fun y7 =>
    (clock_Clock_slot (Int.tmod y4.1 64) y7 y4.1).bind fun y10 =>
    clock_Clock_Tick_l0 now x_at wheel y4 y7  big ([] : List (T_clock_Name)) y7
    else none

theorem clock_Clock_Tick_l1_ok {w0 : World} {W : Nat → Prop} {μ0 : Emb} (hμ : ∀ c p, μ0 c = some p → c < 2) (now : Int) (x_at : List (T_clock_Name × Int)) (wheel : Nat → Option (List (T_clock_Name × Int))) (l : List (T_clock_Name)) (yL0_4 : List (T_clock_Name))  : ∀ (fuel : Nat) (t49 : Int) (now2 : Int) (wheel2 : Nat → Option (List (T_clock_Name × Int))) (m : List (T_clock_Name × Int)) (r : (List (T_clock_Name)) × (Int) × (Int) × (Nat → Option (List (T_clock_Name × Int))) × (List (T_clock_Name × Int))), clock_Clock_Tick_l1 now x_at wheel l yL0_4  fuel t49 now2 wheel2 m = some r → kont Try.prog w0 W μ0 (FnPost Try.prog Try.f10 2 2 (clock_Clock_Tick_v r) (clock_Clock_Tick_up now x_at wheel r)) (kAt (bodyOf Try.f10) 1) none (clock_Clock_Tick_T1 l yL0_4 t49 now2 wheel2 m) (clock_Clock_Tick_H1 l yL0_4 t49 now2 wheel2 m) := by
  intro fuel
  induction fuel with
  | zero => intro t49 now2 wheel2 m r h; rw [clock_Clock_Tick_l1] at h; cases h
  | succ fuel ih =>
    intro t49 now2 wheel2 m r h
    rw [clock_Clock_Tick_l1] at h
    rcases itb_some h with ⟨cL1_1, h⟩ | ⟨cL1_1, h⟩
    · skip
      obtain ⟨gL1_2, h⟩ := guard_some h
      obtain ⟨yL1_4, eL1_3, h⟩ := bind_some h
      exact run_to mixed hμ (L := [2]) (n := 26) (s := [.go, .reg [(0, hT)], .reg [], .reg [(2, { call := some ((clock_Clock_Stop_v yL1_4).ren (sel [0, 1]), preOf (sel [0, 1]) 0 (clock_Clock_Stop_objs now2 m wheel2 (yL0_4.getD t49.toNat default)), upOf (sel [0, 1]) (clock_Clock_Stop_up now2 m wheel2 (yL0_4.getD t49.toNat default) yL1_4)) })], .reg []])
        (a_ (f_ cL1_1 tr) (a_ (a_ (a_ (a_ (Eq.refl 4) gL1_2) tr) (a_ (a_ (a_ (ltN gL1_2) (le_ 4 4 rfl)) tr) (r1_ (a_ (a_ (a_ (Eq.refl 4) (a_ (le_ 4 4 rfl) (Eq.refl 0))) tr) tr)))) (a_ (r1_ (m_ 4 4 rfl (a_ (a_ (a_ (clock_Clock_Stop_ok now2 m wheel2 (yL0_4.getD t49.toNat default) yL1_4 eL1_3 (sel [0, 1]) (sel_inj rfl rfl)) (a_ (Eq.refl (.vw [.int .u32 now2, .map 1] true [.int .u8, .int .u8, .int .u32, .int .u32] 64 (fun q_ => (wheel2 q_).map (encM v_T_clock_Name (LV.int .u32))) [] : LO)) (a_ (LO.Le.refl (.map true [.int .u8, .int .u8, .int .u32, .int .u32] (encM v_T_clock_Name (LV.int .u32) m))) tr))) tr) tr))) (a_ (r2_ tr) tr)))) (ih _ _ _ _ r h) (by kernel_rfl) ⟨⟨rfl, under_no⟩, trivial, fun _ _ => rfl, trivial⟩
    · skip
      obtain rfl := Option.some.inj h
      exact run_ret mixed (L := []) (n := 20) (s := [.go, .reg [(0, hF)], .reg [], .frz 2])
        (a_ (a_ (f_ cL1_1 tr) (a_ (r1_ (r2_ tr)) (a_ (a_ (fz_row (enc := c_T_clock_Name) (d := default) (fun _ => rfl) yL0_4) (a_ (Nat.le_refl (yL0_4).length) (a_ (Nat.le_refl (yL0_4).length) (a_ (Nat.le_refl (yL0_4).length) (a_ (Nat.le_refl (yL0_4).length) tr))))) tr))) tr) (by kernel_rfl) rfl

theorem clock_Clock_Tick_l0_ok {w0 : World} {W : Nat → Prop} {μ0 : Emb} (hμ : ∀ c p, μ0 c = some p → c < 2) (now : Int) (x_at : List (T_clock_Name × Int)) (wheel : Nat → Option (List (T_clock_Name × Int))) (y4 : (Int) × (Int)) (y7 : List (T_clock_Name × Int))  : ∀ (fuel : Nat) (l : List (T_clock_Name)) (rest : List (T_clock_Name × Int)) (r : (List (T_clock_Name)) × (Int) × (Int) × (Nat → Option (List (T_clock_Name × Int))) × (List (T_clock_Name × Int))), clock_Clock_Tick_l0 now x_at wheel y4 y7  fuel l rest = some r → kont Try.prog w0 W μ0 (FnPost Try.prog Try.f10 2 2 (clock_Clock_Tick_v r) (clock_Clock_Tick_up now x_at wheel r)) (kAt (bodyOf Try.f10) 0) none (clock_Clock_Tick_T0 x_at wheel y4 y7 l rest) (clock_Clock_Tick_H0 x_at wheel y4 y7 l rest) := by
  intro fuel
  induction fuel with
  | zero => intro l rest r h; rw [clock_Clock_Tick_l0] at h; cases h
  | succ fuel ih =>
    intro l rest r h
    rw [clock_Clock_Tick_l0] at h
    refine k_nextT (it := 32) (t1 := 33) (t2 := 34) (d := 3) (m := 4) (ag := true) (ks := [.int .u8, .int .u8, .int .u32, .int .u32]) (es := encM v_T_clock_Name (LV.int .u32) y7) v_T_clock_Name (LV.int .u32) rest (by kernel_rfl) (by kernel_rfl) (by kernel_rfl) (by kernel_rfl) (fun hn_ => ?_) (fun i_ aL0_1 hi_ => ?_)
    · rw [if_pos (rest_none hn_)] at h
      obtain ⟨gL0_3, h⟩ := guard_some h
      obtain ⟨yL0_4, eL0_5, h⟩ := bind_some h
      obtain ⟨gL0_6, h⟩ := guard_some h
      exact run_to mixed hμ (L := [2]) (n := 25) (s := [.x (.mitz 3), .x (.vwc 0), .x (.vww 0 (fun q_ => ((fun q_ => if q_ = ((Int.tmod y4.1 64)).toNat then some y7 else wheel q_) q_).map (encM v_T_clock_Name (LV.int .u32)))), .reg [(1, { call := some (.tup [], [(2, .gr 4 (l).length (rowF c_T_clock_Name default l))], [(2, some (.gr 4 (yL0_4).length (rowF c_T_clock_Name default yL0_4)))]) })], .reg [], .wk [(6, .gs 2 (yL0_4).length), (47, .gs 2 (yL0_4).length)] []])
        (a_ (show 4 ≠ 3 from by decide) (a_ (a_ (vwlt (n := 64) gL0_3) (a_ (Eq.refl true) (a_ (Eq.refl ([.int .u8, .int .u8, .int .u32, .int .u32] : List CK)) (show 0 ≠ 4 from by decide)))) (a_ (fun (q_ : Nat) (_ : q_ < 64) => vwput (encM v_T_clock_Name (LV.int .u32)) wheel ((Int.tmod y4.1 64)).toNat y7 q_) (a_ (r1_ (a_ (a_ (a_ (so33_sortG 30 clock_names yL0_4 [] [] (fun x y r h => clock_names_tri x y r h) 2 (by simp) l eL0_5) (a_ (LO.Le.refl (.gr 4 (l).length (rowF c_T_clock_Name default l))) tr)) tr) tr)) (a_ (r1_ (r2_ tr)) (a_ (a_ (a_ (le_gs 2 gL0_6) (a_ (le_gs 2 gL0_6) tr)) tr) tr)))))) (clock_Clock_Tick_l1_ok hμ now x_at wheel l yL0_4  big _ _ _ _ r h) (by kernel_rfl) ⟨⟨rfl, under_no⟩, trivial, fun _ _ => rfl, trivial⟩
    · rw [if_neg (rest_some hi_)] at h
      replace h := agree_some h hi_
      generalize rest.eraseIdx i_ = rsL0_2 at h ⊢
      rcases itb_some h with ⟨cL0_3, h⟩ | ⟨cL0_3, h⟩
      · skip
        obtain ⟨gL0_4, h⟩ := guard_some h
        exact run_to mixed hμ (L := [7, 3, 4]) (n := 24) (s := [.reg [], .reg [(2, hT)], .reg [(2, { os := [(6, .gr 4 (([aL0_1.1] : List (T_clock_Name))).length (rowF c_T_clock_Name default ([aL0_1.1] : List (T_clock_Name))))], v := some (.gs 6 (([aL0_1.1] : List (T_clock_Name))).length) }), (3, { app := 3, os := [(7, .gr 4 ((l ++ ([aL0_1.1] : List (T_clock_Name)))).length (rowF c_T_clock_Name default (l ++ ([aL0_1.1] : List (T_clock_Name)))))], v := some (.gs 7 ((l ++ ([aL0_1.1] : List (T_clock_Name)))).length) })], .x (.mitn 3)])
          (a_ (r4_ (a_ (a_ (a_ (Eq.refl 4) (a_ (le_ 4 4 rfl) (Eq.refl 0))) tr) (r1_ tr))) (a_ (r2_ (f_ cL0_3 tr)) (a_ (r1_ (m_ 4 4 rfl (a_ (a_ (a_ (Eq.refl true) (a_ (Eq.refl 4) (a_ (lt_ 0 4 rfl) (le_ 4 16777216 rfl)))) (a_ (le_sl_gs 6 1 (some 1) rfl) (a_ (sub_lit c_T_clock_Name default 4 (fun _ => rfl) ([aL0_1.1] : List (T_clock_Name))) tr))) (a_ (a_ (a_ (a_ (Eq.refl 4) (Nat.le_refl (([aL0_1.1] : List (T_clock_Name))).length)) (a_ (a_ (lt_ 0 4 rfl) (a_ (lt_ 0 16 rfl) (a_ gL0_4 (a_ (Eq.refl 4) (Eq.refl true))))) (a_ (Eq.refl 4) (Nat.le_refl (l).length)))) (a_ (le_gs_app 7 l ([aL0_1.1] : List (T_clock_Name))) (a_ (sub_app c_T_clock_Name default 4 l ([aL0_1.1] : List (T_clock_Name))) tr))) (r1_ tr))))) (a_ tr tr)))) (ih _ _ r h) (by kernel_rfl) ⟨⟨rfl, under_opn (lt_ 4 5 rfl)⟩, trivial, fun _ _ => rfl, lt_ 4 5 rfl, trivial⟩
      · skip
        exact run_to mixed hμ (L := [2, 3, 4]) (n := 23) (s := [.reg [], .reg [(2, hF)], .x (.mitn 3)])
          (a_ (r4_ (a_ (a_ (a_ (Eq.refl 4) (a_ (le_ 4 4 rfl) (Eq.refl 0))) tr) (r1_ tr))) (a_ (r2_ (f_ cL0_3 tr)) (a_ tr tr))) (ih _ _ r h) (by kernel_rfl) ⟨⟨rfl, under_opn (lt_ 4 5 rfl)⟩, trivial, fun _ _ => rfl, lt_ 4 5 rfl, trivial⟩

theorem clock_Clock_Tick_ok (now : Int) (x_at : List (T_clock_Name × Int)) (wheel : Nat → Option (List (T_clock_Name × Int))) (r : (List (T_clock_Name)) × (Int) × (Int) × (Nat → Option (List (T_clock_Name × Int))) × (List (T_clock_Name × Int))) (h : clock_Clock_Tick now x_at wheel = some r) : ∀ σ, Inj 2 σ → FnTri Try.prog 10 (renL σ [.ptr 0 0 0]) (preOf σ 0 (clock_Clock_Tick_objs now x_at wheel)) ((clock_Clock_Tick_v r).ren σ) (upOf σ (clock_Clock_Tick_up now x_at wheel r)) := by
  refine fn_of Try.func10 (by kernel_rfl) (by kernel_rfl) (by kernel_rfl) ⟨⟨rfl, under_no⟩, trivial, trivial⟩ (by kernel_rfl) ⟨⟨rfl, under_no⟩, trivial, trivial⟩ (by kernel_rfl) ?_
  intro w0 W μ0 hμ
  unfold clock_Clock_Tick at h
  obtain ⟨y2, e1, h⟩ := bind_some h
  obtain ⟨y4, e3, h⟩ := bind_some h
  rcases itb_some h with ⟨c5, h⟩ | ⟨c5, h⟩
  · skip
    obtain rfl := Option.some.inj h
    exact run_ret mixed (L := []) (n := 29) (s := [.reg [(0, { v := some (.ds 4 (([] : List (T_clock_Name))).length (rowF c_T_clock_Name default ([] : List (T_clock_Name)))) })], .reg [(1, { call := some ((clock_Clock_ok_v y2).ren (sel [0, 1]), preOf (sel [0, 1]) 0 (clock_Clock_ok_objs now x_at wheel), upOf (sel [0, 1]) (clock_Clock_ok_up now x_at wheel y2)) })], .reg [(4, hC (bits_Next_v y4))], .reg [(1, hT)], .reg [(1, { v := some (.ds 4 (([] : List (T_clock_Name))).length (rowF c_T_clock_Name default ([] : List (T_clock_Name)))) })]])
      (a_ (a_ (a_ (a_ tr (a_ (le_nil_ds 4 (rowF c_T_clock_Name default [])) tr)) (r1_ tr)) (a_ (r1_ (a_ (a_ (a_ (clock_Clock_ok_ok now x_at wheel y2 e1 (sel [0, 1]) (sel_inj rfl rfl)) (a_ (Eq.refl (.vw [.int .u32 now, .map 1] true [.int .u8, .int .u8, .int .u32, .int .u32] 64 (fun q_ => (wheel q_).map (encM v_T_clock_Name (LV.int .u32))) [] : LO)) (a_ (LO.Le.refl (.map true [.int .u8, .int .u8, .int .u32, .int .u32] (encM v_T_clock_Name (LV.int .u32) x_at))) tr))) tr) (r1_ tr))) (a_ (r1_ (r2_ (a_ (a_ (lt_ 0 2 rfl) tr) (c_ (bits_Next_tri now y4 e3) (r1_ (r4_ tr)))))) (a_ (r1_ (f_ c5 tr)) (a_ (r1_ (a_ (a_ tr (a_ (le_nil_ds 4 (rowF c_T_clock_Name default [])) tr)) (r1_ tr))) tr))))) tr) (by kernel_rfl) rfl
  · skip
    obtain ⟨g6, h⟩ := guard_some h
    obtain ⟨y7, e8, h⟩ := bind_some h
    obtain ⟨y10, e9, h⟩ := bind_some h
    exact run_to mixed hμ (L := [2, 4, 3]) (n := 41) (s := [.reg [(0, { v := some (.ds 4 (([] : List (T_clock_Name))).length (rowF c_T_clock_Name default ([] : List (T_clock_Name)))) })], .reg [(1, { call := some ((clock_Clock_ok_v y2).ren (sel [0, 1]), preOf (sel [0, 1]) 0 (clock_Clock_ok_objs now x_at wheel), upOf (sel [0, 1]) (clock_Clock_ok_up now x_at wheel y2)) })], .reg [(4, hC (bits_Next_v y4))], .reg [(1, hF)], .reg [], .void (.gr 4 (([] : List (T_clock_Name))).length (rowF c_T_clock_Name default ([] : List (T_clock_Name)))), .reg [(0, { v := some (.gs 2 (([] : List (T_clock_Name))).length) })], .x (.vwo 0 ((Int.tmod y4.1 64)).toNat (encM v_T_clock_Name (LV.int .u32) y7)), .reg [(2, { call := some ((clock_Clock_slot_v y10).ren (sel [0, 3]), preOf (sel [0, 3]) 0 (clock_Clock_slot_objs (Int.tmod y4.1 64) y7 y4.1), upOf (sel [0, 3]) (clock_Clock_slot_up (Int.tmod y4.1 64) y7 y4.1 y10)) })]])
      (a_ (a_ (a_ tr (a_ (le_nil_ds 4 (rowF c_T_clock_Name default [])) tr)) (r1_ tr)) (a_ (r1_ (a_ (a_ (a_ (clock_Clock_ok_ok now x_at wheel y2 e1 (sel [0, 1]) (sel_inj rfl rfl)) (a_ (Eq.refl (.vw [.int .u32 now, .map 1] true [.int .u8, .int .u8, .int .u32, .int .u32] 64 (fun q_ => (wheel q_).map (encM v_T_clock_Name (LV.int .u32))) [] : LO)) (a_ (LO.Le.refl (.map true [.int .u8, .int .u8, .int .u32, .int .u32] (encM v_T_clock_Name (LV.int .u32) x_at))) tr))) tr) (r1_ tr))) (a_ (r1_ (r2_ (a_ (a_ (lt_ 0 2 rfl) tr) (c_ (bits_Next_tri now y4 e3) (r1_ (r4_ tr)))))) (a_ (r1_ (f_ c5 tr)) (a_ (r4_ (a_ (a_ (a_ (Eq.refl 1) (le_ 1 2 rfl)) tr) tr)) (a_ (Eq.refl 0) (a_ (a_ (a_ tr (a_ (le_nil_gs 2) tr)) tr) (a_ (a_ (vwlt (n := 64) g6) (vwget (f := encM v_T_clock_Name (LV.int .u32)) e8)) (a_ (r2_ (a_ (a_ (a_ (clock_Clock_slot_ok (Int.tmod y4.1 64) y7 y4.1 y10 e9 (sel [0, 3]) (sel_inj rfl rfl)) (a_ (le_vwr (cs := [.int .u32 y4.1, .map 1]) (ds := [.any, .any]) (ag := true) (ks := [.int .u8, .int .u8, .int .u32, .int .u32]) (n := 64) (W := (fun q_ => (wheel q_).map (encM v_T_clock_Name (LV.int .u32)))) (opn := [(((Int.tmod y4.1 64)).toNat, 3)]) (a_ (le_any (.int .u32 y4.1)) (a_ (le_any (.map 1)) tr))) (a_ (le_mapR (ag := true) (ks := [.int .u8, .int .u8, .int .u32, .int .u32]) (es := encM v_T_clock_Name (LV.int .u32) y7)) tr))) tr) (r1_ tr))) tr))))))))) (clock_Clock_Tick_l0_ok hμ now x_at wheel y4 y7  big _ _ r h) (by kernel_rfl) ⟨⟨rfl, under_opn (lt_ 4 5 rfl)⟩, trivial, fun _ _ => rfl, lt_ 4 5 rfl, trivial⟩

/-- (*parrel/clock.Clock).Now -/

def clock_Clock_Now_v (r : (Int)) : LV := .int .u32 r

def clock_Clock_Now_up (now : Int) (x_at : List (T_clock_Name × Int)) (wheel : Nat → Option (List (T_clock_Name × Int))) (r : (Int)) : Upd := [(0, some (.vw [.int .u32 now, .map 1] true [.int .u8, .int .u8, .int .u32, .int .u32] 64 (fun q_ => (wheel q_).map (encM v_T_clock_Name (LV.int .u32))) [])), (1, some (.map true [.int .u8, .int .u8, .int .u32, .int .u32] (encM v_T_clock_Name (LV.int .u32) x_at)))]

def clock_Clock_Now_objs (now : Int) (x_at : List (T_clock_Name × Int)) (wheel : Nat → Option (List (T_clock_Name × Int))) : List LO := [.vw [.int .u32 now, .map 1] true [.int .u8, .int .u8, .int .u32, .int .u32] 64 (fun q_ => (wheel q_).map (encM v_T_clock_Name (LV.int .u32))) [], .map true [.int .u8, .int .u8, .int .u32, .int .u32] (encM v_T_clock_Name (LV.int .u32) x_at)]

def clock_Clock_Now (now : Int) (x_at : List (T_clock_Name × Int)) (wheel : Nat → Option (List (T_clock_Name × Int))) : Option ((Int)) :=
  (clock_Clock_ok now x_at wheel).bind fun y2 =>
  some now

theorem clock_Clock_Now_ok (now : Int) (x_at : List (T_clock_Name × Int)) (wheel : Nat → Option (List (T_clock_Name × Int))) (r : (Int)) (h : clock_Clock_Now now x_at wheel = some r) : ∀ σ, Inj 2 σ → FnTri Try.prog 15 (renL σ [.ptr 0 0 0]) (preOf σ 0 (clock_Clock_Now_objs now x_at wheel)) ((clock_Clock_Now_v r).ren σ) (upOf σ (clock_Clock_Now_up now x_at wheel r)) := by
  refine fn_of Try.func15 (by kernel_rfl) (by kernel_rfl) (by kernel_rfl) ⟨⟨rfl, under_no⟩, trivial, trivial⟩ (by kernel_rfl) ⟨⟨rfl, under_no⟩, trivial, trivial⟩ (by kernel_rfl) ?_
  intro w0 W μ0 hμ
  unfold clock_Clock_Now at h
  obtain ⟨y2, e1, h⟩ := bind_some h
  obtain rfl := Option.some.inj h
  exact run_ret mixed (L := []) (n := 21) (s := [.reg [], .reg [(1, { call := some ((clock_Clock_ok_v y2).ren (sel [0, 1]), preOf (sel [0, 1]) 0 (clock_Clock_ok_objs now x_at wheel), upOf (sel [0, 1]) (clock_Clock_ok_up now x_at wheel y2)) })], .reg []])
    (a_ (a_ (r1_ tr) (a_ (r1_ (a_ (a_ (a_ (clock_Clock_ok_ok now x_at wheel y2 e1 (sel [0, 1]) (sel_inj rfl rfl)) (a_ (Eq.refl (.vw [.int .u32 now, .map 1] true [.int .u8, .int .u8, .int .u32, .int .u32] 64 (fun q_ => (wheel q_).map (encM v_T_clock_Name (LV.int .u32))) [] : LO)) (a_ (LO.Le.refl (.map true [.int .u8, .int .u8, .int .u32, .int .u32] (encM v_T_clock_Name (LV.int .u32) x_at))) tr))) tr) (r1_ tr))) (a_ (r1_ (r2_ (a_ (a_ (lt_ 0 2 rfl) tr) (r1_ tr)))) tr))) tr) (by kernel_rfl) rfl

/-- parrel/parrellaw09.alive -/

def parrellaw09_alive_v (r : (Bool)) : LV := .bool r

def parrellaw09_alive  : Option ((Bool)) :=
  (clock_New).bind fun y2 =>
  (clock_Clock_Set 0 y2.2 y2.1 (T_clock_Name.mk 1 (T_api_Tx.mk 0 0 0)) 2).bind fun y4 =>
  if ((y4.1 != 0) : Bool) then
    some false
  else
    (clock_Clock_Len y4.2.1 y4.2.2.2 y4.2.2.1).bind fun y7 =>
    if ((y7 != 1) : Bool) then
      some false
    else
      (clock_Clock_Tick y4.2.1 y4.2.2.2 y4.2.2.1).bind fun y10 =>
      (clock_Clock_Tick y10.2.2.1 y10.2.2.2.2 y10.2.2.2.1).bind fun y12 =>
      if ((((y10.1).length : Int) == 0) : Bool) then
        if ((y10.2.1 == 0) : Bool) then
          if ((((y12.1).length : Int) == 1) : Bool) then
            if 0 ≤ (0 : Int) ∧ (0 : Int) < (((y12.1).length : Nat) : Int) then
            if (((y12.1.getD 0 default).f_Kind == 1) : Bool) then
              if ((y12.2.1 == 0) : Bool) then
                (clock_Clock_Now y12.2.2.1 y12.2.2.2.2 y12.2.2.2.1).bind fun y20 =>
                if ((y20 == 2) : Bool) then
                  (clock_Clock_Len y12.2.2.1 y12.2.2.2.2 y12.2.2.2.1).bind fun y23 =>
                  some (y23 == 0)
                else
                  some false
              else
                some false
            else
              some false
            else none
          else
            some false
        else
          some false
      else
        some false

theorem parrellaw09_alive_ok  (r : (Bool)) (h : parrellaw09_alive  = some r) : ∀ σ, Inj 0 σ → FnTri Try.prog 16 (renL σ []) (preOf σ 0 []) ((parrellaw09_alive_v r).ren σ) (upOf σ []) := by
  refine fn_of Try.func16 (by kernel_rfl) (by kernel_rfl) (by kernel_rfl) trivial (by kernel_rfl) trivial (by kernel_rfl) ?_
  intro w0 W μ0 hμ
  unfold parrellaw09_alive at h
  obtain ⟨y2, e1, h⟩ := bind_some h
  obtain ⟨y4, e3, h⟩ := bind_some h
  rcases itb_some h with ⟨c5, h⟩ | ⟨c5, h⟩
  · skip
    obtain rfl := Option.some.inj h
    exact run_ret mixed (L := []) (n := 23) (s := [.reg [], .reg [(0, { call := some ((clock_New_v y2).ren (sel [0, 1]), preOf (sel [0, 1]) 0 [], upOf (sel [0, 1]) (clock_New_up  y2)) })], .reg [(5, { call := some ((clock_Clock_Set_v y4).ren (sel [0, 1]), preOf (sel [0, 1]) 0 (clock_Clock_Set_objs 0 y2.2 y2.1 (T_clock_Name.mk 1 (T_api_Tx.mk 0 0 0)) 2), upOf (sel [0, 1]) (clock_Clock_Set_up 0 y2.2 y2.1 (T_clock_Name.mk 1 (T_api_Tx.mk 0 0 0)) 2 y4)) }), (8, hT)], .reg []])
      (a_ (a_ (r1_ tr) (a_ (a_ (a_ (a_ (clock_New_ok  y2 e1 (sel [0, 1]) (sel_inj rfl rfl)) tr) tr) (r1_ tr)) (a_ (r4_ (a_ (a_ (Eq.refl true) tr) (a_ (a_ (a_ (clock_Clock_Set_ok 0 y2.2 y2.1 (T_clock_Name.mk 1 (T_api_Tx.mk 0 0 0)) 2 y4 e3 (sel [0, 1]) (sel_inj rfl rfl)) (a_ (Eq.refl (.vw [.int .u32 0, .map 1] true [.int .u8, .int .u8, .int .u32, .int .u32] 64 (fun q_ => (y2.1 q_).map (encM v_T_clock_Name (LV.int .u32))) [] : LO)) (a_ (LO.Le.refl (.map true [.int .u8, .int .u8, .int .u32, .int .u32] (encM v_T_clock_Name (LV.int .u32) y2.2))) tr))) tr) (r2_ (f_ c5 (a_ tr (t2_ (r1_ tr)))))))) (a_ (r1_ tr) tr)))) tr) (by kernel_rfl) rfl
  · skip
    obtain ⟨y7, e6, h⟩ := bind_some h
    rcases itb_some h with ⟨c8, h⟩ | ⟨c8, h⟩
    · skip
      obtain rfl := Option.some.inj h
      exact run_ret mixed (L := []) (n := 23) (s := [.reg [], .reg [(0, { call := some ((clock_New_v y2).ren (sel [0, 1]), preOf (sel [0, 1]) 0 [], upOf (sel [0, 1]) (clock_New_up  y2)) })], .reg [(5, { call := some ((clock_Clock_Set_v y4).ren (sel [0, 1]), preOf (sel [0, 1]) 0 (clock_Clock_Set_objs 0 y2.2 y2.1 (T_clock_Name.mk 1 (T_api_Tx.mk 0 0 0)) 2), upOf (sel [0, 1]) (clock_Clock_Set_up 0 y2.2 y2.1 (T_clock_Name.mk 1 (T_api_Tx.mk 0 0 0)) 2 y4)) }), (8, hF), (10, { call := some ((clock_Clock_Len_v y7).ren (sel [0, 1]), preOf (sel [0, 1]) 0 (clock_Clock_Len_objs y4.2.1 y4.2.2.2 y4.2.2.1), upOf (sel [0, 1]) (clock_Clock_Len_up y4.2.1 y4.2.2.2 y4.2.2.1 y7)) }), (12, hT)], .reg []])
        (a_ (a_ (r1_ tr) (a_ (a_ (a_ (a_ (clock_New_ok  y2 e1 (sel [0, 1]) (sel_inj rfl rfl)) tr) tr) (r1_ tr)) (a_ (r4_ (a_ (a_ (Eq.refl true) tr) (a_ (a_ (a_ (clock_Clock_Set_ok 0 y2.2 y2.1 (T_clock_Name.mk 1 (T_api_Tx.mk 0 0 0)) 2 y4 e3 (sel [0, 1]) (sel_inj rfl rfl)) (a_ (Eq.refl (.vw [.int .u32 0, .map 1] true [.int .u8, .int .u8, .int .u32, .int .u32] 64 (fun q_ => (y2.1 q_).map (encM v_T_clock_Name (LV.int .u32))) [] : LO)) (a_ (LO.Le.refl (.map true [.int .u8, .int .u8, .int .u32, .int .u32] (encM v_T_clock_Name (LV.int .u32) y2.2))) tr))) tr) (r2_ (f_ c5 (r1_ (a_ (a_ (a_ (clock_Clock_Len_ok y4.2.1 y4.2.2.2 y4.2.2.1 y7 e6 (sel [0, 1]) (sel_inj rfl rfl)) (a_ (Eq.refl (.vw [.int .u32 y4.2.1, .map 1] true [.int .u8, .int .u8, .int .u32, .int .u32] 64 (fun q_ => (y4.2.2.1 q_).map (encM v_T_clock_Name (LV.int .u32))) [] : LO)) (a_ (LO.Le.refl (.map true [.int .u8, .int .u8, .int .u32, .int .u32] (encM v_T_clock_Name (LV.int .u32) y4.2.2.2))) tr))) tr) (r1_ (f_ c8 tr))))))))) (a_ (r1_ tr) tr)))) tr) (by kernel_rfl) rfl
    · skip
      obtain ⟨y10, e9, h⟩ := bind_some h
      obtain ⟨y12, e11, h⟩ := bind_some h
      rcases itb_some h with ⟨c13, h⟩ | ⟨c13, h⟩
      · skip
        rcases itb_some h with ⟨c14, h⟩ | ⟨c14, h⟩
        · skip
          rcases itb_some h with ⟨c15, h⟩ | ⟨c15, h⟩
          · skip
            obtain ⟨g16, h⟩ := guard_some h
            rcases itb_some h with ⟨c17, h⟩ | ⟨c17, h⟩
            · skip
              rcases itb_some h with ⟨c18, h⟩ | ⟨c18, h⟩
              · skip
                obtain ⟨y20, e19, h⟩ := bind_some h
                rcases itb_some h with ⟨c21, h⟩ | ⟨c21, h⟩
                · skip
                  obtain ⟨y23, e22, h⟩ := bind_some h
                  obtain rfl := Option.some.inj h
                  exact run_ret mixed (L := []) (n := 30) (s := [.reg [], .reg [(0, { call := some ((clock_New_v y2).ren (sel [0, 1]), preOf (sel [0, 1]) 0 [], upOf (sel [0, 1]) (clock_New_up  y2)) })], .reg [(5, { call := some ((clock_Clock_Set_v y4).ren (sel [0, 1]), preOf (sel [0, 1]) 0 (clock_Clock_Set_objs 0 y2.2 y2.1 (T_clock_Name.mk 1 (T_api_Tx.mk 0 0 0)) 2), upOf (sel [0, 1]) (clock_Clock_Set_up 0 y2.2 y2.1 (T_clock_Name.mk 1 (T_api_Tx.mk 0 0 0)) 2 y4)) }), (8, hF), (10, { call := some ((clock_Clock_Len_v y7).ren (sel [0, 1]), preOf (sel [0, 1]) 0 (clock_Clock_Len_objs y4.2.1 y4.2.2.2 y4.2.2.1), upOf (sel [0, 1]) (clock_Clock_Len_up y4.2.1 y4.2.2.2 y4.2.2.1 y7)) }), (12, hF)], .reg [(1, { call := some ((clock_Clock_Tick_v y10).ren (sel [0, 1]), preOf (sel [0, 1]) 0 (clock_Clock_Tick_objs y4.2.1 y4.2.2.2 y4.2.2.1), upOf (sel [0, 1]) (clock_Clock_Tick_up y4.2.1 y4.2.2.2 y4.2.2.1 y10)) })], .reg [(1, { call := some ((clock_Clock_Tick_v y12).ren (sel [0, 1]), preOf (sel [0, 1]) 0 (clock_Clock_Tick_objs y10.2.2.1 y10.2.2.2.2 y10.2.2.2.1), upOf (sel [0, 1]) (clock_Clock_Tick_up y10.2.2.1 y10.2.2.2.2 y10.2.2.2.1 y12)) })], .reg [(3, hT), (7, hT), (12, hT), (19, hT), (23, hT), (25, { call := some ((clock_Clock_Now_v y20).ren (sel [0, 1]), preOf (sel [0, 1]) 0 (clock_Clock_Now_objs y12.2.2.1 y12.2.2.2.2 y12.2.2.2.1), upOf (sel [0, 1]) (clock_Clock_Now_up y12.2.2.1 y12.2.2.2.2 y12.2.2.2.1 y20)) }), (28, hT), (30, { call := some ((clock_Clock_Len_v y23).ren (sel [0, 1]), preOf (sel [0, 1]) 0 (clock_Clock_Len_objs y12.2.2.1 y12.2.2.2.2 y12.2.2.2.1), upOf (sel [0, 1]) (clock_Clock_Len_up y12.2.2.1 y12.2.2.2.2 y12.2.2.2.1 y23)) })]])
                    (a_ (a_ (r1_ tr) (a_ (a_ (a_ (a_ (clock_New_ok  y2 e1 (sel [0, 1]) (sel_inj rfl rfl)) tr) tr) (r1_ tr)) (a_ (r4_ (a_ (a_ (Eq.refl true) tr) (a_ (a_ (a_ (clock_Clock_Set_ok 0 y2.2 y2.1 (T_clock_Name.mk 1 (T_api_Tx.mk 0 0 0)) 2 y4 e3 (sel [0, 1]) (sel_inj rfl rfl)) (a_ (Eq.refl (.vw [.int .u32 0, .map 1] true [.int .u8, .int .u8, .int .u32, .int .u32] 64 (fun q_ => (y2.1 q_).map (encM v_T_clock_Name (LV.int .u32))) [] : LO)) (a_ (LO.Le.refl (.map true [.int .u8, .int .u8, .int .u32, .int .u32] (encM v_T_clock_Name (LV.int .u32) y2.2))) tr))) tr) (r2_ (f_ c5 (r1_ (a_ (a_ (a_ (clock_Clock_Len_ok y4.2.1 y4.2.2.2 y4.2.2.1 y7 e6 (sel [0, 1]) (sel_inj rfl rfl)) (a_ (Eq.refl (.vw [.int .u32 y4.2.1, .map 1] true [.int .u8, .int .u8, .int .u32, .int .u32] 64 (fun q_ => (y4.2.2.1 q_).map (encM v_T_clock_Name (LV.int .u32))) [] : LO)) (a_ (LO.Le.refl (.map true [.int .u8, .int .u8, .int .u32, .int .u32] (encM v_T_clock_Name (LV.int .u32) y4.2.2.2))) tr))) tr) (r1_ (f_ c8 tr))))))))) (a_ (r1_ (a_ (a_ (a_ (clock_Clock_Tick_ok y4.2.1 y4.2.2.2 y4.2.2.1 y10 e9 (sel [0, 1]) (sel_inj rfl rfl)) (a_ (Eq.refl (.vw [.int .u32 y4.2.1, .map 1] true [.int .u8, .int .u8, .int .u32, .int .u32] 64 (fun q_ => (y4.2.2.1 q_).map (encM v_T_clock_Name (LV.int .u32))) [] : LO)) (a_ (LO.Le.refl (.map true [.int .u8, .int .u8, .int .u32, .int .u32] (encM v_T_clock_Name (LV.int .u32) y4.2.2.2))) tr))) tr) (r1_ (r4_ tr)))) (a_ (r1_ (a_ (a_ (a_ (clock_Clock_Tick_ok y10.2.2.1 y10.2.2.2.2 y10.2.2.2.1 y12 e11 (sel [0, 1]) (sel_inj rfl rfl)) (a_ (Eq.refl (.vw [.int .u32 y10.2.2.1, .map 1] true [.int .u8, .int .u8, .int .u32, .int .u32] 64 (fun q_ => (y10.2.2.2.1 q_).map (encM v_T_clock_Name (LV.int .u32))) [] : LO)) (a_ (LO.Le.refl (.map true [.int .u8, .int .u8, .int .u32, .int .u32] (encM v_T_clock_Name (LV.int .u32) y10.2.2.2.2))) tr))) tr) (r1_ (r4_ tr)))) (a_ (r1_ (r2_ (f_ c13 (r1_ (r2_ (f_ c14 (r4_ (f_ c15 (r1_ (a_ (a_ (a_ (Eq.refl 4) g16) tr) (r1_ (a_ (a_ (lt_ 0 4 rfl) tr) (r2_ (f_ c17 (r1_ (r2_ (f_ c18 (r1_ (a_ (a_ (a_ (clock_Clock_Now_ok y12.2.2.1 y12.2.2.2.2 y12.2.2.2.1 y20 e19 (sel [0, 1]) (sel_inj rfl rfl)) (a_ (Eq.refl (.vw [.int .u32 y12.2.2.1, .map 1] true [.int .u8, .int .u8, .int .u32, .int .u32] 64 (fun q_ => (y12.2.2.2.1 q_).map (encM v_T_clock_Name (LV.int .u32))) [] : LO)) (a_ (LO.Le.refl (.map true [.int .u8, .int .u8, .int .u32, .int .u32] (encM v_T_clock_Name (LV.int .u32) y12.2.2.2.2))) tr))) tr) (r2_ (f_ c21 (r1_ (a_ (a_ (a_ (clock_Clock_Len_ok y12.2.2.1 y12.2.2.2.2 y12.2.2.2.1 y23 e22 (sel [0, 1]) (sel_inj rfl rfl)) (a_ (Eq.refl (.vw [.int .u32 y12.2.2.1, .map 1] true [.int .u8, .int .u8, .int .u32, .int .u32] 64 (fun q_ => (y12.2.2.2.1 q_).map (encM v_T_clock_Name (LV.int .u32))) [] : LO)) (a_ (LO.Le.refl (.map true [.int .u8, .int .u8, .int .u32, .int .u32] (encM v_T_clock_Name (LV.int .u32) y12.2.2.2.2))) tr))) tr) (r1_ (r2_ tr))))))))))))))))))))))))) tr)))))) tr) (by kernel_rfl) rfl
                · skip
                  obtain rfl := Option.some.inj h
                  exact run_ret mixed (L := []) (n := 30) (s := [.reg [], .reg [(0, { call := some ((clock_New_v y2).ren (sel [0, 1]), preOf (sel [0, 1]) 0 [], upOf (sel [0, 1]) (clock_New_up  y2)) })], .reg [(5, { call := some ((clock_Clock_Set_v y4).ren (sel [0, 1]), preOf (sel [0, 1]) 0 (clock_Clock_Set_objs 0 y2.2 y2.1 (T_clock_Name.mk 1 (T_api_Tx.mk 0 0 0)) 2), upOf (sel [0, 1]) (clock_Clock_Set_up 0 y2.2 y2.1 (T_clock_Name.mk 1 (T_api_Tx.mk 0 0 0)) 2 y4)) }), (8, hF), (10, { call := some ((clock_Clock_Len_v y7).ren (sel [0, 1]), preOf (sel [0, 1]) 0 (clock_Clock_Len_objs y4.2.1 y4.2.2.2 y4.2.2.1), upOf (sel [0, 1]) (clock_Clock_Len_up y4.2.1 y4.2.2.2 y4.2.2.1 y7)) }), (12, hF)], .reg [(1, { call := some ((clock_Clock_Tick_v y10).ren (sel [0, 1]), preOf (sel [0, 1]) 0 (clock_Clock_Tick_objs y4.2.1 y4.2.2.2 y4.2.2.1), upOf (sel [0, 1]) (clock_Clock_Tick_up y4.2.1 y4.2.2.2 y4.2.2.1 y10)) })], .reg [(1, { call := some ((clock_Clock_Tick_v y12).ren (sel [0, 1]), preOf (sel [0, 1]) 0 (clock_Clock_Tick_objs y10.2.2.1 y10.2.2.2.2 y10.2.2.2.1), upOf (sel [0, 1]) (clock_Clock_Tick_up y10.2.2.1 y10.2.2.2.2 y10.2.2.2.1 y12)) })], .reg [(3, hT), (7, hT), (12, hT), (19, hT), (23, hT), (25, { call := some ((clock_Clock_Now_v y20).ren (sel [0, 1]), preOf (sel [0, 1]) 0 (clock_Clock_Now_objs y12.2.2.1 y12.2.2.2.2 y12.2.2.2.1), upOf (sel [0, 1]) (clock_Clock_Now_up y12.2.2.1 y12.2.2.2.2 y12.2.2.2.1 y20)) }), (28, hF)]])
                    (a_ (a_ (r1_ tr) (a_ (a_ (a_ (a_ (clock_New_ok  y2 e1 (sel [0, 1]) (sel_inj rfl rfl)) tr) tr) (r1_ tr)) (a_ (r4_ (a_ (a_ (Eq.refl true) tr) (a_ (a_ (a_ (clock_Clock_Set_ok 0 y2.2 y2.1 (T_clock_Name.mk 1 (T_api_Tx.mk 0 0 0)) 2 y4 e3 (sel [0, 1]) (sel_inj rfl rfl)) (a_ (Eq.refl (.vw [.int .u32 0, .map 1] true [.int .u8, .int .u8, .int .u32, .int .u32] 64 (fun q_ => (y2.1 q_).map (encM v_T_clock_Name (LV.int .u32))) [] : LO)) (a_ (LO.Le.refl (.map true [.int .u8, .int .u8, .int .u32, .int .u32] (encM v_T_clock_Name (LV.int .u32) y2.2))) tr))) tr) (r2_ (f_ c5 (r1_ (a_ (a_ (a_ (clock_Clock_Len_ok y4.2.1 y4.2.2.2 y4.2.2.1 y7 e6 (sel [0, 1]) (sel_inj rfl rfl)) (a_ (Eq.refl (.vw [.int .u32 y4.2.1, .map 1] true [.int .u8, .int .u8, .int .u32, .int .u32] 64 (fun q_ => (y4.2.2.1 q_).map (encM v_T_clock_Name (LV.int .u32))) [] : LO)) (a_ (LO.Le.refl (.map true [.int .u8, .int .u8, .int .u32, .int .u32] (encM v_T_clock_Name (LV.int .u32) y4.2.2.2))) tr))) tr) (r1_ (f_ c8 tr))))))))) (a_ (r1_ (a_ (a_ (a_ (clock_Clock_Tick_ok y4.2.1 y4.2.2.2 y4.2.2.1 y10 e9 (sel [0, 1]) (sel_inj rfl rfl)) (a_ (Eq.refl (.vw [.int .u32 y4.2.1, .map 1] true [.int .u8, .int .u8, .int .u32, .int .u32] 64 (fun q_ => (y4.2.2.1 q_).map (encM v_T_clock_Name (LV.int .u32))) [] : LO)) (a_ (LO.Le.refl (.map true [.int .u8, .int .u8, .int .u32, .int .u32] (encM v_T_clock_Name (LV.int .u32) y4.2.2.2))) tr))) tr) (r1_ (r4_ tr)))) (a_ (r1_ (a_ (a_ (a_ (clock_Clock_Tick_ok y10.2.2.1 y10.2.2.2.2 y10.2.2.2.1 y12 e11 (sel [0, 1]) (sel_inj rfl rfl)) (a_ (Eq.refl (.vw [.int .u32 y10.2.2.1, .map 1] true [.int .u8, .int .u8, .int .u32, .int .u32] 64 (fun q_ => (y10.2.2.2.1 q_).map (encM v_T_clock_Name (LV.int .u32))) [] : LO)) (a_ (LO.Le.refl (.map true [.int .u8, .int .u8, .int .u32, .int .u32] (encM v_T_clock_Name (LV.int .u32) y10.2.2.2.2))) tr))) tr) (r1_ (r4_ tr)))) (a_ (r1_ (r2_ (f_ c13 (r1_ (r2_ (f_ c14 (r4_ (f_ c15 (r1_ (a_ (a_ (a_ (Eq.refl 4) g16) tr) (r1_ (a_ (a_ (lt_ 0 4 rfl) tr) (r2_ (f_ c17 (r1_ (r2_ (f_ c18 (r1_ (a_ (a_ (a_ (clock_Clock_Now_ok y12.2.2.1 y12.2.2.2.2 y12.2.2.2.1 y20 e19 (sel [0, 1]) (sel_inj rfl rfl)) (a_ (Eq.refl (.vw [.int .u32 y12.2.2.1, .map 1] true [.int .u8, .int .u8, .int .u32, .int .u32] 64 (fun q_ => (y12.2.2.2.1 q_).map (encM v_T_clock_Name (LV.int .u32))) [] : LO)) (a_ (LO.Le.refl (.map true [.int .u8, .int .u8, .int .u32, .int .u32] (encM v_T_clock_Name (LV.int .u32) y12.2.2.2.2))) tr))) tr) (r2_ (f_ c21 (a_ tr (t2_ (r2_ tr)))))))))))))))))))))))) tr)))))) tr) (by kernel_rfl) rfl
              · skip
                obtain rfl := Option.some.inj h
                exact run_ret mixed (L := []) (n := 30) (s := [.reg [], .reg [(0, { call := some ((clock_New_v y2).ren (sel [0, 1]), preOf (sel [0, 1]) 0 [], upOf (sel [0, 1]) (clock_New_up  y2)) })], .reg [(5, { call := some ((clock_Clock_Set_v y4).ren (sel [0, 1]), preOf (sel [0, 1]) 0 (clock_Clock_Set_objs 0 y2.2 y2.1 (T_clock_Name.mk 1 (T_api_Tx.mk 0 0 0)) 2), upOf (sel [0, 1]) (clock_Clock_Set_up 0 y2.2 y2.1 (T_clock_Name.mk 1 (T_api_Tx.mk 0 0 0)) 2 y4)) }), (8, hF), (10, { call := some ((clock_Clock_Len_v y7).ren (sel [0, 1]), preOf (sel [0, 1]) 0 (clock_Clock_Len_objs y4.2.1 y4.2.2.2 y4.2.2.1), upOf (sel [0, 1]) (clock_Clock_Len_up y4.2.1 y4.2.2.2 y4.2.2.1 y7)) }), (12, hF)], .reg [(1, { call := some ((clock_Clock_Tick_v y10).ren (sel [0, 1]), preOf (sel [0, 1]) 0 (clock_Clock_Tick_objs y4.2.1 y4.2.2.2 y4.2.2.1), upOf (sel [0, 1]) (clock_Clock_Tick_up y4.2.1 y4.2.2.2 y4.2.2.1 y10)) })], .reg [(1, { call := some ((clock_Clock_Tick_v y12).ren (sel [0, 1]), preOf (sel [0, 1]) 0 (clock_Clock_Tick_objs y10.2.2.1 y10.2.2.2.2 y10.2.2.2.1), upOf (sel [0, 1]) (clock_Clock_Tick_up y10.2.2.1 y10.2.2.2.2 y10.2.2.2.1 y12)) })], .reg [(3, hT), (7, hT), (12, hT), (19, hT), (23, hF)]])
                  (a_ (a_ (r1_ tr) (a_ (a_ (a_ (a_ (clock_New_ok  y2 e1 (sel [0, 1]) (sel_inj rfl rfl)) tr) tr) (r1_ tr)) (a_ (r4_ (a_ (a_ (Eq.refl true) tr) (a_ (a_ (a_ (clock_Clock_Set_ok 0 y2.2 y2.1 (T_clock_Name.mk 1 (T_api_Tx.mk 0 0 0)) 2 y4 e3 (sel [0, 1]) (sel_inj rfl rfl)) (a_ (Eq.refl (.vw [.int .u32 0, .map 1] true [.int .u8, .int .u8, .int .u32, .int .u32] 64 (fun q_ => (y2.1 q_).map (encM v_T_clock_Name (LV.int .u32))) [] : LO)) (a_ (LO.Le.refl (.map true [.int .u8, .int .u8, .int .u32, .int .u32] (encM v_T_clock_Name (LV.int .u32) y2.2))) tr))) tr) (r2_ (f_ c5 (r1_ (a_ (a_ (a_ (clock_Clock_Len_ok y4.2.1 y4.2.2.2 y4.2.2.1 y7 e6 (sel [0, 1]) (sel_inj rfl rfl)) (a_ (Eq.refl (.vw [.int .u32 y4.2.1, .map 1] true [.int .u8, .int .u8, .int .u32, .int .u32] 64 (fun q_ => (y4.2.2.1 q_).map (encM v_T_clock_Name (LV.int .u32))) [] : LO)) (a_ (LO.Le.refl (.map true [.int .u8, .int .u8, .int .u32, .int .u32] (encM v_T_clock_Name (LV.int .u32) y4.2.2.2))) tr))) tr) (r1_ (f_ c8 tr))))))))) (a_ (r1_ (a_ (a_ (a_ (clock_Clock_Tick_ok y4.2.1 y4.2.2.2 y4.2.2.1 y10 e9 (sel [0, 1]) (sel_inj rfl rfl)) (a_ (Eq.refl (.vw [.int .u32 y4.2.1, .map 1] true [.int .u8, .int .u8, .int .u32, .int .u32] 64 (fun q_ => (y4.2.2.1 q_).map (encM v_T_clock_Name (LV.int .u32))) [] : LO)) (a_ (LO.Le.refl (.map true [.int .u8, .int .u8, .int .u32, .int .u32] (encM v_T_clock_Name (LV.int .u32) y4.2.2.2))) tr))) tr) (r1_ (r4_ tr)))) (a_ (r1_ (a_ (a_ (a_ (clock_Clock_Tick_ok y10.2.2.1 y10.2.2.2.2 y10.2.2.2.1 y12 e11 (sel [0, 1]) (sel_inj rfl rfl)) (a_ (Eq.refl (.vw [.int .u32 y10.2.2.1, .map 1] true [.int .u8, .int .u8, .int .u32, .int .u32] 64 (fun q_ => (y10.2.2.2.1 q_).map (encM v_T_clock_Name (LV.int .u32))) [] : LO)) (a_ (LO.Le.refl (.map true [.int .u8, .int .u8, .int .u32, .int .u32] (encM v_T_clock_Name (LV.int .u32) y10.2.2.2.2))) tr))) tr) (r1_ (r4_ tr)))) (a_ (r1_ (r2_ (f_ c13 (r1_ (r2_ (f_ c14 (r4_ (f_ c15 (r1_ (a_ (a_ (a_ (Eq.refl 4) g16) tr) (r1_ (a_ (a_ (lt_ 0 4 rfl) tr) (r2_ (f_ c17 (r1_ (r2_ (f_ c18 (a_ tr (t2_ (r2_ (a_ tr (t2_ (r2_ tr))))))))))))))))))))))) tr)))))) tr) (by kernel_rfl) rfl
            · skip
              obtain rfl := Option.some.inj h
              exact run_ret mixed (L := []) (n := 30) (s := [.reg [], .reg [(0, { call := some ((clock_New_v y2).ren (sel [0, 1]), preOf (sel [0, 1]) 0 [], upOf (sel [0, 1]) (clock_New_up  y2)) })], .reg [(5, { call := some ((clock_Clock_Set_v y4).ren (sel [0, 1]), preOf (sel [0, 1]) 0 (clock_Clock_Set_objs 0 y2.2 y2.1 (T_clock_Name.mk 1 (T_api_Tx.mk 0 0 0)) 2), upOf (sel [0, 1]) (clock_Clock_Set_up 0 y2.2 y2.1 (T_clock_Name.mk 1 (T_api_Tx.mk 0 0 0)) 2 y4)) }), (8, hF), (10, { call := some ((clock_Clock_Len_v y7).ren (sel [0, 1]), preOf (sel [0, 1]) 0 (clock_Clock_Len_objs y4.2.1 y4.2.2.2 y4.2.2.1), upOf (sel [0, 1]) (clock_Clock_Len_up y4.2.1 y4.2.2.2 y4.2.2.1 y7)) }), (12, hF)], .reg [(1, { call := some ((clock_Clock_Tick_v y10).ren (sel [0, 1]), preOf (sel [0, 1]) 0 (clock_Clock_Tick_objs y4.2.1 y4.2.2.2 y4.2.2.1), upOf (sel [0, 1]) (clock_Clock_Tick_up y4.2.1 y4.2.2.2 y4.2.2.1 y10)) })], .reg [(1, { call := some ((clock_Clock_Tick_v y12).ren (sel [0, 1]), preOf (sel [0, 1]) 0 (clock_Clock_Tick_objs y10.2.2.1 y10.2.2.2.2 y10.2.2.2.1), upOf (sel [0, 1]) (clock_Clock_Tick_up y10.2.2.1 y10.2.2.2.2 y10.2.2.2.1 y12)) })], .reg [(3, hT), (7, hT), (12, hT), (19, hF)]])
                (a_ (a_ (r1_ tr) (a_ (a_ (a_ (a_ (clock_New_ok  y2 e1 (sel [0, 1]) (sel_inj rfl rfl)) tr) tr) (r1_ tr)) (a_ (r4_ (a_ (a_ (Eq.refl true) tr) (a_ (a_ (a_ (clock_Clock_Set_ok 0 y2.2 y2.1 (T_clock_Name.mk 1 (T_api_Tx.mk 0 0 0)) 2 y4 e3 (sel [0, 1]) (sel_inj rfl rfl)) (a_ (Eq.refl (.vw [.int .u32 0, .map 1] true [.int .u8, .int .u8, .int .u32, .int .u32] 64 (fun q_ => (y2.1 q_).map (encM v_T_clock_Name (LV.int .u32))) [] : LO)) (a_ (LO.Le.refl (.map true [.int .u8, .int .u8, .int .u32, .int .u32] (encM v_T_clock_Name (LV.int .u32) y2.2))) tr))) tr) (r2_ (f_ c5 (r1_ (a_ (a_ (a_ (clock_Clock_Len_ok y4.2.1 y4.2.2.2 y4.2.2.1 y7 e6 (sel [0, 1]) (sel_inj rfl rfl)) (a_ (Eq.refl (.vw [.int .u32 y4.2.1, .map 1] true [.int .u8, .int .u8, .int .u32, .int .u32] 64 (fun q_ => (y4.2.2.1 q_).map (encM v_T_clock_Name (LV.int .u32))) [] : LO)) (a_ (LO.Le.refl (.map true [.int .u8, .int .u8, .int .u32, .int .u32] (encM v_T_clock_Name (LV.int .u32) y4.2.2.2))) tr))) tr) (r1_ (f_ c8 tr))))))))) (a_ (r1_ (a_ (a_ (a_ (clock_Clock_Tick_ok y4.2.1 y4.2.2.2 y4.2.2.1 y10 e9 (sel [0, 1]) (sel_inj rfl rfl)) (a_ (Eq.refl (.vw [.int .u32 y4.2.1, .map 1] true [.int .u8, .int .u8, .int .u32, .int .u32] 64 (fun q_ => (y4.2.2.1 q_).map (encM v_T_clock_Name (LV.int .u32))) [] : LO)) (a_ (LO.Le.refl (.map true [.int .u8, .int .u8, .int .u32, .int .u32] (encM v_T_clock_Name (LV.int .u32) y4.2.2.2))) tr))) tr) (r1_ (r4_ tr)))) (a_ (r1_ (a_ (a_ (a_ (clock_Clock_Tick_ok y10.2.2.1 y10.2.2.2.2 y10.2.2.2.1 y12 e11 (sel [0, 1]) (sel_inj rfl rfl)) (a_ (Eq.refl (.vw [.int .u32 y10.2.2.1, .map 1] true [.int .u8, .int .u8, .int .u32, .int .u32] 64 (fun q_ => (y10.2.2.2.1 q_).map (encM v_T_clock_Name (LV.int .u32))) [] : LO)) (a_ (LO.Le.refl (.map true [.int .u8, .int .u8, .int .u32, .int .u32] (encM v_T_clock_Name (LV.int .u32) y10.2.2.2.2))) tr))) tr) (r1_ (r4_ tr)))) (a_ (r1_ (r2_ (f_ c13 (r1_ (r2_ (f_ c14 (r4_ (f_ c15 (r1_ (a_ (a_ (a_ (Eq.refl 4) g16) tr) (r1_ (a_ (a_ (lt_ 0 4 rfl) tr) (r2_ (f_ c17 (t2_ (r2_ (a_ tr (t2_ (r2_ (a_ tr (t2_ (r2_ tr)))))))))))))))))))))) tr)))))) tr) (by kernel_rfl) rfl
          · skip
            obtain rfl := Option.some.inj h
            exact run_ret mixed (L := []) (n := 30) (s := [.reg [], .reg [(0, { call := some ((clock_New_v y2).ren (sel [0, 1]), preOf (sel [0, 1]) 0 [], upOf (sel [0, 1]) (clock_New_up  y2)) })], .reg [(5, { call := some ((clock_Clock_Set_v y4).ren (sel [0, 1]), preOf (sel [0, 1]) 0 (clock_Clock_Set_objs 0 y2.2 y2.1 (T_clock_Name.mk 1 (T_api_Tx.mk 0 0 0)) 2), upOf (sel [0, 1]) (clock_Clock_Set_up 0 y2.2 y2.1 (T_clock_Name.mk 1 (T_api_Tx.mk 0 0 0)) 2 y4)) }), (8, hF), (10, { call := some ((clock_Clock_Len_v y7).ren (sel [0, 1]), preOf (sel [0, 1]) 0 (clock_Clock_Len_objs y4.2.1 y4.2.2.2 y4.2.2.1), upOf (sel [0, 1]) (clock_Clock_Len_up y4.2.1 y4.2.2.2 y4.2.2.1 y7)) }), (12, hF)], .reg [(1, { call := some ((clock_Clock_Tick_v y10).ren (sel [0, 1]), preOf (sel [0, 1]) 0 (clock_Clock_Tick_objs y4.2.1 y4.2.2.2 y4.2.2.1), upOf (sel [0, 1]) (clock_Clock_Tick_up y4.2.1 y4.2.2.2 y4.2.2.1 y10)) })], .reg [(1, { call := some ((clock_Clock_Tick_v y12).ren (sel [0, 1]), preOf (sel [0, 1]) 0 (clock_Clock_Tick_objs y10.2.2.1 y10.2.2.2.2 y10.2.2.2.1), upOf (sel [0, 1]) (clock_Clock_Tick_up y10.2.2.1 y10.2.2.2.2 y10.2.2.2.1 y12)) })], .reg [(3, hT), (7, hT), (12, hF)]])
              (a_ (a_ (r1_ tr) (a_ (a_ (a_ (a_ (clock_New_ok  y2 e1 (sel [0, 1]) (sel_inj rfl rfl)) tr) tr) (r1_ tr)) (a_ (r4_ (a_ (a_ (Eq.refl true) tr) (a_ (a_ (a_ (clock_Clock_Set_ok 0 y2.2 y2.1 (T_clock_Name.mk 1 (T_api_Tx.mk 0 0 0)) 2 y4 e3 (sel [0, 1]) (sel_inj rfl rfl)) (a_ (Eq.refl (.vw [.int .u32 0, .map 1] true [.int .u8, .int .u8, .int .u32, .int .u32] 64 (fun q_ => (y2.1 q_).map (encM v_T_clock_Name (LV.int .u32))) [] : LO)) (a_ (LO.Le.refl (.map true [.int .u8, .int .u8, .int .u32, .int .u32] (encM v_T_clock_Name (LV.int .u32) y2.2))) tr))) tr) (r2_ (f_ c5 (r1_ (a_ (a_ (a_ (clock_Clock_Len_ok y4.2.1 y4.2.2.2 y4.2.2.1 y7 e6 (sel [0, 1]) (sel_inj rfl rfl)) (a_ (Eq.refl (.vw [.int .u32 y4.2.1, .map 1] true [.int .u8, .int .u8, .int .u32, .int .u32] 64 (fun q_ => (y4.2.2.1 q_).map (encM v_T_clock_Name (LV.int .u32))) [] : LO)) (a_ (LO.Le.refl (.map true [.int .u8, .int .u8, .int .u32, .int .u32] (encM v_T_clock_Name (LV.int .u32) y4.2.2.2))) tr))) tr) (r1_ (f_ c8 tr))))))))) (a_ (r1_ (a_ (a_ (a_ (clock_Clock_Tick_ok y4.2.1 y4.2.2.2 y4.2.2.1 y10 e9 (sel [0, 1]) (sel_inj rfl rfl)) (a_ (Eq.refl (.vw [.int .u32 y4.2.1, .map 1] true [.int .u8, .int .u8, .int .u32, .int .u32] 64 (fun q_ => (y4.2.2.1 q_).map (encM v_T_clock_Name (LV.int .u32))) [] : LO)) (a_ (LO.Le.refl (.map true [.int .u8, .int .u8, .int .u32, .int .u32] (encM v_T_clock_Name (LV.int .u32) y4.2.2.2))) tr))) tr) (r1_ (r4_ tr)))) (a_ (r1_ (a_ (a_ (a_ (clock_Clock_Tick_ok y10.2.2.1 y10.2.2.2.2 y10.2.2.2.1 y12 e11 (sel [0, 1]) (sel_inj rfl rfl)) (a_ (Eq.refl (.vw [.int .u32 y10.2.2.1, .map 1] true [.int .u8, .int .u8, .int .u32, .int .u32] 64 (fun q_ => (y10.2.2.2.1 q_).map (encM v_T_clock_Name (LV.int .u32))) [] : LO)) (a_ (LO.Le.refl (.map true [.int .u8, .int .u8, .int .u32, .int .u32] (encM v_T_clock_Name (LV.int .u32) y10.2.2.2.2))) tr))) tr) (r1_ (r4_ tr)))) (a_ (r1_ (r2_ (f_ c13 (r1_ (r2_ (f_ c14 (r4_ (f_ c15 (a_ tr (t4_ (r2_ (t2_ (r2_ (a_ tr (t2_ (r2_ (a_ tr (t2_ (r2_ tr))))))))))))))))))) tr)))))) tr) (by kernel_rfl) rfl
        · skip
          obtain rfl := Option.some.inj h
          exact run_ret mixed (L := []) (n := 30) (s := [.reg [], .reg [(0, { call := some ((clock_New_v y2).ren (sel [0, 1]), preOf (sel [0, 1]) 0 [], upOf (sel [0, 1]) (clock_New_up  y2)) })], .reg [(5, { call := some ((clock_Clock_Set_v y4).ren (sel [0, 1]), preOf (sel [0, 1]) 0 (clock_Clock_Set_objs 0 y2.2 y2.1 (T_clock_Name.mk 1 (T_api_Tx.mk 0 0 0)) 2), upOf (sel [0, 1]) (clock_Clock_Set_up 0 y2.2 y2.1 (T_clock_Name.mk 1 (T_api_Tx.mk 0 0 0)) 2 y4)) }), (8, hF), (10, { call := some ((clock_Clock_Len_v y7).ren (sel [0, 1]), preOf (sel [0, 1]) 0 (clock_Clock_Len_objs y4.2.1 y4.2.2.2 y4.2.2.1), upOf (sel [0, 1]) (clock_Clock_Len_up y4.2.1 y4.2.2.2 y4.2.2.1 y7)) }), (12, hF)], .reg [(1, { call := some ((clock_Clock_Tick_v y10).ren (sel [0, 1]), preOf (sel [0, 1]) 0 (clock_Clock_Tick_objs y4.2.1 y4.2.2.2 y4.2.2.1), upOf (sel [0, 1]) (clock_Clock_Tick_up y4.2.1 y4.2.2.2 y4.2.2.1 y10)) })], .reg [(1, { call := some ((clock_Clock_Tick_v y12).ren (sel [0, 1]), preOf (sel [0, 1]) 0 (clock_Clock_Tick_objs y10.2.2.1 y10.2.2.2.2 y10.2.2.2.1), upOf (sel [0, 1]) (clock_Clock_Tick_up y10.2.2.1 y10.2.2.2.2 y10.2.2.2.1 y12)) })], .reg [(3, hT), (7, hF)]])
            (a_ (a_ (r1_ tr) (a_ (a_ (a_ (a_ (clock_New_ok  y2 e1 (sel [0, 1]) (sel_inj rfl rfl)) tr) tr) (r1_ tr)) (a_ (r4_ (a_ (a_ (Eq.refl true) tr) (a_ (a_ (a_ (clock_Clock_Set_ok 0 y2.2 y2.1 (T_clock_Name.mk 1 (T_api_Tx.mk 0 0 0)) 2 y4 e3 (sel [0, 1]) (sel_inj rfl rfl)) (a_ (Eq.refl (.vw [.int .u32 0, .map 1] true [.int .u8, .int .u8, .int .u32, .int .u32] 64 (fun q_ => (y2.1 q_).map (encM v_T_clock_Name (LV.int .u32))) [] : LO)) (a_ (LO.Le.refl (.map true [.int .u8, .int .u8, .int .u32, .int .u32] (encM v_T_clock_Name (LV.int .u32) y2.2))) tr))) tr) (r2_ (f_ c5 (r1_ (a_ (a_ (a_ (clock_Clock_Len_ok y4.2.1 y4.2.2.2 y4.2.2.1 y7 e6 (sel [0, 1]) (sel_inj rfl rfl)) (a_ (Eq.refl (.vw [.int .u32 y4.2.1, .map 1] true [.int .u8, .int .u8, .int .u32, .int .u32] 64 (fun q_ => (y4.2.2.1 q_).map (encM v_T_clock_Name (LV.int .u32))) [] : LO)) (a_ (LO.Le.refl (.map true [.int .u8, .int .u8, .int .u32, .int .u32] (encM v_T_clock_Name (LV.int .u32) y4.2.2.2))) tr))) tr) (r1_ (f_ c8 tr))))))))) (a_ (r1_ (a_ (a_ (a_ (clock_Clock_Tick_ok y4.2.1 y4.2.2.2 y4.2.2.1 y10 e9 (sel [0, 1]) (sel_inj rfl rfl)) (a_ (Eq.refl (.vw [.int .u32 y4.2.1, .map 1] true [.int .u8, .int .u8, .int .u32, .int .u32] 64 (fun q_ => (y4.2.2.1 q_).map (encM v_T_clock_Name (LV.int .u32))) [] : LO)) (a_ (LO.Le.refl (.map true [.int .u8, .int .u8, .int .u32, .int .u32] (encM v_T_clock_Name (LV.int .u32) y4.2.2.2))) tr))) tr) (r1_ (r4_ tr)))) (a_ (r1_ (a_ (a_ (a_ (clock_Clock_Tick_ok y10.2.2.1 y10.2.2.2.2 y10.2.2.2.1 y12 e11 (sel [0, 1]) (sel_inj rfl rfl)) (a_ (Eq.refl (.vw [.int .u32 y10.2.2.1, .map 1] true [.int .u8, .int .u8, .int .u32, .int .u32] 64 (fun q_ => (y10.2.2.2.1 q_).map (encM v_T_clock_Name (LV.int .u32))) [] : LO)) (a_ (LO.Le.refl (.map true [.int .u8, .int .u8, .int .u32, .int .u32] (encM v_T_clock_Name (LV.int .u32) y10.2.2.2.2))) tr))) tr) (r1_ (r4_ tr)))) (a_ (r1_ (r2_ (f_ c13 (r1_ (r2_ (f_ c14 (a_ tr (t2_ (r2_ (a_ tr (t4_ (r2_ (t2_ (r2_ (a_ tr (t2_ (r2_ (a_ tr (t2_ (r2_ tr)))))))))))))))))))) tr)))))) tr) (by kernel_rfl) rfl
      · skip
        obtain rfl := Option.some.inj h
        exact run_ret mixed (L := []) (n := 30) (s := [.reg [], .reg [(0, { call := some ((clock_New_v y2).ren (sel [0, 1]), preOf (sel [0, 1]) 0 [], upOf (sel [0, 1]) (clock_New_up  y2)) })], .reg [(5, { call := some ((clock_Clock_Set_v y4).ren (sel [0, 1]), preOf (sel [0, 1]) 0 (clock_Clock_Set_objs 0 y2.2 y2.1 (T_clock_Name.mk 1 (T_api_Tx.mk 0 0 0)) 2), upOf (sel [0, 1]) (clock_Clock_Set_up 0 y2.2 y2.1 (T_clock_Name.mk 1 (T_api_Tx.mk 0 0 0)) 2 y4)) }), (8, hF), (10, { call := some ((clock_Clock_Len_v y7).ren (sel [0, 1]), preOf (sel [0, 1]) 0 (clock_Clock_Len_objs y4.2.1 y4.2.2.2 y4.2.2.1), upOf (sel [0, 1]) (clock_Clock_Len_up y4.2.1 y4.2.2.2 y4.2.2.1 y7)) }), (12, hF)], .reg [(1, { call := some ((clock_Clock_Tick_v y10).ren (sel [0, 1]), preOf (sel [0, 1]) 0 (clock_Clock_Tick_objs y4.2.1 y4.2.2.2 y4.2.2.1), upOf (sel [0, 1]) (clock_Clock_Tick_up y4.2.1 y4.2.2.2 y4.2.2.1 y10)) })], .reg [(1, { call := some ((clock_Clock_Tick_v y12).ren (sel [0, 1]), preOf (sel [0, 1]) 0 (clock_Clock_Tick_objs y10.2.2.1 y10.2.2.2.2 y10.2.2.2.1), upOf (sel [0, 1]) (clock_Clock_Tick_up y10.2.2.1 y10.2.2.2.2 y10.2.2.2.1 y12)) })], .reg [(3, hF)]])
          (a_ (a_ (r1_ tr) (a_ (a_ (a_ (a_ (clock_New_ok  y2 e1 (sel [0, 1]) (sel_inj rfl rfl)) tr) tr) (r1_ tr)) (a_ (r4_ (a_ (a_ (Eq.refl true) tr) (a_ (a_ (a_ (clock_Clock_Set_ok 0 y2.2 y2.1 (T_clock_Name.mk 1 (T_api_Tx.mk 0 0 0)) 2 y4 e3 (sel [0, 1]) (sel_inj rfl rfl)) (a_ (Eq.refl (.vw [.int .u32 0, .map 1] true [.int .u8, .int .u8, .int .u32, .int .u32] 64 (fun q_ => (y2.1 q_).map (encM v_T_clock_Name (LV.int .u32))) [] : LO)) (a_ (LO.Le.refl (.map true [.int .u8, .int .u8, .int .u32, .int .u32] (encM v_T_clock_Name (LV.int .u32) y2.2))) tr))) tr) (r2_ (f_ c5 (r1_ (a_ (a_ (a_ (clock_Clock_Len_ok y4.2.1 y4.2.2.2 y4.2.2.1 y7 e6 (sel [0, 1]) (sel_inj rfl rfl)) (a_ (Eq.refl (.vw [.int .u32 y4.2.1, .map 1] true [.int .u8, .int .u8, .int .u32, .int .u32] 64 (fun q_ => (y4.2.2.1 q_).map (encM v_T_clock_Name (LV.int .u32))) [] : LO)) (a_ (LO.Le.refl (.map true [.int .u8, .int .u8, .int .u32, .int .u32] (encM v_T_clock_Name (LV.int .u32) y4.2.2.2))) tr))) tr) (r1_ (f_ c8 tr))))))))) (a_ (r1_ (a_ (a_ (a_ (clock_Clock_Tick_ok y4.2.1 y4.2.2.2 y4.2.2.1 y10 e9 (sel [0, 1]) (sel_inj rfl rfl)) (a_ (Eq.refl (.vw [.int .u32 y4.2.1, .map 1] true [.int .u8, .int .u8, .int .u32, .int .u32] 64 (fun q_ => (y4.2.2.1 q_).map (encM v_T_clock_Name (LV.int .u32))) [] : LO)) (a_ (LO.Le.refl (.map true [.int .u8, .int .u8, .int .u32, .int .u32] (encM v_T_clock_Name (LV.int .u32) y4.2.2.2))) tr))) tr) (r1_ (r4_ tr)))) (a_ (r1_ (a_ (a_ (a_ (clock_Clock_Tick_ok y10.2.2.1 y10.2.2.2.2 y10.2.2.2.1 y12 e11 (sel [0, 1]) (sel_inj rfl rfl)) (a_ (Eq.refl (.vw [.int .u32 y10.2.2.1, .map 1] true [.int .u8, .int .u8, .int .u32, .int .u32] 64 (fun q_ => (y10.2.2.2.1 q_).map (encM v_T_clock_Name (LV.int .u32))) [] : LO)) (a_ (LO.Le.refl (.map true [.int .u8, .int .u8, .int .u32, .int .u32] (encM v_T_clock_Name (LV.int .u32) y10.2.2.2.2))) tr))) tr) (r1_ (r4_ tr)))) (a_ (r1_ (r2_ (f_ c13 (t2_ (r2_ (a_ tr (t2_ (r2_ (a_ tr (t4_ (r2_ (t2_ (r2_ (a_ tr (t2_ (r2_ (a_ tr (t2_ (r2_ tr))))))))))))))))))) tr)))))) tr) (by kernel_rfl) rfl

theorem parrellaw09_alive_tri  (r : (Bool)) (h : parrellaw09_alive  = some r) : FnTri Try.prog 16 [] [] (parrellaw09_alive_v r) [] := FnTri.none (parrellaw09_alive_ok  r h) rfl rfl

/-- parrel/parrellaw09.theirs -/

def parrellaw09_theirs_v (r : (T_clock_Name)) : LV := v_T_clock_Name r

def parrellaw09_theirs (x_n : T_parrelref09_Name) : Option ((T_clock_Name)) :=
  some (T_clock_Name.mk x_n.f_Kind x_n.f_Tx)

theorem parrellaw09_theirs_ok (x_n : T_parrelref09_Name) (r : (T_clock_Name)) (h : parrellaw09_theirs x_n = some r) : ∀ σ, Inj 0 σ → FnTri Try.prog 12 (renL σ [v_T_parrelref09_Name x_n]) (preOf σ 0 []) ((parrellaw09_theirs_v r).ren σ) (upOf σ []) := by
  refine fn_of Try.func12 (by kernel_rfl) (by kernel_rfl) (by kernel_rfl) trivial (by kernel_rfl) trivial (by kernel_rfl) ?_
  intro w0 W μ0 hμ
  unfold parrellaw09_theirs at h
  obtain rfl := Option.some.inj h
  exact run_ret mixed (L := []) (n := 15) (s := [.reg [], .reg []])
    (a_ (a_ (r2_ tr) (a_ (r1_ (l_ 0 4 rfl (r1_ (m_ 4 4 rfl (a_ (a_ (Eq.refl true) tr) (a_ (a_ (a_ (Eq.refl 4) (a_ (le_ 4 4 rfl) (Eq.refl 0))) tr) tr)))))) tr)) (a_ (a_ tr (le_ 4 4 rfl)) tr)) (by kernel_rfl) rfl

theorem parrellaw09_theirs_tri (x_n : T_parrelref09_Name) (r : (T_clock_Name)) (h : parrellaw09_theirs x_n = some r) : FnTri Try.prog 12 [v_T_parrelref09_Name x_n] [] (parrellaw09_theirs_v r) [] := FnTri.none (parrellaw09_theirs_ok x_n r h) rfl rfl

/-- parrel/parrellaw09.ClockApart -/

def parrellaw09_ClockApart_v (r : (Bool)) : LV := .bool r

def parrellaw09_ClockApart (a : T_parrelref09_Name) (b : T_parrelref09_Name) (act : T_parrellaw09_Act) : Option ((Bool)) :=
  if ((decide (a = b)) : Bool) then
    (parrellaw09_alive).bind fun y3 =>
    some y3
  else
    (clock_New).bind fun y4 =>
    (parrellaw09_theirs a).bind fun y6 =>
    (clock_Clock_Set 0 y4.2 y4.1 y6 7).bind fun y8 =>
    if ((y8.1 != 0) : Bool) then
      some false
    else
      if (((Int.tmod act.f_Kind 4) == 2) : Bool) then
        (parrellaw09_theirs b).bind fun y12 =>
        (clock_Clock_Stop y8.2.1 y8.2.2.2 y8.2.2.1 y12).bind fun y14 =>
        (parrellaw09_theirs a).bind fun y16 =>
        (clock_Clock_Until y14.2.1 y14.2.2.2 y14.2.2.1 y16).bind fun y18 =>
        if ((!y18.2) : Bool) then
          some false
        else
          if ((y18.1 != 7) : Bool) then
            some false
          else
            (parrellaw09_theirs a).bind fun y22 =>
            (clock_Clock_Stop y14.2.1 y14.2.2.2 y14.2.2.1 y22).bind fun y24 =>
            if (y24.1 : Bool) then
              (parrellaw09_theirs a).bind fun y27 =>
              (clock_Clock_Stop y24.2.1 y24.2.2.2 y24.2.2.1 y27).bind fun y29 =>
              if ((!y29.1) : Bool) then
                (parrellaw09_alive).bind fun y32 =>
                some y32
              else
                some false
            else
              some false
      else
        (parrellaw09_theirs b).bind fun y12 =>
        (clock_Clock_Set y8.2.1 y8.2.2.2 y8.2.2.1 y12 act.f_After).bind fun y15 =>
        (parrellaw09_theirs a).bind fun y17 =>
        (clock_Clock_Until y15.2.1 y15.2.2.2 y15.2.2.1 y17).bind fun y19 =>
        if ((!y19.2) : Bool) then
          some false
        else
          if ((y19.1 != 7) : Bool) then
            some false
          else
            (parrellaw09_theirs a).bind fun y23 =>
            (clock_Clock_Stop y15.2.1 y15.2.2.2 y15.2.2.1 y23).bind fun y25 =>
            if (y25.1 : Bool) then
              (parrellaw09_theirs a).bind fun y28 =>
              (clock_Clock_Stop y25.2.1 y25.2.2.2 y25.2.2.1 y28).bind fun y30 =>
              if ((!y30.1) : Bool) then
                (parrellaw09_alive).bind fun y33 =>
                some y33
              else
                some false
            else
              some false

theorem parrellaw09_ClockApart_ok (a : T_parrelref09_Name) (b : T_parrelref09_Name) (act : T_parrellaw09_Act) (r : (Bool)) (h : parrellaw09_ClockApart a b act = some r) : ∀ σ, Inj 0 σ → FnTri Try.prog 4 (renL σ [v_T_parrelref09_Name a, v_T_parrelref09_Name b, v_T_parrellaw09_Act act]) (preOf σ 0 []) ((parrellaw09_ClockApart_v r).ren σ) (upOf σ []) := by
  refine fn_of Try.func4 (by kernel_rfl) (by kernel_rfl) (by kernel_rfl) trivial (by kernel_rfl) trivial (by kernel_rfl) ?_
  intro w0 W μ0 hμ
  unfold parrellaw09_ClockApart at h
  rcases itb_some h with ⟨c1, h⟩ | ⟨c1, h⟩
  · skip
    obtain ⟨y3, e2, h⟩ := bind_some h
    obtain rfl := Option.some.inj h
    exact run_ret mixed (L := []) (n := 20) (s := [.reg [], .reg [(2, hT)], .reg [(0, hC (parrellaw09_alive_v y3))]])
      (a_ (a_ (r4_ tr) (a_ (m_ 4 4 rfl (m_ 4 4 rfl (a_ (a_ tr (a_ (LV.Le.trans (leB (k_T_parrelref09_Name a b)) (leB c1)) tr)) tr))) (a_ (c_ (parrellaw09_alive_tri  y3 e2) (r1_ tr)) tr))) tr) (by kernel_rfl) rfl
  · skip
    obtain ⟨y4, e2, h⟩ := bind_some h
    obtain ⟨y6, e5, h⟩ := bind_some h
    obtain ⟨y8, e7, h⟩ := bind_some h
    rcases itb_some h with ⟨c9, h⟩ | ⟨c9, h⟩
    · skip
      obtain rfl := Option.some.inj h
      exact run_ret mixed (L := []) (n := 29) (s := [.reg [], .reg [(2, hF)], .reg [(0, { call := some ((clock_New_v y4).ren (sel [3, 4]), preOf (sel [3, 4]) 0 [], upOf (sel [3, 4]) (clock_New_up  y4)) })], .reg [(5, hC (parrellaw09_theirs_v y6)), (6, { call := some ((clock_Clock_Set_v y8).ren (sel [3, 4]), preOf (sel [3, 4]) 0 (clock_Clock_Set_objs 0 y4.2 y4.1 y6 7), upOf (sel [3, 4]) (clock_Clock_Set_up 0 y4.2 y4.1 y6 7 y8)) }), (8, hT)], .reg []])
        (a_ (a_ (r4_ tr) (a_ (m_ 4 4 rfl (m_ 4 4 rfl (a_ (a_ tr (a_ (LV.Le.trans (leB (k_T_parrelref09_Name a b)) (leB c1)) tr)) tr))) (a_ (a_ (a_ (a_ (clock_New_ok  y4 e2 (sel [3, 4]) (sel_inj rfl rfl)) tr) tr) (r1_ tr)) (a_ (r4_ (m_ 4 4 rfl (c_ (parrellaw09_theirs_tri a y6 e5) (a_ (a_ (a_ (clock_Clock_Set_ok 0 y4.2 y4.1 y6 7 y8 e7 (sel [3, 4]) (sel_inj rfl rfl)) (a_ (Eq.refl (.vw [.int .u32 0, .map 4] true [.int .u8, .int .u8, .int .u32, .int .u32] 64 (fun q_ => (y4.1 q_).map (encM v_T_clock_Name (LV.int .u32))) [] : LO)) (a_ (LO.Le.refl (.map true [.int .u8, .int .u8, .int .u32, .int .u32] (encM v_T_clock_Name (LV.int .u32) y4.2))) tr))) tr) (r1_ (f_ c9 tr)))))) (a_ (r1_ tr) tr))))) tr) (by kernel_rfl) rfl
    · skip
      rcases itb_some h with ⟨c10, h⟩ | ⟨c10, h⟩
      · skip
        obtain ⟨y12, e11, h⟩ := bind_some h
        obtain ⟨y14, e13, h⟩ := bind_some h
        obtain ⟨y16, e15, h⟩ := bind_some h
        obtain ⟨y18, e17, h⟩ := bind_some h
        rcases itb_some h with ⟨c19, h⟩ | ⟨c19, h⟩
        · skip
          obtain rfl := Option.some.inj h
          exact run_ret mixed (L := []) (n := 50) (s := [.reg [], .reg [(2, hF)], .reg [(0, { call := some ((clock_New_v y4).ren (sel [3, 4]), preOf (sel [3, 4]) 0 [], upOf (sel [3, 4]) (clock_New_up  y4)) })], .reg [(5, hC (parrellaw09_theirs_v y6)), (6, { call := some ((clock_Clock_Set_v y8).ren (sel [3, 4]), preOf (sel [3, 4]) 0 (clock_Clock_Set_objs 0 y4.2 y4.1 y6 7), upOf (sel [3, 4]) (clock_Clock_Set_up 0 y4.2 y4.1 y6 7 y8)) }), (8, hF)], .reg [], .reg [(1, hT)], .reg [(2, hC (parrellaw09_theirs_v y12)), (3, { call := some ((clock_Clock_Stop_v y14).ren (sel [3, 4]), preOf (sel [3, 4]) 0 (clock_Clock_Stop_objs y8.2.1 y8.2.2.2 y8.2.2.1 y12), upOf (sel [3, 4]) (clock_Clock_Stop_up y8.2.1 y8.2.2.2 y8.2.2.1 y12 y14)) })], .reg [(2, hC (parrellaw09_theirs_v y16)), (3, { call := some ((clock_Clock_Until_v y18).ren (sel [3, 4]), preOf (sel [3, 4]) 0 (clock_Clock_Until_objs y14.2.1 y14.2.2.2 y14.2.2.1 y16), upOf (sel [3, 4]) (clock_Clock_Until_up y14.2.1 y14.2.2.2 y14.2.2.1 y16 y18)) })], .reg [(2, hT)], .reg []])
            (a_ (a_ (r4_ tr) (a_ (m_ 4 4 rfl (m_ 4 4 rfl (a_ (a_ tr (a_ (LV.Le.trans (leB (k_T_parrelref09_Name a b)) (leB c1)) tr)) tr))) (a_ (a_ (a_ (a_ (clock_New_ok  y4 e2 (sel [3, 4]) (sel_inj rfl rfl)) tr) tr) (r1_ tr)) (a_ (r4_ (m_ 4 4 rfl (c_ (parrellaw09_theirs_tri a y6 e5) (a_ (a_ (a_ (clock_Clock_Set_ok 0 y4.2 y4.1 y6 7 y8 e7 (sel [3, 4]) (sel_inj rfl rfl)) (a_ (Eq.refl (.vw [.int .u32 0, .map 4] true [.int .u8, .int .u8, .int .u32, .int .u32] 64 (fun q_ => (y4.1 q_).map (encM v_T_clock_Name (LV.int .u32))) [] : LO)) (a_ (LO.Le.refl (.map true [.int .u8, .int .u8, .int .u32, .int .u32] (encM v_T_clock_Name (LV.int .u32) y4.2))) tr))) tr) (r1_ (f_ c9 tr)))))) (a_ (r1_ (l_ 0 6 rfl (a_ (a_ (ne0 4 rfl) tr) tr))) (a_ (r1_ (f_ c10 tr)) (a_ (r1_ (m_ 4 4 rfl (c_ (parrellaw09_theirs_tri b y12 e11) (a_ (a_ (a_ (clock_Clock_Stop_ok y8.2.1 y8.2.2.2 y8.2.2.1 y12 y14 e13 (sel [3, 4]) (sel_inj rfl rfl)) (a_ (Eq.refl (.vw [.int .u32 y8.2.1, .map 4] true [.int .u8, .int .u8, .int .u32, .int .u32] 64 (fun q_ => (y8.2.2.1 q_).map (encM v_T_clock_Name (LV.int .u32))) [] : LO)) (a_ (LO.Le.refl (.map true [.int .u8, .int .u8, .int .u32, .int .u32] (encM v_T_clock_Name (LV.int .u32) y8.2.2.2))) tr))) tr) tr)))) (a_ (r1_ (m_ 4 4 rfl (c_ (parrellaw09_theirs_tri a y16 e15) (a_ (a_ (a_ (clock_Clock_Until_ok y14.2.1 y14.2.2.2 y14.2.2.1 y16 y18 e17 (sel [3, 4]) (sel_inj rfl rfl)) (a_ (Eq.refl (.vw [.int .u32 y14.2.1, .map 4] true [.int .u8, .int .u8, .int .u32, .int .u32] 64 (fun q_ => (y14.2.2.1 q_).map (encM v_T_clock_Name (LV.int .u32))) [] : LO)) (a_ (LO.Le.refl (.map true [.int .u8, .int .u8, .int .u32, .int .u32] (encM v_T_clock_Name (LV.int .u32) y14.2.2.2))) tr))) tr) (r1_ (r4_ tr)))))) (a_ (r2_ (f_ c19 (t2_ (r1_ tr)))) (a_ (r1_ tr) tr)))))))))) tr) (by kernel_rfl) rfl
        · skip
          rcases itb_some h with ⟨c20, h⟩ | ⟨c20, h⟩
          · skip
            obtain rfl := Option.some.inj h
            exact run_ret mixed (L := []) (n := 50) (s := [.reg [], .reg [(2, hF)], .reg [(0, { call := some ((clock_New_v y4).ren (sel [3, 4]), preOf (sel [3, 4]) 0 [], upOf (sel [3, 4]) (clock_New_up  y4)) })], .reg [(5, hC (parrellaw09_theirs_v y6)), (6, { call := some ((clock_Clock_Set_v y8).ren (sel [3, 4]), preOf (sel [3, 4]) 0 (clock_Clock_Set_objs 0 y4.2 y4.1 y6 7), upOf (sel [3, 4]) (clock_Clock_Set_up 0 y4.2 y4.1 y6 7 y8)) }), (8, hF)], .reg [], .reg [(1, hT)], .reg [(2, hC (parrellaw09_theirs_v y12)), (3, { call := some ((clock_Clock_Stop_v y14).ren (sel [3, 4]), preOf (sel [3, 4]) 0 (clock_Clock_Stop_objs y8.2.1 y8.2.2.2 y8.2.2.1 y12), upOf (sel [3, 4]) (clock_Clock_Stop_up y8.2.1 y8.2.2.2 y8.2.2.1 y12 y14)) })], .reg [(2, hC (parrellaw09_theirs_v y16)), (3, { call := some ((clock_Clock_Until_v y18).ren (sel [3, 4]), preOf (sel [3, 4]) 0 (clock_Clock_Until_objs y14.2.1 y14.2.2.2 y14.2.2.1 y16), upOf (sel [3, 4]) (clock_Clock_Until_up y14.2.1 y14.2.2.2 y14.2.2.1 y16 y18)) })], .reg [(2, hF), (5, hT)], .reg []])
              (a_ (a_ (r4_ tr) (a_ (m_ 4 4 rfl (m_ 4 4 rfl (a_ (a_ tr (a_ (LV.Le.trans (leB (k_T_parrelref09_Name a b)) (leB c1)) tr)) tr))) (a_ (a_ (a_ (a_ (clock_New_ok  y4 e2 (sel [3, 4]) (sel_inj rfl rfl)) tr) tr) (r1_ tr)) (a_ (r4_ (m_ 4 4 rfl (c_ (parrellaw09_theirs_tri a y6 e5) (a_ (a_ (a_ (clock_Clock_Set_ok 0 y4.2 y4.1 y6 7 y8 e7 (sel [3, 4]) (sel_inj rfl rfl)) (a_ (Eq.refl (.vw [.int .u32 0, .map 4] true [.int .u8, .int .u8, .int .u32, .int .u32] 64 (fun q_ => (y4.1 q_).map (encM v_T_clock_Name (LV.int .u32))) [] : LO)) (a_ (LO.Le.refl (.map true [.int .u8, .int .u8, .int .u32, .int .u32] (encM v_T_clock_Name (LV.int .u32) y4.2))) tr))) tr) (r1_ (f_ c9 tr)))))) (a_ (r1_ (l_ 0 6 rfl (a_ (a_ (ne0 4 rfl) tr) tr))) (a_ (r1_ (f_ c10 tr)) (a_ (r1_ (m_ 4 4 rfl (c_ (parrellaw09_theirs_tri b y12 e11) (a_ (a_ (a_ (clock_Clock_Stop_ok y8.2.1 y8.2.2.2 y8.2.2.1 y12 y14 e13 (sel [3, 4]) (sel_inj rfl rfl)) (a_ (Eq.refl (.vw [.int .u32 y8.2.1, .map 4] true [.int .u8, .int .u8, .int .u32, .int .u32] 64 (fun q_ => (y8.2.2.1 q_).map (encM v_T_clock_Name (LV.int .u32))) [] : LO)) (a_ (LO.Le.refl (.map true [.int .u8, .int .u8, .int .u32, .int .u32] (encM v_T_clock_Name (LV.int .u32) y8.2.2.2))) tr))) tr) tr)))) (a_ (r1_ (m_ 4 4 rfl (c_ (parrellaw09_theirs_tri a y16 e15) (a_ (a_ (a_ (clock_Clock_Until_ok y14.2.1 y14.2.2.2 y14.2.2.1 y16 y18 e17 (sel [3, 4]) (sel_inj rfl rfl)) (a_ (Eq.refl (.vw [.int .u32 y14.2.1, .map 4] true [.int .u8, .int .u8, .int .u32, .int .u32] 64 (fun q_ => (y14.2.2.1 q_).map (encM v_T_clock_Name (LV.int .u32))) [] : LO)) (a_ (LO.Le.refl (.map true [.int .u8, .int .u8, .int .u32, .int .u32] (encM v_T_clock_Name (LV.int .u32) y14.2.2.2))) tr))) tr) (r1_ (r4_ tr)))))) (a_ (r2_ (f_ c19 (r2_ (f_ c20 tr)))) (a_ (r1_ tr) tr)))))))))) tr) (by kernel_rfl) rfl
          · skip
            obtain ⟨y22, e21, h⟩ := bind_some h
            obtain ⟨y24, e23, h⟩ := bind_some h
            rcases itb_some h with ⟨c25, h⟩ | ⟨c25, h⟩
            · skip
              obtain ⟨y27, e26, h⟩ := bind_some h
              obtain ⟨y29, e28, h⟩ := bind_some h
              rcases itb_some h with ⟨c30, h⟩ | ⟨c30, h⟩
              · skip
                obtain ⟨y32, e31, h⟩ := bind_some h
                obtain rfl := Option.some.inj h
                exact run_ret mixed (L := []) (n := 51) (s := [.reg [], .reg [(2, hF)], .reg [(0, { call := some ((clock_New_v y4).ren (sel [3, 4]), preOf (sel [3, 4]) 0 [], upOf (sel [3, 4]) (clock_New_up  y4)) })], .reg [(5, hC (parrellaw09_theirs_v y6)), (6, { call := some ((clock_Clock_Set_v y8).ren (sel [3, 4]), preOf (sel [3, 4]) 0 (clock_Clock_Set_objs 0 y4.2 y4.1 y6 7), upOf (sel [3, 4]) (clock_Clock_Set_up 0 y4.2 y4.1 y6 7 y8)) }), (8, hF)], .reg [], .reg [(1, hT)], .reg [(2, hC (parrellaw09_theirs_v y12)), (3, { call := some ((clock_Clock_Stop_v y14).ren (sel [3, 4]), preOf (sel [3, 4]) 0 (clock_Clock_Stop_objs y8.2.1 y8.2.2.2 y8.2.2.1 y12), upOf (sel [3, 4]) (clock_Clock_Stop_up y8.2.1 y8.2.2.2 y8.2.2.1 y12 y14)) })], .reg [(2, hC (parrellaw09_theirs_v y16)), (3, { call := some ((clock_Clock_Until_v y18).ren (sel [3, 4]), preOf (sel [3, 4]) 0 (clock_Clock_Until_objs y14.2.1 y14.2.2.2 y14.2.2.1 y16), upOf (sel [3, 4]) (clock_Clock_Until_up y14.2.1 y14.2.2.2 y14.2.2.1 y16 y18)) })], .reg [(2, hF), (5, hF)], .reg [(2, hC (parrellaw09_theirs_v y22)), (3, { call := some ((clock_Clock_Stop_v y24).ren (sel [3, 4]), preOf (sel [3, 4]) 0 (clock_Clock_Stop_objs y14.2.1 y14.2.2.2 y14.2.2.1 y22), upOf (sel [3, 4]) (clock_Clock_Stop_up y14.2.1 y14.2.2.2 y14.2.2.1 y22 y24)) }), (4, hT), (7, hC (parrellaw09_theirs_v y27)), (8, { call := some ((clock_Clock_Stop_v y29).ren (sel [3, 4]), preOf (sel [3, 4]) 0 (clock_Clock_Stop_objs y24.2.1 y24.2.2.2 y24.2.2.1 y27), upOf (sel [3, 4]) (clock_Clock_Stop_up y24.2.1 y24.2.2.2 y24.2.2.1 y27 y29)) }), (11, hT), (12, hC (parrellaw09_alive_v y32))]])
                  (a_ (a_ (r4_ tr) (a_ (m_ 4 4 rfl (m_ 4 4 rfl (a_ (a_ tr (a_ (LV.Le.trans (leB (k_T_parrelref09_Name a b)) (leB c1)) tr)) tr))) (a_ (a_ (a_ (a_ (clock_New_ok  y4 e2 (sel [3, 4]) (sel_inj rfl rfl)) tr) tr) (r1_ tr)) (a_ (r4_ (m_ 4 4 rfl (c_ (parrellaw09_theirs_tri a y6 e5) (a_ (a_ (a_ (clock_Clock_Set_ok 0 y4.2 y4.1 y6 7 y8 e7 (sel [3, 4]) (sel_inj rfl rfl)) (a_ (Eq.refl (.vw [.int .u32 0, .map 4] true [.int .u8, .int .u8, .int .u32, .int .u32] 64 (fun q_ => (y4.1 q_).map (encM v_T_clock_Name (LV.int .u32))) [] : LO)) (a_ (LO.Le.refl (.map true [.int .u8, .int .u8, .int .u32, .int .u32] (encM v_T_clock_Name (LV.int .u32) y4.2))) tr))) tr) (r1_ (f_ c9 tr)))))) (a_ (r1_ (l_ 0 6 rfl (a_ (a_ (ne0 4 rfl) tr) tr))) (a_ (r1_ (f_ c10 tr)) (a_ (r1_ (m_ 4 4 rfl (c_ (parrellaw09_theirs_tri b y12 e11) (a_ (a_ (a_ (clock_Clock_Stop_ok y8.2.1 y8.2.2.2 y8.2.2.1 y12 y14 e13 (sel [3, 4]) (sel_inj rfl rfl)) (a_ (Eq.refl (.vw [.int .u32 y8.2.1, .map 4] true [.int .u8, .int .u8, .int .u32, .int .u32] 64 (fun q_ => (y8.2.2.1 q_).map (encM v_T_clock_Name (LV.int .u32))) [] : LO)) (a_ (LO.Le.refl (.map true [.int .u8, .int .u8, .int .u32, .int .u32] (encM v_T_clock_Name (LV.int .u32) y8.2.2.2))) tr))) tr) tr)))) (a_ (r1_ (m_ 4 4 rfl (c_ (parrellaw09_theirs_tri a y16 e15) (a_ (a_ (a_ (clock_Clock_Until_ok y14.2.1 y14.2.2.2 y14.2.2.1 y16 y18 e17 (sel [3, 4]) (sel_inj rfl rfl)) (a_ (Eq.refl (.vw [.int .u32 y14.2.1, .map 4] true [.int .u8, .int .u8, .int .u32, .int .u32] 64 (fun q_ => (y14.2.2.1 q_).map (encM v_T_clock_Name (LV.int .u32))) [] : LO)) (a_ (LO.Le.refl (.map true [.int .u8, .int .u8, .int .u32, .int .u32] (encM v_T_clock_Name (LV.int .u32) y14.2.2.2))) tr))) tr) (r1_ (r4_ tr)))))) (a_ (r2_ (f_ c19 (r2_ (f_ c20 tr)))) (a_ (r1_ (m_ 4 4 rfl (c_ (parrellaw09_theirs_tri a y22 e21) (a_ (a_ (a_ (clock_Clock_Stop_ok y14.2.1 y14.2.2.2 y14.2.2.1 y22 y24 e23 (sel [3, 4]) (sel_inj rfl rfl)) (a_ (Eq.refl (.vw [.int .u32 y14.2.1, .map 4] true [.int .u8, .int .u8, .int .u32, .int .u32] 64 (fun q_ => (y14.2.2.1 q_).map (encM v_T_clock_Name (LV.int .u32))) [] : LO)) (a_ (LO.Le.refl (.map true [.int .u8, .int .u8, .int .u32, .int .u32] (encM v_T_clock_Name (LV.int .u32) y14.2.2.2))) tr))) tr) (f_ c25 (r1_ (m_ 4 4 rfl (c_ (parrellaw09_theirs_tri a y27 e26) (a_ (a_ (a_ (clock_Clock_Stop_ok y24.2.1 y24.2.2.2 y24.2.2.1 y27 y29 e28 (sel [3, 4]) (sel_inj rfl rfl)) (a_ (Eq.refl (.vw [.int .u32 y24.2.1, .map 4] true [.int .u8, .int .u8, .int .u32, .int .u32] 64 (fun q_ => (y24.2.2.1 q_).map (encM v_T_clock_Name (LV.int .u32))) [] : LO)) (a_ (LO.Le.refl (.map true [.int .u8, .int .u8, .int .u32, .int .u32] (encM v_T_clock_Name (LV.int .u32) y24.2.2.2))) tr))) tr) (r2_ (f_ c30 (c_ (parrellaw09_alive_tri  y32 e31) (r2_ tr))))))))))))) tr)))))))))) tr) (by kernel_rfl) rfl
              · skip
                obtain rfl := Option.some.inj h
                exact run_ret mixed (L := []) (n := 51) (s := [.reg [], .reg [(2, hF)], .reg [(0, { call := some ((clock_New_v y4).ren (sel [3, 4]), preOf (sel [3, 4]) 0 [], upOf (sel [3, 4]) (clock_New_up  y4)) })], .reg [(5, hC (parrellaw09_theirs_v y6)), (6, { call := some ((clock_Clock_Set_v y8).ren (sel [3, 4]), preOf (sel [3, 4]) 0 (clock_Clock_Set_objs 0 y4.2 y4.1 y6 7), upOf (sel [3, 4]) (clock_Clock_Set_up 0 y4.2 y4.1 y6 7 y8)) }), (8, hF)], .reg [], .reg [(1, hT)], .reg [(2, hC (parrellaw09_theirs_v y12)), (3, { call := some ((clock_Clock_Stop_v y14).ren (sel [3, 4]), preOf (sel [3, 4]) 0 (clock_Clock_Stop_objs y8.2.1 y8.2.2.2 y8.2.2.1 y12), upOf (sel [3, 4]) (clock_Clock_Stop_up y8.2.1 y8.2.2.2 y8.2.2.1 y12 y14)) })], .reg [(2, hC (parrellaw09_theirs_v y16)), (3, { call := some ((clock_Clock_Until_v y18).ren (sel [3, 4]), preOf (sel [3, 4]) 0 (clock_Clock_Until_objs y14.2.1 y14.2.2.2 y14.2.2.1 y16), upOf (sel [3, 4]) (clock_Clock_Until_up y14.2.1 y14.2.2.2 y14.2.2.1 y16 y18)) })], .reg [(2, hF), (5, hF)], .reg [(2, hC (parrellaw09_theirs_v y22)), (3, { call := some ((clock_Clock_Stop_v y24).ren (sel [3, 4]), preOf (sel [3, 4]) 0 (clock_Clock_Stop_objs y14.2.1 y14.2.2.2 y14.2.2.1 y22), upOf (sel [3, 4]) (clock_Clock_Stop_up y14.2.1 y14.2.2.2 y14.2.2.1 y22 y24)) }), (4, hT), (7, hC (parrellaw09_theirs_v y27)), (8, { call := some ((clock_Clock_Stop_v y29).ren (sel [3, 4]), preOf (sel [3, 4]) 0 (clock_Clock_Stop_objs y24.2.1 y24.2.2.2 y24.2.2.1 y27), upOf (sel [3, 4]) (clock_Clock_Stop_up y24.2.1 y24.2.2.2 y24.2.2.1 y27 y29)) }), (11, hF)]])
                  (a_ (a_ (r4_ tr) (a_ (m_ 4 4 rfl (m_ 4 4 rfl (a_ (a_ tr (a_ (LV.Le.trans (leB (k_T_parrelref09_Name a b)) (leB c1)) tr)) tr))) (a_ (a_ (a_ (a_ (clock_New_ok  y4 e2 (sel [3, 4]) (sel_inj rfl rfl)) tr) tr) (r1_ tr)) (a_ (r4_ (m_ 4 4 rfl (c_ (parrellaw09_theirs_tri a y6 e5) (a_ (a_ (a_ (clock_Clock_Set_ok 0 y4.2 y4.1 y6 7 y8 e7 (sel [3, 4]) (sel_inj rfl rfl)) (a_ (Eq.refl (.vw [.int .u32 0, .map 4] true [.int .u8, .int .u8, .int .u32, .int .u32] 64 (fun q_ => (y4.1 q_).map (encM v_T_clock_Name (LV.int .u32))) [] : LO)) (a_ (LO.Le.refl (.map true [.int .u8, .int .u8, .int .u32, .int .u32] (encM v_T_clock_Name (LV.int .u32) y4.2))) tr))) tr) (r1_ (f_ c9 tr)))))) (a_ (r1_ (l_ 0 6 rfl (a_ (a_ (ne0 4 rfl) tr) tr))) (a_ (r1_ (f_ c10 tr)) (a_ (r1_ (m_ 4 4 rfl (c_ (parrellaw09_theirs_tri b y12 e11) (a_ (a_ (a_ (clock_Clock_Stop_ok y8.2.1 y8.2.2.2 y8.2.2.1 y12 y14 e13 (sel [3, 4]) (sel_inj rfl rfl)) (a_ (Eq.refl (.vw [.int .u32 y8.2.1, .map 4] true [.int .u8, .int .u8, .int .u32, .int .u32] 64 (fun q_ => (y8.2.2.1 q_).map (encM v_T_clock_Name (LV.int .u32))) [] : LO)) (a_ (LO.Le.refl (.map true [.int .u8, .int .u8, .int .u32, .int .u32] (encM v_T_clock_Name (LV.int .u32) y8.2.2.2))) tr))) tr) tr)))) (a_ (r1_ (m_ 4 4 rfl (c_ (parrellaw09_theirs_tri a y16 e15) (a_ (a_ (a_ (clock_Clock_Until_ok y14.2.1 y14.2.2.2 y14.2.2.1 y16 y18 e17 (sel [3, 4]) (sel_inj rfl rfl)) (a_ (Eq.refl (.vw [.int .u32 y14.2.1, .map 4] true [.int .u8, .int .u8, .int .u32, .int .u32] 64 (fun q_ => (y14.2.2.1 q_).map (encM v_T_clock_Name (LV.int .u32))) [] : LO)) (a_ (LO.Le.refl (.map true [.int .u8, .int .u8, .int .u32, .int .u32] (encM v_T_clock_Name (LV.int .u32) y14.2.2.2))) tr))) tr) (r1_ (r4_ tr)))))) (a_ (r2_ (f_ c19 (r2_ (f_ c20 tr)))) (a_ (r1_ (m_ 4 4 rfl (c_ (parrellaw09_theirs_tri a y22 e21) (a_ (a_ (a_ (clock_Clock_Stop_ok y14.2.1 y14.2.2.2 y14.2.2.1 y22 y24 e23 (sel [3, 4]) (sel_inj rfl rfl)) (a_ (Eq.refl (.vw [.int .u32 y14.2.1, .map 4] true [.int .u8, .int .u8, .int .u32, .int .u32] 64 (fun q_ => (y14.2.2.1 q_).map (encM v_T_clock_Name (LV.int .u32))) [] : LO)) (a_ (LO.Le.refl (.map true [.int .u8, .int .u8, .int .u32, .int .u32] (encM v_T_clock_Name (LV.int .u32) y14.2.2.2))) tr))) tr) (f_ c25 (r1_ (m_ 4 4 rfl (c_ (parrellaw09_theirs_tri a y27 e26) (a_ (a_ (a_ (clock_Clock_Stop_ok y24.2.1 y24.2.2.2 y24.2.2.1 y27 y29 e28 (sel [3, 4]) (sel_inj rfl rfl)) (a_ (Eq.refl (.vw [.int .u32 y24.2.1, .map 4] true [.int .u8, .int .u8, .int .u32, .int .u32] 64 (fun q_ => (y24.2.2.1 q_).map (encM v_T_clock_Name (LV.int .u32))) [] : LO)) (a_ (LO.Le.refl (.map true [.int .u8, .int .u8, .int .u32, .int .u32] (encM v_T_clock_Name (LV.int .u32) y24.2.2.2))) tr))) tr) (r2_ (f_ c30 (a_ tr (r2_ tr))))))))))))) tr)))))))))) tr) (by kernel_rfl) rfl
            · skip
              obtain rfl := Option.some.inj h
              exact run_ret mixed (L := []) (n := 51) (s := [.reg [], .reg [(2, hF)], .reg [(0, { call := some ((clock_New_v y4).ren (sel [3, 4]), preOf (sel [3, 4]) 0 [], upOf (sel [3, 4]) (clock_New_up  y4)) })], .reg [(5, hC (parrellaw09_theirs_v y6)), (6, { call := some ((clock_Clock_Set_v y8).ren (sel [3, 4]), preOf (sel [3, 4]) 0 (clock_Clock_Set_objs 0 y4.2 y4.1 y6 7), upOf (sel [3, 4]) (clock_Clock_Set_up 0 y4.2 y4.1 y6 7 y8)) }), (8, hF)], .reg [], .reg [(1, hT)], .reg [(2, hC (parrellaw09_theirs_v y12)), (3, { call := some ((clock_Clock_Stop_v y14).ren (sel [3, 4]), preOf (sel [3, 4]) 0 (clock_Clock_Stop_objs y8.2.1 y8.2.2.2 y8.2.2.1 y12), upOf (sel [3, 4]) (clock_Clock_Stop_up y8.2.1 y8.2.2.2 y8.2.2.1 y12 y14)) })], .reg [(2, hC (parrellaw09_theirs_v y16)), (3, { call := some ((clock_Clock_Until_v y18).ren (sel [3, 4]), preOf (sel [3, 4]) 0 (clock_Clock_Until_objs y14.2.1 y14.2.2.2 y14.2.2.1 y16), upOf (sel [3, 4]) (clock_Clock_Until_up y14.2.1 y14.2.2.2 y14.2.2.1 y16 y18)) })], .reg [(2, hF), (5, hF)], .reg [(2, hC (parrellaw09_theirs_v y22)), (3, { call := some ((clock_Clock_Stop_v y24).ren (sel [3, 4]), preOf (sel [3, 4]) 0 (clock_Clock_Stop_objs y14.2.1 y14.2.2.2 y14.2.2.1 y22), upOf (sel [3, 4]) (clock_Clock_Stop_up y14.2.1 y14.2.2.2 y14.2.2.1 y22 y24)) }), (4, hF)]])
                (a_ (a_ (r4_ tr) (a_ (m_ 4 4 rfl (m_ 4 4 rfl (a_ (a_ tr (a_ (LV.Le.trans (leB (k_T_parrelref09_Name a b)) (leB c1)) tr)) tr))) (a_ (a_ (a_ (a_ (clock_New_ok  y4 e2 (sel [3, 4]) (sel_inj rfl rfl)) tr) tr) (r1_ tr)) (a_ (r4_ (m_ 4 4 rfl (c_ (parrellaw09_theirs_tri a y6 e5) (a_ (a_ (a_ (clock_Clock_Set_ok 0 y4.2 y4.1 y6 7 y8 e7 (sel [3, 4]) (sel_inj rfl rfl)) (a_ (Eq.refl (.vw [.int .u32 0, .map 4] true [.int .u8, .int .u8, .int .u32, .int .u32] 64 (fun q_ => (y4.1 q_).map (encM v_T_clock_Name (LV.int .u32))) [] : LO)) (a_ (LO.Le.refl (.map true [.int .u8, .int .u8, .int .u32, .int .u32] (encM v_T_clock_Name (LV.int .u32) y4.2))) tr))) tr) (r1_ (f_ c9 tr)))))) (a_ (r1_ (l_ 0 6 rfl (a_ (a_ (ne0 4 rfl) tr) tr))) (a_ (r1_ (f_ c10 tr)) (a_ (r1_ (m_ 4 4 rfl (c_ (parrellaw09_theirs_tri b y12 e11) (a_ (a_ (a_ (clock_Clock_Stop_ok y8.2.1 y8.2.2.2 y8.2.2.1 y12 y14 e13 (sel [3, 4]) (sel_inj rfl rfl)) (a_ (Eq.refl (.vw [.int .u32 y8.2.1, .map 4] true [.int .u8, .int .u8, .int .u32, .int .u32] 64 (fun q_ => (y8.2.2.1 q_).map (encM v_T_clock_Name (LV.int .u32))) [] : LO)) (a_ (LO.Le.refl (.map true [.int .u8, .int .u8, .int .u32, .int .u32] (encM v_T_clock_Name (LV.int .u32) y8.2.2.2))) tr))) tr) tr)))) (a_ (r1_ (m_ 4 4 rfl (c_ (parrellaw09_theirs_tri a y16 e15) (a_ (a_ (a_ (clock_Clock_Until_ok y14.2.1 y14.2.2.2 y14.2.2.1 y16 y18 e17 (sel [3, 4]) (sel_inj rfl rfl)) (a_ (Eq.refl (.vw [.int .u32 y14.2.1, .map 4] true [.int .u8, .int .u8, .int .u32, .int .u32] 64 (fun q_ => (y14.2.2.1 q_).map (encM v_T_clock_Name (LV.int .u32))) [] : LO)) (a_ (LO.Le.refl (.map true [.int .u8, .int .u8, .int .u32, .int .u32] (encM v_T_clock_Name (LV.int .u32) y14.2.2.2))) tr))) tr) (r1_ (r4_ tr)))))) (a_ (r2_ (f_ c19 (r2_ (f_ c20 tr)))) (a_ (r1_ (m_ 4 4 rfl (c_ (parrellaw09_theirs_tri a y22 e21) (a_ (a_ (a_ (clock_Clock_Stop_ok y14.2.1 y14.2.2.2 y14.2.2.1 y22 y24 e23 (sel [3, 4]) (sel_inj rfl rfl)) (a_ (Eq.refl (.vw [.int .u32 y14.2.1, .map 4] true [.int .u8, .int .u8, .int .u32, .int .u32] 64 (fun q_ => (y14.2.2.1 q_).map (encM v_T_clock_Name (LV.int .u32))) [] : LO)) (a_ (LO.Le.refl (.map true [.int .u8, .int .u8, .int .u32, .int .u32] (encM v_T_clock_Name (LV.int .u32) y14.2.2.2))) tr))) tr) (f_ c25 (a_ tr (t4_ (r2_ (a_ tr (r2_ tr)))))))))) tr)))))))))) tr) (by kernel_rfl) rfl
      · skip
        obtain ⟨y12, e11, h⟩ := bind_some h
        obtain ⟨y15, e13, h⟩ := bind_some h
        obtain ⟨y17, e16, h⟩ := bind_some h
        obtain ⟨y19, e18, h⟩ := bind_some h
        rcases itb_some h with ⟨c20, h⟩ | ⟨c20, h⟩
        · skip
          obtain rfl := Option.some.inj h
          exact run_ret mixed (L := []) (n := 50) (s := [.reg [], .reg [(2, hF)], .reg [(0, { call := some ((clock_New_v y4).ren (sel [3, 4]), preOf (sel [3, 4]) 0 [], upOf (sel [3, 4]) (clock_New_up  y4)) })], .reg [(5, hC (parrellaw09_theirs_v y6)), (6, { call := some ((clock_Clock_Set_v y8).ren (sel [3, 4]), preOf (sel [3, 4]) 0 (clock_Clock_Set_objs 0 y4.2 y4.1 y6 7), upOf (sel [3, 4]) (clock_Clock_Set_up 0 y4.2 y4.1 y6 7 y8)) }), (8, hF)], .reg [], .reg [(1, hF)], .reg [(2, hC (parrellaw09_theirs_v y12)), (5, { call := some ((clock_Clock_Set_v y15).ren (sel [3, 4]), preOf (sel [3, 4]) 0 (clock_Clock_Set_objs y8.2.1 y8.2.2.2 y8.2.2.1 y12 act.f_After), upOf (sel [3, 4]) (clock_Clock_Set_up y8.2.1 y8.2.2.2 y8.2.2.1 y12 act.f_After y15)) })], .reg [(2, hC (parrellaw09_theirs_v y17)), (3, { call := some ((clock_Clock_Until_v y19).ren (sel [3, 4]), preOf (sel [3, 4]) 0 (clock_Clock_Until_objs y15.2.1 y15.2.2.2 y15.2.2.1 y17), upOf (sel [3, 4]) (clock_Clock_Until_up y15.2.1 y15.2.2.2 y15.2.2.1 y17 y19)) })], .reg [(2, hT)], .reg []])
            (a_ (a_ (r4_ tr) (a_ (m_ 4 4 rfl (m_ 4 4 rfl (a_ (a_ tr (a_ (LV.Le.trans (leB (k_T_parrelref09_Name a b)) (leB c1)) tr)) tr))) (a_ (a_ (a_ (a_ (clock_New_ok  y4 e2 (sel [3, 4]) (sel_inj rfl rfl)) tr) tr) (r1_ tr)) (a_ (r4_ (m_ 4 4 rfl (c_ (parrellaw09_theirs_tri a y6 e5) (a_ (a_ (a_ (clock_Clock_Set_ok 0 y4.2 y4.1 y6 7 y8 e7 (sel [3, 4]) (sel_inj rfl rfl)) (a_ (Eq.refl (.vw [.int .u32 0, .map 4] true [.int .u8, .int .u8, .int .u32, .int .u32] 64 (fun q_ => (y4.1 q_).map (encM v_T_clock_Name (LV.int .u32))) [] : LO)) (a_ (LO.Le.refl (.map true [.int .u8, .int .u8, .int .u32, .int .u32] (encM v_T_clock_Name (LV.int .u32) y4.2))) tr))) tr) (r1_ (f_ c9 tr)))))) (a_ (r1_ (l_ 0 6 rfl (a_ (a_ (ne0 4 rfl) tr) tr))) (a_ (r1_ (f_ c10 tr)) (a_ (r1_ (m_ 4 4 rfl (c_ (parrellaw09_theirs_tri b y12 e11) (r1_ (l_ 5 6 rfl (a_ (a_ (a_ (clock_Clock_Set_ok y8.2.1 y8.2.2.2 y8.2.2.1 y12 act.f_After y15 e13 (sel [3, 4]) (sel_inj rfl rfl)) (a_ (Eq.refl (.vw [.int .u32 y8.2.1, .map 4] true [.int .u8, .int .u8, .int .u32, .int .u32] 64 (fun q_ => (y8.2.2.1 q_).map (encM v_T_clock_Name (LV.int .u32))) [] : LO)) (a_ (LO.Le.refl (.map true [.int .u8, .int .u8, .int .u32, .int .u32] (encM v_T_clock_Name (LV.int .u32) y8.2.2.2))) tr))) tr) tr)))))) (a_ (r1_ (m_ 4 4 rfl (c_ (parrellaw09_theirs_tri a y17 e16) (a_ (a_ (a_ (clock_Clock_Until_ok y15.2.1 y15.2.2.2 y15.2.2.1 y17 y19 e18 (sel [3, 4]) (sel_inj rfl rfl)) (a_ (Eq.refl (.vw [.int .u32 y15.2.1, .map 4] true [.int .u8, .int .u8, .int .u32, .int .u32] 64 (fun q_ => (y15.2.2.1 q_).map (encM v_T_clock_Name (LV.int .u32))) [] : LO)) (a_ (LO.Le.refl (.map true [.int .u8, .int .u8, .int .u32, .int .u32] (encM v_T_clock_Name (LV.int .u32) y15.2.2.2))) tr))) tr) (r1_ (r4_ tr)))))) (a_ (r2_ (f_ c20 (t2_ (r1_ tr)))) (a_ (r1_ tr) tr)))))))))) tr) (by kernel_rfl) rfl
        · skip
          rcases itb_some h with ⟨c21, h⟩ | ⟨c21, h⟩
          · skip
            obtain rfl := Option.some.inj h
            exact run_ret mixed (L := []) (n := 50) (s := [.reg [], .reg [(2, hF)], .reg [(0, { call := some ((clock_New_v y4).ren (sel [3, 4]), preOf (sel [3, 4]) 0 [], upOf (sel [3, 4]) (clock_New_up  y4)) })], .reg [(5, hC (parrellaw09_theirs_v y6)), (6, { call := some ((clock_Clock_Set_v y8).ren (sel [3, 4]), preOf (sel [3, 4]) 0 (clock_Clock_Set_objs 0 y4.2 y4.1 y6 7), upOf (sel [3, 4]) (clock_Clock_Set_up 0 y4.2 y4.1 y6 7 y8)) }), (8, hF)], .reg [], .reg [(1, hF)], .reg [(2, hC (parrellaw09_theirs_v y12)), (5, { call := some ((clock_Clock_Set_v y15).ren (sel [3, 4]), preOf (sel [3, 4]) 0 (clock_Clock_Set_objs y8.2.1 y8.2.2.2 y8.2.2.1 y12 act.f_After), upOf (sel [3, 4]) (clock_Clock_Set_up y8.2.1 y8.2.2.2 y8.2.2.1 y12 act.f_After y15)) })], .reg [(2, hC (parrellaw09_theirs_v y17)), (3, { call := some ((clock_Clock_Until_v y19).ren (sel [3, 4]), preOf (sel [3, 4]) 0 (clock_Clock_Until_objs y15.2.1 y15.2.2.2 y15.2.2.1 y17), upOf (sel [3, 4]) (clock_Clock_Until_up y15.2.1 y15.2.2.2 y15.2.2.1 y17 y19)) })], .reg [(2, hF), (5, hT)], .reg []])
              (a_ (a_ (r4_ tr) (a_ (m_ 4 4 rfl (m_ 4 4 rfl (a_ (a_ tr (a_ (LV.Le.trans (leB (k_T_parrelref09_Name a b)) (leB c1)) tr)) tr))) (a_ (a_ (a_ (a_ (clock_New_ok  y4 e2 (sel [3, 4]) (sel_inj rfl rfl)) tr) tr) (r1_ tr)) (a_ (r4_ (m_ 4 4 rfl (c_ (parrellaw09_theirs_tri a y6 e5) (a_ (a_ (a_ (clock_Clock_Set_ok 0 y4.2 y4.1 y6 7 y8 e7 (sel [3, 4]) (sel_inj rfl rfl)) (a_ (Eq.refl (.vw [.int .u32 0, .map 4] true [.int .u8, .int .u8, .int .u32, .int .u32] 64 (fun q_ => (y4.1 q_).map (encM v_T_clock_Name (LV.int .u32))) [] : LO)) (a_ (LO.Le.refl (.map true [.int .u8, .int .u8, .int .u32, .int .u32] (encM v_T_clock_Name (LV.int .u32) y4.2))) tr))) tr) (r1_ (f_ c9 tr)))))) (a_ (r1_ (l_ 0 6 rfl (a_ (a_ (ne0 4 rfl) tr) tr))) (a_ (r1_ (f_ c10 tr)) (a_ (r1_ (m_ 4 4 rfl (c_ (parrellaw09_theirs_tri b y12 e11) (r1_ (l_ 5 6 rfl (a_ (a_ (a_ (clock_Clock_Set_ok y8.2.1 y8.2.2.2 y8.2.2.1 y12 act.f_After y15 e13 (sel [3, 4]) (sel_inj rfl rfl)) (a_ (Eq.refl (.vw [.int .u32 y8.2.1, .map 4] true [.int .u8, .int .u8, .int .u32, .int .u32] 64 (fun q_ => (y8.2.2.1 q_).map (encM v_T_clock_Name (LV.int .u32))) [] : LO)) (a_ (LO.Le.refl (.map true [.int .u8, .int .u8, .int .u32, .int .u32] (encM v_T_clock_Name (LV.int .u32) y8.2.2.2))) tr))) tr) tr)))))) (a_ (r1_ (m_ 4 4 rfl (c_ (parrellaw09_theirs_tri a y17 e16) (a_ (a_ (a_ (clock_Clock_Until_ok y15.2.1 y15.2.2.2 y15.2.2.1 y17 y19 e18 (sel [3, 4]) (sel_inj rfl rfl)) (a_ (Eq.refl (.vw [.int .u32 y15.2.1, .map 4] true [.int .u8, .int .u8, .int .u32, .int .u32] 64 (fun q_ => (y15.2.2.1 q_).map (encM v_T_clock_Name (LV.int .u32))) [] : LO)) (a_ (LO.Le.refl (.map true [.int .u8, .int .u8, .int .u32, .int .u32] (encM v_T_clock_Name (LV.int .u32) y15.2.2.2))) tr))) tr) (r1_ (r4_ tr)))))) (a_ (r2_ (f_ c20 (r2_ (f_ c21 tr)))) (a_ (r1_ tr) tr)))))))))) tr) (by kernel_rfl) rfl
          · skip
            obtain ⟨y23, e22, h⟩ := bind_some h
            obtain ⟨y25, e24, h⟩ := bind_some h
            rcases itb_some h with ⟨c26, h⟩ | ⟨c26, h⟩
            · skip
              obtain ⟨y28, e27, h⟩ := bind_some h
              obtain ⟨y30, e29, h⟩ := bind_some h
              rcases itb_some h with ⟨c31, h⟩ | ⟨c31, h⟩
              · skip
                obtain ⟨y33, e32, h⟩ := bind_some h
                obtain rfl := Option.some.inj h
                exact run_ret mixed (L := []) (n := 51) (s := [.reg [], .reg [(2, hF)], .reg [(0, { call := some ((clock_New_v y4).ren (sel [3, 4]), preOf (sel [3, 4]) 0 [], upOf (sel [3, 4]) (clock_New_up  y4)) })], .reg [(5, hC (parrellaw09_theirs_v y6)), (6, { call := some ((clock_Clock_Set_v y8).ren (sel [3, 4]), preOf (sel [3, 4]) 0 (clock_Clock_Set_objs 0 y4.2 y4.1 y6 7), upOf (sel [3, 4]) (clock_Clock_Set_up 0 y4.2 y4.1 y6 7 y8)) }), (8, hF)], .reg [], .reg [(1, hF)], .reg [(2, hC (parrellaw09_theirs_v y12)), (5, { call := some ((clock_Clock_Set_v y15).ren (sel [3, 4]), preOf (sel [3, 4]) 0 (clock_Clock_Set_objs y8.2.1 y8.2.2.2 y8.2.2.1 y12 act.f_After), upOf (sel [3, 4]) (clock_Clock_Set_up y8.2.1 y8.2.2.2 y8.2.2.1 y12 act.f_After y15)) })], .reg [(2, hC (parrellaw09_theirs_v y17)), (3, { call := some ((clock_Clock_Until_v y19).ren (sel [3, 4]), preOf (sel [3, 4]) 0 (clock_Clock_Until_objs y15.2.1 y15.2.2.2 y15.2.2.1 y17), upOf (sel [3, 4]) (clock_Clock_Until_up y15.2.1 y15.2.2.2 y15.2.2.1 y17 y19)) })], .reg [(2, hF), (5, hF)], .reg [(2, hC (parrellaw09_theirs_v y23)), (3, { call := some ((clock_Clock_Stop_v y25).ren (sel [3, 4]), preOf (sel [3, 4]) 0 (clock_Clock_Stop_objs y15.2.1 y15.2.2.2 y15.2.2.1 y23), upOf (sel [3, 4]) (clock_Clock_Stop_up y15.2.1 y15.2.2.2 y15.2.2.1 y23 y25)) }), (4, hT), (7, hC (parrellaw09_theirs_v y28)), (8, { call := some ((clock_Clock_Stop_v y30).ren (sel [3, 4]), preOf (sel [3, 4]) 0 (clock_Clock_Stop_objs y25.2.1 y25.2.2.2 y25.2.2.1 y28), upOf (sel [3, 4]) (clock_Clock_Stop_up y25.2.1 y25.2.2.2 y25.2.2.1 y28 y30)) }), (11, hT), (12, hC (parrellaw09_alive_v y33))]])
                  (a_ (a_ (r4_ tr) (a_ (m_ 4 4 rfl (m_ 4 4 rfl (a_ (a_ tr (a_ (LV.Le.trans (leB (k_T_parrelref09_Name a b)) (leB c1)) tr)) tr))) (a_ (a_ (a_ (a_ (clock_New_ok  y4 e2 (sel [3, 4]) (sel_inj rfl rfl)) tr) tr) (r1_ tr)) (a_ (r4_ (m_ 4 4 rfl (c_ (parrellaw09_theirs_tri a y6 e5) (a_ (a_ (a_ (clock_Clock_Set_ok 0 y4.2 y4.1 y6 7 y8 e7 (sel [3, 4]) (sel_inj rfl rfl)) (a_ (Eq.refl (.vw [.int .u32 0, .map 4] true [.int .u8, .int .u8, .int .u32, .int .u32] 64 (fun q_ => (y4.1 q_).map (encM v_T_clock_Name (LV.int .u32))) [] : LO)) (a_ (LO.Le.refl (.map true [.int .u8, .int .u8, .int .u32, .int .u32] (encM v_T_clock_Name (LV.int .u32) y4.2))) tr))) tr) (r1_ (f_ c9 tr)))))) (a_ (r1_ (l_ 0 6 rfl (a_ (a_ (ne0 4 rfl) tr) tr))) (a_ (r1_ (f_ c10 tr)) (a_ (r1_ (m_ 4 4 rfl (c_ (parrellaw09_theirs_tri b y12 e11) (r1_ (l_ 5 6 rfl (a_ (a_ (a_ (clock_Clock_Set_ok y8.2.1 y8.2.2.2 y8.2.2.1 y12 act.f_After y15 e13 (sel [3, 4]) (sel_inj rfl rfl)) (a_ (Eq.refl (.vw [.int .u32 y8.2.1, .map 4] true [.int .u8, .int .u8, .int .u32, .int .u32] 64 (fun q_ => (y8.2.2.1 q_).map (encM v_T_clock_Name (LV.int .u32))) [] : LO)) (a_ (LO.Le.refl (.map true [.int .u8, .int .u8, .int .u32, .int .u32] (encM v_T_clock_Name (LV.int .u32) y8.2.2.2))) tr))) tr) tr)))))) (a_ (r1_ (m_ 4 4 rfl (c_ (parrellaw09_theirs_tri a y17 e16) (a_ (a_ (a_ (clock_Clock_Until_ok y15.2.1 y15.2.2.2 y15.2.2.1 y17 y19 e18 (sel [3, 4]) (sel_inj rfl rfl)) (a_ (Eq.refl (.vw [.int .u32 y15.2.1, .map 4] true [.int .u8, .int .u8, .int .u32, .int .u32] 64 (fun q_ => (y15.2.2.1 q_).map (encM v_T_clock_Name (LV.int .u32))) [] : LO)) (a_ (LO.Le.refl (.map true [.int .u8, .int .u8, .int .u32, .int .u32] (encM v_T_clock_Name (LV.int .u32) y15.2.2.2))) tr))) tr) (r1_ (r4_ tr)))))) (a_ (r2_ (f_ c20 (r2_ (f_ c21 tr)))) (a_ (r1_ (m_ 4 4 rfl (c_ (parrellaw09_theirs_tri a y23 e22) (a_ (a_ (a_ (clock_Clock_Stop_ok y15.2.1 y15.2.2.2 y15.2.2.1 y23 y25 e24 (sel [3, 4]) (sel_inj rfl rfl)) (a_ (Eq.refl (.vw [.int .u32 y15.2.1, .map 4] true [.int .u8, .int .u8, .int .u32, .int .u32] 64 (fun q_ => (y15.2.2.1 q_).map (encM v_T_clock_Name (LV.int .u32))) [] : LO)) (a_ (LO.Le.refl (.map true [.int .u8, .int .u8, .int .u32, .int .u32] (encM v_T_clock_Name (LV.int .u32) y15.2.2.2))) tr))) tr) (f_ c26 (r1_ (m_ 4 4 rfl (c_ (parrellaw09_theirs_tri a y28 e27) (a_ (a_ (a_ (clock_Clock_Stop_ok y25.2.1 y25.2.2.2 y25.2.2.1 y28 y30 e29 (sel [3, 4]) (sel_inj rfl rfl)) (a_ (Eq.refl (.vw [.int .u32 y25.2.1, .map 4] true [.int .u8, .int .u8, .int .u32, .int .u32] 64 (fun q_ => (y25.2.2.1 q_).map (encM v_T_clock_Name (LV.int .u32))) [] : LO)) (a_ (LO.Le.refl (.map true [.int .u8, .int .u8, .int .u32, .int .u32] (encM v_T_clock_Name (LV.int .u32) y25.2.2.2))) tr))) tr) (r2_ (f_ c31 (c_ (parrellaw09_alive_tri  y33 e32) (r2_ tr))))))))))))) tr)))))))))) tr) (by kernel_rfl) rfl
              · skip
                obtain rfl := Option.some.inj h
                exact run_ret mixed (L := []) (n := 51) (s := [.reg [], .reg [(2, hF)], .reg [(0, { call := some ((clock_New_v y4).ren (sel [3, 4]), preOf (sel [3, 4]) 0 [], upOf (sel [3, 4]) (clock_New_up  y4)) })], .reg [(5, hC (parrellaw09_theirs_v y6)), (6, { call := some ((clock_Clock_Set_v y8).ren (sel [3, 4]), preOf (sel [3, 4]) 0 (clock_Clock_Set_objs 0 y4.2 y4.1 y6 7), upOf (sel [3, 4]) (clock_Clock_Set_up 0 y4.2 y4.1 y6 7 y8)) }), (8, hF)], .reg [], .reg [(1, hF)], .reg [(2, hC (parrellaw09_theirs_v y12)), (5, { call := some ((clock_Clock_Set_v y15).ren (sel [3, 4]), preOf (sel [3, 4]) 0 (clock_Clock_Set_objs y8.2.1 y8.2.2.2 y8.2.2.1 y12 act.f_After), upOf (sel [3, 4]) (clock_Clock_Set_up y8.2.1 y8.2.2.2 y8.2.2.1 y12 act.f_After y15)) })], .reg [(2, hC (parrellaw09_theirs_v y17)), (3, { call := some ((clock_Clock_Until_v y19).ren (sel [3, 4]), preOf (sel [3, 4]) 0 (clock_Clock_Until_objs y15.2.1 y15.2.2.2 y15.2.2.1 y17), upOf (sel [3, 4]) (clock_Clock_Until_up y15.2.1 y15.2.2.2 y15.2.2.1 y17 y19)) })], .reg [(2, hF), (5, hF)], .reg [(2, hC (parrellaw09_theirs_v y23)), (3, { call := some ((clock_Clock_Stop_v y25).ren (sel [3, 4]), preOf (sel [3, 4]) 0 (clock_Clock_Stop_objs y15.2.1 y15.2.2.2 y15.2.2.1 y23), upOf (sel [3, 4]) (clock_Clock_Stop_up y15.2.1 y15.2.2.2 y15.2.2.1 y23 y25)) }), (4, hT), (7, hC (parrellaw09_theirs_v y28)), (8, { call := some ((clock_Clock_Stop_v y30).ren (sel [3, 4]), preOf (sel [3, 4]) 0 (clock_Clock_Stop_objs y25.2.1 y25.2.2.2 y25.2.2.1 y28), upOf (sel [3, 4]) (clock_Clock_Stop_up y25.2.1 y25.2.2.2 y25.2.2.1 y28 y30)) }), (11, hF)]])
                  (a_ (a_ (r4_ tr) (a_ (m_ 4 4 rfl (m_ 4 4 rfl (a_ (a_ tr (a_ (LV.Le.trans (leB (k_T_parrelref09_Name a b)) (leB c1)) tr)) tr))) (a_ (a_ (a_ (a_ (clock_New_ok  y4 e2 (sel [3, 4]) (sel_inj rfl rfl)) tr) tr) (r1_ tr)) (a_ (r4_ (m_ 4 4 rfl (c_ (parrellaw09_theirs_tri a y6 e5) (a_ (a_ (a_ (clock_Clock_Set_ok 0 y4.2 y4.1 y6 7 y8 e7 (sel [3, 4]) (sel_inj rfl rfl)) (a_ (Eq.refl (.vw [.int .u32 0, .map 4] true [.int .u8, .int .u8, .int .u32, .int .u32] 64 (fun q_ => (y4.1 q_).map (encM v_T_clock_Name (LV.int .u32))) [] : LO)) (a_ (LO.Le.refl (.map true [.int .u8, .int .u8, .int .u32, .int .u32] (encM v_T_clock_Name (LV.int .u32) y4.2))) tr))) tr) (r1_ (f_ c9 tr)))))) (a_ (r1_ (l_ 0 6 rfl (a_ (a_ (ne0 4 rfl) tr) tr))) (a_ (r1_ (f_ c10 tr)) (a_ (r1_ (m_ 4 4 rfl (c_ (parrellaw09_theirs_tri b y12 e11) (r1_ (l_ 5 6 rfl (a_ (a_ (a_ (clock_Clock_Set_ok y8.2.1 y8.2.2.2 y8.2.2.1 y12 act.f_After y15 e13 (sel [3, 4]) (sel_inj rfl rfl)) (a_ (Eq.refl (.vw [.int .u32 y8.2.1, .map 4] true [.int .u8, .int .u8, .int .u32, .int .u32] 64 (fun q_ => (y8.2.2.1 q_).map (encM v_T_clock_Name (LV.int .u32))) [] : LO)) (a_ (LO.Le.refl (.map true [.int .u8, .int .u8, .int .u32, .int .u32] (encM v_T_clock_Name (LV.int .u32) y8.2.2.2))) tr))) tr) tr)))))) (a_ (r1_ (m_ 4 4 rfl (c_ (parrellaw09_theirs_tri a y17 e16) (a_ (a_ (a_ (clock_Clock_Until_ok y15.2.1 y15.2.2.2 y15.2.2.1 y17 y19 e18 (sel [3, 4]) (sel_inj rfl rfl)) (a_ (Eq.refl (.vw [.int .u32 y15.2.1, .map 4] true [.int .u8, .int .u8, .int .u32, .int .u32] 64 (fun q_ => (y15.2.2.1 q_).map (encM v_T_clock_Name (LV.int .u32))) [] : LO)) (a_ (LO.Le.refl (.map true [.int .u8, .int .u8, .int .u32, .int .u32] (encM v_T_clock_Name (LV.int .u32) y15.2.2.2))) tr))) tr) (r1_ (r4_ tr)))))) (a_ (r2_ (f_ c20 (r2_ (f_ c21 tr)))) (a_ (r1_ (m_ 4 4 rfl (c_ (parrellaw09_theirs_tri a y23 e22) (a_ (a_ (a_ (clock_Clock_Stop_ok y15.2.1 y15.2.2.2 y15.2.2.1 y23 y25 e24 (sel [3, 4]) (sel_inj rfl rfl)) (a_ (Eq.refl (.vw [.int .u32 y15.2.1, .map 4] true [.int .u8, .int .u8, .int .u32, .int .u32] 64 (fun q_ => (y15.2.2.1 q_).map (encM v_T_clock_Name (LV.int .u32))) [] : LO)) (a_ (LO.Le.refl (.map true [.int .u8, .int .u8, .int .u32, .int .u32] (encM v_T_clock_Name (LV.int .u32) y15.2.2.2))) tr))) tr) (f_ c26 (r1_ (m_ 4 4 rfl (c_ (parrellaw09_theirs_tri a y28 e27) (a_ (a_ (a_ (clock_Clock_Stop_ok y25.2.1 y25.2.2.2 y25.2.2.1 y28 y30 e29 (sel [3, 4]) (sel_inj rfl rfl)) (a_ (Eq.refl (.vw [.int .u32 y25.2.1, .map 4] true [.int .u8, .int .u8, .int .u32, .int .u32] 64 (fun q_ => (y25.2.2.1 q_).map (encM v_T_clock_Name (LV.int .u32))) [] : LO)) (a_ (LO.Le.refl (.map true [.int .u8, .int .u8, .int .u32, .int .u32] (encM v_T_clock_Name (LV.int .u32) y25.2.2.2))) tr))) tr) (r2_ (f_ c31 (a_ tr (r2_ tr))))))))))))) tr)))))))))) tr) (by kernel_rfl) rfl
            · skip
              obtain rfl := Option.some.inj h
              exact run_ret mixed (L := []) (n := 51) (s := [.reg [], .reg [(2, hF)], .reg [(0, { call := some ((clock_New_v y4).ren (sel [3, 4]), preOf (sel [3, 4]) 0 [], upOf (sel [3, 4]) (clock_New_up  y4)) })], .reg [(5, hC (parrellaw09_theirs_v y6)), (6, { call := some ((clock_Clock_Set_v y8).ren (sel [3, 4]), preOf (sel [3, 4]) 0 (clock_Clock_Set_objs 0 y4.2 y4.1 y6 7), upOf (sel [3, 4]) (clock_Clock_Set_up 0 y4.2 y4.1 y6 7 y8)) }), (8, hF)], .reg [], .reg [(1, hF)], .reg [(2, hC (parrellaw09_theirs_v y12)), (5, { call := some ((clock_Clock_Set_v y15).ren (sel [3, 4]), preOf (sel [3, 4]) 0 (clock_Clock_Set_objs y8.2.1 y8.2.2.2 y8.2.2.1 y12 act.f_After), upOf (sel [3, 4]) (clock_Clock_Set_up y8.2.1 y8.2.2.2 y8.2.2.1 y12 act.f_After y15)) })], .reg [(2, hC (parrellaw09_theirs_v y17)), (3, { call := some ((clock_Clock_Until_v y19).ren (sel [3, 4]), preOf (sel [3, 4]) 0 (clock_Clock_Until_objs y15.2.1 y15.2.2.2 y15.2.2.1 y17), upOf (sel [3, 4]) (clock_Clock_Until_up y15.2.1 y15.2.2.2 y15.2.2.1 y17 y19)) })], .reg [(2, hF), (5, hF)], .reg [(2, hC (parrellaw09_theirs_v y23)), (3, { call := some ((clock_Clock_Stop_v y25).ren (sel [3, 4]), preOf (sel [3, 4]) 0 (clock_Clock_Stop_objs y15.2.1 y15.2.2.2 y15.2.2.1 y23), upOf (sel [3, 4]) (clock_Clock_Stop_up y15.2.1 y15.2.2.2 y15.2.2.1 y23 y25)) }), (4, hF)]])
                (a_ (a_ (r4_ tr) (a_ (m_ 4 4 rfl (m_ 4 4 rfl (a_ (a_ tr (a_ (LV.Le.trans (leB (k_T_parrelref09_Name a b)) (leB c1)) tr)) tr))) (a_ (a_ (a_ (a_ (clock_New_ok  y4 e2 (sel [3, 4]) (sel_inj rfl rfl)) tr) tr) (r1_ tr)) (a_ (r4_ (m_ 4 4 rfl (c_ (parrellaw09_theirs_tri a y6 e5) (a_ (a_ (a_ (clock_Clock_Set_ok 0 y4.2 y4.1 y6 7 y8 e7 (sel [3, 4]) (sel_inj rfl rfl)) (a_ (Eq.refl (.vw [.int .u32 0, .map 4] true [.int .u8, .int .u8, .int .u32, .int .u32] 64 (fun q_ => (y4.1 q_).map (encM v_T_clock_Name (LV.int .u32))) [] : LO)) (a_ (LO.Le.refl (.map true [.int .u8, .int .u8, .int .u32, .int .u32] (encM v_T_clock_Name (LV.int .u32) y4.2))) tr))) tr) (r1_ (f_ c9 tr)))))) (a_ (r1_ (l_ 0 6 rfl (a_ (a_ (ne0 4 rfl) tr) tr))) (a_ (r1_ (f_ c10 tr)) (a_ (r1_ (m_ 4 4 rfl (c_ (parrellaw09_theirs_tri b y12 e11) (r1_ (l_ 5 6 rfl (a_ (a_ (a_ (clock_Clock_Set_ok y8.2.1 y8.2.2.2 y8.2.2.1 y12 act.f_After y15 e13 (sel [3, 4]) (sel_inj rfl rfl)) (a_ (Eq.refl (.vw [.int .u32 y8.2.1, .map 4] true [.int .u8, .int .u8, .int .u32, .int .u32] 64 (fun q_ => (y8.2.2.1 q_).map (encM v_T_clock_Name (LV.int .u32))) [] : LO)) (a_ (LO.Le.refl (.map true [.int .u8, .int .u8, .int .u32, .int .u32] (encM v_T_clock_Name (LV.int .u32) y8.2.2.2))) tr))) tr) tr)))))) (a_ (r1_ (m_ 4 4 rfl (c_ (parrellaw09_theirs_tri a y17 e16) (a_ (a_ (a_ (clock_Clock_Until_ok y15.2.1 y15.2.2.2 y15.2.2.1 y17 y19 e18 (sel [3, 4]) (sel_inj rfl rfl)) (a_ (Eq.refl (.vw [.int .u32 y15.2.1, .map 4] true [.int .u8, .int .u8, .int .u32, .int .u32] 64 (fun q_ => (y15.2.2.1 q_).map (encM v_T_clock_Name (LV.int .u32))) [] : LO)) (a_ (LO.Le.refl (.map true [.int .u8, .int .u8, .int .u32, .int .u32] (encM v_T_clock_Name (LV.int .u32) y15.2.2.2))) tr))) tr) (r1_ (r4_ tr)))))) (a_ (r2_ (f_ c20 (r2_ (f_ c21 tr)))) (a_ (r1_ (m_ 4 4 rfl (c_ (parrellaw09_theirs_tri a y23 e22) (a_ (a_ (a_ (clock_Clock_Stop_ok y15.2.1 y15.2.2.2 y15.2.2.1 y23 y25 e24 (sel [3, 4]) (sel_inj rfl rfl)) (a_ (Eq.refl (.vw [.int .u32 y15.2.1, .map 4] true [.int .u8, .int .u8, .int .u32, .int .u32] 64 (fun q_ => (y15.2.2.1 q_).map (encM v_T_clock_Name (LV.int .u32))) [] : LO)) (a_ (LO.Le.refl (.map true [.int .u8, .int .u8, .int .u32, .int .u32] (encM v_T_clock_Name (LV.int .u32) y15.2.2.2))) tr))) tr) (f_ c26 (a_ tr (t4_ (r2_ (a_ tr (r2_ tr)))))))))) tr)))))))))) tr) (by kernel_rfl) rfl

theorem parrellaw09_ClockApart_tri (a : T_parrelref09_Name) (b : T_parrelref09_Name) (act : T_parrellaw09_Act) (r : (Bool)) (h : parrellaw09_ClockApart a b act = some r) : FnTri Try.prog 4 [v_T_parrelref09_Name a, v_T_parrelref09_Name b, v_T_parrellaw09_Act act] [] (parrellaw09_ClockApart_v r) [] := FnTri.none (parrellaw09_ClockApart_ok a b act r h) rfl rfl

/-- (*parrel/clock.Clock).ok -/

def clock_Clock_ok_2_v (r : Unit) : LV := .bool false

def clock_Clock_ok_2  : Option (Unit) :=
  some ()

theorem clock_Clock_ok_2_ok  (r : Unit) (h : clock_Clock_ok_2  = some r) : ∀ σ, Inj 0 σ → FnTri Try.prog 26 (renL σ [.nilptr]) (preOf σ 0 []) ((clock_Clock_ok_2_v r).ren σ) (upOf σ []) := by
  refine fn_of Try.func26 (by kernel_rfl) (by kernel_rfl) (by kernel_rfl) trivial (by kernel_rfl) trivial (by kernel_rfl) ?_
  intro w0 W μ0 hμ
  unfold clock_Clock_ok_2 at h
  obtain rfl := Option.some.inj h
  exact run_ret mixed (L := []) (n := 15) (s := [.reg [], .reg []])
    (a_ (a_ (r1_ tr) (a_ (r1_ (r2_ (a_ tr (t4_ (r2_ tr))))) tr)) tr) (by kernel_rfl) rfl

theorem clock_Clock_ok_2_tri  (r : Unit) (h : clock_Clock_ok_2  = some r) : FnTri Try.prog 26 [.nilptr] [] (clock_Clock_ok_2_v r) [] := FnTri.none (clock_Clock_ok_2_ok  r h) rfl rfl

/-- (*parrel/clock.Clock).Tick -/

def clock_Clock_Tick_2_v (r : (List (T_clock_Name))) : LV := .tup [.ds 4 (r).length (rowF c_T_clock_Name default r), .int .i64 2]

def clock_Clock_Tick_2  : Option ((List (T_clock_Name))) :=
  (clock_Clock_ok_2).bind fun y2 =>
  some ([] : List (T_clock_Name))

theorem clock_Clock_Tick_2_ok  (r : (List (T_clock_Name))) (h : clock_Clock_Tick_2  = some r) : ∀ σ, Inj 0 σ → FnTri Try.prog 10 (renL σ [.nilptr]) (preOf σ 0 []) ((clock_Clock_Tick_2_v r).ren σ) (upOf σ []) := by
  refine fn_of Try.func10 (by kernel_rfl) (by kernel_rfl) (by kernel_rfl) trivial (by kernel_rfl) trivial (by kernel_rfl) ?_
  intro w0 W μ0 hμ
  unfold clock_Clock_Tick_2 at h
  obtain ⟨y2, e1, h⟩ := bind_some h
  obtain rfl := Option.some.inj h
  exact run_ret mixed (L := []) (n := 20) (s := [.reg [(0, { v := some (.ds 4 (([] : List (T_clock_Name))).length (rowF c_T_clock_Name default ([] : List (T_clock_Name)))) })], .reg [(1, hC (clock_Clock_ok_2_v y2))], .reg [(0, { v := some (.ds 4 (([] : List (T_clock_Name))).length (rowF c_T_clock_Name default ([] : List (T_clock_Name)))) })]])
    (a_ (a_ (a_ (a_ tr (a_ (le_nil_ds 4 (rowF c_T_clock_Name default [])) tr)) (r1_ tr)) (a_ (r1_ (c_ (clock_Clock_ok_2_tri  y2 e1) (r1_ tr))) (a_ (a_ (a_ tr (a_ (le_nil_ds 4 (rowF c_T_clock_Name default [])) tr)) (r1_ tr)) tr))) tr) (by kernel_rfl) rfl

theorem clock_Clock_Tick_2_tri  (r : (List (T_clock_Name))) (h : clock_Clock_Tick_2  = some r) : FnTri Try.prog 10 [.nilptr] [] (clock_Clock_Tick_2_v r) [] := FnTri.none (clock_Clock_Tick_2_ok  r h) rfl rfl

/-- (*parrel/clock.Clock).Len -/

def clock_Clock_Len_2_v (r : Unit) : LV := .int .i64 0

def clock_Clock_Len_2  : Option (Unit) :=
  (clock_Clock_ok_2).bind fun y2 =>
  some ()

theorem clock_Clock_Len_2_ok  (r : Unit) (h : clock_Clock_Len_2  = some r) : ∀ σ, Inj 0 σ → FnTri Try.prog 13 (renL σ [.nilptr]) (preOf σ 0 []) ((clock_Clock_Len_2_v r).ren σ) (upOf σ []) := by
  refine fn_of Try.func13 (by kernel_rfl) (by kernel_rfl) (by kernel_rfl) trivial (by kernel_rfl) trivial (by kernel_rfl) ?_
  intro w0 W μ0 hμ
  unfold clock_Clock_Len_2 at h
  obtain ⟨y2, e1, h⟩ := bind_some h
  obtain rfl := Option.some.inj h
  exact run_ret mixed (L := []) (n := 20) (s := [.reg [], .reg [(1, hC (clock_Clock_ok_2_v y2))], .reg []])
    (a_ (a_ (r1_ tr) (a_ (r1_ (c_ (clock_Clock_ok_2_tri  y2 e1) (r1_ tr))) (a_ (r1_ tr) tr))) tr) (by kernel_rfl) rfl

theorem clock_Clock_Len_2_tri  (r : Unit) (h : clock_Clock_Len_2  = some r) : FnTri Try.prog 13 [.nilptr] [] (clock_Clock_Len_2_v r) [] := FnTri.none (clock_Clock_Len_2_ok  r h) rfl rfl

/-- (*parrel/clock.Clock).Next -/

def clock_Clock_Next_v (r : (T_clock_Name)) : LV := .tup [v_T_clock_Name r, .int .u32 0, .bool false]

def clock_Clock_Next  : Option ((T_clock_Name)) :=
  (clock_Clock_Len_2).bind fun y2 =>
  some (T_clock_Name.mk 0 (T_api_Tx.mk 0 0 0))

theorem clock_Clock_Next_ok  (r : (T_clock_Name)) (h : clock_Clock_Next  = some r) : ∀ σ, Inj 0 σ → FnTri Try.prog 24 (renL σ [.nilptr]) (preOf σ 0 []) ((clock_Clock_Next_v r).ren σ) (upOf σ []) := by
  refine fn_of Try.func24 (by kernel_rfl) (by kernel_rfl) (by kernel_rfl) trivial (by kernel_rfl) trivial (by kernel_rfl) ?_
  intro w0 W μ0 hμ
  unfold clock_Clock_Next at h
  obtain ⟨y2, e1, h⟩ := bind_some h
  obtain rfl := Option.some.inj h
  exact run_ret mixed (L := []) (n := 20) (s := [.reg [], .reg [(1, hC (clock_Clock_Len_2_v y2))], .reg []])
    (a_ (a_ (r4_ tr) (a_ (l_ 0 1 rfl (c_ (clock_Clock_Len_2_tri  y2 e1) (r1_ tr))) (a_ (a_ (a_ (Eq.refl true) tr) (a_ (a_ (a_ (Eq.refl 4) (a_ (le_ 4 4 rfl) (Eq.refl 0))) tr) (r2_ tr))) tr))) (a_ (a_ tr (le_ 4 4 rfl)) tr)) (by kernel_rfl) rfl

theorem clock_Clock_Next_tri  (r : (T_clock_Name)) (h : clock_Clock_Next  = some r) : FnTri Try.prog 24 [.nilptr] [] (clock_Clock_Next_v r) [] := FnTri.none (clock_Clock_Next_ok  r h) rfl rfl

/-- (*parrel/clock.Clock).Until -/

def clock_Clock_Until_2_v (r : Unit) : LV := .tup [.int .u32 0, .bool false]

def clock_Clock_Until_2 (x_n : T_clock_Name) : Option (Unit) :=
  (clock_Clock_ok_2).bind fun y2 =>
  some ()

theorem clock_Clock_Until_2_ok (x_n : T_clock_Name) (r : Unit) (h : clock_Clock_Until_2 x_n = some r) : ∀ σ, Inj 0 σ → FnTri Try.prog 14 (renL σ [.nilptr, v_T_clock_Name x_n]) (preOf σ 0 []) ((clock_Clock_Until_2_v r).ren σ) (upOf σ []) := by
  refine fn_of Try.func14 (by kernel_rfl) (by kernel_rfl) (by kernel_rfl) trivial (by kernel_rfl) trivial (by kernel_rfl) ?_
  intro w0 W μ0 hμ
  unfold clock_Clock_Until_2 at h
  obtain ⟨y2, e1, h⟩ := bind_some h
  obtain rfl := Option.some.inj h
  exact run_ret mixed (L := []) (n := 20) (s := [.reg [], .reg [(1, hC (clock_Clock_ok_2_v y2))], .reg []])
    (a_ (a_ (r1_ (r2_ tr)) (a_ (r1_ (c_ (clock_Clock_ok_2_tri  y2 e1) (r1_ tr))) (a_ (r2_ tr) tr))) tr) (by kernel_rfl) rfl

theorem clock_Clock_Until_2_tri (x_n : T_clock_Name) (r : Unit) (h : clock_Clock_Until_2 x_n = some r) : FnTri Try.prog 14 [.nilptr, v_T_clock_Name x_n] [] (clock_Clock_Until_2_v r) [] := FnTri.none (clock_Clock_Until_2_ok x_n r h) rfl rfl

/-- (*parrel/clock.Clock).Set -/

def clock_Clock_Set_2_v (r : Unit) : LV := .int .i64 2

def clock_Clock_Set_2 (x_n : T_clock_Name) (after : Int) : Option (Unit) :=
  (clock_Clock_Until_2 x_n).bind fun y2 =>
  (clock_Clock_ok_2).bind fun y4 =>
  some ()

theorem clock_Clock_Set_2_ok (x_n : T_clock_Name) (after : Int) (r : Unit) (h : clock_Clock_Set_2 x_n after = some r) : ∀ σ, Inj 0 σ → FnTri Try.prog 11 (renL σ [.nilptr, v_T_clock_Name x_n, .int .u32 after]) (preOf σ 0 []) ((clock_Clock_Set_2_v r).ren σ) (upOf σ []) := by
  refine fn_of Try.func11 (by kernel_rfl) (by kernel_rfl) (by kernel_rfl) trivial (by kernel_rfl) trivial (by kernel_rfl) ?_
  intro w0 W μ0 hμ
  unfold clock_Clock_Set_2 at h
  obtain ⟨y2, e1, h⟩ := bind_some h
  obtain ⟨y4, e3, h⟩ := bind_some h
  obtain rfl := Option.some.inj h
  exact run_ret mixed (L := []) (n := 24) (s := [.reg [], .reg [(2, hC (clock_Clock_Until_2_v y2))], .reg [(1, hC (clock_Clock_ok_2_v y4))], .reg []])
    (a_ (a_ (r2_ tr) (a_ (r1_ (m_ 4 4 rfl (c_ (clock_Clock_Until_2_tri x_n y2 e1) (r1_ (r4_ tr))))) (a_ (r1_ (c_ (clock_Clock_ok_2_tri  y4 e3) (r2_ tr))) (a_ (r1_ tr) tr)))) tr) (by kernel_rfl) rfl

theorem clock_Clock_Set_2_tri (x_n : T_clock_Name) (after : Int) (r : Unit) (h : clock_Clock_Set_2 x_n after = some r) : FnTri Try.prog 11 [.nilptr, v_T_clock_Name x_n, .int .u32 after] [] (clock_Clock_Set_2_v r) [] := FnTri.none (clock_Clock_Set_2_ok x_n after r h) rfl rfl

/-- (*parrel/clock.Clock).Stop -/

def clock_Clock_Stop_2_v (r : Unit) : LV := .bool false

def clock_Clock_Stop_2 (x_n : T_clock_Name) : Option (Unit) :=
  (clock_Clock_Until_2 x_n).bind fun y2 =>
  some ()

theorem clock_Clock_Stop_2_ok (x_n : T_clock_Name) (r : Unit) (h : clock_Clock_Stop_2 x_n = some r) : ∀ σ, Inj 0 σ → FnTri Try.prog 17 (renL σ [.nilptr, v_T_clock_Name x_n]) (preOf σ 0 []) ((clock_Clock_Stop_2_v r).ren σ) (upOf σ []) := by
  refine fn_of Try.func17 (by kernel_rfl) (by kernel_rfl) (by kernel_rfl) trivial (by kernel_rfl) trivial (by kernel_rfl) ?_
  intro w0 W μ0 hμ
  unfold clock_Clock_Stop_2 at h
  obtain ⟨y2, e1, h⟩ := bind_some h
  obtain rfl := Option.some.inj h
  exact run_ret mixed (L := []) (n := 24) (s := [.reg [], .reg [(2, hC (clock_Clock_Until_2_v y2))], .reg [], .reg []])
    (a_ (a_ (r2_ tr) (a_ (r1_ (m_ 4 4 rfl (c_ (clock_Clock_Until_2_tri x_n y2 e1) (r1_ (r4_ tr))))) (a_ (r1_ tr) (a_ (r2_ tr) tr)))) tr) (by kernel_rfl) rfl

theorem clock_Clock_Stop_2_tri (x_n : T_clock_Name) (r : Unit) (h : clock_Clock_Stop_2 x_n = some r) : FnTri Try.prog 17 [.nilptr, v_T_clock_Name x_n] [] (clock_Clock_Stop_2_v r) [] := FnTri.none (clock_Clock_Stop_2_ok x_n r h) rfl rfl

/-- (*parrel/clock.Clock).Now -/

def clock_Clock_Now_2_v (r : Unit) : LV := .int .u32 0

def clock_Clock_Now_2  : Option (Unit) :=
  (clock_Clock_ok_2).bind fun y2 =>
  some ()

theorem clock_Clock_Now_2_ok  (r : Unit) (h : clock_Clock_Now_2  = some r) : ∀ σ, Inj 0 σ → FnTri Try.prog 15 (renL σ [.nilptr]) (preOf σ 0 []) ((clock_Clock_Now_2_v r).ren σ) (upOf σ []) := by
  refine fn_of Try.func15 (by kernel_rfl) (by kernel_rfl) (by kernel_rfl) trivial (by kernel_rfl) trivial (by kernel_rfl) ?_
  intro w0 W μ0 hμ
  unfold clock_Clock_Now_2 at h
  obtain ⟨y2, e1, h⟩ := bind_some h
  obtain rfl := Option.some.inj h
  exact run_ret mixed (L := []) (n := 20) (s := [.reg [], .reg [(1, hC (clock_Clock_ok_2_v y2))], .reg []])
    (a_ (a_ (r1_ tr) (a_ (r1_ (c_ (clock_Clock_ok_2_tri  y2 e1) (r1_ tr))) (a_ (r1_ tr) tr))) tr) (by kernel_rfl) rfl

theorem clock_Clock_Now_2_tri  (r : Unit) (h : clock_Clock_Now_2  = some r) : FnTri Try.prog 15 [.nilptr] [] (clock_Clock_Now_2_v r) [] := FnTri.none (clock_Clock_Now_2_ok  r h) rfl rfl

/-- (*parrel/clock.Clock).ok -/

def clock_Clock_ok_3_v (r : Unit) : LV := .bool false

def clock_Clock_ok_3_up (now : Int) (wheel : Nat → Option (List (T_clock_Name × Int))) (r : Unit) : Upd := [(0, some (.vw [.int .u32 now, .nilmap] true [.int .u8, .int .u8, .int .u32, .int .u32] 64 (fun q_ => (wheel q_).map (encM v_T_clock_Name (LV.int .u32))) []))]

def clock_Clock_ok_3_objs (now : Int) (wheel : Nat → Option (List (T_clock_Name × Int))) : List LO := [.vw [.int .u32 now, .nilmap] true [.int .u8, .int .u8, .int .u32, .int .u32] 64 (fun q_ => (wheel q_).map (encM v_T_clock_Name (LV.int .u32))) []]

def clock_Clock_ok_3 (now : Int) (wheel : Nat → Option (List (T_clock_Name × Int))) : Option (Unit) :=
  some ()

theorem clock_Clock_ok_3_ok (now : Int) (wheel : Nat → Option (List (T_clock_Name × Int))) (r : Unit) (h : clock_Clock_ok_3 now wheel = some r) : ∀ σ, Inj 1 σ → FnTri Try.prog 26 (renL σ [.ptr 0 0 0]) (preOf σ 0 (clock_Clock_ok_3_objs now wheel)) ((clock_Clock_ok_3_v r).ren σ) (upOf σ (clock_Clock_ok_3_up now wheel r)) := by
  refine fn_of Try.func26 (by kernel_rfl) (by kernel_rfl) (by kernel_rfl) ⟨⟨rfl, under_no⟩, trivial⟩ (by kernel_rfl) ⟨⟨rfl, under_no⟩, trivial⟩ (by kernel_rfl) ?_
  intro w0 W μ0 hμ
  unfold clock_Clock_ok_3 at h
  obtain rfl := Option.some.inj h
  exact run_ret mixed (L := []) (n := 15) (s := [.reg [], .reg []])
    (a_ (a_ (r1_ tr) (a_ (r2_ (r4_ (a_ (a_ (lt_ 1 2 rfl) tr) (r1_ (r2_ tr))))) tr)) tr) (by kernel_rfl) rfl

/-- (*parrel/clock.Clock).Tick -/

def clock_Clock_Tick_3_v (r : (List (T_clock_Name))) : LV := .tup [.ds 4 (r).length (rowF c_T_clock_Name default r), .int .i64 2]

def clock_Clock_Tick_3_up (now : Int) (wheel : Nat → Option (List (T_clock_Name × Int))) (r : (List (T_clock_Name))) : Upd := [(0, some (.vw [.int .u32 now, .nilmap] true [.int .u8, .int .u8, .int .u32, .int .u32] 64 (fun q_ => (wheel q_).map (encM v_T_clock_Name (LV.int .u32))) []))]

def clock_Clock_Tick_3_objs (now : Int) (wheel : Nat → Option (List (T_clock_Name × Int))) : List LO := [.vw [.int .u32 now, .nilmap] true [.int .u8, .int .u8, .int .u32, .int .u32] 64 (fun q_ => (wheel q_).map (encM v_T_clock_Name (LV.int .u32))) []]

def clock_Clock_Tick_3 (now : Int) (wheel : Nat → Option (List (T_clock_Name × Int))) : Option ((List (T_clock_Name))) :=
  (clock_Clock_ok_3 now wheel).bind fun y2 =>
  some ([] : List (T_clock_Name))

theorem clock_Clock_Tick_3_ok (now : Int) (wheel : Nat → Option (List (T_clock_Name × Int))) (r : (List (T_clock_Name))) (h : clock_Clock_Tick_3 now wheel = some r) : ∀ σ, Inj 1 σ → FnTri Try.prog 10 (renL σ [.ptr 0 0 0]) (preOf σ 0 (clock_Clock_Tick_3_objs now wheel)) ((clock_Clock_Tick_3_v r).ren σ) (upOf σ (clock_Clock_Tick_3_up now wheel r)) := by
  refine fn_of Try.func10 (by kernel_rfl) (by kernel_rfl) (by kernel_rfl) ⟨⟨rfl, under_no⟩, trivial⟩ (by kernel_rfl) ⟨⟨rfl, under_no⟩, trivial⟩ (by kernel_rfl) ?_
  intro w0 W μ0 hμ
  unfold clock_Clock_Tick_3 at h
  obtain ⟨y2, e1, h⟩ := bind_some h
  obtain rfl := Option.some.inj h
  exact run_ret mixed (L := []) (n := 20) (s := [.reg [(0, { v := some (.ds 4 (([] : List (T_clock_Name))).length (rowF c_T_clock_Name default ([] : List (T_clock_Name)))) })], .reg [(1, { call := some ((clock_Clock_ok_3_v y2).ren (sel [0]), preOf (sel [0]) 0 (clock_Clock_ok_3_objs now wheel), upOf (sel [0]) (clock_Clock_ok_3_up now wheel y2)) })], .reg [(0, { v := some (.ds 4 (([] : List (T_clock_Name))).length (rowF c_T_clock_Name default ([] : List (T_clock_Name)))) })]])
    (a_ (a_ (a_ (a_ tr (a_ (le_nil_ds 4 (rowF c_T_clock_Name default [])) tr)) (r1_ tr)) (a_ (r1_ (a_ (a_ (a_ (clock_Clock_ok_3_ok now wheel y2 e1 (sel [0]) (sel_inj rfl rfl)) (a_ (Eq.refl (.vw [.int .u32 now, .nilmap] true [.int .u8, .int .u8, .int .u32, .int .u32] 64 (fun q_ => (wheel q_).map (encM v_T_clock_Name (LV.int .u32))) [] : LO)) tr)) tr) (r1_ tr))) (a_ (a_ (a_ tr (a_ (le_nil_ds 4 (rowF c_T_clock_Name default [])) tr)) (r1_ tr)) tr))) tr) (by kernel_rfl) rfl

/-- (*parrel/clock.Clock).Len -/

def clock_Clock_Len_3_v (r : Unit) : LV := .int .i64 0

def clock_Clock_Len_3_up (now : Int) (wheel : Nat → Option (List (T_clock_Name × Int))) (r : Unit) : Upd := [(0, some (.vw [.int .u32 now, .nilmap] true [.int .u8, .int .u8, .int .u32, .int .u32] 64 (fun q_ => (wheel q_).map (encM v_T_clock_Name (LV.int .u32))) []))]

def clock_Clock_Len_3_objs (now : Int) (wheel : Nat → Option (List (T_clock_Name × Int))) : List LO := [.vw [.int .u32 now, .nilmap] true [.int .u8, .int .u8, .int .u32, .int .u32] 64 (fun q_ => (wheel q_).map (encM v_T_clock_Name (LV.int .u32))) []]

def clock_Clock_Len_3 (now : Int) (wheel : Nat → Option (List (T_clock_Name × Int))) : Option (Unit) :=
  (clock_Clock_ok_3 now wheel).bind fun y2 =>
  some ()

theorem clock_Clock_Len_3_ok (now : Int) (wheel : Nat → Option (List (T_clock_Name × Int))) (r : Unit) (h : clock_Clock_Len_3 now wheel = some r) : ∀ σ, Inj 1 σ → FnTri Try.prog 13 (renL σ [.ptr 0 0 0]) (preOf σ 0 (clock_Clock_Len_3_objs now wheel)) ((clock_Clock_Len_3_v r).ren σ) (upOf σ (clock_Clock_Len_3_up now wheel r)) := by
  refine fn_of Try.func13 (by kernel_rfl) (by kernel_rfl) (by kernel_rfl) ⟨⟨rfl, under_no⟩, trivial⟩ (by kernel_rfl) ⟨⟨rfl, under_no⟩, trivial⟩ (by kernel_rfl) ?_
  intro w0 W μ0 hμ
  unfold clock_Clock_Len_3 at h
  obtain ⟨y2, e1, h⟩ := bind_some h
  obtain rfl := Option.some.inj h
  exact run_ret mixed (L := []) (n := 20) (s := [.reg [], .reg [(1, { call := some ((clock_Clock_ok_3_v y2).ren (sel [0]), preOf (sel [0]) 0 (clock_Clock_ok_3_objs now wheel), upOf (sel [0]) (clock_Clock_ok_3_up now wheel y2)) })], .reg []])
    (a_ (a_ (r1_ tr) (a_ (r1_ (a_ (a_ (a_ (clock_Clock_ok_3_ok now wheel y2 e1 (sel [0]) (sel_inj rfl rfl)) (a_ (Eq.refl (.vw [.int .u32 now, .nilmap] true [.int .u8, .int .u8, .int .u32, .int .u32] 64 (fun q_ => (wheel q_).map (encM v_T_clock_Name (LV.int .u32))) [] : LO)) tr)) tr) (r1_ tr))) (a_ (r1_ tr) tr))) tr) (by kernel_rfl) rfl

/-- (*parrel/clock.Clock).Next -/

def clock_Clock_Next_2_v (r : (T_clock_Name)) : LV := .tup [v_T_clock_Name r, .int .u32 0, .bool false]

def clock_Clock_Next_2_up (now : Int) (wheel : Nat → Option (List (T_clock_Name × Int))) (r : (T_clock_Name)) : Upd := [(0, some (.vw [.int .u32 now, .nilmap] true [.int .u8, .int .u8, .int .u32, .int .u32] 64 (fun q_ => (wheel q_).map (encM v_T_clock_Name (LV.int .u32))) []))]

def clock_Clock_Next_2_objs (now : Int) (wheel : Nat → Option (List (T_clock_Name × Int))) : List LO := [.vw [.int .u32 now, .nilmap] true [.int .u8, .int .u8, .int .u32, .int .u32] 64 (fun q_ => (wheel q_).map (encM v_T_clock_Name (LV.int .u32))) []]

def clock_Clock_Next_2 (now : Int) (wheel : Nat → Option (List (T_clock_Name × Int))) : Option ((T_clock_Name)) :=
  (clock_Clock_Len_3 now wheel).bind fun y2 =>
  some (T_clock_Name.mk 0 (T_api_Tx.mk 0 0 0))

theorem clock_Clock_Next_2_ok (now : Int) (wheel : Nat → Option (List (T_clock_Name × Int))) (r : (T_clock_Name)) (h : clock_Clock_Next_2 now wheel = some r) : ∀ σ, Inj 1 σ → FnTri Try.prog 24 (renL σ [.ptr 0 0 0]) (preOf σ 0 (clock_Clock_Next_2_objs now wheel)) ((clock_Clock_Next_2_v r).ren σ) (upOf σ (clock_Clock_Next_2_up now wheel r)) := by
  refine fn_of Try.func24 (by kernel_rfl) (by kernel_rfl) (by kernel_rfl) ⟨⟨rfl, under_no⟩, trivial⟩ (by kernel_rfl) ⟨⟨rfl, under_no⟩, trivial⟩ (by kernel_rfl) ?_
  intro w0 W μ0 hμ
  unfold clock_Clock_Next_2 at h
  obtain ⟨y2, e1, h⟩ := bind_some h
  obtain rfl := Option.some.inj h
  exact run_ret mixed (L := []) (n := 20) (s := [.reg [], .reg [(1, { call := some ((clock_Clock_Len_3_v y2).ren (sel [0]), preOf (sel [0]) 0 (clock_Clock_Len_3_objs now wheel), upOf (sel [0]) (clock_Clock_Len_3_up now wheel y2)) })], .reg []])
    (a_ (a_ (r4_ tr) (a_ (l_ 0 1 rfl (a_ (a_ (a_ (clock_Clock_Len_3_ok now wheel y2 e1 (sel [0]) (sel_inj rfl rfl)) (a_ (Eq.refl (.vw [.int .u32 now, .nilmap] true [.int .u8, .int .u8, .int .u32, .int .u32] 64 (fun q_ => (wheel q_).map (encM v_T_clock_Name (LV.int .u32))) [] : LO)) tr)) tr) (r1_ tr))) (a_ (a_ (a_ (Eq.refl true) tr) (a_ (a_ (a_ (Eq.refl 4) (a_ (le_ 4 4 rfl) (Eq.refl 0))) tr) (r2_ tr))) tr))) (a_ (a_ tr (le_ 4 4 rfl)) tr)) (by kernel_rfl) rfl

/-- (*parrel/clock.Clock).Until -/

def clock_Clock_Until_3_v (r : Unit) : LV := .tup [.int .u32 0, .bool false]

def clock_Clock_Until_3_up (now : Int) (wheel : Nat → Option (List (T_clock_Name × Int))) (x_n : T_clock_Name) (r : Unit) : Upd := [(0, some (.vw [.int .u32 now, .nilmap] true [.int .u8, .int .u8, .int .u32, .int .u32] 64 (fun q_ => (wheel q_).map (encM v_T_clock_Name (LV.int .u32))) []))]

def clock_Clock_Until_3_objs (now : Int) (wheel : Nat → Option (List (T_clock_Name × Int))) (x_n : T_clock_Name) : List LO := [.vw [.int .u32 now, .nilmap] true [.int .u8, .int .u8, .int .u32, .int .u32] 64 (fun q_ => (wheel q_).map (encM v_T_clock_Name (LV.int .u32))) []]

def clock_Clock_Until_3 (now : Int) (wheel : Nat → Option (List (T_clock_Name × Int))) (x_n : T_clock_Name) : Option (Unit) :=
  (clock_Clock_ok_3 now wheel).bind fun y2 =>
  some ()

theorem clock_Clock_Until_3_ok (now : Int) (wheel : Nat → Option (List (T_clock_Name × Int))) (x_n : T_clock_Name) (r : Unit) (h : clock_Clock_Until_3 now wheel x_n = some r) : ∀ σ, Inj 1 σ → FnTri Try.prog 14 (renL σ [.ptr 0 0 0, v_T_clock_Name x_n]) (preOf σ 0 (clock_Clock_Until_3_objs now wheel x_n)) ((clock_Clock_Until_3_v r).ren σ) (upOf σ (clock_Clock_Until_3_up now wheel x_n r)) := by
  refine fn_of Try.func14 (by kernel_rfl) (by kernel_rfl) (by kernel_rfl) ⟨⟨rfl, under_no⟩, trivial⟩ (by kernel_rfl) ⟨⟨rfl, under_no⟩, trivial⟩ (by kernel_rfl) ?_
  intro w0 W μ0 hμ
  unfold clock_Clock_Until_3 at h
  obtain ⟨y2, e1, h⟩ := bind_some h
  obtain rfl := Option.some.inj h
  exact run_ret mixed (L := []) (n := 20) (s := [.reg [], .reg [(1, { call := some ((clock_Clock_ok_3_v y2).ren (sel [0]), preOf (sel [0]) 0 (clock_Clock_ok_3_objs now wheel), upOf (sel [0]) (clock_Clock_ok_3_up now wheel y2)) })], .reg []])
    (a_ (a_ (r1_ (r2_ tr)) (a_ (r1_ (a_ (a_ (a_ (clock_Clock_ok_3_ok now wheel y2 e1 (sel [0]) (sel_inj rfl rfl)) (a_ (Eq.refl (.vw [.int .u32 now, .nilmap] true [.int .u8, .int .u8, .int .u32, .int .u32] 64 (fun q_ => (wheel q_).map (encM v_T_clock_Name (LV.int .u32))) [] : LO)) tr)) tr) (r1_ tr))) (a_ (r2_ tr) tr))) tr) (by kernel_rfl) rfl

/-- (*parrel/clock.Clock).Set -/

def clock_Clock_Set_3_v (r : Unit) : LV := .int .i64 2

def clock_Clock_Set_3_up (now : Int) (wheel : Nat → Option (List (T_clock_Name × Int))) (x_n : T_clock_Name) (after : Int) (r : Unit) : Upd := [(0, some (.vw [.int .u32 now, .nilmap] true [.int .u8, .int .u8, .int .u32, .int .u32] 64 (fun q_ => (wheel q_).map (encM v_T_clock_Name (LV.int .u32))) []))]

def clock_Clock_Set_3_objs (now : Int) (wheel : Nat → Option (List (T_clock_Name × Int))) (x_n : T_clock_Name) (after : Int) : List LO := [.vw [.int .u32 now, .nilmap] true [.int .u8, .int .u8, .int .u32, .int .u32] 64 (fun q_ => (wheel q_).map (encM v_T_clock_Name (LV.int .u32))) []]

def clock_Clock_Set_3 (now : Int) (wheel : Nat → Option (List (T_clock_Name × Int))) (x_n : T_clock_Name) (after : Int) : Option (Unit) :=
  (clock_Clock_Until_3 now wheel x_n).bind fun y2 =>
  (clock_Clock_ok_3 now wheel).bind fun y4 =>
  some ()

theorem clock_Clock_Set_3_ok (now : Int) (wheel : Nat → Option (List (T_clock_Name × Int))) (x_n : T_clock_Name) (after : Int) (r : Unit) (h : clock_Clock_Set_3 now wheel x_n after = some r) : ∀ σ, Inj 1 σ → FnTri Try.prog 11 (renL σ [.ptr 0 0 0, v_T_clock_Name x_n, .int .u32 after]) (preOf σ 0 (clock_Clock_Set_3_objs now wheel x_n after)) ((clock_Clock_Set_3_v r).ren σ) (upOf σ (clock_Clock_Set_3_up now wheel x_n after r)) := by
  refine fn_of Try.func11 (by kernel_rfl) (by kernel_rfl) (by kernel_rfl) ⟨⟨rfl, under_no⟩, trivial⟩ (by kernel_rfl) ⟨⟨rfl, under_no⟩, trivial⟩ (by kernel_rfl) ?_
  intro w0 W μ0 hμ
  unfold clock_Clock_Set_3 at h
  obtain ⟨y2, e1, h⟩ := bind_some h
  obtain ⟨y4, e3, h⟩ := bind_some h
  obtain rfl := Option.some.inj h
  exact run_ret mixed (L := []) (n := 24) (s := [.reg [], .reg [(2, { call := some ((clock_Clock_Until_3_v y2).ren (sel [0]), preOf (sel [0]) 0 (clock_Clock_Until_3_objs now wheel x_n), upOf (sel [0]) (clock_Clock_Until_3_up now wheel x_n y2)) })], .reg [(1, { call := some ((clock_Clock_ok_3_v y4).ren (sel [0]), preOf (sel [0]) 0 (clock_Clock_ok_3_objs now wheel), upOf (sel [0]) (clock_Clock_ok_3_up now wheel y4)) })], .reg []])
    (a_ (a_ (r2_ tr) (a_ (r1_ (m_ 4 4 rfl (a_ (a_ (a_ (clock_Clock_Until_3_ok now wheel x_n y2 e1 (sel [0]) (sel_inj rfl rfl)) (a_ (Eq.refl (.vw [.int .u32 now, .nilmap] true [.int .u8, .int .u8, .int .u32, .int .u32] 64 (fun q_ => (wheel q_).map (encM v_T_clock_Name (LV.int .u32))) [] : LO)) tr)) tr) (r1_ (r4_ tr))))) (a_ (r1_ (a_ (a_ (a_ (clock_Clock_ok_3_ok now wheel y4 e3 (sel [0]) (sel_inj rfl rfl)) (a_ (Eq.refl (.vw [.int .u32 now, .nilmap] true [.int .u8, .int .u8, .int .u32, .int .u32] 64 (fun q_ => (wheel q_).map (encM v_T_clock_Name (LV.int .u32))) [] : LO)) tr)) tr) (r2_ tr))) (a_ (r1_ tr) tr)))) tr) (by kernel_rfl) rfl

/-- (*parrel/clock.Clock).Stop -/

def clock_Clock_Stop_3_v (r : Unit) : LV := .bool false

def clock_Clock_Stop_3_up (now : Int) (wheel : Nat → Option (List (T_clock_Name × Int))) (x_n : T_clock_Name) (r : Unit) : Upd := [(0, some (.vw [.int .u32 now, .nilmap] true [.int .u8, .int .u8, .int .u32, .int .u32] 64 (fun q_ => (wheel q_).map (encM v_T_clock_Name (LV.int .u32))) []))]

def clock_Clock_Stop_3_objs (now : Int) (wheel : Nat → Option (List (T_clock_Name × Int))) (x_n : T_clock_Name) : List LO := [.vw [.int .u32 now, .nilmap] true [.int .u8, .int .u8, .int .u32, .int .u32] 64 (fun q_ => (wheel q_).map (encM v_T_clock_Name (LV.int .u32))) []]

def clock_Clock_Stop_3 (now : Int) (wheel : Nat → Option (List (T_clock_Name × Int))) (x_n : T_clock_Name) : Option (Unit) :=
  (clock_Clock_Until_3 now wheel x_n).bind fun y2 =>
  some ()

theorem clock_Clock_Stop_3_ok (now : Int) (wheel : Nat → Option (List (T_clock_Name × Int))) (x_n : T_clock_Name) (r : Unit) (h : clock_Clock_Stop_3 now wheel x_n = some r) : ∀ σ, Inj 1 σ → FnTri Try.prog 17 (renL σ [.ptr 0 0 0, v_T_clock_Name x_n]) (preOf σ 0 (clock_Clock_Stop_3_objs now wheel x_n)) ((clock_Clock_Stop_3_v r).ren σ) (upOf σ (clock_Clock_Stop_3_up now wheel x_n r)) := by
  refine fn_of Try.func17 (by kernel_rfl) (by kernel_rfl) (by kernel_rfl) ⟨⟨rfl, under_no⟩, trivial⟩ (by kernel_rfl) ⟨⟨rfl, under_no⟩, trivial⟩ (by kernel_rfl) ?_
  intro w0 W μ0 hμ
  unfold clock_Clock_Stop_3 at h
  obtain ⟨y2, e1, h⟩ := bind_some h
  obtain rfl := Option.some.inj h
  exact run_ret mixed (L := []) (n := 24) (s := [.reg [], .reg [(2, { call := some ((clock_Clock_Until_3_v y2).ren (sel [0]), preOf (sel [0]) 0 (clock_Clock_Until_3_objs now wheel x_n), upOf (sel [0]) (clock_Clock_Until_3_up now wheel x_n y2)) })], .reg [], .reg []])
    (a_ (a_ (r2_ tr) (a_ (r1_ (m_ 4 4 rfl (a_ (a_ (a_ (clock_Clock_Until_3_ok now wheel x_n y2 e1 (sel [0]) (sel_inj rfl rfl)) (a_ (Eq.refl (.vw [.int .u32 now, .nilmap] true [.int .u8, .int .u8, .int .u32, .int .u32] 64 (fun q_ => (wheel q_).map (encM v_T_clock_Name (LV.int .u32))) [] : LO)) tr)) tr) (r1_ (r4_ tr))))) (a_ (r1_ tr) (a_ (r2_ tr) tr)))) tr) (by kernel_rfl) rfl

/-- (*parrel/clock.Clock).Now -/

def clock_Clock_Now_3_v (r : Unit) : LV := .int .u32 0

def clock_Clock_Now_3_up (now : Int) (wheel : Nat → Option (List (T_clock_Name × Int))) (r : Unit) : Upd := [(0, some (.vw [.int .u32 now, .nilmap] true [.int .u8, .int .u8, .int .u32, .int .u32] 64 (fun q_ => (wheel q_).map (encM v_T_clock_Name (LV.int .u32))) []))]

def clock_Clock_Now_3_objs (now : Int) (wheel : Nat → Option (List (T_clock_Name × Int))) : List LO := [.vw [.int .u32 now, .nilmap] true [.int .u8, .int .u8, .int .u32, .int .u32] 64 (fun q_ => (wheel q_).map (encM v_T_clock_Name (LV.int .u32))) []]

def clock_Clock_Now_3 (now : Int) (wheel : Nat → Option (List (T_clock_Name × Int))) : Option (Unit) :=
  (clock_Clock_ok_3 now wheel).bind fun y2 =>
  some ()

theorem clock_Clock_Now_3_ok (now : Int) (wheel : Nat → Option (List (T_clock_Name × Int))) (r : Unit) (h : clock_Clock_Now_3 now wheel = some r) : ∀ σ, Inj 1 σ → FnTri Try.prog 15 (renL σ [.ptr 0 0 0]) (preOf σ 0 (clock_Clock_Now_3_objs now wheel)) ((clock_Clock_Now_3_v r).ren σ) (upOf σ (clock_Clock_Now_3_up now wheel r)) := by
  refine fn_of Try.func15 (by kernel_rfl) (by kernel_rfl) (by kernel_rfl) ⟨⟨rfl, under_no⟩, trivial⟩ (by kernel_rfl) ⟨⟨rfl, under_no⟩, trivial⟩ (by kernel_rfl) ?_
  intro w0 W μ0 hμ
  unfold clock_Clock_Now_3 at h
  obtain ⟨y2, e1, h⟩ := bind_some h
  obtain rfl := Option.some.inj h
  exact run_ret mixed (L := []) (n := 20) (s := [.reg [], .reg [(1, { call := some ((clock_Clock_ok_3_v y2).ren (sel [0]), preOf (sel [0]) 0 (clock_Clock_ok_3_objs now wheel), upOf (sel [0]) (clock_Clock_ok_3_up now wheel y2)) })], .reg []])
    (a_ (a_ (r1_ tr) (a_ (r1_ (a_ (a_ (a_ (clock_Clock_ok_3_ok now wheel y2 e1 (sel [0]) (sel_inj rfl rfl)) (a_ (Eq.refl (.vw [.int .u32 now, .nilmap] true [.int .u8, .int .u8, .int .u32, .int .u32] 64 (fun q_ => (wheel q_).map (encM v_T_clock_Name (LV.int .u32))) [] : LO)) tr)) tr) (r1_ tr))) (a_ (r1_ tr) tr))) tr) (by kernel_rfl) rfl

/-- parrel/parrellaw09.ClockFull -/

def parrellaw09_ClockFull_v (r : (Bool)) : LV := .bool r

def parrellaw09_ClockFull_T0 (many : Int) (x_n : T_parrelref09_Name) (t25 : Int) (now : Int) (wheel : Nat → Option (List (T_clock_Name × Int))) (m : List (T_clock_Name × Int)) : List LV := [.any, .any, .any, .ptr 0 0 0, .any, .ptr 1 0 0, .int .i64 (Int.tmod (IntKind.wrap .i64 many) 1100), .any, .any, .any, .any, .any, .any, .any, .any, .any, .any, .any, .any, .any, .any, .any, .any, .any, .int .i64 (Int.tmod (IntKind.wrap .i64 many) 1100), .int .i64 t25, .any, .any, .any, .any, .any, .any, .any, .any, .any, .any, .any, .any, .any, .any, .any, .any, .any, .any, .any, .any, .any, .any, .any, .any, .any, .any, .any, .any, .any, .any, .any, .any, .any, .any, .any, .any, .any, .any, .any, .any, .any, .any, .any, .any, .any, .any, .any, .any, .any, .any, .any, .any, .any, .any, .any, .any, .any, .any, .any, .any, .any, .any, .any, .any, .any, .any, .any, .any, .any, .any, .any, .any, .any, .any, .any, .any, .any, .any, .any, .any, .any, .any, .any, .any, .any, .any, .any, .any, .any, .any, .any, .any, .any, .any, .any, .any, .any, .any, .any, .any, .any, .any, .any, .any, .any, .any, .any]

def parrellaw09_ClockFull_H0 (many : Int) (x_n : T_parrelref09_Name) (t25 : Int) (now : Int) (wheel : Nat → Option (List (T_clock_Name × Int))) (m : List (T_clock_Name × Int)) : Heap := [some (.var (c_T_parrelref09_Name x_n)), some (.vw [.int .u32 now, .map 2] true [.int .u8, .int .u8, .int .u32, .int .u32] 64 (fun q_ => (wheel q_).map (encM v_T_clock_Name (LV.int .u32))) []), some (.map true [.int .u8, .int .u8, .int .u32, .int .u32] (encM v_T_clock_Name (LV.int .u32) m))]

def parrellaw09_ClockFull_l0 (many : Int) (x_n : T_parrelref09_Name)  : Nat → (Int) → (Int) → (Nat → Option (List (T_clock_Name × Int))) → (List (T_clock_Name × Int)) → Option ((Bool))
  | 0, _, _, _, _ => none
  | fuel + 1, t25, now, wheel, m =>
    if ((decide (t25 < (Int.tmod (IntKind.wrap .i64 many) 1100))) : Bool) then
      (clock_Clock_Set now m wheel (T_clock_Name.mk 0 (T_api_Tx.mk 0 0 (IntKind.wrap .u32 ((IntKind.wrap .u32 t25) + 1)))) 5).bind fun yL0_3 =>
      if ((!((yL0_3.1 == 0) == (decide (t25 < 1024)))) : Bool) then
        some false
      else
        if ((yL0_3.1 != 0) : Bool) then
          if ((yL0_3.1 != 5) : Bool) then
            some false
          else
            parrellaw09_ClockFull_l0 many x_n  fuel (IntKind.wrap .i64 (t25 + 1)) yL0_3.2.1 yL0_3.2.2.1 yL0_3.2.2.2
        else
          parrellaw09_ClockFull_l0 many x_n  fuel (IntKind.wrap .i64 (t25 + 1)) yL0_3.2.1 yL0_3.2.2.1 yL0_3.2.2.2
    else
      if ((decide (0 < (Int.tmod (IntKind.wrap .i64 many) 1100))) : Bool) then
        (clock_Clock_Set now m wheel (T_clock_Name.mk 0 (T_api_Tx.mk 0 0 1)) 9).bind fun yL0_4 =>
        if ((yL0_4.1 != 0) : Bool) then
          some false
        else
          (clock_Clock_Len yL0_4.2.1 yL0_4.2.2.2 yL0_4.2.2.1).bind fun yL0_7 =>
          if ((yL0_7 != (if 1024 < (Int.tmod (IntKind.wrap .i64 many) 1100) then 1024 else (Int.tmod (IntKind.wrap .i64 many) 1100))) : Bool) then
            some false
          else
            (clock_Clock_Tick_2).bind fun yL0_10 =>
            (clock_Clock_Next).bind fun yL0_12 =>
            (parrellaw09_theirs x_n).bind fun yL0_14 =>
            (clock_Clock_Until_2 yL0_14).bind fun yL0_16 =>
            (parrellaw09_theirs x_n).bind fun yL0_18 =>
            (clock_Clock_Set_2 yL0_18 1).bind fun yL0_20 =>
            (parrellaw09_theirs x_n).bind fun yL0_22 =>
            (clock_Clock_Stop_2 yL0_22).bind fun yL0_24 =>
            if ((((yL0_10).length : Int) != 0) : Bool) then
              some false
            else
              (clock_Clock_Now_2).bind fun yL0_27 =>
              (clock_Clock_Len_2).bind fun yL0_29 =>
              (clock_Clock_Tick_3 0 (fun _ => none : Nat → Option (List (T_clock_Name × Int)))).bind fun yL0_31 =>
              (clock_Clock_Next_2 0 (fun _ => none : Nat → Option (List (T_clock_Name × Int)))).bind fun yL0_33 =>
              (parrellaw09_theirs x_n).bind fun yL0_35 =>
              (clock_Clock_Until_3 0 (fun _ => none : Nat → Option (List (T_clock_Name × Int))) yL0_35).bind fun yL0_37 =>
              (parrellaw09_theirs x_n).bind fun yL0_39 =>
              (clock_Clock_Set_3 0 (fun _ => none : Nat → Option (List (T_clock_Name × Int))) yL0_39 1).bind fun yL0_41 =>
              (parrellaw09_theirs x_n).bind fun yL0_43 =>
              (clock_Clock_Stop_3 0 (fun _ => none : Nat → Option (List (T_clock_Name × Int))) yL0_43).bind fun yL0_45 =>
              if ((((yL0_31).length : Int) != 0) : Bool) then
                some false
              else
                (clock_Clock_Now_3 0 (fun _ => none : Nat → Option (List (T_clock_Name × Int)))).bind fun yL0_48 =>
                (clock_Clock_Len_3 0 (fun _ => none : Nat → Option (List (T_clock_Name × Int)))).bind fun yL0_50 =>
                (parrellaw09_alive).bind fun yL0_52 =>
                some yL0_52
      else
        (clock_Clock_Len now m wheel).bind fun yL0_5 =>
        if ((yL0_5 != (if 1024 < (Int.tmod (IntKind.wrap .i64 many) 1100) then 1024 else (Int.tmod (IntKind.wrap .i64 many) 1100))) : Bool) then
          some false
        else
          (clock_Clock_Tick_2).bind fun yL0_8 =>
          (clock_Clock_Next).bind fun yL0_11 =>
          (parrellaw09_theirs x_n).bind fun yL0_13 =>
          (clock_Clock_Until_2 yL0_13).bind fun yL0_15 =>
          (parrellaw09_theirs x_n).bind fun yL0_17 =>
          (clock_Clock_Set_2 yL0_17 1).bind fun yL0_19 =>
          (parrellaw09_theirs x_n).bind fun yL0_21 =>
          (clock_Clock_Stop_2 yL0_21).bind fun yL0_23 =>
          if ((((yL0_8).length : Int) != 0) : Bool) then
            some false
          else
            (clock_Clock_Now_2).bind fun yL0_26 =>
            (clock_Clock_Len_2).bind fun yL0_28 =>
            (clock_Clock_Tick_3 0 (fun _ => none : Nat → Option (List (T_clock_Name × Int)))).bind fun yL0_30 =>
            (clock_Clock_Next_2 0 (fun _ => none : Nat → Option (List (T_clock_Name × Int)))).bind fun yL0_32 =>
            (parrellaw09_theirs x_n).bind fun yL0_34 =>
            (clock_Clock_Until_3 0 (fun _ => none : Nat → Option (List (T_clock_Name × Int))) yL0_34).bind fun yL0_36 =>
            (parrellaw09_theirs x_n).bind fun yL0_38 =>
            (clock_Clock_Set_3 0 (fun _ => none : Nat → Option (List (T_clock_Name × Int))) yL0_38 1).bind fun yL0_40 =>
            (parrellaw09_theirs x_n).bind fun yL0_42 =>
            (clock_Clock_Stop_3 0 (fun _ => none : Nat → Option (List (T_clock_Name × Int))) yL0_42).bind fun yL0_44 =>
            if ((((yL0_30).length : Int) != 0) : Bool) then
              some false
            else
              (clock_Clock_Now_3 0 (fun _ => none : Nat → Option (List (T_clock_Name × Int)))).bind fun yL0_47 =>
              (clock_Clock_Len_3 0 (fun _ => none : Nat → Option (List (T_clock_Name × Int)))).bind fun yL0_49 =>
              (parrellaw09_alive).bind fun yL0_51 =>
              some yL0_51

def parrellaw09_ClockFull (many : Int) (x_n : T_parrelref09_Name) : Option ((Bool)) :=
  (clock_New).bind fun y2 =>
  parrellaw09_ClockFull_l0 many x_n  big 0 0 y2.1 y2.2

theorem parrellaw09_ClockFull_l0_ok {w0 : World} {W : Nat → Prop} {μ0 : Emb} (hμ : ∀ c p, μ0 c = some p → c < 0) (many : Int) (x_n : T_parrelref09_Name)  : ∀ (fuel : Nat) (t25 : Int) (now : Int) (wheel : Nat → Option (List (T_clock_Name × Int))) (m : List (T_clock_Name × Int)) (r : (Bool)), parrellaw09_ClockFull_l0 many x_n  fuel t25 now wheel m = some r → kont Try.prog w0 W μ0 (FnPost Try.prog Try.f7 0 0 (parrellaw09_ClockFull_v r) []) (kAt (bodyOf Try.f7) 0) none (parrellaw09_ClockFull_T0 many x_n t25 now wheel m) (parrellaw09_ClockFull_H0 many x_n t25 now wheel m) := by
  intro fuel
  induction fuel with
  | zero => intro t25 now wheel m r h; rw [parrellaw09_ClockFull_l0] at h; cases h
  | succ fuel ih =>
    intro t25 now wheel m r h
    rw [parrellaw09_ClockFull_l0] at h
    rcases itb_some h with ⟨cL0_1, h⟩ | ⟨cL0_1, h⟩
    · skip
      obtain ⟨yL0_3, eL0_2, h⟩ := bind_some h
      rcases itb_some h with ⟨cL0_4, h⟩ | ⟨cL0_4, h⟩
      · skip
        obtain rfl := Option.some.inj h
        exact run_ret mixed (L := []) (n := 31) (s := [.go, .reg [(0, hT)], .reg [], .reg [(6, { call := some ((clock_Clock_Set_v yL0_3).ren (sel [1, 2]), preOf (sel [1, 2]) 0 (clock_Clock_Set_objs now m wheel (T_clock_Name.mk 0 (T_api_Tx.mk 0 0 (IntKind.wrap .u32 ((IntKind.wrap .u32 t25) + 1)))) 5), upOf (sel [1, 2]) (clock_Clock_Set_up now m wheel (T_clock_Name.mk 0 (T_api_Tx.mk 0 0 (IntKind.wrap .u32 ((IntKind.wrap .u32 t25) + 1)))) 5 yL0_3)) })], .reg [(5, hT)], .reg []])
          (a_ (a_ (f_ cL0_1 tr) (a_ (r2_ tr) (a_ (r4_ (a_ (a_ (Eq.refl true) tr) (a_ (a_ (Eq.refl true) tr) (a_ (a_ (a_ (clock_Clock_Set_ok now m wheel (T_clock_Name.mk 0 (T_api_Tx.mk 0 0 (IntKind.wrap .u32 ((IntKind.wrap .u32 t25) + 1)))) 5 yL0_3 eL0_2 (sel [1, 2]) (sel_inj rfl rfl)) (a_ (Eq.refl (.vw [.int .u32 now, .map 2] true [.int .u8, .int .u8, .int .u32, .int .u32] 64 (fun q_ => (wheel q_).map (encM v_T_clock_Name (LV.int .u32))) [] : LO)) (a_ (LO.Le.refl (.map true [.int .u8, .int .u8, .int .u32, .int .u32] (encM v_T_clock_Name (LV.int .u32) m))) tr))) tr) (r1_ tr))))) (a_ (r1_ (r4_ (f_ cL0_4 (t2_ (t4_ (r1_ tr)))))) (a_ (r1_ tr) tr))))) tr) (by kernel_rfl) rfl
      · skip
        rcases itb_some h with ⟨cL0_5, h⟩ | ⟨cL0_5, h⟩
        · skip
          rcases itb_some h with ⟨cL0_6, h⟩ | ⟨cL0_6, h⟩
          · skip
            obtain rfl := Option.some.inj h
            exact run_ret mixed (L := []) (n := 31) (s := [.go, .reg [(0, hT)], .reg [], .reg [(6, { call := some ((clock_Clock_Set_v yL0_3).ren (sel [1, 2]), preOf (sel [1, 2]) 0 (clock_Clock_Set_objs now m wheel (T_clock_Name.mk 0 (T_api_Tx.mk 0 0 (IntKind.wrap .u32 ((IntKind.wrap .u32 t25) + 1)))) 5), upOf (sel [1, 2]) (clock_Clock_Set_up now m wheel (T_clock_Name.mk 0 (T_api_Tx.mk 0 0 (IntKind.wrap .u32 ((IntKind.wrap .u32 t25) + 1)))) 5 yL0_3)) })], .reg [(5, hF), (8, hT), (12, hT)], .reg []])
              (a_ (a_ (f_ cL0_1 tr) (a_ (r2_ tr) (a_ (r4_ (a_ (a_ (Eq.refl true) tr) (a_ (a_ (Eq.refl true) tr) (a_ (a_ (a_ (clock_Clock_Set_ok now m wheel (T_clock_Name.mk 0 (T_api_Tx.mk 0 0 (IntKind.wrap .u32 ((IntKind.wrap .u32 t25) + 1)))) 5 yL0_3 eL0_2 (sel [1, 2]) (sel_inj rfl rfl)) (a_ (Eq.refl (.vw [.int .u32 now, .map 2] true [.int .u8, .int .u8, .int .u32, .int .u32] 64 (fun q_ => (wheel q_).map (encM v_T_clock_Name (LV.int .u32))) [] : LO)) (a_ (LO.Le.refl (.map true [.int .u8, .int .u8, .int .u32, .int .u32] (encM v_T_clock_Name (LV.int .u32) m))) tr))) tr) (r1_ tr))))) (a_ (r1_ (r4_ (f_ cL0_4 (r2_ (f_ cL0_5 (r1_ (r2_ (f_ cL0_6 tr)))))))) (a_ (r1_ tr) tr))))) tr) (by kernel_rfl) rfl
          · skip
            exact run_to mixed hμ (L := [0, 1, 2]) (n := 32) (s := [.go, .reg [(0, hT)], .reg [], .reg [(6, { call := some ((clock_Clock_Set_v yL0_3).ren (sel [1, 2]), preOf (sel [1, 2]) 0 (clock_Clock_Set_objs now m wheel (T_clock_Name.mk 0 (T_api_Tx.mk 0 0 (IntKind.wrap .u32 ((IntKind.wrap .u32 t25) + 1)))) 5), upOf (sel [1, 2]) (clock_Clock_Set_up now m wheel (T_clock_Name.mk 0 (T_api_Tx.mk 0 0 (IntKind.wrap .u32 ((IntKind.wrap .u32 t25) + 1)))) 5 yL0_3)) })], .reg [(5, hF), (8, hT), (12, hF)], .reg []])
              (a_ (f_ cL0_1 tr) (a_ (r2_ tr) (a_ (r4_ (a_ (a_ (Eq.refl true) tr) (a_ (a_ (Eq.refl true) tr) (a_ (a_ (a_ (clock_Clock_Set_ok now m wheel (T_clock_Name.mk 0 (T_api_Tx.mk 0 0 (IntKind.wrap .u32 ((IntKind.wrap .u32 t25) + 1)))) 5 yL0_3 eL0_2 (sel [1, 2]) (sel_inj rfl rfl)) (a_ (Eq.refl (.vw [.int .u32 now, .map 2] true [.int .u8, .int .u8, .int .u32, .int .u32] 64 (fun q_ => (wheel q_).map (encM v_T_clock_Name (LV.int .u32))) [] : LO)) (a_ (LO.Le.refl (.map true [.int .u8, .int .u8, .int .u32, .int .u32] (encM v_T_clock_Name (LV.int .u32) m))) tr))) tr) (r1_ tr))))) (a_ (r1_ (r4_ (f_ cL0_4 (r2_ (f_ cL0_5 (r1_ (r2_ (f_ cL0_6 tr)))))))) (a_ (r2_ tr) tr))))) (ih _ _ _ _ r h) (by kernel_rfl) ⟨rfl, ⟨rfl, under_no⟩, trivial, trivial⟩
        · skip
          exact run_to mixed hμ (L := [0, 1, 2]) (n := 32) (s := [.go, .reg [(0, hT)], .reg [], .reg [(6, { call := some ((clock_Clock_Set_v yL0_3).ren (sel [1, 2]), preOf (sel [1, 2]) 0 (clock_Clock_Set_objs now m wheel (T_clock_Name.mk 0 (T_api_Tx.mk 0 0 (IntKind.wrap .u32 ((IntKind.wrap .u32 t25) + 1)))) 5), upOf (sel [1, 2]) (clock_Clock_Set_up now m wheel (T_clock_Name.mk 0 (T_api_Tx.mk 0 0 (IntKind.wrap .u32 ((IntKind.wrap .u32 t25) + 1)))) 5 yL0_3)) })], .reg [(5, hF), (8, hF)], .reg []])
            (a_ (f_ cL0_1 tr) (a_ (r2_ tr) (a_ (r4_ (a_ (a_ (Eq.refl true) tr) (a_ (a_ (Eq.refl true) tr) (a_ (a_ (a_ (clock_Clock_Set_ok now m wheel (T_clock_Name.mk 0 (T_api_Tx.mk 0 0 (IntKind.wrap .u32 ((IntKind.wrap .u32 t25) + 1)))) 5 yL0_3 eL0_2 (sel [1, 2]) (sel_inj rfl rfl)) (a_ (Eq.refl (.vw [.int .u32 now, .map 2] true [.int .u8, .int .u8, .int .u32, .int .u32] 64 (fun q_ => (wheel q_).map (encM v_T_clock_Name (LV.int .u32))) [] : LO)) (a_ (LO.Le.refl (.map true [.int .u8, .int .u8, .int .u32, .int .u32] (encM v_T_clock_Name (LV.int .u32) m))) tr))) tr) (r1_ tr))))) (a_ (r1_ (r4_ (f_ cL0_4 (r2_ (f_ cL0_5 (t2_ (r2_ tr))))))) (a_ (r2_ tr) tr))))) (ih _ _ _ _ r h) (by kernel_rfl) ⟨rfl, ⟨rfl, under_no⟩, trivial, trivial⟩
    · skip
      rcases itb_some h with ⟨cL0_2, h⟩ | ⟨cL0_2, h⟩
      · skip
        obtain ⟨yL0_4, eL0_3, h⟩ := bind_some h
        rcases itb_some h with ⟨cL0_5, h⟩ | ⟨cL0_5, h⟩
        · skip
          obtain rfl := Option.some.inj h
          exact run_ret mixed (L := []) (n := 24) (s := [.go, .reg [(0, hF)], .reg [(2, hT), (6, { call := some ((clock_Clock_Set_v yL0_4).ren (sel [1, 2]), preOf (sel [1, 2]) 0 (clock_Clock_Set_objs now m wheel (T_clock_Name.mk 0 (T_api_Tx.mk 0 0 1)) 9), upOf (sel [1, 2]) (clock_Clock_Set_up now m wheel (T_clock_Name.mk 0 (T_api_Tx.mk 0 0 1)) 9 yL0_4)) }), (9, hT)], .reg []])
            (a_ (a_ (f_ cL0_1 tr) (a_ (r2_ (f_ cL0_2 (r1_ (a_ (a_ (Eq.refl true) tr) (a_ (a_ (Eq.refl true) tr) (a_ (a_ (a_ (clock_Clock_Set_ok now m wheel (T_clock_Name.mk 0 (T_api_Tx.mk 0 0 1)) 9 yL0_4 eL0_3 (sel [1, 2]) (sel_inj rfl rfl)) (a_ (Eq.refl (.vw [.int .u32 now, .map 2] true [.int .u8, .int .u8, .int .u32, .int .u32] 64 (fun q_ => (wheel q_).map (encM v_T_clock_Name (LV.int .u32))) [] : LO)) (a_ (LO.Le.refl (.map true [.int .u8, .int .u8, .int .u32, .int .u32] (encM v_T_clock_Name (LV.int .u32) m))) tr))) tr) (r2_ (f_ cL0_5 (a_ tr (t4_ (r1_ tr))))))))))) (a_ (r1_ tr) tr))) tr) (by kernel_rfl) rfl
        · skip
          obtain ⟨yL0_7, eL0_6, h⟩ := bind_some h
          rcases itb_some h with ⟨cL0_8, h⟩ | ⟨cL0_8, h⟩
          · skip
            obtain rfl := Option.some.inj h
            exact run_ret mixed (L := []) (n := 24) (s := [.go, .reg [(0, hF)], .reg [(2, hT), (6, { call := some ((clock_Clock_Set_v yL0_4).ren (sel [1, 2]), preOf (sel [1, 2]) 0 (clock_Clock_Set_objs now m wheel (T_clock_Name.mk 0 (T_api_Tx.mk 0 0 1)) 9), upOf (sel [1, 2]) (clock_Clock_Set_up now m wheel (T_clock_Name.mk 0 (T_api_Tx.mk 0 0 1)) 9 yL0_4)) }), (9, hF), (11, { call := some ((clock_Clock_Len_v yL0_7).ren (sel [1, 2]), preOf (sel [1, 2]) 0 (clock_Clock_Len_objs yL0_4.2.1 yL0_4.2.2.2 yL0_4.2.2.1), upOf (sel [1, 2]) (clock_Clock_Len_up yL0_4.2.1 yL0_4.2.2.2 yL0_4.2.2.1 yL0_7)) }), (15, hT)], .reg []])
              (a_ (a_ (f_ cL0_1 tr) (a_ (r2_ (f_ cL0_2 (r1_ (a_ (a_ (Eq.refl true) tr) (a_ (a_ (Eq.refl true) tr) (a_ (a_ (a_ (clock_Clock_Set_ok now m wheel (T_clock_Name.mk 0 (T_api_Tx.mk 0 0 1)) 9 yL0_4 eL0_3 (sel [1, 2]) (sel_inj rfl rfl)) (a_ (Eq.refl (.vw [.int .u32 now, .map 2] true [.int .u8, .int .u8, .int .u32, .int .u32] 64 (fun q_ => (wheel q_).map (encM v_T_clock_Name (LV.int .u32))) [] : LO)) (a_ (LO.Le.refl (.map true [.int .u8, .int .u8, .int .u32, .int .u32] (encM v_T_clock_Name (LV.int .u32) m))) tr))) tr) (r2_ (f_ cL0_5 (r1_ (a_ (a_ (a_ (clock_Clock_Len_ok yL0_4.2.1 yL0_4.2.2.2 yL0_4.2.2.1 yL0_7 eL0_6 (sel [1, 2]) (sel_inj rfl rfl)) (a_ (Eq.refl (.vw [.int .u32 yL0_4.2.1, .map 2] true [.int .u8, .int .u8, .int .u32, .int .u32] 64 (fun q_ => (yL0_4.2.2.1 q_).map (encM v_T_clock_Name (LV.int .u32))) [] : LO)) (a_ (LO.Le.refl (.map true [.int .u8, .int .u8, .int .u32, .int .u32] (encM v_T_clock_Name (LV.int .u32) yL0_4.2.2.2))) tr))) tr) (r1_ (r2_ (f_ cL0_8 tr))))))))))))) (a_ (r1_ tr) tr))) tr) (by kernel_rfl) rfl
          · skip
            obtain ⟨yL0_10, eL0_9, h⟩ := bind_some h
            obtain ⟨yL0_12, eL0_11, h⟩ := bind_some h
            obtain ⟨yL0_14, eL0_13, h⟩ := bind_some h
            obtain ⟨yL0_16, eL0_15, h⟩ := bind_some h
            obtain ⟨yL0_18, eL0_17, h⟩ := bind_some h
            obtain ⟨yL0_20, eL0_19, h⟩ := bind_some h
            obtain ⟨yL0_22, eL0_21, h⟩ := bind_some h
            obtain ⟨yL0_24, eL0_23, h⟩ := bind_some h
            rcases itb_some h with ⟨cL0_25, h⟩ | ⟨cL0_25, h⟩
            · skip
              obtain rfl := Option.some.inj h
              exact run_ret mixed (L := []) (n := 58) (s := [.go, .reg [(0, hF)], .reg [(2, hT), (6, { call := some ((clock_Clock_Set_v yL0_4).ren (sel [1, 2]), preOf (sel [1, 2]) 0 (clock_Clock_Set_objs now m wheel (T_clock_Name.mk 0 (T_api_Tx.mk 0 0 1)) 9), upOf (sel [1, 2]) (clock_Clock_Set_up now m wheel (T_clock_Name.mk 0 (T_api_Tx.mk 0 0 1)) 9 yL0_4)) }), (9, hF), (11, { call := some ((clock_Clock_Len_v yL0_7).ren (sel [1, 2]), preOf (sel [1, 2]) 0 (clock_Clock_Len_objs yL0_4.2.1 yL0_4.2.2.2 yL0_4.2.2.1), upOf (sel [1, 2]) (clock_Clock_Len_up yL0_4.2.1 yL0_4.2.2.2 yL0_4.2.2.1 yL0_7)) }), (15, hF)], .reg [], .go, .x (.vwn 3 64 true [.int .u8, .int .u8, .int .u32, .int .u32]), .reg [], .reg [], .reg [(1, hC (clock_Clock_Tick_2_v yL0_10))], .reg [(1, hC (clock_Clock_Next_v yL0_12))], .reg [(2, hC (parrellaw09_theirs_v yL0_14)), (3, hC (clock_Clock_Until_2_v yL0_16))], .reg [(2, hC (parrellaw09_theirs_v yL0_18)), (3, hC (clock_Clock_Set_2_v yL0_20)), (8, hC (parrellaw09_theirs_v yL0_22)), (9, hC (clock_Clock_Stop_2_v yL0_24)), (16, hT)], .reg []])
                (a_ (a_ (f_ cL0_1 tr) (a_ (r2_ (f_ cL0_2 (r1_ (a_ (a_ (Eq.refl true) tr) (a_ (a_ (Eq.refl true) tr) (a_ (a_ (a_ (clock_Clock_Set_ok now m wheel (T_clock_Name.mk 0 (T_api_Tx.mk 0 0 1)) 9 yL0_4 eL0_3 (sel [1, 2]) (sel_inj rfl rfl)) (a_ (Eq.refl (.vw [.int .u32 now, .map 2] true [.int .u8, .int .u8, .int .u32, .int .u32] 64 (fun q_ => (wheel q_).map (encM v_T_clock_Name (LV.int .u32))) [] : LO)) (a_ (LO.Le.refl (.map true [.int .u8, .int .u8, .int .u32, .int .u32] (encM v_T_clock_Name (LV.int .u32) m))) tr))) tr) (r2_ (f_ cL0_5 (r1_ (a_ (a_ (a_ (clock_Clock_Len_ok yL0_4.2.1 yL0_4.2.2.2 yL0_4.2.2.1 yL0_7 eL0_6 (sel [1, 2]) (sel_inj rfl rfl)) (a_ (Eq.refl (.vw [.int .u32 yL0_4.2.1, .map 2] true [.int .u8, .int .u8, .int .u32, .int .u32] 64 (fun q_ => (yL0_4.2.2.1 q_).map (encM v_T_clock_Name (LV.int .u32))) [] : LO)) (a_ (LO.Le.refl (.map true [.int .u8, .int .u8, .int .u32, .int .u32] (encM v_T_clock_Name (LV.int .u32) yL0_4.2.2.2))) tr))) tr) (r1_ (r2_ (f_ cL0_8 tr))))))))))))) (a_ (a_ (a_ (Eq.refl true) tr) (r1_ (a_ (a_ (a_ (Eq.refl true) (a_ (Eq.refl 1) (a_ (lt_ 0 1 rfl) (le_ 2 16777216 rfl)))) tr) (r2_ tr)))) (a_ (And.intro (le_ 64 66 rfl) (Eq.refl (List.replicate 64 LV.nilmap))) (a_ (r1_ tr) (a_ (a_ (a_ (a_ (Eq.refl 1) (a_ (lei_ 0 0 rfl) (lti_ 0 2 rfl))) tr) (a_ (a_ (a_ (lt_ 0 2 rfl) (lt_ 0 1 rfl)) tr) (r1_ tr))) (a_ (r1_ (c_ (clock_Clock_Tick_2_tri  yL0_10 eL0_9) (r1_ (r4_ tr)))) (a_ (r1_ (c_ (clock_Clock_Next_tri  yL0_12 eL0_11) (r1_ (r4_ (a_ (a_ (a_ (Eq.refl 4) (a_ (le_ 4 4 rfl) (Eq.refl 0))) tr) (r2_ tr)))))) (a_ (r1_ (m_ 4 4 rfl (c_ (parrellaw09_theirs_tri x_n yL0_14 eL0_13) (c_ (clock_Clock_Until_2_tri yL0_14 yL0_16 eL0_15) (r1_ (r4_ tr)))))) (a_ (r1_ (m_ 4 4 rfl (c_ (parrellaw09_theirs_tri x_n yL0_18 eL0_17) (c_ (clock_Clock_Set_2_tri yL0_18 1 yL0_20 eL0_19) (r1_ (r2_ (m_ 4 4 rfl (c_ (parrellaw09_theirs_tri x_n yL0_22 eL0_21) (c_ (clock_Clock_Stop_2_tri yL0_22 yL0_24 eL0_23) (r2_ (r4_ (f_ cL0_25 (t2_ (r2_ (t2_ (r2_ (a_ tr (r2_ (a_ tr (r2_ (a_ tr (t2_ (r2_ (a_ tr (t2_ (r1_ tr)))))))))))))))))))))))))) (a_ (r1_ tr) tr))))))))))) tr) (by kernel_rfl) rfl
            · skip
              obtain ⟨yL0_27, eL0_26, h⟩ := bind_some h
              obtain ⟨yL0_29, eL0_28, h⟩ := bind_some h
              obtain ⟨yL0_31, eL0_30, h⟩ := bind_some h
              obtain ⟨yL0_33, eL0_32, h⟩ := bind_some h
              obtain ⟨yL0_35, eL0_34, h⟩ := bind_some h
              obtain ⟨yL0_37, eL0_36, h⟩ := bind_some h
              obtain ⟨yL0_39, eL0_38, h⟩ := bind_some h
              obtain ⟨yL0_41, eL0_40, h⟩ := bind_some h
              obtain ⟨yL0_43, eL0_42, h⟩ := bind_some h
              obtain ⟨yL0_45, eL0_44, h⟩ := bind_some h
              rcases itb_some h with ⟨cL0_46, h⟩ | ⟨cL0_46, h⟩
              · skip
                obtain rfl := Option.some.inj h
                exact run_ret mixed (L := []) (n := 88) (s := [.go, .reg [(0, hF)], .reg [(2, hT), (6, { call := some ((clock_Clock_Set_v yL0_4).ren (sel [1, 2]), preOf (sel [1, 2]) 0 (clock_Clock_Set_objs now m wheel (T_clock_Name.mk 0 (T_api_Tx.mk 0 0 1)) 9), upOf (sel [1, 2]) (clock_Clock_Set_up now m wheel (T_clock_Name.mk 0 (T_api_Tx.mk 0 0 1)) 9 yL0_4)) }), (9, hF), (11, { call := some ((clock_Clock_Len_v yL0_7).ren (sel [1, 2]), preOf (sel [1, 2]) 0 (clock_Clock_Len_objs yL0_4.2.1 yL0_4.2.2.2 yL0_4.2.2.1), upOf (sel [1, 2]) (clock_Clock_Len_up yL0_4.2.1 yL0_4.2.2.2 yL0_4.2.2.1 yL0_7)) }), (15, hF)], .reg [], .go, .x (.vwn 3 64 true [.int .u8, .int .u8, .int .u32, .int .u32]), .reg [], .reg [], .reg [(1, hC (clock_Clock_Tick_2_v yL0_10))], .reg [(1, hC (clock_Clock_Next_v yL0_12))], .reg [(2, hC (parrellaw09_theirs_v yL0_14)), (3, hC (clock_Clock_Until_2_v yL0_16))], .reg [(2, hC (parrellaw09_theirs_v yL0_18)), (3, hC (clock_Clock_Set_2_v yL0_20)), (8, hC (parrellaw09_theirs_v yL0_22)), (9, hC (clock_Clock_Stop_2_v yL0_24)), (16, hF), (32, hC (clock_Clock_Now_2_v yL0_27)), (37, hC (clock_Clock_Len_2_v yL0_29))], .reg [], .go, .reg [], .reg [], .reg [(1, { call := some ((clock_Clock_Tick_3_v yL0_31).ren (sel [3]), preOf (sel [3]) 0 (clock_Clock_Tick_3_objs 0 (fun _ => none : Nat → Option (List (T_clock_Name × Int)))), upOf (sel [3]) (clock_Clock_Tick_3_up 0 (fun _ => none : Nat → Option (List (T_clock_Name × Int))) yL0_31)) })], .reg [(1, { call := some ((clock_Clock_Next_2_v yL0_33).ren (sel [3]), preOf (sel [3]) 0 (clock_Clock_Next_2_objs 0 (fun _ => none : Nat → Option (List (T_clock_Name × Int)))), upOf (sel [3]) (clock_Clock_Next_2_up 0 (fun _ => none : Nat → Option (List (T_clock_Name × Int))) yL0_33)) })], .reg [(2, hC (parrellaw09_theirs_v yL0_35)), (3, { call := some ((clock_Clock_Until_3_v yL0_37).ren (sel [3]), preOf (sel [3]) 0 (clock_Clock_Until_3_objs 0 (fun _ => none : Nat → Option (List (T_clock_Name × Int))) yL0_35), upOf (sel [3]) (clock_Clock_Until_3_up 0 (fun _ => none : Nat → Option (List (T_clock_Name × Int))) yL0_35 yL0_37)) })], .reg [(2, hC (parrellaw09_theirs_v yL0_39)), (3, { call := some ((clock_Clock_Set_3_v yL0_41).ren (sel [3]), preOf (sel [3]) 0 (clock_Clock_Set_3_objs 0 (fun _ => none : Nat → Option (List (T_clock_Name × Int))) yL0_39 1), upOf (sel [3]) (clock_Clock_Set_3_up 0 (fun _ => none : Nat → Option (List (T_clock_Name × Int))) yL0_39 1 yL0_41)) }), (8, hC (parrellaw09_theirs_v yL0_43)), (9, { call := some ((clock_Clock_Stop_3_v yL0_45).ren (sel [3]), preOf (sel [3]) 0 (clock_Clock_Stop_3_objs 0 (fun _ => none : Nat → Option (List (T_clock_Name × Int))) yL0_43), upOf (sel [3]) (clock_Clock_Stop_3_up 0 (fun _ => none : Nat → Option (List (T_clock_Name × Int))) yL0_43 yL0_45)) }), (16, hT)], .reg []])
                  (a_ (a_ (f_ cL0_1 tr) (a_ (r2_ (f_ cL0_2 (r1_ (a_ (a_ (Eq.refl true) tr) (a_ (a_ (Eq.refl true) tr) (a_ (a_ (a_ (clock_Clock_Set_ok now m wheel (T_clock_Name.mk 0 (T_api_Tx.mk 0 0 1)) 9 yL0_4 eL0_3 (sel [1, 2]) (sel_inj rfl rfl)) (a_ (Eq.refl (.vw [.int .u32 now, .map 2] true [.int .u8, .int .u8, .int .u32, .int .u32] 64 (fun q_ => (wheel q_).map (encM v_T_clock_Name (LV.int .u32))) [] : LO)) (a_ (LO.Le.refl (.map true [.int .u8, .int .u8, .int .u32, .int .u32] (encM v_T_clock_Name (LV.int .u32) m))) tr))) tr) (r2_ (f_ cL0_5 (r1_ (a_ (a_ (a_ (clock_Clock_Len_ok yL0_4.2.1 yL0_4.2.2.2 yL0_4.2.2.1 yL0_7 eL0_6 (sel [1, 2]) (sel_inj rfl rfl)) (a_ (Eq.refl (.vw [.int .u32 yL0_4.2.1, .map 2] true [.int .u8, .int .u8, .int .u32, .int .u32] 64 (fun q_ => (yL0_4.2.2.1 q_).map (encM v_T_clock_Name (LV.int .u32))) [] : LO)) (a_ (LO.Le.refl (.map true [.int .u8, .int .u8, .int .u32, .int .u32] (encM v_T_clock_Name (LV.int .u32) yL0_4.2.2.2))) tr))) tr) (r1_ (r2_ (f_ cL0_8 tr))))))))))))) (a_ (a_ (a_ (Eq.refl true) tr) (r1_ (a_ (a_ (a_ (Eq.refl true) (a_ (Eq.refl 1) (a_ (lt_ 0 1 rfl) (le_ 2 16777216 rfl)))) tr) (r2_ tr)))) (a_ (And.intro (le_ 64 66 rfl) (Eq.refl (List.replicate 64 LV.nilmap))) (a_ (r1_ tr) (a_ (a_ (a_ (a_ (Eq.refl 1) (a_ (lei_ 0 0 rfl) (lti_ 0 2 rfl))) tr) (a_ (a_ (a_ (lt_ 0 2 rfl) (lt_ 0 1 rfl)) tr) (r1_ tr))) (a_ (r1_ (c_ (clock_Clock_Tick_2_tri  yL0_10 eL0_9) (r1_ (r4_ tr)))) (a_ (r1_ (c_ (clock_Clock_Next_tri  yL0_12 eL0_11) (r1_ (r4_ (a_ (a_ (a_ (Eq.refl 4) (a_ (le_ 4 4 rfl) (Eq.refl 0))) tr) (r2_ tr)))))) (a_ (r1_ (m_ 4 4 rfl (c_ (parrellaw09_theirs_tri x_n yL0_14 eL0_13) (c_ (clock_Clock_Until_2_tri yL0_14 yL0_16 eL0_15) (r1_ (r4_ tr)))))) (a_ (r1_ (m_ 4 4 rfl (c_ (parrellaw09_theirs_tri x_n yL0_18 eL0_17) (c_ (clock_Clock_Set_2_tri yL0_18 1 yL0_20 eL0_19) (r1_ (r2_ (m_ 4 4 rfl (c_ (parrellaw09_theirs_tri x_n yL0_22 eL0_21) (c_ (clock_Clock_Stop_2_tri yL0_22 yL0_24 eL0_23) (r2_ (r4_ (f_ cL0_25 (r1_ (r2_ (r4_ (r8_ (c_ (clock_Clock_Now_2_tri  yL0_27 eL0_26) (r4_ (c_ (clock_Clock_Len_2_tri  yL0_29 eL0_28) (r2_ tr)))))))))))))))))))) (a_ (r2_ tr) (a_ (r1_ tr) (a_ (a_ (a_ (a_ (Eq.refl 1) (a_ (lei_ 0 1 rfl) (lti_ 1 2 rfl))) tr) (a_ (a_ (a_ (lt_ 1 2 rfl) (lt_ 0 1 rfl)) tr) (r1_ tr))) (a_ (r1_ (a_ (a_ (a_ (clock_Clock_Tick_3_ok 0 (fun _ => none : Nat → Option (List (T_clock_Name × Int))) yL0_31 eL0_30 (sel [3]) (sel_inj rfl rfl)) (a_ (Eq.refl (.vw [.int .u32 0, .nilmap] true [.int .u8, .int .u8, .int .u32, .int .u32] 64 (fun q_ => ((fun _ => none : Nat → Option (List (T_clock_Name × Int))) q_).map (encM v_T_clock_Name (LV.int .u32))) [] : LO)) tr)) tr) (r1_ (r4_ tr)))) (a_ (r1_ (a_ (a_ (a_ (clock_Clock_Next_2_ok 0 (fun _ => none : Nat → Option (List (T_clock_Name × Int))) yL0_33 eL0_32 (sel [3]) (sel_inj rfl rfl)) (a_ (Eq.refl (.vw [.int .u32 0, .nilmap] true [.int .u8, .int .u8, .int .u32, .int .u32] 64 (fun q_ => ((fun _ => none : Nat → Option (List (T_clock_Name × Int))) q_).map (encM v_T_clock_Name (LV.int .u32))) [] : LO)) tr)) tr) (r1_ (r4_ (a_ (a_ (a_ (Eq.refl 4) (a_ (le_ 4 4 rfl) (Eq.refl 0))) tr) (r2_ tr)))))) (a_ (r1_ (m_ 4 4 rfl (c_ (parrellaw09_theirs_tri x_n yL0_35 eL0_34) (a_ (a_ (a_ (clock_Clock_Until_3_ok 0 (fun _ => none : Nat → Option (List (T_clock_Name × Int))) yL0_35 yL0_37 eL0_36 (sel [3]) (sel_inj rfl rfl)) (a_ (Eq.refl (.vw [.int .u32 0, .nilmap] true [.int .u8, .int .u8, .int .u32, .int .u32] 64 (fun q_ => ((fun _ => none : Nat → Option (List (T_clock_Name × Int))) q_).map (encM v_T_clock_Name (LV.int .u32))) [] : LO)) tr)) tr) (r1_ (r4_ tr)))))) (a_ (r1_ (m_ 4 4 rfl (c_ (parrellaw09_theirs_tri x_n yL0_39 eL0_38) (a_ (a_ (a_ (clock_Clock_Set_3_ok 0 (fun _ => none : Nat → Option (List (T_clock_Name × Int))) yL0_39 1 yL0_41 eL0_40 (sel [3]) (sel_inj rfl rfl)) (a_ (Eq.refl (.vw [.int .u32 0, .nilmap] true [.int .u8, .int .u8, .int .u32, .int .u32] 64 (fun q_ => ((fun _ => none : Nat → Option (List (T_clock_Name × Int))) q_).map (encM v_T_clock_Name (LV.int .u32))) [] : LO)) tr)) tr) (r1_ (r2_ (m_ 4 4 rfl (c_ (parrellaw09_theirs_tri x_n yL0_43 eL0_42) (a_ (a_ (a_ (clock_Clock_Stop_3_ok 0 (fun _ => none : Nat → Option (List (T_clock_Name × Int))) yL0_43 yL0_45 eL0_44 (sel [3]) (sel_inj rfl rfl)) (a_ (Eq.refl (.vw [.int .u32 0, .nilmap] true [.int .u8, .int .u8, .int .u32, .int .u32] 64 (fun q_ => ((fun _ => none : Nat → Option (List (T_clock_Name × Int))) q_).map (encM v_T_clock_Name (LV.int .u32))) [] : LO)) tr)) tr) (r2_ (r4_ (f_ cL0_46 (t2_ (r2_ (t2_ (r2_ (a_ tr (r2_ (a_ tr (r2_ (a_ tr (t2_ (r2_ (a_ tr (t2_ (r1_ tr)))))))))))))))))))))))))) (a_ (r1_ tr) tr)))))))))))))))))) tr) (by kernel_rfl) rfl
              · skip
                obtain ⟨yL0_48, eL0_47, h⟩ := bind_some h
                obtain ⟨yL0_50, eL0_49, h⟩ := bind_some h
                obtain ⟨yL0_52, eL0_51, h⟩ := bind_some h
                obtain rfl := Option.some.inj h
                exact run_ret mixed (L := []) (n := 100) (s := [.go, .reg [(0, hF)], .reg [(2, hT), (6, { call := some ((clock_Clock_Set_v yL0_4).ren (sel [1, 2]), preOf (sel [1, 2]) 0 (clock_Clock_Set_objs now m wheel (T_clock_Name.mk 0 (T_api_Tx.mk 0 0 1)) 9), upOf (sel [1, 2]) (clock_Clock_Set_up now m wheel (T_clock_Name.mk 0 (T_api_Tx.mk 0 0 1)) 9 yL0_4)) }), (9, hF), (11, { call := some ((clock_Clock_Len_v yL0_7).ren (sel [1, 2]), preOf (sel [1, 2]) 0 (clock_Clock_Len_objs yL0_4.2.1 yL0_4.2.2.2 yL0_4.2.2.1), upOf (sel [1, 2]) (clock_Clock_Len_up yL0_4.2.1 yL0_4.2.2.2 yL0_4.2.2.1 yL0_7)) }), (15, hF)], .reg [], .go, .x (.vwn 3 64 true [.int .u8, .int .u8, .int .u32, .int .u32]), .reg [], .reg [], .reg [(1, hC (clock_Clock_Tick_2_v yL0_10))], .reg [(1, hC (clock_Clock_Next_v yL0_12))], .reg [(2, hC (parrellaw09_theirs_v yL0_14)), (3, hC (clock_Clock_Until_2_v yL0_16))], .reg [(2, hC (parrellaw09_theirs_v yL0_18)), (3, hC (clock_Clock_Set_2_v yL0_20)), (8, hC (parrellaw09_theirs_v yL0_22)), (9, hC (clock_Clock_Stop_2_v yL0_24)), (16, hF), (32, hC (clock_Clock_Now_2_v yL0_27)), (37, hC (clock_Clock_Len_2_v yL0_29))], .reg [], .go, .reg [], .reg [], .reg [(1, { call := some ((clock_Clock_Tick_3_v yL0_31).ren (sel [3]), preOf (sel [3]) 0 (clock_Clock_Tick_3_objs 0 (fun _ => none : Nat → Option (List (T_clock_Name × Int)))), upOf (sel [3]) (clock_Clock_Tick_3_up 0 (fun _ => none : Nat → Option (List (T_clock_Name × Int))) yL0_31)) })], .reg [(1, { call := some ((clock_Clock_Next_2_v yL0_33).ren (sel [3]), preOf (sel [3]) 0 (clock_Clock_Next_2_objs 0 (fun _ => none : Nat → Option (List (T_clock_Name × Int)))), upOf (sel [3]) (clock_Clock_Next_2_up 0 (fun _ => none : Nat → Option (List (T_clock_Name × Int))) yL0_33)) })], .reg [(2, hC (parrellaw09_theirs_v yL0_35)), (3, { call := some ((clock_Clock_Until_3_v yL0_37).ren (sel [3]), preOf (sel [3]) 0 (clock_Clock_Until_3_objs 0 (fun _ => none : Nat → Option (List (T_clock_Name × Int))) yL0_35), upOf (sel [3]) (clock_Clock_Until_3_up 0 (fun _ => none : Nat → Option (List (T_clock_Name × Int))) yL0_35 yL0_37)) })], .reg [(2, hC (parrellaw09_theirs_v yL0_39)), (3, { call := some ((clock_Clock_Set_3_v yL0_41).ren (sel [3]), preOf (sel [3]) 0 (clock_Clock_Set_3_objs 0 (fun _ => none : Nat → Option (List (T_clock_Name × Int))) yL0_39 1), upOf (sel [3]) (clock_Clock_Set_3_up 0 (fun _ => none : Nat → Option (List (T_clock_Name × Int))) yL0_39 1 yL0_41)) }), (8, hC (parrellaw09_theirs_v yL0_43)), (9, { call := some ((clock_Clock_Stop_3_v yL0_45).ren (sel [3]), preOf (sel [3]) 0 (clock_Clock_Stop_3_objs 0 (fun _ => none : Nat → Option (List (T_clock_Name × Int))) yL0_43), upOf (sel [3]) (clock_Clock_Stop_3_up 0 (fun _ => none : Nat → Option (List (T_clock_Name × Int))) yL0_43 yL0_45)) }), (16, hF), (32, { call := some ((clock_Clock_Now_3_v yL0_48).ren (sel [3]), preOf (sel [3]) 0 (clock_Clock_Now_3_objs 0 (fun _ => none : Nat → Option (List (T_clock_Name × Int)))), upOf (sel [3]) (clock_Clock_Now_3_up 0 (fun _ => none : Nat → Option (List (T_clock_Name × Int))) yL0_48)) }), (37, { call := some ((clock_Clock_Len_3_v yL0_50).ren (sel [3]), preOf (sel [3]) 0 (clock_Clock_Len_3_objs 0 (fun _ => none : Nat → Option (List (T_clock_Name × Int)))), upOf (sel [3]) (clock_Clock_Len_3_up 0 (fun _ => none : Nat → Option (List (T_clock_Name × Int))) yL0_50)) })], .reg [], .go, .reg [], .reg [(0, hC (parrellaw09_alive_v yL0_52))]])
                  (a_ (a_ (f_ cL0_1 tr) (a_ (r2_ (f_ cL0_2 (r1_ (a_ (a_ (Eq.refl true) tr) (a_ (a_ (Eq.refl true) tr) (a_ (a_ (a_ (clock_Clock_Set_ok now m wheel (T_clock_Name.mk 0 (T_api_Tx.mk 0 0 1)) 9 yL0_4 eL0_3 (sel [1, 2]) (sel_inj rfl rfl)) (a_ (Eq.refl (.vw [.int .u32 now, .map 2] true [.int .u8, .int .u8, .int .u32, .int .u32] 64 (fun q_ => (wheel q_).map (encM v_T_clock_Name (LV.int .u32))) [] : LO)) (a_ (LO.Le.refl (.map true [.int .u8, .int .u8, .int .u32, .int .u32] (encM v_T_clock_Name (LV.int .u32) m))) tr))) tr) (r2_ (f_ cL0_5 (r1_ (a_ (a_ (a_ (clock_Clock_Len_ok yL0_4.2.1 yL0_4.2.2.2 yL0_4.2.2.1 yL0_7 eL0_6 (sel [1, 2]) (sel_inj rfl rfl)) (a_ (Eq.refl (.vw [.int .u32 yL0_4.2.1, .map 2] true [.int .u8, .int .u8, .int .u32, .int .u32] 64 (fun q_ => (yL0_4.2.2.1 q_).map (encM v_T_clock_Name (LV.int .u32))) [] : LO)) (a_ (LO.Le.refl (.map true [.int .u8, .int .u8, .int .u32, .int .u32] (encM v_T_clock_Name (LV.int .u32) yL0_4.2.2.2))) tr))) tr) (r1_ (r2_ (f_ cL0_8 tr))))))))))))) (a_ (a_ (a_ (Eq.refl true) tr) (r1_ (a_ (a_ (a_ (Eq.refl true) (a_ (Eq.refl 1) (a_ (lt_ 0 1 rfl) (le_ 2 16777216 rfl)))) tr) (r2_ tr)))) (a_ (And.intro (le_ 64 66 rfl) (Eq.refl (List.replicate 64 LV.nilmap))) (a_ (r1_ tr) (a_ (a_ (a_ (a_ (Eq.refl 1) (a_ (lei_ 0 0 rfl) (lti_ 0 2 rfl))) tr) (a_ (a_ (a_ (lt_ 0 2 rfl) (lt_ 0 1 rfl)) tr) (r1_ tr))) (a_ (r1_ (c_ (clock_Clock_Tick_2_tri  yL0_10 eL0_9) (r1_ (r4_ tr)))) (a_ (r1_ (c_ (clock_Clock_Next_tri  yL0_12 eL0_11) (r1_ (r4_ (a_ (a_ (a_ (Eq.refl 4) (a_ (le_ 4 4 rfl) (Eq.refl 0))) tr) (r2_ tr)))))) (a_ (r1_ (m_ 4 4 rfl (c_ (parrellaw09_theirs_tri x_n yL0_14 eL0_13) (c_ (clock_Clock_Until_2_tri yL0_14 yL0_16 eL0_15) (r1_ (r4_ tr)))))) (a_ (r1_ (m_ 4 4 rfl (c_ (parrellaw09_theirs_tri x_n yL0_18 eL0_17) (c_ (clock_Clock_Set_2_tri yL0_18 1 yL0_20 eL0_19) (r1_ (r2_ (m_ 4 4 rfl (c_ (parrellaw09_theirs_tri x_n yL0_22 eL0_21) (c_ (clock_Clock_Stop_2_tri yL0_22 yL0_24 eL0_23) (r2_ (r4_ (f_ cL0_25 (r1_ (r2_ (r4_ (r8_ (c_ (clock_Clock_Now_2_tri  yL0_27 eL0_26) (r4_ (c_ (clock_Clock_Len_2_tri  yL0_29 eL0_28) (r2_ tr)))))))))))))))))))) (a_ (r2_ tr) (a_ (r1_ tr) (a_ (a_ (a_ (a_ (Eq.refl 1) (a_ (lei_ 0 1 rfl) (lti_ 1 2 rfl))) tr) (a_ (a_ (a_ (lt_ 1 2 rfl) (lt_ 0 1 rfl)) tr) (r1_ tr))) (a_ (r1_ (a_ (a_ (a_ (clock_Clock_Tick_3_ok 0 (fun _ => none : Nat → Option (List (T_clock_Name × Int))) yL0_31 eL0_30 (sel [3]) (sel_inj rfl rfl)) (a_ (Eq.refl (.vw [.int .u32 0, .nilmap] true [.int .u8, .int .u8, .int .u32, .int .u32] 64 (fun q_ => ((fun _ => none : Nat → Option (List (T_clock_Name × Int))) q_).map (encM v_T_clock_Name (LV.int .u32))) [] : LO)) tr)) tr) (r1_ (r4_ tr)))) (a_ (r1_ (a_ (a_ (a_ (clock_Clock_Next_2_ok 0 (fun _ => none : Nat → Option (List (T_clock_Name × Int))) yL0_33 eL0_32 (sel [3]) (sel_inj rfl rfl)) (a_ (Eq.refl (.vw [.int .u32 0, .nilmap] true [.int .u8, .int .u8, .int .u32, .int .u32] 64 (fun q_ => ((fun _ => none : Nat → Option (List (T_clock_Name × Int))) q_).map (encM v_T_clock_Name (LV.int .u32))) [] : LO)) tr)) tr) (r1_ (r4_ (a_ (a_ (a_ (Eq.refl 4) (a_ (le_ 4 4 rfl) (Eq.refl 0))) tr) (r2_ tr)))))) (a_ (r1_ (m_ 4 4 rfl (c_ (parrellaw09_theirs_tri x_n yL0_35 eL0_34) (a_ (a_ (a_ (clock_Clock_Until_3_ok 0 (fun _ => none : Nat → Option (List (T_clock_Name × Int))) yL0_35 yL0_37 eL0_36 (sel [3]) (sel_inj rfl rfl)) (a_ (Eq.refl (.vw [.int .u32 0, .nilmap] true [.int .u8, .int .u8, .int .u32, .int .u32] 64 (fun q_ => ((fun _ => none : Nat → Option (List (T_clock_Name × Int))) q_).map (encM v_T_clock_Name (LV.int .u32))) [] : LO)) tr)) tr) (r1_ (r4_ tr)))))) (a_ (r1_ (m_ 4 4 rfl (c_ (parrellaw09_theirs_tri x_n yL0_39 eL0_38) (a_ (a_ (a_ (clock_Clock_Set_3_ok 0 (fun _ => none : Nat → Option (List (T_clock_Name × Int))) yL0_39 1 yL0_41 eL0_40 (sel [3]) (sel_inj rfl rfl)) (a_ (Eq.refl (.vw [.int .u32 0, .nilmap] true [.int .u8, .int .u8, .int .u32, .int .u32] 64 (fun q_ => ((fun _ => none : Nat → Option (List (T_clock_Name × Int))) q_).map (encM v_T_clock_Name (LV.int .u32))) [] : LO)) tr)) tr) (r1_ (r2_ (m_ 4 4 rfl (c_ (parrellaw09_theirs_tri x_n yL0_43 eL0_42) (a_ (a_ (a_ (clock_Clock_Stop_3_ok 0 (fun _ => none : Nat → Option (List (T_clock_Name × Int))) yL0_43 yL0_45 eL0_44 (sel [3]) (sel_inj rfl rfl)) (a_ (Eq.refl (.vw [.int .u32 0, .nilmap] true [.int .u8, .int .u8, .int .u32, .int .u32] 64 (fun q_ => ((fun _ => none : Nat → Option (List (T_clock_Name × Int))) q_).map (encM v_T_clock_Name (LV.int .u32))) [] : LO)) tr)) tr) (r2_ (r4_ (f_ cL0_46 (r1_ (r2_ (r4_ (r8_ (a_ (a_ (a_ (clock_Clock_Now_3_ok 0 (fun _ => none : Nat → Option (List (T_clock_Name × Int))) yL0_48 eL0_47 (sel [3]) (sel_inj rfl rfl)) (a_ (Eq.refl (.vw [.int .u32 0, .nilmap] true [.int .u8, .int .u8, .int .u32, .int .u32] 64 (fun q_ => ((fun _ => none : Nat → Option (List (T_clock_Name × Int))) q_).map (encM v_T_clock_Name (LV.int .u32))) [] : LO)) tr)) tr) (r4_ (a_ (a_ (a_ (clock_Clock_Len_3_ok 0 (fun _ => none : Nat → Option (List (T_clock_Name × Int))) yL0_50 eL0_49 (sel [3]) (sel_inj rfl rfl)) (a_ (Eq.refl (.vw [.int .u32 0, .nilmap] true [.int .u8, .int .u8, .int .u32, .int .u32] 64 (fun q_ => ((fun _ => none : Nat → Option (List (T_clock_Name × Int))) q_).map (encM v_T_clock_Name (LV.int .u32))) [] : LO)) tr)) tr) (r2_ tr)))))))))))))))))))) (a_ (r2_ tr) (a_ (r1_ tr) (a_ (c_ (parrellaw09_alive_tri  yL0_52 eL0_51) (r1_ tr)) tr)))))))))))))))))))) tr) (by kernel_rfl) rfl
      · skip
        obtain ⟨yL0_5, eL0_3, h⟩ := bind_some h
        rcases itb_some h with ⟨cL0_6, h⟩ | ⟨cL0_6, h⟩
        · skip
          obtain rfl := Option.some.inj h
          exact run_ret mixed (L := []) (n := 24) (s := [.go, .reg [(0, hF)], .reg [(2, hF), (11, { call := some ((clock_Clock_Len_v yL0_5).ren (sel [1, 2]), preOf (sel [1, 2]) 0 (clock_Clock_Len_objs now m wheel), upOf (sel [1, 2]) (clock_Clock_Len_up now m wheel yL0_5)) }), (15, hT)], .reg []])
            (a_ (a_ (f_ cL0_1 tr) (a_ (r2_ (f_ cL0_2 (a_ tr (t4_ (r1_ (r2_ (a_ (a_ (a_ (clock_Clock_Len_ok now m wheel yL0_5 eL0_3 (sel [1, 2]) (sel_inj rfl rfl)) (a_ (Eq.refl (.vw [.int .u32 now, .map 2] true [.int .u8, .int .u8, .int .u32, .int .u32] 64 (fun q_ => (wheel q_).map (encM v_T_clock_Name (LV.int .u32))) [] : LO)) (a_ (LO.Le.refl (.map true [.int .u8, .int .u8, .int .u32, .int .u32] (encM v_T_clock_Name (LV.int .u32) m))) tr))) tr) (r1_ (r2_ (f_ cL0_6 tr)))))))))) (a_ (r1_ tr) tr))) tr) (by kernel_rfl) rfl
        · skip
          obtain ⟨yL0_8, eL0_7, h⟩ := bind_some h
          obtain ⟨yL0_11, eL0_9, h⟩ := bind_some h
          obtain ⟨yL0_13, eL0_12, h⟩ := bind_some h
          obtain ⟨yL0_15, eL0_14, h⟩ := bind_some h
          obtain ⟨yL0_17, eL0_16, h⟩ := bind_some h
          obtain ⟨yL0_19, eL0_18, h⟩ := bind_some h
          obtain ⟨yL0_21, eL0_20, h⟩ := bind_some h
          obtain ⟨yL0_23, eL0_22, h⟩ := bind_some h
          rcases itb_some h with ⟨cL0_24, h⟩ | ⟨cL0_24, h⟩
          · skip
            obtain rfl := Option.some.inj h
            exact run_ret mixed (L := []) (n := 58) (s := [.go, .reg [(0, hF)], .reg [(2, hF), (11, { call := some ((clock_Clock_Len_v yL0_5).ren (sel [1, 2]), preOf (sel [1, 2]) 0 (clock_Clock_Len_objs now m wheel), upOf (sel [1, 2]) (clock_Clock_Len_up now m wheel yL0_5)) }), (15, hF)], .reg [], .go, .x (.vwn 3 64 true [.int .u8, .int .u8, .int .u32, .int .u32]), .reg [], .reg [], .reg [(1, hC (clock_Clock_Tick_2_v yL0_8))], .reg [(1, hC (clock_Clock_Next_v yL0_11))], .reg [(2, hC (parrellaw09_theirs_v yL0_13)), (3, hC (clock_Clock_Until_2_v yL0_15))], .reg [(2, hC (parrellaw09_theirs_v yL0_17)), (3, hC (clock_Clock_Set_2_v yL0_19)), (8, hC (parrellaw09_theirs_v yL0_21)), (9, hC (clock_Clock_Stop_2_v yL0_23)), (16, hT)], .reg []])
              (a_ (a_ (f_ cL0_1 tr) (a_ (r2_ (f_ cL0_2 (a_ tr (t4_ (r1_ (r2_ (a_ (a_ (a_ (clock_Clock_Len_ok now m wheel yL0_5 eL0_3 (sel [1, 2]) (sel_inj rfl rfl)) (a_ (Eq.refl (.vw [.int .u32 now, .map 2] true [.int .u8, .int .u8, .int .u32, .int .u32] 64 (fun q_ => (wheel q_).map (encM v_T_clock_Name (LV.int .u32))) [] : LO)) (a_ (LO.Le.refl (.map true [.int .u8, .int .u8, .int .u32, .int .u32] (encM v_T_clock_Name (LV.int .u32) m))) tr))) tr) (r1_ (r2_ (f_ cL0_6 tr)))))))))) (a_ (a_ (a_ (Eq.refl true) tr) (r1_ (a_ (a_ (a_ (Eq.refl true) (a_ (Eq.refl 1) (a_ (lt_ 0 1 rfl) (le_ 2 16777216 rfl)))) tr) (r2_ tr)))) (a_ (And.intro (le_ 64 66 rfl) (Eq.refl (List.replicate 64 LV.nilmap))) (a_ (r1_ tr) (a_ (a_ (a_ (a_ (Eq.refl 1) (a_ (lei_ 0 0 rfl) (lti_ 0 2 rfl))) tr) (a_ (a_ (a_ (lt_ 0 2 rfl) (lt_ 0 1 rfl)) tr) (r1_ tr))) (a_ (r1_ (c_ (clock_Clock_Tick_2_tri  yL0_8 eL0_7) (r1_ (r4_ tr)))) (a_ (r1_ (c_ (clock_Clock_Next_tri  yL0_11 eL0_9) (r1_ (r4_ (a_ (a_ (a_ (Eq.refl 4) (a_ (le_ 4 4 rfl) (Eq.refl 0))) tr) (r2_ tr)))))) (a_ (r1_ (m_ 4 4 rfl (c_ (parrellaw09_theirs_tri x_n yL0_13 eL0_12) (c_ (clock_Clock_Until_2_tri yL0_13 yL0_15 eL0_14) (r1_ (r4_ tr)))))) (a_ (r1_ (m_ 4 4 rfl (c_ (parrellaw09_theirs_tri x_n yL0_17 eL0_16) (c_ (clock_Clock_Set_2_tri yL0_17 1 yL0_19 eL0_18) (r1_ (r2_ (m_ 4 4 rfl (c_ (parrellaw09_theirs_tri x_n yL0_21 eL0_20) (c_ (clock_Clock_Stop_2_tri yL0_21 yL0_23 eL0_22) (r2_ (r4_ (f_ cL0_24 (t2_ (r2_ (t2_ (r2_ (a_ tr (r2_ (a_ tr (r2_ (a_ tr (t2_ (r2_ (a_ tr (t2_ (r1_ tr)))))))))))))))))))))))))) (a_ (r1_ tr) tr))))))))))) tr) (by kernel_rfl) rfl
          · skip
            obtain ⟨yL0_26, eL0_25, h⟩ := bind_some h
            obtain ⟨yL0_28, eL0_27, h⟩ := bind_some h
            obtain ⟨yL0_30, eL0_29, h⟩ := bind_some h
            obtain ⟨yL0_32, eL0_31, h⟩ := bind_some h
            obtain ⟨yL0_34, eL0_33, h⟩ := bind_some h
            obtain ⟨yL0_36, eL0_35, h⟩ := bind_some h
            obtain ⟨yL0_38, eL0_37, h⟩ := bind_some h
            obtain ⟨yL0_40, eL0_39, h⟩ := bind_some h
            obtain ⟨yL0_42, eL0_41, h⟩ := bind_some h
            obtain ⟨yL0_44, eL0_43, h⟩ := bind_some h
            rcases itb_some h with ⟨cL0_45, h⟩ | ⟨cL0_45, h⟩
            · skip
              obtain rfl := Option.some.inj h
              exact run_ret mixed (L := []) (n := 88) (s := [.go, .reg [(0, hF)], .reg [(2, hF), (11, { call := some ((clock_Clock_Len_v yL0_5).ren (sel [1, 2]), preOf (sel [1, 2]) 0 (clock_Clock_Len_objs now m wheel), upOf (sel [1, 2]) (clock_Clock_Len_up now m wheel yL0_5)) }), (15, hF)], .reg [], .go, .x (.vwn 3 64 true [.int .u8, .int .u8, .int .u32, .int .u32]), .reg [], .reg [], .reg [(1, hC (clock_Clock_Tick_2_v yL0_8))], .reg [(1, hC (clock_Clock_Next_v yL0_11))], .reg [(2, hC (parrellaw09_theirs_v yL0_13)), (3, hC (clock_Clock_Until_2_v yL0_15))], .reg [(2, hC (parrellaw09_theirs_v yL0_17)), (3, hC (clock_Clock_Set_2_v yL0_19)), (8, hC (parrellaw09_theirs_v yL0_21)), (9, hC (clock_Clock_Stop_2_v yL0_23)), (16, hF), (32, hC (clock_Clock_Now_2_v yL0_26)), (37, hC (clock_Clock_Len_2_v yL0_28))], .reg [], .go, .reg [], .reg [], .reg [(1, { call := some ((clock_Clock_Tick_3_v yL0_30).ren (sel [3]), preOf (sel [3]) 0 (clock_Clock_Tick_3_objs 0 (fun _ => none : Nat → Option (List (T_clock_Name × Int)))), upOf (sel [3]) (clock_Clock_Tick_3_up 0 (fun _ => none : Nat → Option (List (T_clock_Name × Int))) yL0_30)) })], .reg [(1, { call := some ((clock_Clock_Next_2_v yL0_32).ren (sel [3]), preOf (sel [3]) 0 (clock_Clock_Next_2_objs 0 (fun _ => none : Nat → Option (List (T_clock_Name × Int)))), upOf (sel [3]) (clock_Clock_Next_2_up 0 (fun _ => none : Nat → Option (List (T_clock_Name × Int))) yL0_32)) })], .reg [(2, hC (parrellaw09_theirs_v yL0_34)), (3, { call := some ((clock_Clock_Until_3_v yL0_36).ren (sel [3]), preOf (sel [3]) 0 (clock_Clock_Until_3_objs 0 (fun _ => none : Nat → Option (List (T_clock_Name × Int))) yL0_34), upOf (sel [3]) (clock_Clock_Until_3_up 0 (fun _ => none : Nat → Option (List (T_clock_Name × Int))) yL0_34 yL0_36)) })], .reg [(2, hC (parrellaw09_theirs_v yL0_38)), (3, { call := some ((clock_Clock_Set_3_v yL0_40).ren (sel [3]), preOf (sel [3]) 0 (clock_Clock_Set_3_objs 0 (fun _ => none : Nat → Option (List (T_clock_Name × Int))) yL0_38 1), upOf (sel [3]) (clock_Clock_Set_3_up 0 (fun _ => none : Nat → Option (List (T_clock_Name × Int))) yL0_38 1 yL0_40)) }), (8, hC (parrellaw09_theirs_v yL0_42)), (9, { call := some ((clock_Clock_Stop_3_v yL0_44).ren (sel [3]), preOf (sel [3]) 0 (clock_Clock_Stop_3_objs 0 (fun _ => none : Nat → Option (List (T_clock_Name × Int))) yL0_42), upOf (sel [3]) (clock_Clock_Stop_3_up 0 (fun _ => none : Nat → Option (List (T_clock_Name × Int))) yL0_42 yL0_44)) }), (16, hT)], .reg []])
                (a_ (a_ (f_ cL0_1 tr) (a_ (r2_ (f_ cL0_2 (a_ tr (t4_ (r1_ (r2_ (a_ (a_ (a_ (clock_Clock_Len_ok now m wheel yL0_5 eL0_3 (sel [1, 2]) (sel_inj rfl rfl)) (a_ (Eq.refl (.vw [.int .u32 now, .map 2] true [.int .u8, .int .u8, .int .u32, .int .u32] 64 (fun q_ => (wheel q_).map (encM v_T_clock_Name (LV.int .u32))) [] : LO)) (a_ (LO.Le.refl (.map true [.int .u8, .int .u8, .int .u32, .int .u32] (encM v_T_clock_Name (LV.int .u32) m))) tr))) tr) (r1_ (r2_ (f_ cL0_6 tr)))))))))) (a_ (a_ (a_ (Eq.refl true) tr) (r1_ (a_ (a_ (a_ (Eq.refl true) (a_ (Eq.refl 1) (a_ (lt_ 0 1 rfl) (le_ 2 16777216 rfl)))) tr) (r2_ tr)))) (a_ (And.intro (le_ 64 66 rfl) (Eq.refl (List.replicate 64 LV.nilmap))) (a_ (r1_ tr) (a_ (a_ (a_ (a_ (Eq.refl 1) (a_ (lei_ 0 0 rfl) (lti_ 0 2 rfl))) tr) (a_ (a_ (a_ (lt_ 0 2 rfl) (lt_ 0 1 rfl)) tr) (r1_ tr))) (a_ (r1_ (c_ (clock_Clock_Tick_2_tri  yL0_8 eL0_7) (r1_ (r4_ tr)))) (a_ (r1_ (c_ (clock_Clock_Next_tri  yL0_11 eL0_9) (r1_ (r4_ (a_ (a_ (a_ (Eq.refl 4) (a_ (le_ 4 4 rfl) (Eq.refl 0))) tr) (r2_ tr)))))) (a_ (r1_ (m_ 4 4 rfl (c_ (parrellaw09_theirs_tri x_n yL0_13 eL0_12) (c_ (clock_Clock_Until_2_tri yL0_13 yL0_15 eL0_14) (r1_ (r4_ tr)))))) (a_ (r1_ (m_ 4 4 rfl (c_ (parrellaw09_theirs_tri x_n yL0_17 eL0_16) (c_ (clock_Clock_Set_2_tri yL0_17 1 yL0_19 eL0_18) (r1_ (r2_ (m_ 4 4 rfl (c_ (parrellaw09_theirs_tri x_n yL0_21 eL0_20) (c_ (clock_Clock_Stop_2_tri yL0_21 yL0_23 eL0_22) (r2_ (r4_ (f_ cL0_24 (r1_ (r2_ (r4_ (r8_ (c_ (clock_Clock_Now_2_tri  yL0_26 eL0_25) (r4_ (c_ (clock_Clock_Len_2_tri  yL0_28 eL0_27) (r2_ tr)))))))))))))))))))) (a_ (r2_ tr) (a_ (r1_ tr) (a_ (a_ (a_ (a_ (Eq.refl 1) (a_ (lei_ 0 1 rfl) (lti_ 1 2 rfl))) tr) (a_ (a_ (a_ (lt_ 1 2 rfl) (lt_ 0 1 rfl)) tr) (r1_ tr))) (a_ (r1_ (a_ (a_ (a_ (clock_Clock_Tick_3_ok 0 (fun _ => none : Nat → Option (List (T_clock_Name × Int))) yL0_30 eL0_29 (sel [3]) (sel_inj rfl rfl)) (a_ (Eq.refl (.vw [.int .u32 0, .nilmap] true [.int .u8, .int .u8, .int .u32, .int .u32] 64 (fun q_ => ((fun _ => none : Nat → Option (List (T_clock_Name × Int))) q_).map (encM v_T_clock_Name (LV.int .u32))) [] : LO)) tr)) tr) (r1_ (r4_ tr)))) (a_ (r1_ (a_ (a_ (a_ (clock_Clock_Next_2_ok 0 (fun _ => none : Nat → Option (List (T_clock_Name × Int))) yL0_32 eL0_31 (sel [3]) (sel_inj rfl rfl)) (a_ (Eq.refl (.vw [.int .u32 0, .nilmap] true [.int .u8, .int .u8, .int .u32, .int .u32] 64 (fun q_ => ((fun _ => none : Nat → Option (List (T_clock_Name × Int))) q_).map (encM v_T_clock_Name (LV.int .u32))) [] : LO)) tr)) tr) (r1_ (r4_ (a_ (a_ (a_ (Eq.refl 4) (a_ (le_ 4 4 rfl) (Eq.refl 0))) tr) (r2_ tr)))))) (a_ (r1_ (m_ 4 4 rfl (c_ (parrellaw09_theirs_tri x_n yL0_34 eL0_33) (a_ (a_ (a_ (clock_Clock_Until_3_ok 0 (fun _ => none : Nat → Option (List (T_clock_Name × Int))) yL0_34 yL0_36 eL0_35 (sel [3]) (sel_inj rfl rfl)) (a_ (Eq.refl (.vw [.int .u32 0, .nilmap] true [.int .u8, .int .u8, .int .u32, .int .u32] 64 (fun q_ => ((fun _ => none : Nat → Option (List (T_clock_Name × Int))) q_).map (encM v_T_clock_Name (LV.int .u32))) [] : LO)) tr)) tr) (r1_ (r4_ tr)))))) (a_ (r1_ (m_ 4 4 rfl (c_ (parrellaw09_theirs_tri x_n yL0_38 eL0_37) (a_ (a_ (a_ (clock_Clock_Set_3_ok 0 (fun _ => none : Nat → Option (List (T_clock_Name × Int))) yL0_38 1 yL0_40 eL0_39 (sel [3]) (sel_inj rfl rfl)) (a_ (Eq.refl (.vw [.int .u32 0, .nilmap] true [.int .u8, .int .u8, .int .u32, .int .u32] 64 (fun q_ => ((fun _ => none : Nat → Option (List (T_clock_Name × Int))) q_).map (encM v_T_clock_Name (LV.int .u32))) [] : LO)) tr)) tr) (r1_ (r2_ (m_ 4 4 rfl (c_ (parrellaw09_theirs_tri x_n yL0_42 eL0_41) (a_ (a_ (a_ (clock_Clock_Stop_3_ok 0 (fun _ => none : Nat → Option (List (T_clock_Name × Int))) yL0_42 yL0_44 eL0_43 (sel [3]) (sel_inj rfl rfl)) (a_ (Eq.refl (.vw [.int .u32 0, .nilmap] true [.int .u8, .int .u8, .int .u32, .int .u32] 64 (fun q_ => ((fun _ => none : Nat → Option (List (T_clock_Name × Int))) q_).map (encM v_T_clock_Name (LV.int .u32))) [] : LO)) tr)) tr) (r2_ (r4_ (f_ cL0_45 (t2_ (r2_ (t2_ (r2_ (a_ tr (r2_ (a_ tr (r2_ (a_ tr (t2_ (r2_ (a_ tr (t2_ (r1_ tr)))))))))))))))))))))))))) (a_ (r1_ tr) tr)))))))))))))))))) tr) (by kernel_rfl) rfl
            · skip
              obtain ⟨yL0_47, eL0_46, h⟩ := bind_some h
              obtain ⟨yL0_49, eL0_48, h⟩ := bind_some h
              obtain ⟨yL0_51, eL0_50, h⟩ := bind_some h
              obtain rfl := Option.some.inj h
              exact run_ret mixed (L := []) (n := 100) (s := [.go, .reg [(0, hF)], .reg [(2, hF), (11, { call := some ((clock_Clock_Len_v yL0_5).ren (sel [1, 2]), preOf (sel [1, 2]) 0 (clock_Clock_Len_objs now m wheel), upOf (sel [1, 2]) (clock_Clock_Len_up now m wheel yL0_5)) }), (15, hF)], .reg [], .go, .x (.vwn 3 64 true [.int .u8, .int .u8, .int .u32, .int .u32]), .reg [], .reg [], .reg [(1, hC (clock_Clock_Tick_2_v yL0_8))], .reg [(1, hC (clock_Clock_Next_v yL0_11))], .reg [(2, hC (parrellaw09_theirs_v yL0_13)), (3, hC (clock_Clock_Until_2_v yL0_15))], .reg [(2, hC (parrellaw09_theirs_v yL0_17)), (3, hC (clock_Clock_Set_2_v yL0_19)), (8, hC (parrellaw09_theirs_v yL0_21)), (9, hC (clock_Clock_Stop_2_v yL0_23)), (16, hF), (32, hC (clock_Clock_Now_2_v yL0_26)), (37, hC (clock_Clock_Len_2_v yL0_28))], .reg [], .go, .reg [], .reg [], .reg [(1, { call := some ((clock_Clock_Tick_3_v yL0_30).ren (sel [3]), preOf (sel [3]) 0 (clock_Clock_Tick_3_objs 0 (fun _ => none : Nat → Option (List (T_clock_Name × Int)))), upOf (sel [3]) (clock_Clock_Tick_3_up 0 (fun _ => none : Nat → Option (List (T_clock_Name × Int))) yL0_30)) })], .reg [(1, { call := some ((clock_Clock_Next_2_v yL0_32).ren (sel [3]), preOf (sel [3]) 0 (clock_Clock_Next_2_objs 0 (fun _ => none : Nat → Option (List (T_clock_Name × Int)))), upOf (sel [3]) (clock_Clock_Next_2_up 0 (fun _ => none : Nat → Option (List (T_clock_Name × Int))) yL0_32)) })], .reg [(2, hC (parrellaw09_theirs_v yL0_34)), (3, { call := some ((clock_Clock_Until_3_v yL0_36).ren (sel [3]), preOf (sel [3]) 0 (clock_Clock_Until_3_objs 0 (fun _ => none : Nat → Option (List (T_clock_Name × Int))) yL0_34), upOf (sel [3]) (clock_Clock_Until_3_up 0 (fun _ => none : Nat → Option (List (T_clock_Name × Int))) yL0_34 yL0_36)) })], .reg [(2, hC (parrellaw09_theirs_v yL0_38)), (3, { call := some ((clock_Clock_Set_3_v yL0_40).ren (sel [3]), preOf (sel [3]) 0 (clock_Clock_Set_3_objs 0 (fun _ => none : Nat → Option (List (T_clock_Name × Int))) yL0_38 1), upOf (sel [3]) (clock_Clock_Set_3_up 0 (fun _ => none : Nat → Option (List (T_clock_Name × Int))) yL0_38 1 yL0_40)) }), (8, hC (parrellaw09_theirs_v yL0_42)), (9, { call := some ((clock_Clock_Stop_3_v yL0_44).ren (sel [3]), preOf (sel [3]) 0 (clock_Clock_Stop_3_objs 0 (fun _ => none : Nat → Option (List (T_clock_Name × Int))) yL0_42), upOf (sel [3]) (clock_Clock_Stop_3_up 0 (fun _ => none : Nat → Option (List (T_clock_Name × Int))) yL0_42 yL0_44)) }), (16, hF), (32, { call := some ((clock_Clock_Now_3_v yL0_47).ren (sel [3]), preOf (sel [3]) 0 (clock_Clock_Now_3_objs 0 (fun _ => none : Nat → Option (List (T_clock_Name × Int)))), upOf (sel [3]) (clock_Clock_Now_3_up 0 (fun _ => none : Nat → Option (List (T_clock_Name × Int))) yL0_47)) }), (37, { call := some ((clock_Clock_Len_3_v yL0_49).ren (sel [3]), preOf (sel [3]) 0 (clock_Clock_Len_3_objs 0 (fun _ => none : Nat → Option (List (T_clock_Name × Int)))), upOf (sel [3]) (clock_Clock_Len_3_up 0 (fun _ => none : Nat → Option (List (T_clock_Name × Int))) yL0_49)) })], .reg [], .go, .reg [], .reg [(0, hC (parrellaw09_alive_v yL0_51))]])
                (a_ (a_ (f_ cL0_1 tr) (a_ (r2_ (f_ cL0_2 (a_ tr (t4_ (r1_ (r2_ (a_ (a_ (a_ (clock_Clock_Len_ok now m wheel yL0_5 eL0_3 (sel [1, 2]) (sel_inj rfl rfl)) (a_ (Eq.refl (.vw [.int .u32 now, .map 2] true [.int .u8, .int .u8, .int .u32, .int .u32] 64 (fun q_ => (wheel q_).map (encM v_T_clock_Name (LV.int .u32))) [] : LO)) (a_ (LO.Le.refl (.map true [.int .u8, .int .u8, .int .u32, .int .u32] (encM v_T_clock_Name (LV.int .u32) m))) tr))) tr) (r1_ (r2_ (f_ cL0_6 tr)))))))))) (a_ (a_ (a_ (Eq.refl true) tr) (r1_ (a_ (a_ (a_ (Eq.refl true) (a_ (Eq.refl 1) (a_ (lt_ 0 1 rfl) (le_ 2 16777216 rfl)))) tr) (r2_ tr)))) (a_ (And.intro (le_ 64 66 rfl) (Eq.refl (List.replicate 64 LV.nilmap))) (a_ (r1_ tr) (a_ (a_ (a_ (a_ (Eq.refl 1) (a_ (lei_ 0 0 rfl) (lti_ 0 2 rfl))) tr) (a_ (a_ (a_ (lt_ 0 2 rfl) (lt_ 0 1 rfl)) tr) (r1_ tr))) (a_ (r1_ (c_ (clock_Clock_Tick_2_tri  yL0_8 eL0_7) (r1_ (r4_ tr)))) (a_ (r1_ (c_ (clock_Clock_Next_tri  yL0_11 eL0_9) (r1_ (r4_ (a_ (a_ (a_ (Eq.refl 4) (a_ (le_ 4 4 rfl) (Eq.refl 0))) tr) (r2_ tr)))))) (a_ (r1_ (m_ 4 4 rfl (c_ (parrellaw09_theirs_tri x_n yL0_13 eL0_12) (c_ (clock_Clock_Until_2_tri yL0_13 yL0_15 eL0_14) (r1_ (r4_ tr)))))) (a_ (r1_ (m_ 4 4 rfl (c_ (parrellaw09_theirs_tri x_n yL0_17 eL0_16) (c_ (clock_Clock_Set_2_tri yL0_17 1 yL0_19 eL0_18) (r1_ (r2_ (m_ 4 4 rfl (c_ (parrellaw09_theirs_tri x_n yL0_21 eL0_20) (c_ (clock_Clock_Stop_2_tri yL0_21 yL0_23 eL0_22) (r2_ (r4_ (f_ cL0_24 (r1_ (r2_ (r4_ (r8_ (c_ (clock_Clock_Now_2_tri  yL0_26 eL0_25) (r4_ (c_ (clock_Clock_Len_2_tri  yL0_28 eL0_27) (r2_ tr)))))))))))))))))))) (a_ (r2_ tr) (a_ (r1_ tr) (a_ (a_ (a_ (a_ (Eq.refl 1) (a_ (lei_ 0 1 rfl) (lti_ 1 2 rfl))) tr) (a_ (a_ (a_ (lt_ 1 2 rfl) (lt_ 0 1 rfl)) tr) (r1_ tr))) (a_ (r1_ (a_ (a_ (a_ (clock_Clock_Tick_3_ok 0 (fun _ => none : Nat → Option (List (T_clock_Name × Int))) yL0_30 eL0_29 (sel [3]) (sel_inj rfl rfl)) (a_ (Eq.refl (.vw [.int .u32 0, .nilmap] true [.int .u8, .int .u8, .int .u32, .int .u32] 64 (fun q_ => ((fun _ => none : Nat → Option (List (T_clock_Name × Int))) q_).map (encM v_T_clock_Name (LV.int .u32))) [] : LO)) tr)) tr) (r1_ (r4_ tr)))) (a_ (r1_ (a_ (a_ (a_ (clock_Clock_Next_2_ok 0 (fun _ => none : Nat → Option (List (T_clock_Name × Int))) yL0_32 eL0_31 (sel [3]) (sel_inj rfl rfl)) (a_ (Eq.refl (.vw [.int .u32 0, .nilmap] true [.int .u8, .int .u8, .int .u32, .int .u32] 64 (fun q_ => ((fun _ => none : Nat → Option (List (T_clock_Name × Int))) q_).map (encM v_T_clock_Name (LV.int .u32))) [] : LO)) tr)) tr) (r1_ (r4_ (a_ (a_ (a_ (Eq.refl 4) (a_ (le_ 4 4 rfl) (Eq.refl 0))) tr) (r2_ tr)))))) (a_ (r1_ (m_ 4 4 rfl (c_ (parrellaw09_theirs_tri x_n yL0_34 eL0_33) (a_ (a_ (a_ (clock_Clock_Until_3_ok 0 (fun _ => none : Nat → Option (List (T_clock_Name × Int))) yL0_34 yL0_36 eL0_35 (sel [3]) (sel_inj rfl rfl)) (a_ (Eq.refl (.vw [.int .u32 0, .nilmap] true [.int .u8, .int .u8, .int .u32, .int .u32] 64 (fun q_ => ((fun _ => none : Nat → Option (List (T_clock_Name × Int))) q_).map (encM v_T_clock_Name (LV.int .u32))) [] : LO)) tr)) tr) (r1_ (r4_ tr)))))) (a_ (r1_ (m_ 4 4 rfl (c_ (parrellaw09_theirs_tri x_n yL0_38 eL0_37) (a_ (a_ (a_ (clock_Clock_Set_3_ok 0 (fun _ => none : Nat → Option (List (T_clock_Name × Int))) yL0_38 1 yL0_40 eL0_39 (sel [3]) (sel_inj rfl rfl)) (a_ (Eq.refl (.vw [.int .u32 0, .nilmap] true [.int .u8, .int .u8, .int .u32, .int .u32] 64 (fun q_ => ((fun _ => none : Nat → Option (List (T_clock_Name × Int))) q_).map (encM v_T_clock_Name (LV.int .u32))) [] : LO)) tr)) tr) (r1_ (r2_ (m_ 4 4 rfl (c_ (parrellaw09_theirs_tri x_n yL0_42 eL0_41) (a_ (a_ (a_ (clock_Clock_Stop_3_ok 0 (fun _ => none : Nat → Option (List (T_clock_Name × Int))) yL0_42 yL0_44 eL0_43 (sel [3]) (sel_inj rfl rfl)) (a_ (Eq.refl (.vw [.int .u32 0, .nilmap] true [.int .u8, .int .u8, .int .u32, .int .u32] 64 (fun q_ => ((fun _ => none : Nat → Option (List (T_clock_Name × Int))) q_).map (encM v_T_clock_Name (LV.int .u32))) [] : LO)) tr)) tr) (r2_ (r4_ (f_ cL0_45 (r1_ (r2_ (r4_ (r8_ (a_ (a_ (a_ (clock_Clock_Now_3_ok 0 (fun _ => none : Nat → Option (List (T_clock_Name × Int))) yL0_47 eL0_46 (sel [3]) (sel_inj rfl rfl)) (a_ (Eq.refl (.vw [.int .u32 0, .nilmap] true [.int .u8, .int .u8, .int .u32, .int .u32] 64 (fun q_ => ((fun _ => none : Nat → Option (List (T_clock_Name × Int))) q_).map (encM v_T_clock_Name (LV.int .u32))) [] : LO)) tr)) tr) (r4_ (a_ (a_ (a_ (clock_Clock_Len_3_ok 0 (fun _ => none : Nat → Option (List (T_clock_Name × Int))) yL0_49 eL0_48 (sel [3]) (sel_inj rfl rfl)) (a_ (Eq.refl (.vw [.int .u32 0, .nilmap] true [.int .u8, .int .u8, .int .u32, .int .u32] 64 (fun q_ => ((fun _ => none : Nat → Option (List (T_clock_Name × Int))) q_).map (encM v_T_clock_Name (LV.int .u32))) [] : LO)) tr)) tr) (r2_ tr)))))))))))))))))))) (a_ (r2_ tr) (a_ (r1_ tr) (a_ (c_ (parrellaw09_alive_tri  yL0_51 eL0_50) (r1_ tr)) tr)))))))))))))))))))) tr) (by kernel_rfl) rfl

theorem parrellaw09_ClockFull_ok (many : Int) (x_n : T_parrelref09_Name) (r : (Bool)) (h : parrellaw09_ClockFull many x_n = some r) : ∀ σ, Inj 0 σ → FnTri Try.prog 7 (renL σ [.int .u16 many, v_T_parrelref09_Name x_n]) (preOf σ 0 []) ((parrellaw09_ClockFull_v r).ren σ) (upOf σ []) := by
  refine fn_of Try.func7 (by kernel_rfl) (by kernel_rfl) (by kernel_rfl) trivial (by kernel_rfl) trivial (by kernel_rfl) ?_
  intro w0 W μ0 hμ
  unfold parrellaw09_ClockFull at h
  obtain ⟨y2, e1, h⟩ := bind_some h
  exact run_to mixed hμ (L := [0, 1, 2]) (n := 30) (s := [.reg [], .reg [(0, { call := some ((clock_New_v y2).ren (sel [1, 2]), preOf (sel [1, 2]) 0 [], upOf (sel [1, 2]) (clock_New_up  y2)) })], .reg [], .reg [], .reg []])
    (a_ (r2_ tr) (a_ (a_ (a_ (a_ (clock_New_ok  y2 e1 (sel [1, 2]) (sel_inj rfl rfl)) tr) tr) (r1_ tr)) (a_ (r2_ tr) (a_ (r2_ (a_ (a_ (ne0 1100 rfl) tr) (r1_ tr))) (a_ (r2_ tr) tr))))) (parrellaw09_ClockFull_l0_ok hμ many x_n  big _ _ _ _ r h) (by kernel_rfl) ⟨rfl, ⟨rfl, under_no⟩, trivial, trivial⟩

theorem parrellaw09_ClockFull_tri (many : Int) (x_n : T_parrelref09_Name) (r : (Bool)) (h : parrellaw09_ClockFull many x_n = some r) : FnTri Try.prog 7 [.int .u16 many, v_T_parrelref09_Name x_n] [] (parrellaw09_ClockFull_v r) [] := FnTri.none (parrellaw09_ClockFull_ok many x_n r h) rfl rfl

end
end Go.Proofs.Yteigbcpbehddoaa.Wk
