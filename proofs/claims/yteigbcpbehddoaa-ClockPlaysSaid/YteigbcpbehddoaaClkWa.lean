/- Printed by tr.py: Go functions as Lean functions, with the proofs that they walk so. -/
import Derived.Test.YteigbcpbehddoaaProg
import Derived.Test.YteigbcpbehddoaaCnW
import Derived.Test.YteigbcpbehddoaaCnXa
import Derived.WalkKit
import Derived.TacticsInMore
import Derived.RegionIn
import Derived.LoopNIn
import Derived.LoopIn
import Derived.ControlIn
import Derived.Test.YteigbcpbehddoaaCnZa
namespace Go.Proofs.Yteigbcpbehddoaa.Wk
open Go Go.Cn Go.RowKit
set_option maxRecDepth 100000
set_option maxHeartbeats 4000000
set_option linter.unusedVariables false
set_option linter.unusedSimpArgs false
noncomputable section
theorem mixed : Try.prog.follows .mixedOrders = true := by kernel_rfl
structure T_api_Tx where
  f_Node : Int
  f_Boot : Int
  f_Num : Int
  deriving DecidableEq, Inhabited

def c_T_api_Tx (x : T_api_Tx) : List LV := [.int .u8 x.f_Node, .int .u32 x.f_Boot, .int .u32 x.f_Num]

def v_T_api_Tx (x : T_api_Tx) : LV := .agg (c_T_api_Tx x)

theorem x_T_api_Tx (a b : T_api_Tx) : a = b ↔ a.f_Node = b.f_Node ∧ a.f_Boot = b.f_Boot ∧ a.f_Num = b.f_Num := by
  cases a; cases b; simp

theorem k_T_api_Tx (a b : T_api_Tx) : eqK (v_T_api_Tx a) (v_T_api_Tx b) = decide (a = b) := by
  rw [Bool.eq_iff_iff, decide_eq_true_eq]
  simp only [x_T_api_Tx, v_T_api_Tx, c_T_api_Tx, eqK, eqCs, eqC, Bool.and_eq_true, beq_iff_eq, and_assoc, and_true]

structure T_parrelref09_Name where
  f_Kind : Int
  f_Tx : T_api_Tx
  deriving DecidableEq, Inhabited

def c_T_parrelref09_Name (x : T_parrelref09_Name) : List LV := [.int .u8 x.f_Kind, .int .u8 x.f_Tx.f_Node, .int .u32 x.f_Tx.f_Boot, .int .u32 x.f_Tx.f_Num]

def v_T_parrelref09_Name (x : T_parrelref09_Name) : LV := .agg (c_T_parrelref09_Name x)

theorem x_T_parrelref09_Name (a b : T_parrelref09_Name) : a = b ↔ a.f_Kind = b.f_Kind ∧ a.f_Tx = b.f_Tx := by
  cases a; cases b; simp

theorem k_T_parrelref09_Name (a b : T_parrelref09_Name) : eqK (v_T_parrelref09_Name a) (v_T_parrelref09_Name b) = decide (a = b) := by
  rw [Bool.eq_iff_iff, decide_eq_true_eq]
  simp only [x_T_parrelref09_Name, x_T_api_Tx, v_T_parrelref09_Name, c_T_parrelref09_Name, eqK, eqCs, eqC, Bool.and_eq_true, beq_iff_eq, and_assoc, and_true]

structure T_parrellaw09_Act where
  f_Kind : Int
  f_Name : T_parrelref09_Name
  f_After : Int
  deriving DecidableEq, Inhabited

def c_T_parrellaw09_Act (x : T_parrellaw09_Act) : List LV := [.int .u8 x.f_Kind, .int .u8 x.f_Name.f_Kind, .int .u8 x.f_Name.f_Tx.f_Node, .int .u32 x.f_Name.f_Tx.f_Boot, .int .u32 x.f_Name.f_Tx.f_Num, .int .u32 x.f_After]

def v_T_parrellaw09_Act (x : T_parrellaw09_Act) : LV := .agg (c_T_parrellaw09_Act x)

theorem x_T_parrellaw09_Act (a b : T_parrellaw09_Act) : a = b ↔ a.f_Kind = b.f_Kind ∧ a.f_Name = b.f_Name ∧ a.f_After = b.f_After := by
  cases a; cases b; simp

theorem k_T_parrellaw09_Act (a b : T_parrellaw09_Act) : eqK (v_T_parrellaw09_Act a) (v_T_parrellaw09_Act b) = decide (a = b) := by
  rw [Bool.eq_iff_iff, decide_eq_true_eq]
  simp only [x_T_parrellaw09_Act, x_T_parrelref09_Name, x_T_api_Tx, v_T_parrellaw09_Act, c_T_parrellaw09_Act, eqK, eqCs, eqC, Bool.and_eq_true, beq_iff_eq, and_assoc, and_true]

structure T_clock_Name where
  f_Kind : Int
  f_Tx : T_api_Tx
  deriving DecidableEq, Inhabited

def c_T_clock_Name (x : T_clock_Name) : List LV := [.int .u8 x.f_Kind, .int .u8 x.f_Tx.f_Node, .int .u32 x.f_Tx.f_Boot, .int .u32 x.f_Tx.f_Num]

def v_T_clock_Name (x : T_clock_Name) : LV := .agg (c_T_clock_Name x)

theorem x_T_clock_Name (a b : T_clock_Name) : a = b ↔ a.f_Kind = b.f_Kind ∧ a.f_Tx = b.f_Tx := by
  cases a; cases b; simp

theorem k_T_clock_Name (a b : T_clock_Name) : eqK (v_T_clock_Name a) (v_T_clock_Name b) = decide (a = b) := by
  rw [Bool.eq_iff_iff, decide_eq_true_eq]
  simp only [x_T_clock_Name, x_T_api_Tx, v_T_clock_Name, c_T_clock_Name, eqK, eqCs, eqC, Bool.and_eq_true, beq_iff_eq, and_assoc, and_true]

structure T_parrelref09_Timer where
  f_Name : T_parrelref09_Name
  f_At : Int
  deriving DecidableEq, Inhabited

def c_T_parrelref09_Timer (x : T_parrelref09_Timer) : List LV := [.int .u8 x.f_Name.f_Kind, .int .u8 x.f_Name.f_Tx.f_Node, .int .u32 x.f_Name.f_Tx.f_Boot, .int .u32 x.f_Name.f_Tx.f_Num, .int .u32 x.f_At]

def v_T_parrelref09_Timer (x : T_parrelref09_Timer) : LV := .agg (c_T_parrelref09_Timer x)

theorem x_T_parrelref09_Timer (a b : T_parrelref09_Timer) : a = b ↔ a.f_Name = b.f_Name ∧ a.f_At = b.f_At := by
  cases a; cases b; simp

theorem k_T_parrelref09_Timer (a b : T_parrelref09_Timer) : eqK (v_T_parrelref09_Timer a) (v_T_parrelref09_Timer b) = decide (a = b) := by
  rw [Bool.eq_iff_iff, decide_eq_true_eq]
  simp only [x_T_parrelref09_Timer, x_T_parrelref09_Name, x_T_api_Tx, v_T_parrelref09_Timer, c_T_parrelref09_Timer, eqK, eqCs, eqC, Bool.and_eq_true, beq_iff_eq, and_assoc, and_true]

structure T_parrelref09_Clock where
  f_Now : Int
  f_L : List (T_parrelref09_Timer)
  deriving DecidableEq, Inhabited

def c_T_parrelref09_Clock (x : T_parrelref09_Clock) : List LV := [.int .u32 x.f_Now, .ds 5 (x.f_L).length (rowF c_T_parrelref09_Timer default x.f_L)]

def v_T_parrelref09_Clock (x : T_parrelref09_Clock) : LV := .agg (c_T_parrelref09_Clock x)

/-- parrel/clock.New -/

def clock_New_v (r : (Nat → Option (List (T_clock_Name × Int))) × (List (T_clock_Name × Int))) : LV := .ptr 0 0 0

def clock_New_up  (r : (Nat → Option (List (T_clock_Name × Int))) × (List (T_clock_Name × Int))) : Upd := [(0, some (.vw [.int .u32 0, .map 1] true [.int .u8, .int .u8, .int .u32, .int .u32] 64 (fun q_ => (r.1 q_).map (encM v_T_clock_Name (LV.int .u32))) [])), (1, some (.map true [.int .u8, .int .u8, .int .u32, .int .u32] (encM v_T_clock_Name (LV.int .u32) r.2)))]

def clock_New_T0  (t6 : Int) (wheel : Nat → Option (List (T_clock_Name × Int))) : List LV := [.any, .ptr 0 0 0, .any, .any, .any, .any, .int .i64 t6, .any, .any, .any, .any, .any, .any, .any, .any, .any, .any]

def clock_New_H0  (t6 : Int) (wheel : Nat → Option (List (T_clock_Name × Int))) : Heap := [some (.vw [.int .u32 0, .map 1] true [.int .u8, .int .u8, .int .u32, .int .u32] 64 (fun q_ => (wheel q_).map (encM v_T_clock_Name (LV.int .u32))) []), some (.map true [.int .u8, .int .u8, .int .u32, .int .u32] (encM v_T_clock_Name (LV.int .u32) ([] : List (T_clock_Name × Int))))]

def clock_New_l0   : Nat → (Int) → (Nat → Option (List (T_clock_Name × Int))) → Option ((Nat → Option (List (T_clock_Name × Int))) × (List (T_clock_Name × Int)))
  | 0, _, _ => none
  | fuel + 1, t6, wheel =>
    if ((decide (t6 < 64)) : Bool) then
      if 0 ≤ t6 ∧ t6 < 64 then
      clock_New_l0   fuel (IntKind.wrap .i64 (t6 + 1)) (fun q_ => if q_ = t6.toNat then some ([] : List (T_clock_Name × Int)) else wheel q_)
      else none
    else
      some (wheel, ([] : List (T_clock_Name × Int)))

def clock_New  : Option ((Nat → Option (List (T_clock_Name × Int))) × (List (T_clock_Name × Int))) :=
  clock_New_l0   big 0 (fun _ => none : Nat → Option (List (T_clock_Name × Int)))

theorem clock_New_l0_ok {w0 : World} {W : Nat → Prop} {μ0 : Emb} (hμ : ∀ c p, μ0 c = some p → c < 0)   : ∀ (fuel : Nat) (t6 : Int) (wheel : Nat → Option (List (T_clock_Name × Int))) (r : (Nat → Option (List (T_clock_Name × Int))) × (List (T_clock_Name × Int))), clock_New_l0   fuel t6 wheel = some r → kont Try.prog w0 W μ0 (FnPost Try.prog Try.f8 0 2 (clock_New_v r) (clock_New_up  r)) (kAt (bodyOf Try.f8) 0) none (clock_New_T0  t6 wheel) (clock_New_H0  t6 wheel) := by
  intro fuel
  induction fuel with
  | zero => intro t6 wheel r h; rw [clock_New_l0] at h; cases h
  | succ fuel ih =>
    intro t6 wheel r h
    rw [clock_New_l0] at h
    rcases itb_some h with ⟨cL0_1, h⟩ | ⟨cL0_1, h⟩
    · skip
      obtain ⟨gL0_2, h⟩ := guard_some h
      exact run_to mixed hμ (L := [0, 1]) (n := 26) (s := [.go, .reg [(0, hT)], .reg [], .reg [(6, { os := [(0, .vw [.int .u32 0, .map 1] true [.int .u8, .int .u8, .int .u32, .int .u32] 64 (fun q_ => ((fun q_ => if q_ = t6.toNat then some ([] : List (T_clock_Name × Int)) else wheel q_) q_).map (encM v_T_clock_Name (LV.int .u32))) [])] })], .reg []])
        (a_ (f_ cL0_1 tr) (a_ (r2_ tr) (a_ (r1_ (r4_ (a_ (a_ gL0_2 tr) (a_ (a_ (a_ (vwst (off := 2) (n := 64) gL0_2).1 (a_ (vwst (off := 2) (n := 64) gL0_2).2 (a_ (Eq.refl true) (a_ (Eq.refl ([.int .u8, .int .u8, .int .u32, .int .u32] : List CK)) (show 0 ≠ 2 from by decide))))) (a_ (vwset (cs := [.int .u32 0, .map 1]) (ag := true) (ks := [.int .u8, .int .u8, .int .u32, .int .u32]) (n := 64) (off := 2) (encM v_T_clock_Name (LV.int .u32)) wheel t6 ([] : List (T_clock_Name × Int)) rfl) tr)) tr)))) (a_ (r2_ tr) tr)))) (ih _ _ r h) (by kernel_rfl) ⟨⟨rfl, under_no⟩, trivial, trivial⟩
    · skip
      obtain rfl := Option.some.inj h
      exact run_ret mixed (L := [0, 1]) (n := 19) (s := [.go, .reg [(0, hF)], .reg []])
        (a_ (a_ (f_ cL0_1 tr) (a_ (r2_ tr) tr)) tr) (by kernel_rfl) rfl

theorem clock_New_ok  (r : (Nat → Option (List (T_clock_Name × Int))) × (List (T_clock_Name × Int))) (h : clock_New  = some r) : ∀ σ, Inj 2 σ → FnTri Try.prog 8 (renL σ []) (preOf σ 0 []) ((clock_New_v r).ren σ) (upOf σ (clock_New_up  r)) := by
  refine fn_of Try.func8 (by kernel_rfl) (by kernel_rfl) (by kernel_rfl) trivial (by kernel_rfl) ⟨⟨rfl, under_no⟩, trivial, trivial⟩ (by kernel_rfl) ?_
  intro w0 W μ0 hμ
  unfold clock_New at h
  exact run_to mixed hμ (L := [1, 0]) (n := 22) (s := [.reg [], .reg [], .x (.vwn 1 64 true [.int .u8, .int .u8, .int .u32, .int .u32]), .reg []])
    (a_ (r1_ tr) (a_ (r1_ (a_ (a_ (Eq.refl true) tr) (r2_ tr))) (a_ (And.intro (le_ 64 66 rfl) (Eq.refl (List.replicate 64 LV.nilmap))) (a_ (r1_ tr) tr)))) (clock_New_l0_ok hμ   big _ _ r h) (by kernel_rfl) ⟨⟨rfl, under_no⟩, trivial, trivial⟩

/-- (*parrel/clock.Clock).ok -/

def clock_Clock_ok_v (r : Unit) : LV := .bool true

def clock_Clock_ok_up (now : Int) (x_at : List (T_clock_Name × Int)) (wheel : Nat → Option (List (T_clock_Name × Int))) (r : Unit) : Upd := [(0, some (.vw [.int .u32 now, .map 1] true [.int .u8, .int .u8, .int .u32, .int .u32] 64 (fun q_ => (wheel q_).map (encM v_T_clock_Name (LV.int .u32))) [])), (1, some (.map true [.int .u8, .int .u8, .int .u32, .int .u32] (encM v_T_clock_Name (LV.int .u32) x_at)))]

def clock_Clock_ok_objs (now : Int) (x_at : List (T_clock_Name × Int)) (wheel : Nat → Option (List (T_clock_Name × Int))) : List LO := [.vw [.int .u32 now, .map 1] true [.int .u8, .int .u8, .int .u32, .int .u32] 64 (fun q_ => (wheel q_).map (encM v_T_clock_Name (LV.int .u32))) [], .map true [.int .u8, .int .u8, .int .u32, .int .u32] (encM v_T_clock_Name (LV.int .u32) x_at)]

def clock_Clock_ok (now : Int) (x_at : List (T_clock_Name × Int)) (wheel : Nat → Option (List (T_clock_Name × Int))) : Option (Unit) :=
  some ()

theorem clock_Clock_ok_ok (now : Int) (x_at : List (T_clock_Name × Int)) (wheel : Nat → Option (List (T_clock_Name × Int))) (r : Unit) (h : clock_Clock_ok now x_at wheel = some r) : ∀ σ, Inj 2 σ → FnTri Try.prog 26 (renL σ [.ptr 0 0 0]) (preOf σ 0 (clock_Clock_ok_objs now x_at wheel)) ((clock_Clock_ok_v r).ren σ) (upOf σ (clock_Clock_ok_up now x_at wheel r)) := by
  refine fn_of Try.func26 (by kernel_rfl) (by kernel_rfl) (by kernel_rfl) ⟨⟨rfl, under_no⟩, trivial, trivial⟩ (by kernel_rfl) ⟨⟨rfl, under_no⟩, trivial, trivial⟩ (by kernel_rfl) ?_
  intro w0 W μ0 hμ
  unfold clock_Clock_ok at h
  obtain rfl := Option.some.inj h
  exact run_ret mixed (L := []) (n := 15) (s := [.reg [], .reg []])
    (a_ (a_ (r1_ tr) (a_ (r2_ (r4_ (a_ (a_ (lt_ 1 2 rfl) tr) (r1_ (r2_ tr))))) tr)) tr) (by kernel_rfl) rfl

/-- (*parrel/clock.Clock).Until -/

def clock_Clock_Until_v (r : (Int) × (Bool)) : LV := .tup [.int .u32 r.1, .bool r.2]

def clock_Clock_Until_up (now : Int) (x_at : List (T_clock_Name × Int)) (wheel : Nat → Option (List (T_clock_Name × Int))) (x_n : T_clock_Name) (r : (Int) × (Bool)) : Upd := [(0, some (.vw [.int .u32 now, .map 1] true [.int .u8, .int .u8, .int .u32, .int .u32] 64 (fun q_ => (wheel q_).map (encM v_T_clock_Name (LV.int .u32))) [])), (1, some (.map true [.int .u8, .int .u8, .int .u32, .int .u32] (encM v_T_clock_Name (LV.int .u32) x_at)))]

def clock_Clock_Until_objs (now : Int) (x_at : List (T_clock_Name × Int)) (wheel : Nat → Option (List (T_clock_Name × Int))) (x_n : T_clock_Name) : List LO := [.vw [.int .u32 now, .map 1] true [.int .u8, .int .u8, .int .u32, .int .u32] 64 (fun q_ => (wheel q_).map (encM v_T_clock_Name (LV.int .u32))) [], .map true [.int .u8, .int .u8, .int .u32, .int .u32] (encM v_T_clock_Name (LV.int .u32) x_at)]

def clock_Clock_Until (now : Int) (x_at : List (T_clock_Name × Int)) (wheel : Nat → Option (List (T_clock_Name × Int))) (x_n : T_clock_Name) : Option ((Int) × (Bool)) :=
  (clock_Clock_ok now x_at wheel).bind fun y2 =>
  some (((mget x_at x_n).getD default), ((mget x_at x_n).isSome))

theorem clock_Clock_Until_ok (now : Int) (x_at : List (T_clock_Name × Int)) (wheel : Nat → Option (List (T_clock_Name × Int))) (x_n : T_clock_Name) (r : (Int) × (Bool)) (h : clock_Clock_Until now x_at wheel x_n = some r) : ∀ σ, Inj 2 σ → FnTri Try.prog 14 (renL σ [.ptr 0 0 0, v_T_clock_Name x_n]) (preOf σ 0 (clock_Clock_Until_objs now x_at wheel x_n)) ((clock_Clock_Until_v r).ren σ) (upOf σ (clock_Clock_Until_up now x_at wheel x_n r)) := by
  refine fn_of Try.func14 (by kernel_rfl) (by kernel_rfl) (by kernel_rfl) ⟨⟨rfl, under_no⟩, trivial, trivial⟩ (by kernel_rfl) ⟨⟨rfl, under_no⟩, trivial, trivial⟩ (by kernel_rfl) ?_
  intro w0 W μ0 hμ
  unfold clock_Clock_Until at h
  obtain ⟨y2, e1, h⟩ := bind_some h
  obtain rfl := Option.some.inj h
  exact run_ret mixed (L := []) (n := 24) (s := [.reg [], .reg [(1, { call := some ((clock_Clock_ok_v y2).ren (sel [0, 1]), preOf (sel [0, 1]) 0 (clock_Clock_ok_objs now x_at wheel), upOf (sel [0, 1]) (clock_Clock_ok_up now x_at wheel y2)) })], .reg [(5, { look := ((mget x_at x_n).map (LV.int .u32)), v := some (.tup [.int .u32 ((mget x_at x_n).getD default), .bool ((mget x_at x_n).isSome)]) })], .reg []])
    (a_ (a_ (r1_ (r2_ tr)) (a_ (r1_ (a_ (a_ (a_ (clock_Clock_ok_ok now x_at wheel y2 e1 (sel [0, 1]) (sel_inj rfl rfl)) (a_ (Eq.refl (.vw [.int .u32 now, .map 1] true [.int .u8, .int .u8, .int .u32, .int .u32] 64 (fun q_ => (wheel q_).map (encM v_T_clock_Name (LV.int .u32))) [] : LO)) (a_ (LO.Le.refl (.map true [.int .u8, .int .u8, .int .u32, .int .u32] (encM v_T_clock_Name (LV.int .u32) x_at))) tr))) tr) (r1_ tr))) (a_ (r1_ (r2_ (a_ (a_ (lt_ 1 2 rfl) tr) (m_ 4 4 rfl (a_ (a_ (a_ (Eq.refl true) (findE_enc v_T_clock_Name (LV.int .u32) k_T_clock_Name x_at x_n)) (a_ (le_lookok (LV.int .u32) (mget x_at x_n) default) tr)) (r1_ (r4_ tr))))))) (a_ (r4_ tr) tr)))) tr) (by kernel_rfl) rfl

/-- (*parrel/clock.Clock).slot -/

def clock_Clock_slot_v (r : Unit) : LV := .map 1

def clock_Clock_slot_up (j : Int) (es : List (T_clock_Name × Int)) (at_ : Int) (r : Unit) : Upd := []

def clock_Clock_slot_objs (j : Int) (es : List (T_clock_Name × Int)) (at_ : Int) : List LO := [.vwr [.any, .any] 64 [(j.toNat, 1)], .mapR true [.int .u8, .int .u8, .int .u32, .int .u32] (encM v_T_clock_Name (LV.int .u32) es)]

def clock_Clock_slot (j : Int) (es : List (T_clock_Name × Int)) (at_ : Int) : Option (Unit) :=
  if 0 ≤ (Int.tmod at_ 64) ∧ (Int.tmod at_ 64) < 64 then
  if j.toNat = ((Int.tmod at_ 64)).toNat then
  some ()
  else none
  else none

theorem clock_Clock_slot_ok (j : Int) (es : List (T_clock_Name × Int)) (at_ : Int) (r : Unit) (h : clock_Clock_slot j es at_ = some r) : ∀ σ, Inj 2 σ → FnTri Try.prog 28 (renL σ [.ptr 0 0 0, .int .u32 at_]) (preOf σ 0 (clock_Clock_slot_objs j es at_)) ((clock_Clock_slot_v r).ren σ) (upOf σ (clock_Clock_slot_up j es at_ r)) := by
  refine fn_of Try.func28 (by kernel_rfl) (by kernel_rfl) (by kernel_rfl) ⟨⟨rfl, under_opn (lt_ 1 2 rfl)⟩, trivial, trivial⟩ (by kernel_rfl) trivial (by kernel_rfl) ?_
  intro w0 W μ0 hμ
  unfold clock_Clock_slot at h
  obtain ⟨g1, h⟩ := guard_some h
  obtain ⟨g2, h⟩ := guard_some h
  obtain rfl := Option.some.inj h
  exact run_ret mixed (L := []) (n := 15) (s := [.reg [], .reg [(6, { app := 8 })]])
    (a_ (a_ (r1_ tr) (a_ (r2_ (a_ (a_ (ne0 64 rfl) tr) (r2_ (a_ (a_ g1 tr) (a_ (a_ (vwl (off := 2) (n := 64) g2 g1) tr) (r1_ tr)))))) tr)) tr) (by kernel_rfl) rfl

/-- (*parrel/clock.Clock).Stop -/

def clock_Clock_Stop_v (r : (Bool) × (Int) × (Nat → Option (List (T_clock_Name × Int))) × (List (T_clock_Name × Int))) : LV := .bool r.1

def clock_Clock_Stop_up (now : Int) (x_at : List (T_clock_Name × Int)) (wheel : Nat → Option (List (T_clock_Name × Int))) (x_n : T_clock_Name) (r : (Bool) × (Int) × (Nat → Option (List (T_clock_Name × Int))) × (List (T_clock_Name × Int))) : Upd := [(0, some (.vw [.int .u32 r.2.1, .map 1] true [.int .u8, .int .u8, .int .u32, .int .u32] 64 (fun q_ => (r.2.2.1 q_).map (encM v_T_clock_Name (LV.int .u32))) [])), (1, some (.map true [.int .u8, .int .u8, .int .u32, .int .u32] (encM v_T_clock_Name (LV.int .u32) r.2.2.2)))]

def clock_Clock_Stop_objs (now : Int) (x_at : List (T_clock_Name × Int)) (wheel : Nat → Option (List (T_clock_Name × Int))) (x_n : T_clock_Name) : List LO := [.vw [.int .u32 now, .map 1] true [.int .u8, .int .u8, .int .u32, .int .u32] 64 (fun q_ => (wheel q_).map (encM v_T_clock_Name (LV.int .u32))) [], .map true [.int .u8, .int .u8, .int .u32, .int .u32] (encM v_T_clock_Name (LV.int .u32) x_at)]

def clock_Clock_Stop (now : Int) (x_at : List (T_clock_Name × Int)) (wheel : Nat → Option (List (T_clock_Name × Int))) (x_n : T_clock_Name) : Option ((Bool) × (Int) × (Nat → Option (List (T_clock_Name × Int))) × (List (T_clock_Name × Int))) :=
  (clock_Clock_Until now x_at wheel x_n).bind fun y2 =>
  if (y2.2 : Bool) then
    if 0 ≤ (Int.tmod y2.1 64) ∧ (Int.tmod y2.1 64) < 64 then
    (wheel ((Int.tmod y2.1 64)).toNat).bind fun y5 =>
    (clock_Clock_slot (Int.tmod y2.1 64) y5 y2.1).bind fun y8 =>
    some (y2.2, now, (fun q_ => if q_ = ((Int.tmod y2.1 64)).toNat then some (mdel y5 x_n) else wheel q_), (mdel x_at x_n))
    else none
  else
    some (y2.2, now, wheel, x_at)

theorem clock_Clock_Stop_ok (now : Int) (x_at : List (T_clock_Name × Int)) (wheel : Nat → Option (List (T_clock_Name × Int))) (x_n : T_clock_Name) (r : (Bool) × (Int) × (Nat → Option (List (T_clock_Name × Int))) × (List (T_clock_Name × Int))) (h : clock_Clock_Stop now x_at wheel x_n = some r) : ∀ σ, Inj 2 σ → FnTri Try.prog 17 (renL σ [.ptr 0 0 0, v_T_clock_Name x_n]) (preOf σ 0 (clock_Clock_Stop_objs now x_at wheel x_n)) ((clock_Clock_Stop_v r).ren σ) (upOf σ (clock_Clock_Stop_up now x_at wheel x_n r)) := by
  refine fn_of Try.func17 (by kernel_rfl) (by kernel_rfl) (by kernel_rfl) ⟨⟨rfl, under_no⟩, trivial, trivial⟩ (by kernel_rfl) ⟨⟨rfl, under_no⟩, trivial, trivial⟩ (by kernel_rfl) ?_
  intro w0 W μ0 hμ
  unfold clock_Clock_Stop at h
  obtain ⟨y2, e1, h⟩ := bind_some h
  rcases itb_some h with ⟨c3, h⟩ | ⟨c3, h⟩
  · skip
    obtain ⟨g4, h⟩ := guard_some h
    obtain ⟨y5, e6, h⟩ := bind_some h
    obtain ⟨y8, e7, h⟩ := bind_some h
    obtain rfl := Option.some.inj h
    exact run_ret mixed (L := []) (n := 31) (s := [.reg [], .reg [(2, { call := some ((clock_Clock_Until_v y2).ren (sel [0, 1]), preOf (sel [0, 1]) 0 (clock_Clock_Until_objs now x_at wheel x_n), upOf (sel [0, 1]) (clock_Clock_Until_up now x_at wheel x_n y2)) })], .reg [(0, hT)], .reg [(5, { os := [(1, .map true [.int .u8, .int .u8, .int .u32, .int .u32] (encM v_T_clock_Name (LV.int .u32) (mdel x_at x_n)))] })], .x (.vwo 0 ((Int.tmod y2.1 64)).toNat (encM v_T_clock_Name (LV.int .u32) y5)), .reg [(2, { call := some ((clock_Clock_slot_v y8).ren (sel [0, 3]), preOf (sel [0, 3]) 0 (clock_Clock_slot_objs (Int.tmod y2.1 64) y5 y2.1), upOf (sel [0, 3]) (clock_Clock_slot_up (Int.tmod y2.1 64) y5 y2.1 y8)) }), (4, { os := [(3, .map true [.int .u8, .int .u8, .int .u32, .int .u32] (encM v_T_clock_Name (LV.int .u32) (mdel y5 x_n)))] })], .x (.vwc 0), .x (.vww 0 (fun q_ => ((fun q_ => if q_ = ((Int.tmod y2.1 64)).toNat then some (mdel y5 x_n) else wheel q_) q_).map (encM v_T_clock_Name (LV.int .u32)))), .reg []])
      (a_ (a_ (r2_ tr) (a_ (r1_ (m_ 4 4 rfl (a_ (a_ (a_ (clock_Clock_Until_ok now x_at wheel x_n y2 e1 (sel [0, 1]) (sel_inj rfl rfl)) (a_ (Eq.refl (.vw [.int .u32 now, .map 1] true [.int .u8, .int .u8, .int .u32, .int .u32] 64 (fun q_ => (wheel q_).map (encM v_T_clock_Name (LV.int .u32))) [] : LO)) (a_ (LO.Le.refl (.map true [.int .u8, .int .u8, .int .u32, .int .u32] (encM v_T_clock_Name (LV.int .u32) x_at))) tr))) tr) (r1_ (r4_ tr))))) (a_ (f_ c3 tr) (a_ (r1_ (r2_ (a_ (a_ (lt_ 1 2 rfl) tr) (m_ 4 4 rfl (a_ (a_ (Eq.refl true) (a_ (sub_del v_T_clock_Name (LV.int .u32) k_T_clock_Name true [.int .u8, .int .u8, .int .u32, .int .u32] x_at x_n) tr)) tr))))) (a_ (a_ (vwlt (n := 64) g4) (vwget (f := encM v_T_clock_Name (LV.int .u32)) e6)) (a_ (r2_ (a_ (a_ (a_ (clock_Clock_slot_ok (Int.tmod y2.1 64) y5 y2.1 y8 e7 (sel [0, 3]) (sel_inj rfl rfl)) (a_ (le_vwr (cs := [.int .u32 now, .map 1]) (ds := [.any, .any]) (ag := true) (ks := [.int .u8, .int .u8, .int .u32, .int .u32]) (n := 64) (W := (fun q_ => (wheel q_).map (encM v_T_clock_Name (LV.int .u32)))) (opn := [(((Int.tmod y2.1 64)).toNat, 3)]) (a_ (le_any (.int .u32 now)) (a_ (le_any (.map 1)) tr))) (a_ (le_mapR (ag := true) (ks := [.int .u8, .int .u8, .int .u32, .int .u32]) (es := encM v_T_clock_Name (LV.int .u32) y5)) tr))) tr) (m_ 4 4 rfl (a_ (a_ (Eq.refl true) (a_ (sub_del v_T_clock_Name (LV.int .u32) k_T_clock_Name true [.int .u8, .int .u8, .int .u32, .int .u32] y5 x_n) tr)) tr)))) (a_ (a_ (vwlt (n := 64) g4) (a_ (Eq.refl true) (a_ (Eq.refl ([.int .u8, .int .u8, .int .u32, .int .u32] : List CK)) (show 0 ≠ 3 from by decide)))) (a_ (fun (q_ : Nat) (_ : q_ < 64) => vwput (encM v_T_clock_Name (LV.int .u32)) wheel ((Int.tmod y2.1 64)).toNat (mdel y5 x_n) q_) (a_ (r2_ tr) tr))))))))) tr) (by kernel_rfl) rfl
  · skip
    obtain rfl := Option.some.inj h
    exact run_ret mixed (L := []) (n := 24) (s := [.reg [], .reg [(2, { call := some ((clock_Clock_Until_v y2).ren (sel [0, 1]), preOf (sel [0, 1]) 0 (clock_Clock_Until_objs now x_at wheel x_n), upOf (sel [0, 1]) (clock_Clock_Until_up now x_at wheel x_n y2)) })], .reg [(0, hF)], .reg []])
      (a_ (a_ (r2_ tr) (a_ (r1_ (m_ 4 4 rfl (a_ (a_ (a_ (clock_Clock_Until_ok now x_at wheel x_n y2 e1 (sel [0, 1]) (sel_inj rfl rfl)) (a_ (Eq.refl (.vw [.int .u32 now, .map 1] true [.int .u8, .int .u8, .int .u32, .int .u32] 64 (fun q_ => (wheel q_).map (encM v_T_clock_Name (LV.int .u32))) [] : LO)) (a_ (LO.Le.refl (.map true [.int .u8, .int .u8, .int .u32, .int .u32] (encM v_T_clock_Name (LV.int .u32) x_at))) tr))) tr) (r1_ (r4_ tr))))) (a_ (f_ c3 tr) (a_ (r2_ tr) tr)))) tr) (by kernel_rfl) rfl

/-- (*parrel/clock.Clock).Set -/

def clock_Clock_Set_v (r : (Int) × (Int) × (Nat → Option (List (T_clock_Name × Int))) × (List (T_clock_Name × Int))) : LV := .int .i64 r.1

def clock_Clock_Set_up (now : Int) (x_at : List (T_clock_Name × Int)) (wheel : Nat → Option (List (T_clock_Name × Int))) (x_n : T_clock_Name) (after : Int) (r : (Int) × (Int) × (Nat → Option (List (T_clock_Name × Int))) × (List (T_clock_Name × Int))) : Upd := [(0, some (.vw [.int .u32 r.2.1, .map 1] true [.int .u8, .int .u8, .int .u32, .int .u32] 64 (fun q_ => (r.2.2.1 q_).map (encM v_T_clock_Name (LV.int .u32))) [])), (1, some (.map true [.int .u8, .int .u8, .int .u32, .int .u32] (encM v_T_clock_Name (LV.int .u32) r.2.2.2)))]

def clock_Clock_Set_objs (now : Int) (x_at : List (T_clock_Name × Int)) (wheel : Nat → Option (List (T_clock_Name × Int))) (x_n : T_clock_Name) (after : Int) : List LO := [.vw [.int .u32 now, .map 1] true [.int .u8, .int .u8, .int .u32, .int .u32] 64 (fun q_ => (wheel q_).map (encM v_T_clock_Name (LV.int .u32))) [], .map true [.int .u8, .int .u8, .int .u32, .int .u32] (encM v_T_clock_Name (LV.int .u32) x_at)]

def clock_Clock_Set (now : Int) (x_at : List (T_clock_Name × Int)) (wheel : Nat → Option (List (T_clock_Name × Int))) (x_n : T_clock_Name) (after : Int) : Option ((Int) × (Int) × (Nat → Option (List (T_clock_Name × Int))) × (List (T_clock_Name × Int))) :=
  (clock_Clock_Until now x_at wheel x_n).bind fun y2 =>
  (clock_Clock_ok now x_at wheel).bind fun y4 =>
  if ((after == 0) : Bool) then
    some (1, now, wheel, x_at)
  else
    if ((decide ((IntKind.wrap .u32 (2147483647 - now)) < after)) : Bool) then
      some (17, now, wheel, x_at)
    else
      if ((!y2.2) : Bool) then
        if ((((x_at).length : Int) == 1024) : Bool) then
          some (5, now, wheel, x_at)
        else
          (clock_Clock_Stop now x_at wheel x_n).bind fun y10 =>
          if 0 ≤ (Int.tmod (IntKind.wrap .u32 (y10.2.1 + after)) 64) ∧ (Int.tmod (IntKind.wrap .u32 (y10.2.1 + after)) 64) < 64 then
          (y10.2.2.1 ((Int.tmod (IntKind.wrap .u32 (y10.2.1 + after)) 64)).toNat).bind fun y12 =>
          (clock_Clock_slot (Int.tmod (IntKind.wrap .u32 (y10.2.1 + after)) 64) y12 (IntKind.wrap .u32 (y10.2.1 + after))).bind fun y15 =>
          some (0, y10.2.1, (fun q_ => if q_ = ((Int.tmod (IntKind.wrap .u32 (y10.2.1 + after)) 64)).toNat then some (mset y12 x_n (IntKind.wrap .u32 (y10.2.1 + after))) else y10.2.2.1 q_), (mset y10.2.2.2 x_n (IntKind.wrap .u32 (y10.2.1 + after))))
          else none
      else
        (clock_Clock_Stop now x_at wheel x_n).bind fun y9 =>
        if 0 ≤ (Int.tmod (IntKind.wrap .u32 (y9.2.1 + after)) 64) ∧ (Int.tmod (IntKind.wrap .u32 (y9.2.1 + after)) 64) < 64 then
        (y9.2.2.1 ((Int.tmod (IntKind.wrap .u32 (y9.2.1 + after)) 64)).toNat).bind fun y11 =>
        (clock_Clock_slot (Int.tmod (IntKind.wrap .u32 (y9.2.1 + after)) 64) y11 (IntKind.wrap .u32 (y9.2.1 + after))).bind fun y14 =>
        some (0, y9.2.1, (fun q_ => if q_ = ((Int.tmod (IntKind.wrap .u32 (y9.2.1 + after)) 64)).toNat then some (mset y11 x_n (IntKind.wrap .u32 (y9.2.1 + after))) else y9.2.2.1 q_), (mset y9.2.2.2 x_n (IntKind.wrap .u32 (y9.2.1 + after))))
        else none

theorem clock_Clock_Set_ok (now : Int) (x_at : List (T_clock_Name × Int)) (wheel : Nat → Option (List (T_clock_Name × Int))) (x_n : T_clock_Name) (after : Int) (r : (Int) × (Int) × (Nat → Option (List (T_clock_Name × Int))) × (List (T_clock_Name × Int))) (h : clock_Clock_Set now x_at wheel x_n after = some r) : ∀ σ, Inj 2 σ → FnTri Try.prog 11 (renL σ [.ptr 0 0 0, v_T_clock_Name x_n, .int .u32 after]) (preOf σ 0 (clock_Clock_Set_objs now x_at wheel x_n after)) ((clock_Clock_Set_v r).ren σ) (upOf σ (clock_Clock_Set_up now x_at wheel x_n after r)) := by
  refine fn_of Try.func11 (by kernel_rfl) (by kernel_rfl) (by kernel_rfl) ⟨⟨rfl, under_no⟩, trivial, trivial⟩ (by kernel_rfl) ⟨⟨rfl, under_no⟩, trivial, trivial⟩ (by kernel_rfl) ?_
  intro w0 W μ0 hμ
  unfold clock_Clock_Set at h
  obtain ⟨y2, e1, h⟩ := bind_some h
  obtain ⟨y4, e3, h⟩ := bind_some h
  rcases itb_some h with ⟨c5, h⟩ | ⟨c5, h⟩
  · skip
    obtain rfl := Option.some.inj h
    exact run_ret mixed (L := []) (n := 28) (s := [.reg [], .reg [(2, { call := some ((clock_Clock_Until_v y2).ren (sel [0, 1]), preOf (sel [0, 1]) 0 (clock_Clock_Until_objs now x_at wheel x_n), upOf (sel [0, 1]) (clock_Clock_Until_up now x_at wheel x_n y2)) })], .reg [(1, { call := some ((clock_Clock_ok_v y4).ren (sel [0, 1]), preOf (sel [0, 1]) 0 (clock_Clock_ok_objs now x_at wheel), upOf (sel [0, 1]) (clock_Clock_ok_up now x_at wheel y4)) })], .reg [(2, hT)], .reg []])
      (a_ (a_ (r2_ tr) (a_ (r1_ (m_ 4 4 rfl (a_ (a_ (a_ (clock_Clock_Until_ok now x_at wheel x_n y2 e1 (sel [0, 1]) (sel_inj rfl rfl)) (a_ (Eq.refl (.vw [.int .u32 now, .map 1] true [.int .u8, .int .u8, .int .u32, .int .u32] 64 (fun q_ => (wheel q_).map (encM v_T_clock_Name (LV.int .u32))) [] : LO)) (a_ (LO.Le.refl (.map true [.int .u8, .int .u8, .int .u32, .int .u32] (encM v_T_clock_Name (LV.int .u32) x_at))) tr))) tr) (r1_ (r4_ tr))))) (a_ (r1_ (a_ (a_ (a_ (clock_Clock_ok_ok now x_at wheel y4 e3 (sel [0, 1]) (sel_inj rfl rfl)) (a_ (Eq.refl (.vw [.int .u32 now, .map 1] true [.int .u8, .int .u8, .int .u32, .int .u32] 64 (fun q_ => (wheel q_).map (encM v_T_clock_Name (LV.int .u32))) [] : LO)) (a_ (LO.Le.refl (.map true [.int .u8, .int .u8, .int .u32, .int .u32] (encM v_T_clock_Name (LV.int .u32) x_at))) tr))) tr) (r2_ tr))) (a_ (r2_ (f_ c5 tr)) (a_ (r1_ tr) tr))))) tr) (by kernel_rfl) rfl
  · skip
    rcases itb_some h with ⟨c6, h⟩ | ⟨c6, h⟩
    · skip
      obtain rfl := Option.some.inj h
      exact run_ret mixed (L := []) (n := 32) (s := [.reg [], .reg [(2, { call := some ((clock_Clock_Until_v y2).ren (sel [0, 1]), preOf (sel [0, 1]) 0 (clock_Clock_Until_objs now x_at wheel x_n), upOf (sel [0, 1]) (clock_Clock_Until_up now x_at wheel x_n y2)) })], .reg [(1, { call := some ((clock_Clock_ok_v y4).ren (sel [0, 1]), preOf (sel [0, 1]) 0 (clock_Clock_ok_objs now x_at wheel), upOf (sel [0, 1]) (clock_Clock_ok_up now x_at wheel y4)) })], .reg [(2, hF)], .reg [(7, hT)], .reg []])
        (a_ (a_ (r2_ tr) (a_ (r1_ (m_ 4 4 rfl (a_ (a_ (a_ (clock_Clock_Until_ok now x_at wheel x_n y2 e1 (sel [0, 1]) (sel_inj rfl rfl)) (a_ (Eq.refl (.vw [.int .u32 now, .map 1] true [.int .u8, .int .u8, .int .u32, .int .u32] 64 (fun q_ => (wheel q_).map (encM v_T_clock_Name (LV.int .u32))) [] : LO)) (a_ (LO.Le.refl (.map true [.int .u8, .int .u8, .int .u32, .int .u32] (encM v_T_clock_Name (LV.int .u32) x_at))) tr))) tr) (r1_ (r4_ tr))))) (a_ (r1_ (a_ (a_ (a_ (clock_Clock_ok_ok now x_at wheel y4 e3 (sel [0, 1]) (sel_inj rfl rfl)) (a_ (Eq.refl (.vw [.int .u32 now, .map 1] true [.int .u8, .int .u8, .int .u32, .int .u32] 64 (fun q_ => (wheel q_).map (encM v_T_clock_Name (LV.int .u32))) [] : LO)) (a_ (LO.Le.refl (.map true [.int .u8, .int .u8, .int .u32, .int .u32] (encM v_T_clock_Name (LV.int .u32) x_at))) tr))) tr) (r2_ tr))) (a_ (r2_ (f_ c5 tr)) (a_ (r4_ (a_ (a_ (lt_ 0 2 rfl) tr) (r2_ (f_ c6 tr)))) (a_ (r1_ tr) tr)))))) tr) (by kernel_rfl) rfl
    · skip
      rcases itb_some h with ⟨c7, h⟩ | ⟨c7, h⟩
      · skip
        rcases itb_some h with ⟨c8, h⟩ | ⟨c8, h⟩
        · skip
          obtain rfl := Option.some.inj h
          exact run_ret mixed (L := []) (n := 36) (s := [.reg [], .reg [(2, { call := some ((clock_Clock_Until_v y2).ren (sel [0, 1]), preOf (sel [0, 1]) 0 (clock_Clock_Until_objs now x_at wheel x_n), upOf (sel [0, 1]) (clock_Clock_Until_up now x_at wheel x_n y2)) })], .reg [(1, { call := some ((clock_Clock_ok_v y4).ren (sel [0, 1]), preOf (sel [0, 1]) 0 (clock_Clock_ok_objs now x_at wheel), upOf (sel [0, 1]) (clock_Clock_ok_up now x_at wheel y4)) })], .reg [(2, hF)], .reg [(7, hF)], .reg [(2, hT), (7, { v := some (.int .i64 ((x_at).length : Int)) }), (10, hT)], .reg []])
            (a_ (a_ (r2_ tr) (a_ (r1_ (m_ 4 4 rfl (a_ (a_ (a_ (clock_Clock_Until_ok now x_at wheel x_n y2 e1 (sel [0, 1]) (sel_inj rfl rfl)) (a_ (Eq.refl (.vw [.int .u32 now, .map 1] true [.int .u8, .int .u8, .int .u32, .int .u32] 64 (fun q_ => (wheel q_).map (encM v_T_clock_Name (LV.int .u32))) [] : LO)) (a_ (LO.Le.refl (.map true [.int .u8, .int .u8, .int .u32, .int .u32] (encM v_T_clock_Name (LV.int .u32) x_at))) tr))) tr) (r1_ (r4_ tr))))) (a_ (r1_ (a_ (a_ (a_ (clock_Clock_ok_ok now x_at wheel y4 e3 (sel [0, 1]) (sel_inj rfl rfl)) (a_ (Eq.refl (.vw [.int .u32 now, .map 1] true [.int .u8, .int .u8, .int .u32, .int .u32] 64 (fun q_ => (wheel q_).map (encM v_T_clock_Name (LV.int .u32))) [] : LO)) (a_ (LO.Le.refl (.map true [.int .u8, .int .u8, .int .u32, .int .u32] (encM v_T_clock_Name (LV.int .u32) x_at))) tr))) tr) (r2_ tr))) (a_ (r2_ (f_ c5 tr)) (a_ (r4_ (a_ (a_ (lt_ 0 2 rfl) tr) (r2_ (f_ c6 tr)))) (a_ (r2_ (f_ c7 (r1_ (r2_ (a_ (a_ (lt_ 1 2 rfl) tr) (a_ (a_ tr (a_ (le_maplen v_T_clock_Name (LV.int .u32) x_at) tr)) (r2_ (f_ c8 tr)))))))) (a_ (r1_ tr) tr))))))) tr) (by kernel_rfl) rfl
        · skip
          obtain ⟨y10, e9, h⟩ := bind_some h
          obtain ⟨g11, h⟩ := guard_some h
          obtain ⟨y12, e13, h⟩ := bind_some h
          obtain ⟨y15, e14, h⟩ := bind_some h
          obtain rfl := Option.some.inj h
          exact run_ret mixed (L := []) (n := 51) (s := [.reg [], .reg [(2, { call := some ((clock_Clock_Until_v y2).ren (sel [0, 1]), preOf (sel [0, 1]) 0 (clock_Clock_Until_objs now x_at wheel x_n), upOf (sel [0, 1]) (clock_Clock_Until_up now x_at wheel x_n y2)) })], .reg [(1, { call := some ((clock_Clock_ok_v y4).ren (sel [0, 1]), preOf (sel [0, 1]) 0 (clock_Clock_ok_objs now x_at wheel), upOf (sel [0, 1]) (clock_Clock_ok_up now x_at wheel y4)) })], .reg [(2, hF)], .reg [(7, hF)], .reg [(2, hT), (7, { v := some (.int .i64 ((x_at).length : Int)) }), (10, hF)], .reg [(2, { call := some ((clock_Clock_Stop_v y10).ren (sel [0, 1]), preOf (sel [0, 1]) 0 (clock_Clock_Stop_objs now x_at wheel x_n), upOf (sel [0, 1]) (clock_Clock_Stop_up now x_at wheel x_n y10)) })], .reg [], .wk [] [(1, .mapP true [.int .u8, .int .u8, .int .u32, .int .u32] (encM v_T_clock_Name (LV.int .u32) y10.2.2.2) (v_T_clock_Name x_n) (.int .u32 0))], .x (.vwo 0 ((Int.tmod (IntKind.wrap .u32 (y10.2.1 + after)) 64)).toNat (encM v_T_clock_Name (LV.int .u32) y12)), .reg [(7, { call := some ((clock_Clock_slot_v y15).ren (sel [0, 3]), preOf (sel [0, 3]) 0 (clock_Clock_slot_objs (Int.tmod (IntKind.wrap .u32 (y10.2.1 + after)) 64) y12 (IntKind.wrap .u32 (y10.2.1 + after))), upOf (sel [0, 3]) (clock_Clock_slot_up (Int.tmod (IntKind.wrap .u32 (y10.2.1 + after)) 64) y12 (IntKind.wrap .u32 (y10.2.1 + after)) y15)) }), (11, { soft := some 1 }), (13, { os := [(1, .map true [.int .u8, .int .u8, .int .u32, .int .u32] (encM v_T_clock_Name (LV.int .u32) (mset y10.2.2.2 x_n (IntKind.wrap .u32 (y10.2.1 + after)))))] }), (14, { os := [(3, .map true [.int .u8, .int .u8, .int .u32, .int .u32] (encM v_T_clock_Name (LV.int .u32) (mset y12 x_n (IntKind.wrap .u32 (y10.2.1 + after)))))] })], .x (.vwc 0), .x (.vww 0 (fun q_ => ((fun q_ => if q_ = ((Int.tmod (IntKind.wrap .u32 (y10.2.1 + after)) 64)).toNat then some (mset y12 x_n (IntKind.wrap .u32 (y10.2.1 + after))) else y10.2.2.1 q_) q_).map (encM v_T_clock_Name (LV.int .u32)))), .reg []])
            (a_ (a_ (r2_ tr) (a_ (r1_ (m_ 4 4 rfl (a_ (a_ (a_ (clock_Clock_Until_ok now x_at wheel x_n y2 e1 (sel [0, 1]) (sel_inj rfl rfl)) (a_ (Eq.refl (.vw [.int .u32 now, .map 1] true [.int .u8, .int .u8, .int .u32, .int .u32] 64 (fun q_ => (wheel q_).map (encM v_T_clock_Name (LV.int .u32))) [] : LO)) (a_ (LO.Le.refl (.map true [.int .u8, .int .u8, .int .u32, .int .u32] (encM v_T_clock_Name (LV.int .u32) x_at))) tr))) tr) (r1_ (r4_ tr))))) (a_ (r1_ (a_ (a_ (a_ (clock_Clock_ok_ok now x_at wheel y4 e3 (sel [0, 1]) (sel_inj rfl rfl)) (a_ (Eq.refl (.vw [.int .u32 now, .map 1] true [.int .u8, .int .u8, .int .u32, .int .u32] 64 (fun q_ => (wheel q_).map (encM v_T_clock_Name (LV.int .u32))) [] : LO)) (a_ (LO.Le.refl (.map true [.int .u8, .int .u8, .int .u32, .int .u32] (encM v_T_clock_Name (LV.int .u32) x_at))) tr))) tr) (r2_ tr))) (a_ (r2_ (f_ c5 tr)) (a_ (r4_ (a_ (a_ (lt_ 0 2 rfl) tr) (r2_ (f_ c6 tr)))) (a_ (r2_ (f_ c7 (r1_ (r2_ (a_ (a_ (lt_ 1 2 rfl) tr) (a_ (a_ tr (a_ (le_maplen v_T_clock_Name (LV.int .u32) x_at) tr)) (r2_ (f_ c8 tr)))))))) (a_ (r1_ (m_ 4 4 rfl (a_ (a_ (a_ (clock_Clock_Stop_ok now x_at wheel x_n y10 e9 (sel [0, 1]) (sel_inj rfl rfl)) (a_ (Eq.refl (.vw [.int .u32 now, .map 1] true [.int .u8, .int .u8, .int .u32, .int .u32] 64 (fun q_ => (wheel q_).map (encM v_T_clock_Name (LV.int .u32))) [] : LO)) (a_ (LO.Le.refl (.map true [.int .u8, .int .u8, .int .u32, .int .u32] (encM v_T_clock_Name (LV.int .u32) x_at))) tr))) tr) tr))) (a_ (r1_ (r2_ (a_ (a_ (lt_ 0 2 rfl) tr) (r1_ (r2_ tr))))) (a_ (a_ tr (a_ (sub_begin true [.int .u8, .int .u8, .int .u32, .int .u32] (encM v_T_clock_Name (LV.int .u32) y10.2.2.2) (v_T_clock_Name x_n) (.int .u32 0)) tr)) (a_ (a_ (vwlt (n := 64) g11) (vwget (f := encM v_T_clock_Name (LV.int .u32)) e13)) (a_ (a_ (r1_ (r2_ (a_ (a_ (lt_ 1 2 rfl) tr) (m_ 4 4 rfl (r2_ (a_ (a_ (a_ (clock_Clock_slot_ok (Int.tmod (IntKind.wrap .u32 (y10.2.1 + after)) 64) y12 (IntKind.wrap .u32 (y10.2.1 + after)) y15 e14 (sel [0, 3]) (sel_inj rfl rfl)) (a_ (le_vwr (cs := [.int .u32 y10.2.1, .map 1]) (ds := [.any, .any]) (ag := true) (ks := [.int .u8, .int .u8, .int .u32, .int .u32]) (n := 64) (W := (fun q_ => (y10.2.2.1 q_).map (encM v_T_clock_Name (LV.int .u32)))) (opn := [(((Int.tmod (IntKind.wrap .u32 (y10.2.1 + after)) 64)).toNat, 3)]) (a_ (le_any (.int .u32 y10.2.1)) (a_ (le_any (.map 1)) tr))) (a_ (le_mapR (ag := true) (ks := [.int .u8, .int .u8, .int .u32, .int .u32]) (es := encM v_T_clock_Name (LV.int .u32) y12)) tr))) tr) (m_ 4 4 rfl (r2_ (a_ (a_ (a_ (Eq.refl true) (a_ (Eq.refl true) (a_ (eqk_self v_T_clock_Name k_T_clock_Name x_n) (a_ (Eq.refl (v_T_clock_Name x_n)) (Eq.refl (.int .u32 0 : LV)))))) tr) (r1_ (a_ (a_ (a_ (Eq.refl true) (eqk_self v_T_clock_Name k_T_clock_Name x_n)) (a_ (sub_upd v_T_clock_Name (LV.int .u32) k_T_clock_Name true [.int .u8, .int .u8, .int .u32, .int .u32] y10.2.2.2 x_n (IntKind.wrap .u32 (y10.2.1 + after))) tr)) (a_ (a_ (a_ (Eq.refl true) (Eq.refl true)) (a_ (sub_upd v_T_clock_Name (LV.int .u32) k_T_clock_Name true [.int .u8, .int .u8, .int .u32, .int .u32] y12 x_n (IntKind.wrap .u32 (y10.2.1 + after))) tr)) tr)))))))))))) (sub_begun true [.int .u8, .int .u8, .int .u32, .int .u32] (encM v_T_clock_Name (LV.int .u32) y10.2.2.2) (v_T_clock_Name x_n) (.int .u32 0 : LV) 4)) (a_ (a_ (vwlt (n := 64) g11) (a_ (Eq.refl true) (a_ (Eq.refl ([.int .u8, .int .u8, .int .u32, .int .u32] : List CK)) (show 0 ≠ 3 from by decide)))) (a_ (fun (q_ : Nat) (_ : q_ < 64) => vwput (encM v_T_clock_Name (LV.int .u32)) y10.2.2.1 ((Int.tmod (IntKind.wrap .u32 (y10.2.1 + after)) 64)).toNat (mset y12 x_n (IntKind.wrap .u32 (y10.2.1 + after))) q_) (a_ (r1_ tr) tr)))))))))))))) tr) (by kernel_rfl) rfl
      · skip
        obtain ⟨y9, e8, h⟩ := bind_some h
        obtain ⟨g10, h⟩ := guard_some h
        obtain ⟨y11, e12, h⟩ := bind_some h
        obtain ⟨y14, e13, h⟩ := bind_some h
        obtain rfl := Option.some.inj h
        exact run_ret mixed (L := []) (n := 51) (s := [.reg [], .reg [(2, { call := some ((clock_Clock_Until_v y2).ren (sel [0, 1]), preOf (sel [0, 1]) 0 (clock_Clock_Until_objs now x_at wheel x_n), upOf (sel [0, 1]) (clock_Clock_Until_up now x_at wheel x_n y2)) })], .reg [(1, { call := some ((clock_Clock_ok_v y4).ren (sel [0, 1]), preOf (sel [0, 1]) 0 (clock_Clock_ok_objs now x_at wheel), upOf (sel [0, 1]) (clock_Clock_ok_up now x_at wheel y4)) })], .reg [(2, hF)], .reg [(7, hF)], .reg [(2, hF)], .reg [(2, { call := some ((clock_Clock_Stop_v y9).ren (sel [0, 1]), preOf (sel [0, 1]) 0 (clock_Clock_Stop_objs now x_at wheel x_n), upOf (sel [0, 1]) (clock_Clock_Stop_up now x_at wheel x_n y9)) })], .reg [], .wk [] [(1, .mapP true [.int .u8, .int .u8, .int .u32, .int .u32] (encM v_T_clock_Name (LV.int .u32) y9.2.2.2) (v_T_clock_Name x_n) (.int .u32 0))], .x (.vwo 0 ((Int.tmod (IntKind.wrap .u32 (y9.2.1 + after)) 64)).toNat (encM v_T_clock_Name (LV.int .u32) y11)), .reg [(7, { call := some ((clock_Clock_slot_v y14).ren (sel [0, 3]), preOf (sel [0, 3]) 0 (clock_Clock_slot_objs (Int.tmod (IntKind.wrap .u32 (y9.2.1 + after)) 64) y11 (IntKind.wrap .u32 (y9.2.1 + after))), upOf (sel [0, 3]) (clock_Clock_slot_up (Int.tmod (IntKind.wrap .u32 (y9.2.1 + after)) 64) y11 (IntKind.wrap .u32 (y9.2.1 + after)) y14)) }), (11, { soft := some 1 }), (13, { os := [(1, .map true [.int .u8, .int .u8, .int .u32, .int .u32] (encM v_T_clock_Name (LV.int .u32) (mset y9.2.2.2 x_n (IntKind.wrap .u32 (y9.2.1 + after)))))] }), (14, { os := [(3, .map true [.int .u8, .int .u8, .int .u32, .int .u32] (encM v_T_clock_Name (LV.int .u32) (mset y11 x_n (IntKind.wrap .u32 (y9.2.1 + after)))))] })], .x (.vwc 0), .x (.vww 0 (fun q_ => ((fun q_ => if q_ = ((Int.tmod (IntKind.wrap .u32 (y9.2.1 + after)) 64)).toNat then some (mset y11 x_n (IntKind.wrap .u32 (y9.2.1 + after))) else y9.2.2.1 q_) q_).map (encM v_T_clock_Name (LV.int .u32)))), .reg []])
          (a_ (a_ (r2_ tr) (a_ (r1_ (m_ 4 4 rfl (a_ (a_ (a_ (clock_Clock_Until_ok now x_at wheel x_n y2 e1 (sel [0, 1]) (sel_inj rfl rfl)) (a_ (Eq.refl (.vw [.int .u32 now, .map 1] true [.int .u8, .int .u8, .int .u32, .int .u32] 64 (fun q_ => (wheel q_).map (encM v_T_clock_Name (LV.int .u32))) [] : LO)) (a_ (LO.Le.refl (.map true [.int .u8, .int .u8, .int .u32, .int .u32] (encM v_T_clock_Name (LV.int .u32) x_at))) tr))) tr) (r1_ (r4_ tr))))) (a_ (r1_ (a_ (a_ (a_ (clock_Clock_ok_ok now x_at wheel y4 e3 (sel [0, 1]) (sel_inj rfl rfl)) (a_ (Eq.refl (.vw [.int .u32 now, .map 1] true [.int .u8, .int .u8, .int .u32, .int .u32] 64 (fun q_ => (wheel q_).map (encM v_T_clock_Name (LV.int .u32))) [] : LO)) (a_ (LO.Le.refl (.map true [.int .u8, .int .u8, .int .u32, .int .u32] (encM v_T_clock_Name (LV.int .u32) x_at))) tr))) tr) (r2_ tr))) (a_ (r2_ (f_ c5 tr)) (a_ (r4_ (a_ (a_ (lt_ 0 2 rfl) tr) (r2_ (f_ c6 tr)))) (a_ (r2_ (f_ c7 (t2_ (t4_ (r2_ tr))))) (a_ (r1_ (m_ 4 4 rfl (a_ (a_ (a_ (clock_Clock_Stop_ok now x_at wheel x_n y9 e8 (sel [0, 1]) (sel_inj rfl rfl)) (a_ (Eq.refl (.vw [.int .u32 now, .map 1] true [.int .u8, .int .u8, .int .u32, .int .u32] 64 (fun q_ => (wheel q_).map (encM v_T_clock_Name (LV.int .u32))) [] : LO)) (a_ (LO.Le.refl (.map true [.int .u8, .int .u8, .int .u32, .int .u32] (encM v_T_clock_Name (LV.int .u32) x_at))) tr))) tr) tr))) (a_ (r1_ (r2_ (a_ (a_ (lt_ 0 2 rfl) tr) (r1_ (r2_ tr))))) (a_ (a_ tr (a_ (sub_begin true [.int .u8, .int .u8, .int .u32, .int .u32] (encM v_T_clock_Name (LV.int .u32) y9.2.2.2) (v_T_clock_Name x_n) (.int .u32 0)) tr)) (a_ (a_ (vwlt (n := 64) g10) (vwget (f := encM v_T_clock_Name (LV.int .u32)) e12)) (a_ (a_ (r1_ (r2_ (a_ (a_ (lt_ 1 2 rfl) tr) (m_ 4 4 rfl (r2_ (a_ (a_ (a_ (clock_Clock_slot_ok (Int.tmod (IntKind.wrap .u32 (y9.2.1 + after)) 64) y11 (IntKind.wrap .u32 (y9.2.1 + after)) y14 e13 (sel [0, 3]) (sel_inj rfl rfl)) (a_ (le_vwr (cs := [.int .u32 y9.2.1, .map 1]) (ds := [.any, .any]) (ag := true) (ks := [.int .u8, .int .u8, .int .u32, .int .u32]) (n := 64) (W := (fun q_ => (y9.2.2.1 q_).map (encM v_T_clock_Name (LV.int .u32)))) (opn := [(((Int.tmod (IntKind.wrap .u32 (y9.2.1 + after)) 64)).toNat, 3)]) (a_ (le_any (.int .u32 y9.2.1)) (a_ (le_any (.map 1)) tr))) (a_ (le_mapR (ag := true) (ks := [.int .u8, .int .u8, .int .u32, .int .u32]) (es := encM v_T_clock_Name (LV.int .u32) y11)) tr))) tr) (m_ 4 4 rfl (r2_ (a_ (a_ (a_ (Eq.refl true) (a_ (Eq.refl true) (a_ (eqk_self v_T_clock_Name k_T_clock_Name x_n) (a_ (Eq.refl (v_T_clock_Name x_n)) (Eq.refl (.int .u32 0 : LV)))))) tr) (r1_ (a_ (a_ (a_ (Eq.refl true) (eqk_self v_T_clock_Name k_T_clock_Name x_n)) (a_ (sub_upd v_T_clock_Name (LV.int .u32) k_T_clock_Name true [.int .u8, .int .u8, .int .u32, .int .u32] y9.2.2.2 x_n (IntKind.wrap .u32 (y9.2.1 + after))) tr)) (a_ (a_ (a_ (Eq.refl true) (Eq.refl true)) (a_ (sub_upd v_T_clock_Name (LV.int .u32) k_T_clock_Name true [.int .u8, .int .u8, .int .u32, .int .u32] y11 x_n (IntKind.wrap .u32 (y9.2.1 + after))) tr)) tr)))))))))))) (sub_begun true [.int .u8, .int .u8, .int .u32, .int .u32] (encM v_T_clock_Name (LV.int .u32) y9.2.2.2) (v_T_clock_Name x_n) (.int .u32 0 : LV) 4)) (a_ (a_ (vwlt (n := 64) g10) (a_ (Eq.refl true) (a_ (Eq.refl ([.int .u8, .int .u8, .int .u32, .int .u32] : List CK)) (show 0 ≠ 3 from by decide)))) (a_ (fun (q_ : Nat) (_ : q_ < 64) => vwput (encM v_T_clock_Name (LV.int .u32)) y9.2.2.1 ((Int.tmod (IntKind.wrap .u32 (y9.2.1 + after)) 64)).toNat (mset y11 x_n (IntKind.wrap .u32 (y9.2.1 + after))) q_) (a_ (r1_ tr) tr)))))))))))))) tr) (by kernel_rfl) rfl

/-- (*parrel/clock.Clock).Len -/

def clock_Clock_Len_v (r : (Int)) : LV := .int .i64 r

def clock_Clock_Len_up (now : Int) (x_at : List (T_clock_Name × Int)) (wheel : Nat → Option (List (T_clock_Name × Int))) (r : (Int)) : Upd := [(0, some (.vw [.int .u32 now, .map 1] true [.int .u8, .int .u8, .int .u32, .int .u32] 64 (fun q_ => (wheel q_).map (encM v_T_clock_Name (LV.int .u32))) [])), (1, some (.map true [.int .u8, .int .u8, .int .u32, .int .u32] (encM v_T_clock_Name (LV.int .u32) x_at)))]

def clock_Clock_Len_objs (now : Int) (x_at : List (T_clock_Name × Int)) (wheel : Nat → Option (List (T_clock_Name × Int))) : List LO := [.vw [.int .u32 now, .map 1] true [.int .u8, .int .u8, .int .u32, .int .u32] 64 (fun q_ => (wheel q_).map (encM v_T_clock_Name (LV.int .u32))) [], .map true [.int .u8, .int .u8, .int .u32, .int .u32] (encM v_T_clock_Name (LV.int .u32) x_at)]

def clock_Clock_Len (now : Int) (x_at : List (T_clock_Name × Int)) (wheel : Nat → Option (List (T_clock_Name × Int))) : Option ((Int)) :=
  (clock_Clock_ok now x_at wheel).bind fun y2 =>
  some ((x_at).length : Int)

theorem clock_Clock_Len_ok (now : Int) (x_at : List (T_clock_Name × Int)) (wheel : Nat → Option (List (T_clock_Name × Int))) (r : (Int)) (h : clock_Clock_Len now x_at wheel = some r) : ∀ σ, Inj 2 σ → FnTri Try.prog 13 (renL σ [.ptr 0 0 0]) (preOf σ 0 (clock_Clock_Len_objs now x_at wheel)) ((clock_Clock_Len_v r).ren σ) (upOf σ (clock_Clock_Len_up now x_at wheel r)) := by
  refine fn_of Try.func13 (by kernel_rfl) (by kernel_rfl) (by kernel_rfl) ⟨⟨rfl, under_no⟩, trivial, trivial⟩ (by kernel_rfl) ⟨⟨rfl, under_no⟩, trivial, trivial⟩ (by kernel_rfl) ?_
  intro w0 W μ0 hμ
  unfold clock_Clock_Len at h
  obtain ⟨y2, e1, h⟩ := bind_some h
  obtain rfl := Option.some.inj h
  exact run_ret mixed (L := []) (n := 21) (s := [.reg [], .reg [(1, { call := some ((clock_Clock_ok_v y2).ren (sel [0, 1]), preOf (sel [0, 1]) 0 (clock_Clock_ok_objs now x_at wheel), upOf (sel [0, 1]) (clock_Clock_ok_up now x_at wheel y2)) })], .reg [(4, { v := some (.int .i64 ((x_at).length : Int)) })]])
    (a_ (a_ (r1_ tr) (a_ (r1_ (a_ (a_ (a_ (clock_Clock_ok_ok now x_at wheel y2 e1 (sel [0, 1]) (sel_inj rfl rfl)) (a_ (Eq.refl (.vw [.int .u32 now, .map 1] true [.int .u8, .int .u8, .int .u32, .int .u32] 64 (fun q_ => (wheel q_).map (encM v_T_clock_Name (LV.int .u32))) [] : LO)) (a_ (LO.Le.refl (.map true [.int .u8, .int .u8, .int .u32, .int .u32] (encM v_T_clock_Name (LV.int .u32) x_at))) tr))) tr) (r1_ tr))) (a_ (r1_ (r2_ (a_ (a_ (lt_ 1 2 rfl) tr) (a_ (a_ tr (a_ (le_maplen v_T_clock_Name (LV.int .u32) x_at) tr)) (r1_ tr))))) tr))) tr) (by kernel_rfl) rfl

/-- parrel/bits.Next -/

def bits_Next_v (r : (Int) × (Int)) : LV := .tup [.int .u32 r.1, .int .i64 r.2]

def bits_Next (x_n : Int) : Option ((Int) × (Int)) :=
  if ((decide (2147483647 ≤ x_n)) : Bool) then
    some (x_n, 17)
  else
    some ((IntKind.wrap .u32 (x_n + 1)), 0)

theorem bits_Next_ok (x_n : Int) (r : (Int) × (Int)) (h : bits_Next x_n = some r) : ∀ σ, Inj 0 σ → FnTri Try.prog 27 (renL σ [.int .u32 x_n]) (preOf σ 0 []) ((bits_Next_v r).ren σ) (upOf σ []) := by
  refine fn_of Try.func27 (by kernel_rfl) (by kernel_rfl) (by kernel_rfl) trivial (by kernel_rfl) trivial (by kernel_rfl) ?_
  intro w0 W μ0 hμ
  unfold bits_Next at h
  rcases itb_some h with ⟨c1, h⟩ | ⟨c1, h⟩
  · skip
    obtain rfl := Option.some.inj h
    exact run_ret mixed (L := []) (n := 20) (s := [.reg [], .reg [(1, hT)], .reg []])
      (a_ (a_ (r2_ tr) (a_ (r1_ (f_ c1 tr)) (a_ (r1_ (r2_ tr)) tr))) tr) (by kernel_rfl) rfl
  · skip
    obtain rfl := Option.some.inj h
    exact run_ret mixed (L := []) (n := 21) (s := [.reg [], .reg [(1, hF)], .reg []])
      (a_ (a_ (r2_ tr) (a_ (r1_ (f_ c1 tr)) (a_ (r4_ tr) tr))) tr) (by kernel_rfl) rfl

theorem bits_Next_tri (x_n : Int) (r : (Int) × (Int)) (h : bits_Next x_n = some r) : FnTri Try.prog 27 [.int .u32 x_n] [] (bits_Next_v r) [] := FnTri.none (bits_Next_ok x_n r h) rfl rfl

/-! Keys of a map, sorted: PRE -/
def so33_kc (x : (T_clock_Name)) : List Value := [.int .u8 x.f_Kind, .int .u8 x.f_Tx.f_Node, .int .u32 x.f_Tx.f_Boot, .int .u32 x.f_Tx.f_Num]
def so33_kv (x : (T_clock_Name)) : Value := .agg #[.int .u8 x.f_Kind, .int .u8 x.f_Tx.f_Node, .int .u32 x.f_Tx.f_Boot, .int .u32 x.f_Tx.f_Num]
def so33_kd (v : Value) : (T_clock_Name) :=
  match v with
  | .agg cs => match cs.toList with
    | [.int _ a0, .int _ a1, .int _ a2, .int _ a3] => (T_clock_Name.mk a0 (T_api_Tx.mk a1 a2 a3))
    | _ => default
  | _ => default
theorem so33_kdv (x : (T_clock_Name)) : so33_kd (so33_kv x) = x := rfl
theorem so33_len (x : (T_clock_Name)) : (so33_kc x).length = 4 := rfl
theorem so33_one (x : (T_clock_Name)) : ∀ v ∈ so33_kc x, v.oneCell' = true := by
  intro u hu
  simp only [so33_kc, List.mem_cons, List.not_mem_nil, or_false] at hu
  rcases hu with rfl | rfl | rfl | rfl <;> rfl
theorem so33_enc (φ : Fro) (x : (T_clock_Name)) : RelFL φ (c_T_clock_Name x) (so33_kc x) := ⟨_, _, rfl, rfl, ⟨_, _, rfl, rfl, ⟨_, _, rfl, rfl, ⟨_, _, rfl, rfl, rfl⟩⟩⟩⟩
theorem so33_det (φ : Fro) (x : (T_clock_Name)) (v : Value) (h : RelF φ (.agg (c_T_clock_Name x)) v) : v = so33_kv x := by
  obtain ⟨vs, rfl, h⟩ := h
  have key : ∀ (l : List Value), RelFL φ (c_T_clock_Name x) l → l = so33_kc x := by
    intro l h
    obtain ⟨r0, e0, h0⟩ := det_int h
    obtain ⟨r1, e1, h1⟩ := det_int h0
    obtain ⟨r2, e2, h2⟩ := det_int h1
    obtain ⟨r3, e3, h3⟩ := det_int h2
    have e : _ = [] := h3
    subst e
    subst_vars
    rfl
  have := key _ h
  rw [← Array.toArray_toList (xs := vs), this]
  rfl

theorem so33_info : ∃ i, Try.prog.info? 38 = some i ∧ i.zero = some (.agg #[.int .u8 0, .int .u8 0, .int .u32 0, .int .u32 0]) ∧ i.size = 4 ∧ i.bytes = 16 := by
  have h : (Try.prog.info? 38).map (fun i => (i.zero, i.size, i.bytes)) = some (some (.agg #[.int .u8 0, .int .u8 0, .int .u32 0, .int .u32 0]), 4, 16) := by kernel_rfl
  obtain ⟨i, h1, h2⟩ := Option.map_eq_some_iff.1 h
  exact ⟨i, h1, congrArg (·.1) h2, congrArg (·.2.1) h2, congrArg (·.2.2) h2⟩

/-- Between two rounds: the box holds what has come so far. -/
def so33_ApI (w : World) (pre : List (T_clock_Name)) (W : World) : Prop :=
  (∃ v, Boxed W w.heap.size 33 v ∧ W.ownsRow w.heap.size 38 4 v pre.length (pre.flatMap so33_kc) ∧ (v = .slice none 0 0 ↔ pre = [])) ∧ Below w.heap.size w W ∧ w.drawn ≤ W.drawn
theorem so33_ApI.own (w : World) (B : Nat) (hB : w.heap.size ≤ B) : OwnD B (so33_ApI w) :=
  OwnD.and (OwnFrom.d ((holdsRow_own w.heap.size w.heap.size 33 38 4 (fun (pre : List (T_clock_Name)) => pre.length) (fun pre => pre.flatMap so33_kc) (fun pre v => v = .slice none 0 0 ↔ pre = [])).from B)) (OwnD.and (OwnFrom.d (ownFrom_below (Nat.le_refl _) hB)) (ownD_drawn B _))

theorem so33_appendSeq (n : Nat) (hn : 2 ≤ n) (g : Nat) (lb : Array Value) (eg : ∀ args w, (callFunc g args).run Try.prog w = .ok (.enter g args) w) (S : List (T_clock_Name) → Prop) (N : Nat) (hN : N ≤ maxLen) (hNb : N * 16 ≤ 140737488355328)
    (w : World) (hseq : SeqD Fence.wide (n - 1) Try.prog g lb so33_kv S N w) :
    CallsIn Fence.wide n Try.prog 59 #[.slice none 0 0, .func (.func g) #[] lb] w fun e w' => ∃ (v : Value) (ss : List (T_clock_Name)), e = .returned v ∧ S ss ∧ w'.ownsRow w.heap.size 38 4 v ss.length (ss.flatMap so33_kc) ∧ (v = .slice none 0 0 ↔ ss = []) ∧ Below w.heap.size w w' ∧ w.drawn ≤ w'.drawn := by
  have h1 : 1 ≤ n := by omega
  refine callsIn_of_wp_marks Try.func59 rfl trivial ?_ rfl
  simp only [Try.ntmps59, List.size_toArray, List.length_cons, List.length_nil, Nat.reduceAdd, Nat.reduceSub, Array.replicate_succ, Array.replicate_zero, List.push_toArray, List.append_toArray, List.nil_append, List.cons_append]
  gi_wp2
  obtain ⟨W0, hW0⟩ : ∃ W0, w.alloc (.cells #[.slice none 0 0] 33) = W0 := ⟨_, rfl⟩
  have hs0 : W0.heap.size = w.heap.size + 1 := by rw [← hW0]; simp
  have hB0 : Boxed W0 w.heap.size 33 (.slice none 0 0) := by rw [← hW0]; exact Boxed.new w _ _
  have hb0 : Below w.heap.size w W0 := by rw [← hW0]; exact (Below.refl _ w).alloc (Nat.le_refl _) _
  rw [hW0]
  refine rangeFunc_box rfl h1 (gf := g) (lb := lb) rfl trivial eg hseq hb0 rfl (so33_ApI w) (so33_ApI.own w _ (by omega)) ⟨⟨_, hB0, World.ownsRow_nil _ _ _ _, by simp⟩, hb0, by rw [← hW0]; exact Nat.le_refl _⟩
    (fun pre x a1 W => so33_ApI w pre W ∧ ∃ bx, W.heap[bx]? = some (.cells #[.int .u8 x.f_Kind, .int .u8 x.f_Tx.f_Node, .int .u32 x.f_Tx.f_Boot, .int .u32 x.f_Tx.f_Num] 38 (0, 0)) ∧
      a1 = { tmps := #[.slice none 0 0, .func (.func g) #[] lb, .pointer (some ⟨w.heap.size, 0, none⟩), undef, .slice none 0 0, .pointer (some ⟨bx, 0, none⟩), .func (.func g) #[] lb, so33_kv x, undef, undef, undef, undef, undef], defers := [] })
    (fun x a1 => OwnD.and (so33_ApI.own w _ (by omega)) (fun s X Y row hs hg _ hr => by
      obtain ⟨bx, hx, e⟩ := hs
      exact ⟨bx, (grownBy_keeps_cells hg (fun r e => (hr r e).2) hx rfl).trans hx, e⟩)) ?assign ?body ?done
  case assign =>
    intro l pre x W hI hlen
    unfold so33_kv
    gi_wp2_with (rw [Oper.semAt_eq _ _ _ (fun c h => by cases h)]; go_simp; try go_bits)
    exact ⟨⟨(so33_ApI.own w w.heap.size (Nat.le_refl _)).alloc _ hI, W.heap.size, World.alloc_heap_new W _, rfl⟩, KeepsOthers.alloc _ _⟩
  case body =>
    rintro l pre x a1 W ⟨⟨⟨v, hv, hrow, hnil⟩, hB, hD0⟩, bx, hbx, rfl⟩ hlen
    obtain ⟨i0, hi, hz0, hz1, hz2⟩ := so33_info
    have hc := hv.cell
    have hf := hv.frozen
    have hx0 : W.cell? ⟨bx, 0, none⟩ = some (.int .u8 x.f_Kind) := by simp [World.cell?, hbx]
    have hx1 : W.cell? ⟨bx, 1, none⟩ = some (.int .u8 x.f_Tx.f_Node) := by simp [World.cell?, hbx]
    have hx2 : W.cell? ⟨bx, 2, none⟩ = some (.int .u32 x.f_Tx.f_Boot) := by simp [World.cell?, hbx]
    have hx3 : W.cell? ⟨bx, 3, none⟩ = some (.int .u32 x.f_Tx.f_Num) := by simp [World.cell?, hbx]
    have hbs := hB.size
    unfold so33_kv
    gi_wp2_with (first
      | (gi_at_builtin; refine wpListIn_append_d _ rfl _ _ 33 rfl w.heap.size 38 i0 _ 4 16 Try.underlying33 hi hz0 hz1 hz2 rfl (by decide) _ _ _ rfl (hrow.alloc _) ⟨W.heap.size, 0, none⟩ 1 1 (so33_kc x) rfl rfl ?_ ?_ (by omega) (by omega) (by simp; omega) ?_)
      | (rw [Oper.semAt_eq _ _ _ (fun c h => by cases h)]; go_simp; try go_bits))
    · exact fun j u hj => cell_new W (so33_kc x) 38 j u hj
    · intro u hu
      simp only [so33_kc, List.mem_cons, List.not_mem_nil, or_false] at hu
      rcases hu with rfl | rfl | rfl | rfl <;> rfl
    · intro v' w3 hown' hg3 hd3 hnil3
      obtain ⟨hv3, hv4, hrow4, hko, hbe⟩ := hv.appended (by decide) hrow hbs (Nat.le_refl _) hown' hg3
      have hc3 := hv3.cell
      have hf3 := hv3.frozen
      obtain ⟨g', cap', hv'⟩ := ownsRow_succ hown'
      subst hv'
      gi_wp2_with (rw [Oper.semAt_eq _ _ _ (fun c h => by cases h)]; go_simp; try go_bits)
      refine ⟨⟨_, hv4, ?_, by simp⟩, hB.trans hbe, Nat.le_trans hD0 hd3⟩
      rw [List.length_append, List.flatMap_append]
      simpa using hrow4
  case done =>
    rintro D ss W hD hS ⟨⟨v, hv, hrow, hnil⟩, hB, hD0⟩ hK
    have hc := hv.cell
    have hf := hv.frozen
    gi_wp2
    refine ⟨by simp, .inl ⟨_, _, rfl, run_takeDeferred hK, ?_⟩⟩
    exact ⟨_, results_tmp rfl _ _ _, v, ss, rfl, hS, ownsRow_putObj hrow _ hK rfl, hnil, hB.grown (grownBy_putObj' _ _ _) hB.size (fun k e => by cases e; omega), hD0⟩

theorem so33_collect (n : Nat) (hn : 3 ≤ n) (g : Nat) (lb : Array Value) (eg : ∀ args w, (callFunc g args).run Try.prog w = .ok (.enter g args) w) (S : List (T_clock_Name) → Prop) (N : Nat) (hN : N ≤ maxLen) (hNb : N * 16 ≤ 140737488355328)
    (w : World) (hseq : SeqD Fence.wide (n - 1 - 1) Try.prog g lb so33_kv S N w) :
    CallsIn Fence.wide n Try.prog 43 #[.func (.func g) #[] lb] w fun e w' => ∃ (v : Value) (ss : List (T_clock_Name)), e = .returned v ∧ S ss ∧ w'.ownsRow w.heap.size 38 4 v ss.length (ss.flatMap so33_kc) ∧ (v = .slice none 0 0 ↔ ss = []) ∧ Below w.heap.size w w' ∧ w.drawn ≤ w'.drawn := by
  have h1 : 1 ≤ n := by omega
  have F78 : Fence.wide.fn 59 := trivial
  refine callsIn_of_wp Try.func43 rfl trivial ?_ rfl
  simp only [Try.ntmps43, List.size_toArray, List.length_cons, List.length_nil, Nat.reduceAdd, Nat.reduceSub, Array.replicate_succ, Array.replicate_zero, List.push_toArray, List.append_toArray, List.nil_append, List.cons_append]
  gi_wp2_with (gi_at_call 59; refine (so33_appendSeq (n - 1) (by omega) g lb eg S N hN hNb _ hseq).mono ?_; rintro e w' ⟨v, ss, rfl, hS, hrow, hnil, hb⟩)
  go_ret
  exact ⟨v, ss, rfl, hS, hrow, hnil, hb⟩

def so33_lay_ren : Go.Shelf.Ren := ⟨fun | 6 => 29 | 15 => 39 | 14 => 38 | 28 => 54 | 29 => 55 | 20 => 46 | 21 => 47 | 22 => 48 | 23 => 49 | 24 => 50 | 25 => 51 | 26 => 52 | 27 => 53 | 46 => 60 | 47 => 61 | 48 => 62 | 49 => 63 | 50 => 64 | 57 => 65 | n => n, fun | 22 => 33 | 24 => 38 | 25 => 76 | 3 => 3 | 39 => 90 | 0 => 0 | 53 => 23 | 55 => 106 | 4 => 4 | 46 => 98 | 45 => 97 | 50 => 102 | 5 => 5 | 9 => 9 | 66 => 112 | 70 => 116 | 76 => 118 | 77 => 119 | n => n, fun | n => n⟩
theorem so33_lay : Go.Proofs.SlLaysF0.n6 Try.prog so33_lay_ren where
  mixed := by kernel_rfl
  f6 := ⟨Try.f29.name, by decide, Try.func29.trans (congrArg some (by kernel_rfl))⟩
  f14 := ⟨Try.f38.name, by decide, Try.func38.trans (congrArg some (by kernel_rfl))⟩
  f15 := Try.func39.trans (congrArg some (by kernel_rfl))
  f20 := ⟨Try.f46.name, by decide, Try.func46.trans (congrArg some (by kernel_rfl))⟩
  f21 := ⟨Try.f47.name, by decide, Try.func47.trans (congrArg some (by kernel_rfl))⟩
  f22 := ⟨Try.f48.name, by decide, Try.func48.trans (congrArg some (by kernel_rfl))⟩
  f23 := ⟨Try.f49.name, by decide, Try.func49.trans (congrArg some (by kernel_rfl))⟩
  f24 := ⟨Try.f50.name, by decide, Try.func50.trans (congrArg some (by kernel_rfl))⟩
  f25 := ⟨Try.f51.name, by decide, Try.func51.trans (congrArg some (by kernel_rfl))⟩
  f26 := ⟨Try.f52.name, by decide, Try.func52.trans (congrArg some (by kernel_rfl))⟩
  f27 := ⟨Try.f53.name, by decide, Try.func53.trans (congrArg some (by kernel_rfl))⟩
  f28 := Try.func54.trans (congrArg some (by kernel_rfl))
  f29 := Try.func55.trans (congrArg some (by kernel_rfl))
  f46 := ⟨Try.f60.name, by decide, Try.func60.trans (congrArg some (by kernel_rfl))⟩
  f47 := Try.func61.trans (congrArg some (by kernel_rfl))
  f48 := Try.func62.trans (congrArg some (by kernel_rfl))
  f49 := ⟨Try.f63.name, by decide, Try.func63.trans (congrArg some (by kernel_rfl))⟩
  f50 := ⟨Try.f64.name, by decide, Try.func64.trans (congrArg some (by kernel_rfl))⟩
  f57 := ⟨Try.f65.name, by decide, Try.func65.trans (congrArg some (by kernel_rfl))⟩
  t0 := Try.underlying0
  a0 := Try.isAgg0
  z0 := Try.sizeOf0
  v0 := Try.zeroValue0
  t3 := Try.underlying3
  a3 := Try.isAgg3
  z3 := Try.sizeOf3
  v3 := Try.zeroValue3
  t4 := Try.underlying4
  a4 := Try.isAgg4
  z4 := Try.sizeOf4
  v4 := Try.zeroValue4
  t5 := Try.underlying5
  a5 := Try.isAgg5
  z5 := Try.sizeOf5
  v5 := Try.zeroValue5
  t9 := Try.underlying9
  a9 := Try.isAgg9
  z9 := Try.sizeOf9
  v9 := Try.zeroValue9
  t22 := Try.underlying33
  a22 := Try.isAgg33
  z22 := Try.sizeOf33
  v22 := Try.zeroValue33
  t25 := Try.underlying76
  a25 := Try.isAgg76
  z25 := Try.sizeOf76
  v25 := Try.zeroValue76
  t39 := Try.underlying90
  a39 := Try.isAgg90
  z39 := Try.sizeOf90
  v39 := Try.zeroValue90
  t45 := Try.underlying97
  a45 := Try.isAgg97
  z45 := Try.sizeOf97
  v45 := Try.zeroValue97
  t46 := Try.underlying98
  a46 := Try.isAgg98
  z46 := Try.sizeOf98
  v46 := Try.zeroValue98
  t50 := Try.underlying102
  a50 := Try.isAgg102
  z50 := Try.sizeOf102
  v50 := Try.zeroValue102
  t53 := Try.underlying23
  a53 := Try.isAgg23
  z53 := Try.sizeOf23
  v53 := Try.zeroValue23
  t55 := Try.underlying106
  a55 := Try.isAgg106
  z55 := Try.sizeOf106
  v55 := Try.zeroValue106
  t66 := Try.underlying112
  a66 := Try.isAgg112
  z66 := Try.sizeOf112
  v66 := Try.zeroValue112
  t70 := Try.underlying116
  a70 := Try.isAgg116
  z70 := Try.sizeOf116
  v70 := Try.zeroValue116
  t76 := Try.underlying118
  a76 := Try.isAgg118
  z76 := Try.sizeOf118
  v76 := Try.zeroValue118
  t77 := Try.underlying119
  a77 := Try.isAgg119
  z77 := Try.sizeOf119
  v77 := Try.zeroValue119

theorem so33_sortedF (k1 g : Nat) (lb lbg : Array Value) (e1 : ∀ args w, (callFunc k1 args).run Try.prog w = .ok (.enter k1 args) w) (eg : ∀ args w, (callFunc g args).run Try.prog w = .ok (.enter g args) w)
    (cf : (T_clock_Name) → (T_clock_Name) → Int) (hT : TotCmp cf)
    (ks : List (T_clock_Name)) (hN : ks.length ≤ maxLen) (hNb : ks.length * 16 ≤ 140737488355328) (w : World) (hcmp : ∀ w1 blk off size, Below w.heap.size w w1 → w.heap.size ≤ blk → Go.Proofs.CmpLays Try.prog g lbg so33_kc 4 cf blk off size w1) (hseq : SeqD Fence.wide 8 Try.prog k1 lb so33_kv (fun xs => xs.Perm ks) ks.length w) :
    Calls Try.prog 33 #[.func (.func k1) #[] lb, .func (.func g) #[] lbg] w fun e w' => ∃ v, e = .returned v ∧ Below w.heap.size w w' ∧ w.drawn ≤ w'.drawn ∧ SortedAt so33_kc 4 w w' v (sortL cf ks) := by
  have hc : Calls Try.prog 43 #[.func (.func k1) #[] lb] w _ := callsIn_wide.1 (so33_collect 10 (by omega) k1 lb e1 _ ks.length hN hNb w hseq)
  have hsort : ∀ (w1 : World) (v : Value) (ss : List (T_clock_Name)), ss.Perm ks → w1.ownsRow w.heap.size 38 4 v ss.length (ss.flatMap so33_kc) → (v = .slice none 0 0 ↔ ss = []) → Below w.heap.size w w1 →
      Calls Try.prog 29 #[v, .func (.func g) #[] lbg] w1 fun e w' => e = .returned (.tuple #[]) ∧ Below w.heap.size w1 w' ∧ w1.drawn ≤ w'.drawn ∧ SortedAt so33_kc 4 w w' v (sortL cf ks) := by
    intro w1 v ss hS hrow hnil hb
    by_cases hss : ss = []
    · subst hss
      rw [hnil.2 rfl]
      have hks : ks = [] := List.length_eq_zero_iff.1 (by rw [← hS.length_eq]; rfl)
      have h := Go.Proofs.AnyF.slices_SortFunc_none so33_lay none 0 (.func (.func g) #[] lbg) w1
      change Calls Try.prog 29 _ _ _ at h
      refine h.mono ?_
      rintro e w' ⟨rfl, rfl⟩
      exact ⟨rfl, Below.refl _ _, Nat.le_refl _, .inl ⟨rfl, by subst hks; exact List.eq_nil_of_length_eq_zero (sortL_len cf [])⟩⟩
    · obtain ⟨m, hm⟩ : ∃ m, ss.length = m + 1 := ⟨ss.length - 1, by have := List.length_pos_iff.2 hss; omega⟩
      obtain ⟨blk, cap, hv⟩ := ownsRow_succ (by rw [hm] at hrow; exact hrow)
      rw [← hm] at hv
      subst hv
      obtain ⟨h1, h2, h3, h4, _⟩ := holds_of_owns so33_len hrow
      have hsz : ss.toArray.size < 4611686018427387904 := by
        have := hS.length_eq
        simp only [List.size_toArray]
        omega
      have h := Go.Proofs.AnyQ.slices_SortFunc_total so33_lay 4 Try.isAgg38 Try.sizeOf38 so33_kc so33_len so33_one cf hT.swo g lbg blk 0 cap ss.toArray w1 eg (hcmp w1 blk 0 _ hb h2) h1 h3 hsz hT.tot
      change Calls Try.prog 29 _ _ _ at h
      rw [List.size_toArray] at h
      refine h.mono ?_
      rintro e w' ⟨rfl, n, os, rfl⟩
      have hbs := below_sort so33_kc 4 w1 blk 0 n (sortL cf ss).toArray os w.heap.size h2 hb.size
      refine ⟨rfl, hbs.1, hbs.2, ?_⟩
      rw [← sortL_of_perm hT hS]
      exact sortedAt_of so33_len (by decide) (Nat.le_refl _) hrow (sortL_len cf ss) hss rfl
  clear hseq hcmp
  go_enter Try.func33, Try.ntmps33
  go_wp2_with (first
    | (go_at_call 43; refine hc.mono ?_; rintro e w1 ⟨v, ss, rfl, hS, hrow, hnil, hb, hd⟩)
    | (go_at_call 29; refine (hsort w1 v ss hS hrow hnil hb).mono ?_; rintro e w2 ⟨rfl, hb2, hd2, hs2⟩))
  go_ret
  exact ⟨v, rfl, hb.trans hb2, Nat.le_trans hd hd2, hs2⟩

theorem so33_detL (μ : Emb) (x : (T_clock_Name)) (l : List Value) (h : RelL μ (c_T_clock_Name x) l) : l = so33_kc x := by
    obtain ⟨r0, e0, h0⟩ := det_intL h
    obtain ⟨r1, e1, h1⟩ := det_intL h0
    obtain ⟨r2, e2, h2⟩ := det_intL h1
    obtain ⟨r3, e3, h3⟩ := det_intL h2
    have e : _ = [] := h3
    subst e
    subst_vars
    rfl
theorem so33_sortG (g : FuncId) (cmp : (T_clock_Name) → (T_clock_Name) → Option Int) (r : List (T_clock_Name)) (caps : List LV) (pre : Pre) (hcmp : ∀ x y r, cmp x y = some r → FnTri Try.prog g (v_T_clock_Name x :: v_T_clock_Name y :: caps) pre (.int .i64 r) []) (c : Nat) (hc : ∀ o, (c, o) ∉ pre) (l : List (T_clock_Name)) (h : sortO cmp 16 l = some r) :
    FnTri Try.prog 29 [.gs c l.length, .fn g [] caps] ((c, .gr 4 l.length (rowF c_T_clock_Name default l)) :: pre) (.tup []) [(c, some (.gr 4 r.length (rowF c_T_clock_Name default r)))] := by
  obtain ⟨cf, hT, hcf, hL1, hL2, rfl⟩ := sortO_some h
  have eg := enters_tri (hcmp default default _ (hcf default default)).1
  refine sortG_tri (ek := v_T_clock_Name) hT ⟨_, Try.func29, by kernel_rfl, by kernel_rfl⟩ (fun q cap fv w => ?_) (fun cb blk off cap d w hcl hH hb hs => ?_) so33_enc so33_len so33_one so33_detL (fun μ x => ⟨_, rfl, RelFL.rel (so33_enc μ.fro x)⟩) (fun x y => hcmp x y _ (hcf x y)) c hc l (by omega)
  · exact Go.Proofs.AnyF.slices_SortFunc_none so33_lay q cap fv w
  · exact Go.Proofs.AnyQ.slices_SortFunc_total so33_lay 4 Try.isAgg38 Try.sizeOf38 so33_kc so33_len so33_one cf hT.swo g cb blk off cap d w eg hcl hH hb hs hT.tot

/-- cmp.isNaN[uint8] -/

def cmp_isNaN_uint8_v (r : (Bool)) : LV := .bool r

def cmp_isNaN_uint8 (x : Int) : Option ((Bool)) :=
  some (x != x)

theorem cmp_isNaN_uint8_ok (x : Int) (r : (Bool)) (h : cmp_isNaN_uint8 x = some r) : ∀ σ, Inj 0 σ → FnTri Try.prog 56 (renL σ [.int .u8 x]) (preOf σ 0 []) ((cmp_isNaN_uint8_v r).ren σ) (upOf σ []) := by
  refine fn_of Try.func56 (by kernel_rfl) (by kernel_rfl) (by kernel_rfl) trivial (by kernel_rfl) trivial (by kernel_rfl) ?_
  intro w0 W μ0 hμ
  unfold cmp_isNaN_uint8 at h
  obtain rfl := Option.some.inj h
  exact run_ret mixed (L := []) (n := 15) (s := [.reg [], .reg []])
    (a_ (a_ (r1_ tr) (a_ (r4_ tr) tr)) tr) (by kernel_rfl) rfl

theorem cmp_isNaN_uint8_tri (x : Int) (r : (Bool)) (h : cmp_isNaN_uint8 x = some r) : FnTri Try.prog 56 [.int .u8 x] [] (cmp_isNaN_uint8_v r) [] := FnTri.none (cmp_isNaN_uint8_ok x r h) rfl rfl

/-- cmp.Compare[uint8] -/

def cmp_Compare_uint8_v (r : (Int)) : LV := .int .i64 r

def cmp_Compare_uint8 (x : Int) (y : Int) : Option ((Int)) :=
  (cmp_isNaN_uint8 x).bind fun y2 =>
  (cmp_isNaN_uint8 y).bind fun y4 =>
  if (y2 : Bool) then
    if (y4 : Bool) then
      some 0
    else
      some (-1)
  else
    if (y4 : Bool) then
      some 1
    else
      if ((decide (x < y)) : Bool) then
        some (-1)
      else
        if ((decide (y < x)) : Bool) then
          some 1
        else
          some 0

theorem cmp_Compare_uint8_ok (x : Int) (y : Int) (r : (Int)) (h : cmp_Compare_uint8 x y = some r) : ∀ σ, Inj 0 σ → FnTri Try.prog 40 (renL σ [.int .u8 x, .int .u8 y]) (preOf σ 0 []) ((cmp_Compare_uint8_v r).ren σ) (upOf σ []) := by
  refine fn_of Try.func40 (by kernel_rfl) (by kernel_rfl) (by kernel_rfl) trivial (by kernel_rfl) trivial (by kernel_rfl) ?_
  intro w0 W μ0 hμ
  unfold cmp_Compare_uint8 at h
  obtain ⟨y2, e1, h⟩ := bind_some h
  obtain ⟨y4, e3, h⟩ := bind_some h
  rcases itb_some h with ⟨c5, h⟩ | ⟨c5, h⟩
  · skip
    rcases itb_some h with ⟨c6, h⟩ | ⟨c6, h⟩
    · skip
      obtain rfl := Option.some.inj h
      exact run_ret mixed (L := []) (n := 31) (s := [.reg [], .reg [(1, hC (cmp_isNaN_uint8_v y2))], .reg [(1, hC (cmp_isNaN_uint8_v y4))], .reg [(0, hT)], .reg [(0, hT)], .reg []])
        (a_ (a_ (r1_ tr) (a_ (r1_ (c_ (cmp_isNaN_uint8_tri x y2 e1) (r1_ tr))) (a_ (r1_ (c_ (cmp_isNaN_uint8_tri y y4 e3) (r1_ tr))) (a_ (f_ c5 tr) (a_ (f_ c6 tr) (a_ (r1_ tr) tr)))))) tr) (by kernel_rfl) rfl
    · skip
      obtain rfl := Option.some.inj h
      exact run_ret mixed (L := []) (n := 32) (s := [.reg [], .reg [(1, hC (cmp_isNaN_uint8_v y2))], .reg [(1, hC (cmp_isNaN_uint8_v y4))], .reg [(0, hT)], .reg [(0, hF)], .reg []])
        (a_ (a_ (r1_ tr) (a_ (r1_ (c_ (cmp_isNaN_uint8_tri x y2 e1) (r1_ tr))) (a_ (r1_ (c_ (cmp_isNaN_uint8_tri y y4 e3) (r1_ tr))) (a_ (f_ c5 tr) (a_ (f_ c6 tr) (a_ (r1_ tr) tr)))))) tr) (by kernel_rfl) rfl
  · skip
    rcases itb_some h with ⟨c6, h⟩ | ⟨c6, h⟩
    · skip
      obtain rfl := Option.some.inj h
      exact run_ret mixed (L := []) (n := 32) (s := [.reg [], .reg [(1, hC (cmp_isNaN_uint8_v y2))], .reg [(1, hC (cmp_isNaN_uint8_v y4))], .reg [(0, hF)], .reg [(0, hT)], .reg []])
        (a_ (a_ (r1_ tr) (a_ (r1_ (c_ (cmp_isNaN_uint8_tri x y2 e1) (r1_ tr))) (a_ (r1_ (c_ (cmp_isNaN_uint8_tri y y4 e3) (r1_ tr))) (a_ (f_ c5 tr) (a_ (f_ c6 tr) (a_ (r1_ tr) tr)))))) tr) (by kernel_rfl) rfl
    · skip
      rcases itb_some h with ⟨c7, h⟩ | ⟨c7, h⟩
      · skip
        obtain rfl := Option.some.inj h
        exact run_ret mixed (L := []) (n := 38) (s := [.reg [], .reg [(1, hC (cmp_isNaN_uint8_v y2))], .reg [(1, hC (cmp_isNaN_uint8_v y4))], .reg [(0, hF)], .reg [(0, hF)], .reg [(2, hT)], .reg []])
          (a_ (a_ (r1_ tr) (a_ (r1_ (c_ (cmp_isNaN_uint8_tri x y2 e1) (r1_ tr))) (a_ (r1_ (c_ (cmp_isNaN_uint8_tri y y4 e3) (r1_ tr))) (a_ (f_ c5 tr) (a_ (f_ c6 tr) (a_ (r2_ (f_ c7 tr)) (a_ (r1_ tr) tr))))))) tr) (by kernel_rfl) rfl
      · skip
        rcases itb_some h with ⟨c8, h⟩ | ⟨c8, h⟩
        · skip
          obtain rfl := Option.some.inj h
          exact run_ret mixed (L := []) (n := 44) (s := [.reg [], .reg [(1, hC (cmp_isNaN_uint8_v y2))], .reg [(1, hC (cmp_isNaN_uint8_v y4))], .reg [(0, hF)], .reg [(0, hF)], .reg [(2, hF)], .reg [(2, hT)], .reg []])
            (a_ (a_ (r1_ tr) (a_ (r1_ (c_ (cmp_isNaN_uint8_tri x y2 e1) (r1_ tr))) (a_ (r1_ (c_ (cmp_isNaN_uint8_tri y y4 e3) (r1_ tr))) (a_ (f_ c5 tr) (a_ (f_ c6 tr) (a_ (r2_ (f_ c7 tr)) (a_ (r2_ (f_ c8 tr)) (a_ (r1_ tr) tr)))))))) tr) (by kernel_rfl) rfl
        · skip
          obtain rfl := Option.some.inj h
          exact run_ret mixed (L := []) (n := 45) (s := [.reg [], .reg [(1, hC (cmp_isNaN_uint8_v y2))], .reg [(1, hC (cmp_isNaN_uint8_v y4))], .reg [(0, hF)], .reg [(0, hF)], .reg [(2, hF)], .reg [(2, hF)], .reg []])
            (a_ (a_ (r1_ tr) (a_ (r1_ (c_ (cmp_isNaN_uint8_tri x y2 e1) (r1_ tr))) (a_ (r1_ (c_ (cmp_isNaN_uint8_tri y y4 e3) (r1_ tr))) (a_ (f_ c5 tr) (a_ (f_ c6 tr) (a_ (r2_ (f_ c7 tr)) (a_ (r2_ (f_ c8 tr)) (a_ (r1_ tr) tr)))))))) tr) (by kernel_rfl) rfl

theorem cmp_Compare_uint8_tri (x : Int) (y : Int) (r : (Int)) (h : cmp_Compare_uint8 x y = some r) : FnTri Try.prog 40 [.int .u8 x, .int .u8 y] [] (cmp_Compare_uint8_v r) [] := FnTri.none (cmp_Compare_uint8_ok x y r h) rfl rfl

/-- cmp.isNaN[uint32] -/

def cmp_isNaN_uint32_v (r : (Bool)) : LV := .bool r

def cmp_isNaN_uint32 (x : Int) : Option ((Bool)) :=
  some (x != x)

theorem cmp_isNaN_uint32_ok (x : Int) (r : (Bool)) (h : cmp_isNaN_uint32 x = some r) : ∀ σ, Inj 0 σ → FnTri Try.prog 45 (renL σ [.int .u32 x]) (preOf σ 0 []) ((cmp_isNaN_uint32_v r).ren σ) (upOf σ []) := by
  refine fn_of Try.func45 (by kernel_rfl) (by kernel_rfl) (by kernel_rfl) trivial (by kernel_rfl) trivial (by kernel_rfl) ?_
  intro w0 W μ0 hμ
  unfold cmp_isNaN_uint32 at h
  obtain rfl := Option.some.inj h
  exact run_ret mixed (L := []) (n := 15) (s := [.reg [], .reg []])
    (a_ (a_ (r1_ tr) (a_ (r4_ tr) tr)) tr) (by kernel_rfl) rfl

theorem cmp_isNaN_uint32_tri (x : Int) (r : (Bool)) (h : cmp_isNaN_uint32 x = some r) : FnTri Try.prog 45 [.int .u32 x] [] (cmp_isNaN_uint32_v r) [] := FnTri.none (cmp_isNaN_uint32_ok x r h) rfl rfl

/-- cmp.Compare[uint32] -/

def cmp_Compare_uint32_v (r : (Int)) : LV := .int .i64 r

def cmp_Compare_uint32 (x : Int) (y : Int) : Option ((Int)) :=
  (cmp_isNaN_uint32 x).bind fun y2 =>
  (cmp_isNaN_uint32 y).bind fun y4 =>
  if (y2 : Bool) then
    if (y4 : Bool) then
      some 0
    else
      some (-1)
  else
    if (y4 : Bool) then
      some 1
    else
      if ((decide (x < y)) : Bool) then
        some (-1)
      else
        if ((decide (y < x)) : Bool) then
          some 1
        else
          some 0

theorem cmp_Compare_uint32_ok (x : Int) (y : Int) (r : (Int)) (h : cmp_Compare_uint32 x y = some r) : ∀ σ, Inj 0 σ → FnTri Try.prog 37 (renL σ [.int .u32 x, .int .u32 y]) (preOf σ 0 []) ((cmp_Compare_uint32_v r).ren σ) (upOf σ []) := by
  refine fn_of Try.func37 (by kernel_rfl) (by kernel_rfl) (by kernel_rfl) trivial (by kernel_rfl) trivial (by kernel_rfl) ?_
  intro w0 W μ0 hμ
  unfold cmp_Compare_uint32 at h
  obtain ⟨y2, e1, h⟩ := bind_some h
  obtain ⟨y4, e3, h⟩ := bind_some h
  rcases itb_some h with ⟨c5, h⟩ | ⟨c5, h⟩
  · skip
    rcases itb_some h with ⟨c6, h⟩ | ⟨c6, h⟩
    · skip
      obtain rfl := Option.some.inj h
      exact run_ret mixed (L := []) (n := 31) (s := [.reg [], .reg [(1, hC (cmp_isNaN_uint32_v y2))], .reg [(1, hC (cmp_isNaN_uint32_v y4))], .reg [(0, hT)], .reg [(0, hT)], .reg []])
        (a_ (a_ (r1_ tr) (a_ (r1_ (c_ (cmp_isNaN_uint32_tri x y2 e1) (r1_ tr))) (a_ (r1_ (c_ (cmp_isNaN_uint32_tri y y4 e3) (r1_ tr))) (a_ (f_ c5 tr) (a_ (f_ c6 tr) (a_ (r1_ tr) tr)))))) tr) (by kernel_rfl) rfl
    · skip
      obtain rfl := Option.some.inj h
      exact run_ret mixed (L := []) (n := 32) (s := [.reg [], .reg [(1, hC (cmp_isNaN_uint32_v y2))], .reg [(1, hC (cmp_isNaN_uint32_v y4))], .reg [(0, hT)], .reg [(0, hF)], .reg []])
        (a_ (a_ (r1_ tr) (a_ (r1_ (c_ (cmp_isNaN_uint32_tri x y2 e1) (r1_ tr))) (a_ (r1_ (c_ (cmp_isNaN_uint32_tri y y4 e3) (r1_ tr))) (a_ (f_ c5 tr) (a_ (f_ c6 tr) (a_ (r1_ tr) tr)))))) tr) (by kernel_rfl) rfl
  · skip
    rcases itb_some h with ⟨c6, h⟩ | ⟨c6, h⟩
    · skip
      obtain rfl := Option.some.inj h
      exact run_ret mixed (L := []) (n := 32) (s := [.reg [], .reg [(1, hC (cmp_isNaN_uint32_v y2))], .reg [(1, hC (cmp_isNaN_uint32_v y4))], .reg [(0, hF)], .reg [(0, hT)], .reg []])
        (a_ (a_ (r1_ tr) (a_ (r1_ (c_ (cmp_isNaN_uint32_tri x y2 e1) (r1_ tr))) (a_ (r1_ (c_ (cmp_isNaN_uint32_tri y y4 e3) (r1_ tr))) (a_ (f_ c5 tr) (a_ (f_ c6 tr) (a_ (r1_ tr) tr)))))) tr) (by kernel_rfl) rfl
    · skip
      rcases itb_some h with ⟨c7, h⟩ | ⟨c7, h⟩
      · skip
        obtain rfl := Option.some.inj h
        exact run_ret mixed (L := []) (n := 38) (s := [.reg [], .reg [(1, hC (cmp_isNaN_uint32_v y2))], .reg [(1, hC (cmp_isNaN_uint32_v y4))], .reg [(0, hF)], .reg [(0, hF)], .reg [(2, hT)], .reg []])
          (a_ (a_ (r1_ tr) (a_ (r1_ (c_ (cmp_isNaN_uint32_tri x y2 e1) (r1_ tr))) (a_ (r1_ (c_ (cmp_isNaN_uint32_tri y y4 e3) (r1_ tr))) (a_ (f_ c5 tr) (a_ (f_ c6 tr) (a_ (r2_ (f_ c7 tr)) (a_ (r1_ tr) tr))))))) tr) (by kernel_rfl) rfl
      · skip
        rcases itb_some h with ⟨c8, h⟩ | ⟨c8, h⟩
        · skip
          obtain rfl := Option.some.inj h
          exact run_ret mixed (L := []) (n := 44) (s := [.reg [], .reg [(1, hC (cmp_isNaN_uint32_v y2))], .reg [(1, hC (cmp_isNaN_uint32_v y4))], .reg [(0, hF)], .reg [(0, hF)], .reg [(2, hF)], .reg [(2, hT)], .reg []])
            (a_ (a_ (r1_ tr) (a_ (r1_ (c_ (cmp_isNaN_uint32_tri x y2 e1) (r1_ tr))) (a_ (r1_ (c_ (cmp_isNaN_uint32_tri y y4 e3) (r1_ tr))) (a_ (f_ c5 tr) (a_ (f_ c6 tr) (a_ (r2_ (f_ c7 tr)) (a_ (r2_ (f_ c8 tr)) (a_ (r1_ tr) tr)))))))) tr) (by kernel_rfl) rfl
        · skip
          obtain rfl := Option.some.inj h
          exact run_ret mixed (L := []) (n := 45) (s := [.reg [], .reg [(1, hC (cmp_isNaN_uint32_v y2))], .reg [(1, hC (cmp_isNaN_uint32_v y4))], .reg [(0, hF)], .reg [(0, hF)], .reg [(2, hF)], .reg [(2, hF)], .reg []])
            (a_ (a_ (r1_ tr) (a_ (r1_ (c_ (cmp_isNaN_uint32_tri x y2 e1) (r1_ tr))) (a_ (r1_ (c_ (cmp_isNaN_uint32_tri y y4 e3) (r1_ tr))) (a_ (f_ c5 tr) (a_ (f_ c6 tr) (a_ (r2_ (f_ c7 tr)) (a_ (r2_ (f_ c8 tr)) (a_ (r1_ tr) tr)))))))) tr) (by kernel_rfl) rfl

theorem cmp_Compare_uint32_tri (x : Int) (y : Int) (r : (Int)) (h : cmp_Compare_uint32 x y = some r) : FnTri Try.prog 37 [.int .u32 x, .int .u32 y] [] (cmp_Compare_uint32_v r) [] := FnTri.none (cmp_Compare_uint32_ok x y r h) rfl rfl

/-- cmp.Or[int] -/

def cmp_Or_int_v (r : (Int)) : LV := .int .i64 r

def cmp_Or_int_T0 (vals : List (Int)) (t8 : Int) : List LV := [.any, .any, .any, .int .i64 0, .any, .any, .ds 1 (vals).length (rowF (cInt .i64) default vals), .int .i64 ((vals).length : Int), .int .i64 t8, .any, .any, .any, .any, .any, .any, .any, .any, .any]

def cmp_Or_int_H0 (vals : List (Int)) (t8 : Int) : Heap := []

def cmp_Or_int_l0 (vals : List (Int))  : Nat → (Int) → Option ((Int))
  | 0, _ => none
  | fuel + 1, t8 =>
    if ((decide (t8 < ((vals).length : Int))) : Bool) then
      if 0 ≤ t8 ∧ t8 < (((vals).length : Nat) : Int) then
      if (((vals.getD t8.toNat default) != 0) : Bool) then
        some (vals.getD t8.toNat default)
      else
        cmp_Or_int_l0 vals  fuel (IntKind.wrap .i64 (t8 + 1))
      else none
    else
      some 0

def cmp_Or_int (vals : List (Int)) : Option ((Int)) :=
  cmp_Or_int_l0 vals  big 0

theorem cmp_Or_int_l0_ok {w0 : World} {W : Nat → Prop} {μ0 : Emb} (hμ : ∀ c p, μ0 c = some p → c < 0) (vals : List (Int))  : ∀ (fuel : Nat) (t8 : Int) (r : (Int)), cmp_Or_int_l0 vals  fuel t8 = some r → kont Try.prog w0 W μ0 (FnPost Try.prog Try.f36 0 0 (cmp_Or_int_v r) []) (kAt (bodyOf Try.f36) 0) none (cmp_Or_int_T0 vals t8) (cmp_Or_int_H0 vals t8) := by
  intro fuel
  induction fuel with
  | zero => intro t8 r h; rw [cmp_Or_int_l0] at h; cases h
  | succ fuel ih =>
    intro t8 r h
    rw [cmp_Or_int_l0] at h
    rcases itb_some h with ⟨cL0_1, h⟩ | ⟨cL0_1, h⟩
    · skip
      obtain ⟨gL0_2, h⟩ := guard_some h
      rcases itb_some h with ⟨cL0_3, h⟩ | ⟨cL0_3, h⟩
      · skip
        obtain rfl := Option.some.inj h
        exact run_ret mixed (L := []) (n := 28) (s := [.go, .reg [(0, hT)], .reg [], .reg [(2, hT)], .reg []])
          (a_ (a_ (f_ cL0_1 tr) (a_ (a_ (a_ (a_ (Eq.refl 1) gL0_2) tr) (a_ (a_ (lt_ 0 1 rfl) tr) (r1_ tr))) (a_ (r2_ (f_ cL0_3 tr)) (a_ (r2_ tr) tr)))) tr) (by kernel_rfl) rfl
      · skip
        exact run_to mixed hμ (L := []) (n := 29) (s := [.go, .reg [(0, hT)], .reg [], .reg [(2, hF)], .reg []])
          (a_ (f_ cL0_1 tr) (a_ (a_ (a_ (a_ (Eq.refl 1) gL0_2) tr) (a_ (a_ (lt_ 0 1 rfl) tr) (r1_ tr))) (a_ (r2_ (f_ cL0_3 tr)) (a_ (r2_ tr) tr)))) (ih _ r h) (by kernel_rfl) trivial
    · skip
      obtain rfl := Option.some.inj h
      exact run_ret mixed (L := []) (n := 19) (s := [.go, .reg [(0, hF)], .reg []])
        (a_ (a_ (f_ cL0_1 tr) (a_ (r2_ tr) tr)) tr) (by kernel_rfl) rfl

theorem cmp_Or_int_ok (vals : List (Int)) (r : (Int)) (h : cmp_Or_int vals = some r) : ∀ σ, Inj 0 σ → FnTri Try.prog 36 (renL σ [.ds 1 (vals).length (rowF (cInt .i64) default vals)]) (preOf σ 0 []) ((cmp_Or_int_v r).ren σ) (upOf σ []) := by
  refine fn_of Try.func36 (by kernel_rfl) (by kernel_rfl) (by kernel_rfl) trivial (by kernel_rfl) trivial (by kernel_rfl) ?_
  intro w0 W μ0 hμ
  unfold cmp_Or_int at h
  exact run_to mixed hμ (L := []) (n := 21) (s := [.reg [], .reg [], .reg []])
    (a_ (r1_ tr) (a_ (r1_ tr) (a_ (r1_ (r2_ tr)) tr))) (cmp_Or_int_l0_ok hμ vals  big _ r h) (by kernel_rfl) trivial

theorem cmp_Or_int_tri (vals : List (Int)) (r : (Int)) (h : cmp_Or_int vals = some r) : FnTri Try.prog 36 [.ds 1 (vals).length (rowF (cInt .i64) default vals)] [] (cmp_Or_int_v r) [] := FnTri.none (cmp_Or_int_ok vals r h) rfl rfl

/-- parrel/ids.Txs -/

def ids_Txs_v (r : (Int)) : LV := .int .i64 r

def ids_Txs (a : T_api_Tx) (b : T_api_Tx) : Option ((Int)) :=
  (cmp_Compare_uint8 a.f_Node b.f_Node).bind fun y2 =>
  (cmp_Compare_uint32 a.f_Boot b.f_Boot).bind fun y4 =>
  (cmp_Compare_uint32 a.f_Num b.f_Num).bind fun y6 =>
  (cmp_Or_int ([y2, y4, y6] : List (Int))).bind fun y8 =>
  some y8

theorem ids_Txs_ok (a : T_api_Tx) (b : T_api_Tx) (r : (Int)) (h : ids_Txs a b = some r) : ∀ σ, Inj 0 σ → FnTri Try.prog 41 (renL σ [v_T_api_Tx a, v_T_api_Tx b]) (preOf σ 0 []) ((ids_Txs_v r).ren σ) (upOf σ []) := by
  refine fn_of Try.func41 (by kernel_rfl) (by kernel_rfl) (by kernel_rfl) trivial (by kernel_rfl) trivial (by kernel_rfl) ?_
  intro w0 W μ0 hμ
  unfold ids_Txs at h
  obtain ⟨y2, e1, h⟩ := bind_some h
  obtain ⟨y4, e3, h⟩ := bind_some h
  obtain ⟨y6, e5, h⟩ := bind_some h
  obtain ⟨y8, e7, h⟩ := bind_some h
  obtain rfl := Option.some.inj h
  exact run_ret mixed (L := []) (n := 15) (s := [.reg [], .reg [(4, hC (cmp_Compare_uint8_v y2)), (9, hC (cmp_Compare_uint32_v y4)), (14, hC (cmp_Compare_uint32_v y6)), (15, { os := [(2, .gr 1 (([y2, y4, y6] : List (Int))).length (rowF (cInt .i64) default ([y2, y4, y6] : List (Int))))], v := some (.gs 2 (([y2, y4, y6] : List (Int))).length), fz := true }), (16, hC (cmp_Or_int_v y8))]])
    (a_ (a_ (r1_ (r2_ tr)) (a_ (r1_ (l_ 0 3 rfl (r1_ (l_ 0 3 rfl (c_ (cmp_Compare_uint8_tri a.f_Node b.f_Node y2 e1) (r1_ (l_ 1 3 rfl (r1_ (l_ 1 3 rfl (c_ (cmp_Compare_uint32_tri a.f_Boot b.f_Boot y4 e3) (r1_ (l_ 2 3 rfl (r1_ (l_ 2 3 rfl (c_ (cmp_Compare_uint32_tri a.f_Num b.f_Num y6 e5) (a_ (a_ (a_ (a_ (Eq.refl true) (a_ (Eq.refl 1) (a_ (lt_ 0 1 rfl) (le_ 3 16777216 rfl)))) (a_ (le_sl_gs 2 3 (some 3) rfl) (a_ (sub_lit (cInt .i64) default 1 (fun _ => rfl) ([y2, y4, y6] : List (Int))) tr))) (a_ (Nat.le_refl (([y2, y4, y6] : List (Int))).length) (fz_row (enc := (cInt .i64)) (d := default) (fun _ => rfl) ([y2, y4, y6] : List (Int))))) (a_ (a_ (a_ (cmp_Or_int_tri ([y2, y4, y6] : List (Int)) y8 e7) tr) tr) (r1_ tr)))))))))))))))))) tr)) tr) (by kernel_rfl) rfl

theorem ids_Txs_tri (a : T_api_Tx) (b : T_api_Tx) (r : (Int)) (h : ids_Txs a b = some r) : FnTri Try.prog 41 [v_T_api_Tx a, v_T_api_Tx b] [] (ids_Txs_v r) [] := FnTri.none (ids_Txs_ok a b r h) rfl rfl

/-- parrel/clock.names -/

def clock_names_v (r : (Int)) : LV := .int .i64 r

def clock_names (a : T_clock_Name) (b : T_clock_Name) : Option ((Int)) :=
  (cmp_Compare_uint8 a.f_Kind b.f_Kind).bind fun y2 =>
  (ids_Txs a.f_Tx b.f_Tx).bind fun y4 =>
  (cmp_Or_int ([y2, y4] : List (Int))).bind fun y6 =>
  some y6

theorem clock_names_ok (a : T_clock_Name) (b : T_clock_Name) (r : (Int)) (h : clock_names a b = some r) : ∀ σ, Inj 0 σ → FnTri Try.prog 30 (renL σ [v_T_clock_Name a, v_T_clock_Name b]) (preOf σ 0 []) ((clock_names_v r).ren σ) (upOf σ []) := by
  refine fn_of Try.func30 (by kernel_rfl) (by kernel_rfl) (by kernel_rfl) trivial (by kernel_rfl) trivial (by kernel_rfl) ?_
  intro w0 W μ0 hμ
  unfold clock_names at h
  obtain ⟨y2, e1, h⟩ := bind_some h
  obtain ⟨y4, e3, h⟩ := bind_some h
  obtain ⟨y6, e5, h⟩ := bind_some h
  obtain rfl := Option.some.inj h
  exact run_ret mixed (L := []) (n := 15) (s := [.reg [], .reg [(4, hC (cmp_Compare_uint8_v y2)), (9, hC (ids_Txs_v y4)), (10, { os := [(2, .gr 1 (([y2, y4] : List (Int))).length (rowF (cInt .i64) default ([y2, y4] : List (Int))))], v := some (.gs 2 (([y2, y4] : List (Int))).length), fz := true }), (11, hC (cmp_Or_int_v y6))]])
    (a_ (a_ (r1_ (r2_ tr)) (a_ (r1_ (l_ 0 4 rfl (r1_ (l_ 0 4 rfl (c_ (cmp_Compare_uint8_tri a.f_Kind b.f_Kind y2 e1) (r1_ (m_ 4 4 rfl (r1_ (m_ 4 4 rfl (c_ (ids_Txs_tri a.f_Tx b.f_Tx y4 e3) (a_ (a_ (a_ (a_ (Eq.refl true) (a_ (Eq.refl 1) (a_ (lt_ 0 1 rfl) (le_ 2 16777216 rfl)))) (a_ (le_sl_gs 2 2 (some 2) rfl) (a_ (sub_lit (cInt .i64) default 1 (fun _ => rfl) ([y2, y4] : List (Int))) tr))) (a_ (Nat.le_refl (([y2, y4] : List (Int))).length) (fz_row (enc := (cInt .i64)) (d := default) (fun _ => rfl) ([y2, y4] : List (Int))))) (a_ (a_ (a_ (cmp_Or_int_tri ([y2, y4] : List (Int)) y6 e5) tr) tr) (r1_ tr))))))))))))) tr)) tr) (by kernel_rfl) rfl

theorem clock_names_tri (a : T_clock_Name) (b : T_clock_Name) (r : (Int)) (h : clock_names a b = some r) : FnTri Try.prog 30 [v_T_clock_Name a, v_T_clock_Name b] [] (clock_names_v r) [] := FnTri.none (clock_names_ok a b r h) rfl rfl

/-- (*parrel/clock.Clock).Tick -/

def clock_Clock_Tick_v (r : (List (T_clock_Name)) × (Int) × (Int) × (Nat → Option (List (T_clock_Name × Int))) × (List (T_clock_Name × Int))) : LV := .tup [.ds 4 (r.1).length (rowF c_T_clock_Name default r.1), .int .i64 r.2.1]

def clock_Clock_Tick_up (now : Int) (x_at : List (T_clock_Name × Int)) (wheel : Nat → Option (List (T_clock_Name × Int))) (r : (List (T_clock_Name)) × (Int) × (Int) × (Nat → Option (List (T_clock_Name × Int))) × (List (T_clock_Name × Int))) : Upd := [(0, some (.vw [.int .u32 r.2.2.1, .map 1] true [.int .u8, .int .u8, .int .u32, .int .u32] 64 (fun q_ => (r.2.2.2.1 q_).map (encM v_T_clock_Name (LV.int .u32))) [])), (1, some (.map true [.int .u8, .int .u8, .int .u32, .int .u32] (encM v_T_clock_Name (LV.int .u32) r.2.2.2.2)))]

def clock_Clock_Tick_objs (now : Int) (x_at : List (T_clock_Name × Int)) (wheel : Nat → Option (List (T_clock_Name × Int))) : List LO := [.vw [.int .u32 now, .map 1] true [.int .u8, .int .u8, .int .u32, .int .u32] 64 (fun q_ => (wheel q_).map (encM v_T_clock_Name (LV.int .u32))) [], .map true [.int .u8, .int .u8, .int .u32, .int .u32] (encM v_T_clock_Name (LV.int .u32) x_at)]

def clock_Clock_Tick_T1 (l : List (T_clock_Name)) (yL0_4 : List (T_clock_Name)) (t49 : Int) (now2 : Int) (wheel2 : Nat → Option (List (T_clock_Name × Int))) (m : List (T_clock_Name × Int)) : List LV := [.ptr 0 0 0, .any, .any, .any, .any, .any, .gs 2 (yL0_4).length, .any, .any, .any, .any, .any, .any, .any, .any, .any, .any, .any, .any, .any, .any, .any, .any, .any, .any, .any, .any, .any, .any, .any, .any, .any, .any, .any, .any, .any, .any, .any, .any, .any, .any, .any, .any, .any, .any, .any, .any, .gs 2 (yL0_4).length, .int .i64 ((l).length : Int), .int .i64 t49, .any, .any, .any, .any, .any, .any, .any, .any]

def clock_Clock_Tick_H1 (l : List (T_clock_Name)) (yL0_4 : List (T_clock_Name)) (t49 : Int) (now2 : Int) (wheel2 : Nat → Option (List (T_clock_Name × Int))) (m : List (T_clock_Name × Int)) : Heap := [some (.vw [.int .u32 now2, .map 1] true [.int .u8, .int .u8, .int .u32, .int .u32] 64 (fun q_ => (wheel2 q_).map (encM v_T_clock_Name (LV.int .u32))) []), some (.map true [.int .u8, .int .u8, .int .u32, .int .u32] (encM v_T_clock_Name (LV.int .u32) m)), some (.gr 4 (yL0_4).length (rowF c_T_clock_Name default yL0_4))]

def clock_Clock_Tick_T0 (x_at : List (T_clock_Name × Int)) (wheel : Nat → Option (List (T_clock_Name × Int))) (y4 : (Int) × (Int)) (y7 : List (T_clock_Name × Int)) (l : List (T_clock_Name)) (rest : List (T_clock_Name × Int)) : List LV := [.ptr 0 0 0, .any, .any, .any, .int .u32 y4.1, .any, .gs 2 (l).length, .any, .any, .any, .any, .any, .any, .any, .any, .any, .any, .any, .any, .any, .any, .any, .any, .any, .any, .any, .any, .any, .any, .any, .any, .any, .ptr 3 0 0, .any, .any, .any, .any, .any, .any, .any, .any, .any, .any, .any, .any, .any, .any, .any, .any, .any, .any, .any, .any, .any, .any, .any, .any, .any]

def clock_Clock_Tick_H0 (x_at : List (T_clock_Name × Int)) (wheel : Nat → Option (List (T_clock_Name × Int))) (y4 : (Int) × (Int)) (y7 : List (T_clock_Name × Int)) (l : List (T_clock_Name)) (rest : List (T_clock_Name × Int)) : Heap := [some (.vw [.int .u32 y4.1, .map 1] true [.int .u8, .int .u8, .int .u32, .int .u32] 64 (fun q_ => (wheel q_).map (encM v_T_clock_Name (LV.int .u32))) [(((Int.tmod y4.1 64)).toNat, 4)]), some (.map true [.int .u8, .int .u8, .int .u32, .int .u32] (encM v_T_clock_Name (LV.int .u32) x_at)), some (.gr 4 (l).length (rowF c_T_clock_Name default l)), some (.mit 4 true [.int .u8, .int .u8, .int .u32, .int .u32] (encM v_T_clock_Name (LV.int .u32) y7) none (encM v_T_clock_Name (LV.int .u32) rest)), none]

def clock_Clock_Tick_l1 (now : Int) (x_at : List (T_clock_Name × Int)) (wheel : Nat → Option (List (T_clock_Name × Int))) (l : List (T_clock_Name)) (yL0_4 : List (T_clock_Name))  : Nat → (Int) → (Int) → (Nat → Option (List (T_clock_Name × Int))) → (List (T_clock_Name × Int)) → Option ((List (T_clock_Name)) × (Int) × (Int) × (Nat → Option (List (T_clock_Name × Int))) × (List (T_clock_Name × Int)))
  | 0, _, _, _, _ => none
  | fuel + 1, t49, now2, wheel2, m =>
    if ((decide (t49 < ((l).length : Int))) : Bool) then
      if 0 ≤ t49 ∧ t49 < (((yL0_4).length : Nat) : Int) then
      (clock_Clock_Stop now2 m wheel2 (yL0_4.getD t49.toNat default)).bind fun yL1_4 =>
      clock_Clock_Tick_l1 now x_at wheel l yL0_4  fuel (IntKind.wrap .i64 (t49 + 1)) yL1_4.2.1 yL1_4.2.2.1 yL1_4.2.2.2
      else none
    else
      some (yL0_4, 0, now2, wheel2, m)

def clock_Clock_Tick_l0 (now : Int) (x_at : List (T_clock_Name × Int)) (wheel : Nat → Option (List (T_clock_Name × Int))) (y4 : (Int) × (Int)) (y7 : List (T_clock_Name × Int))  : Nat → (List (T_clock_Name)) → (List (T_clock_Name × Int)) → Option ((List (T_clock_Name)) × (Int) × (Int) × (Nat → Option (List (T_clock_Name × Int))) × (List (T_clock_Name × Int)))
  | 0, _, _ => none
  | fuel + 1, l, rest =>
    if ((List.isEmpty rest) : Bool) then
      if 0 ≤ (Int.tmod y4.1 64) ∧ (Int.tmod y4.1 64) < 64 then
      (sortO clock_names 16 l).bind fun yL0_4 =>
      if (l).length = (yL0_4).length then
      clock_Clock_Tick_l1 now x_at wheel l yL0_4  big 0 y4.1 (fun q_ => if q_ = ((Int.tmod y4.1 64)).toNat then some y7 else wheel q_) x_at
      else none
      else none
    else agree rest fun aL0_1 rsL0_2 =>
      if ((aL0_1.2 == y4.1) : Bool) then
        if ((l).length + (([aL0_1.1] : List (T_clock_Name))).length) * 16 ≤ 140737488351232 then
        clock_Clock_Tick_l0 now x_at wheel y4 y7  fuel (l ++ ([aL0_1.1] : List (T_clock_Name))) rsL0_2
        else none
      else
        clock_Clock_Tick_l0 now x_at wheel y4 y7  fuel l rsL0_2

def clock_Clock_Tick (now : Int) (x_at : List (T_clock_Name × Int)) (wheel : Nat → Option (List (T_clock_Name × Int))) : Option ((List (T_clock_Name)) × (Int) × (Int) × (Nat → Option (List (T_clock_Name × Int))) × (List (T_clock_Name × Int))) :=
  (clock_Clock_ok now x_at wheel).bind fun y2 =>
  (bits_Next now).bind fun y4 =>
  if ((y4.2 != 0) : Bool) then
    some (([] : List (T_clock_Name)), y4.2, now, wheel, x_at)
  else
    if 0 ≤ (Int.tmod y4.1 64) ∧ (Int.tmod y4.1 64) < 64 then
    (wheel ((Int.tmod y4.1 64)).toNat).bind fun y7 =>
    (clock_Clock_slot (Int.tmod y4.1 64) y7 y4.1).bind fun y10 =>
    clock_Clock_Tick_l0 now x_at wheel y4 y7  big ([] : List (T_clock_Name)) y7
    else none

theorem clock_Clock_Tick_l1_ok {w0 : World} {W : Nat → Prop} {μ0 : Emb} (hμ : ∀ c p, μ0 c = some p → c < 2) (now : Int) (x_at : List (T_clock_Name × Int)) (wheel : Nat → Option (List (T_clock_Name × Int))) (l : List (T_clock_Name)) (yL0_4 : List (T_clock_Name))  : ∀ (fuel : Nat) (t49 : Int) (now2 : Int) (wheel2 : Nat → Option (List (T_clock_Name × Int))) (m : List (T_clock_Name × Int)) (r : (List (T_clock_Name)) × (Int) × (Int) × (Nat → Option (List (T_clock_Name × Int))) × (List (T_clock_Name × Int))), clock_Clock_Tick_l1 now x_at wheel l yL0_4  fuel t49 now2 wheel2 m = some r → kont Try.prog w0 W μ0 (FnPost Try.prog Try.f10 2 2 (clock_Clock_Tick_v r) (clock_Clock_Tick_up now x_at wheel r)) (kAt (bodyOf Try.f10) 1) none (clock_Clock_Tick_T1 l yL0_4 t49 now2 wheel2 m) (clock_Clock_Tick_H1 l yL0_4 t49 now2 wheel2 m) := by
  intro fuel
  induction fuel with
  | zero => intro t49 now2 wheel2 m r h; rw [clock_Clock_Tick_l1] at h; cases h
  | succ fuel ih =>
    intro t49 now2 wheel2 m r h
    rw [clock_Clock_Tick_l1] at h
    rcases itb_some h with ⟨cL1_1, h⟩ | ⟨cL1_1, h⟩
    · skip
      obtain ⟨gL1_2, h⟩ := guard_some h
      obtain ⟨yL1_4, eL1_3, h⟩ := bind_some h
      exact run_to mixed hμ (L := [2]) (n := 26) (s := [.go, .reg [(0, hT)], .reg [], .reg [(2, { call := some ((clock_Clock_Stop_v yL1_4).ren (sel [0, 1]), preOf (sel [0, 1]) 0 (clock_Clock_Stop_objs now2 m wheel2 (yL0_4.getD t49.toNat default)), upOf (sel [0, 1]) (clock_Clock_Stop_up now2 m wheel2 (yL0_4.getD t49.toNat default) yL1_4)) })], .reg []])
        (a_ (f_ cL1_1 tr) (a_ (a_ (a_ (a_ (Eq.refl 4) gL1_2) tr) (a_ (a_ (a_ (ltN gL1_2) (le_ 4 4 rfl)) tr) (r1_ (a_ (a_ (a_ (Eq.refl 4) (a_ (le_ 4 4 rfl) (Eq.refl 0))) tr) tr)))) (a_ (r1_ (m_ 4 4 rfl (a_ (a_ (a_ (clock_Clock_Stop_ok now2 m wheel2 (yL0_4.getD t49.toNat default) yL1_4 eL1_3 (sel [0, 1]) (sel_inj rfl rfl)) (a_ (Eq.refl (.vw [.int .u32 now2, .map 1] true [.int .u8, .int .u8, .int .u32, .int .u32] 64 (fun q_ => (wheel2 q_).map (encM v_T_clock_Name (LV.int .u32))) [] : LO)) (a_ (LO.Le.refl (.map true [.int .u8, .int .u8, .int .u32, .int .u32] (encM v_T_clock_Name (LV.int .u32) m))) tr))) tr) tr))) (a_ (r2_ tr) tr)))) (ih _ _ _ _ r h) (by kernel_rfl) ⟨⟨rfl, under_no⟩, trivial, fun _ _ => rfl, trivial⟩
    · skip
      obtain rfl := Option.some.inj h
      exact run_ret mixed (L := []) (n := 20) (s := [.go, .reg [(0, hF)], .reg [], .frz 2])
        (a_ (a_ (f_ cL1_1 tr) (a_ (r1_ (r2_ tr)) (a_ (a_ (fz_row (enc := c_T_clock_Name) (d := default) (fun _ => rfl) yL0_4) (a_ (Nat.le_refl (yL0_4).length) (a_ (Nat.le_refl (yL0_4).length) (a_ (Nat.le_refl (yL0_4).length) (a_ (Nat.le_refl (yL0_4).length) tr))))) tr))) tr) (by kernel_rfl) rfl

theorem clock_Clock_Tick_l0_ok {w0 : World} {W : Nat → Prop} {μ0 : Emb} (hμ : ∀ c p, μ0 c = some p → c < 2) (now : Int) (x_at : List (T_clock_Name × Int)) (wheel : Nat → Option (List (T_clock_Name × Int))) (y4 : (Int) × (Int)) (y7 : List (T_clock_Name × Int))  : ∀ (fuel : Nat) (l : List (T_clock_Name)) (rest : List (T_clock_Name × Int)) (r : (List (T_clock_Name)) × (Int) × (Int) × (Nat → Option (List (T_clock_Name × Int))) × (List (T_clock_Name × Int))), clock_Clock_Tick_l0 now x_at wheel y4 y7  fuel l rest = some r → kont Try.prog w0 W μ0 (FnPost Try.prog Try.f10 2 2 (clock_Clock_Tick_v r) (clock_Clock_Tick_up now x_at wheel r)) (kAt (bodyOf Try.f10) 0) none (clock_Clock_Tick_T0 x_at wheel y4 y7 l rest) (clock_Clock_Tick_H0 x_at wheel y4 y7 l rest) := by
  intro fuel
  induction fuel with
  | zero => intro l rest r h; rw [clock_Clock_Tick_l0] at h; cases h
  | succ fuel ih =>
    intro l rest r h
    rw [clock_Clock_Tick_l0] at h
    refine k_nextT (it := 32) (t1 := 33) (t2 := 34) (d := 3) (m := 4) (ag := true) (ks := [.int .u8, .int .u8, .int .u32, .int .u32]) (es := encM v_T_clock_Name (LV.int .u32) y7) v_T_clock_Name (LV.int .u32) rest (by kernel_rfl) (by kernel_rfl) (by kernel_rfl) (by kernel_rfl) (fun hn_ => ?_) (fun i_ aL0_1 hi_ => ?_)
    · rw [if_pos (rest_none hn_)] at h
      obtain ⟨gL0_3, h⟩ := guard_some h
      obtain ⟨yL0_4, eL0_5, h⟩ := bind_some h
      obtain ⟨gL0_6, h⟩ := guard_some h
      exact run_to mixed hμ (L := [2]) (n := 25) (s := [.x (.mitz 3), .x (.vwc 0), .x (.vww 0 (fun q_ => ((fun q_ => if q_ = ((Int.tmod y4.1 64)).toNat then some y7 else wheel q_) q_).map (encM v_T_clock_Name (LV.int .u32)))), .reg [(1, { call := some (.tup [], [(2, .gr 4 (l).length (rowF c_T_clock_Name default l))], [(2, some (.gr 4 (yL0_4).length (rowF c_T_clock_Name default yL0_4)))]) })], .reg [], .wk [(6, .gs 2 (yL0_4).length), (47, .gs 2 (yL0_4).length)] []])
        (a_ (show 4 ≠ 3 from by decide) (a_ (a_ (vwlt (n := 64) gL0_3) (a_ (Eq.refl true) (a_ (Eq.refl ([.int .u8, .int .u8, .int .u32, .int .u32] : List CK)) (show 0 ≠ 4 from by decide)))) (a_ (fun (q_ : Nat) (_ : q_ < 64) => vwput (encM v_T_clock_Name (LV.int .u32)) wheel ((Int.tmod y4.1 64)).toNat y7 q_) (a_ (r1_ (a_ (a_ (a_ (so33_sortG 30 clock_names yL0_4 [] [] (fun x y r h => clock_names_tri x y r h) 2 (by simp) l eL0_5) (a_ (LO.Le.refl (.gr 4 (l).length (rowF c_T_clock_Name default l))) tr)) tr) tr)) (a_ (r1_ (r2_ tr)) (a_ (a_ (a_ (le_gs 2 gL0_6) (a_ (le_gs 2 gL0_6) tr)) tr) tr)))))) (clock_Clock_Tick_l1_ok hμ now x_at wheel l yL0_4  big _ _ _ _ r h) (by kernel_rfl) ⟨⟨rfl, under_no⟩, trivial, fun _ _ => rfl, trivial⟩
    · rw [if_neg (rest_some hi_)] at h
      replace h := agree_some h hi_
      generalize rest.eraseIdx i_ = rsL0_2 at h ⊢
      rcases itb_some h with ⟨cL0_3, h⟩ | ⟨cL0_3, h⟩
      · skip
        obtain ⟨gL0_4, h⟩ := guard_some h
        exact run_to mixed hμ (L := [7, 3, 4]) (n := 24) (s := [.reg [], .reg [(2, hT)], .reg [(2, { os := [(6, .gr 4 (([aL0_1.1] : List (T_clock_Name))).length (rowF c_T_clock_Name default ([aL0_1.1] : List (T_clock_Name))))], v := some (.gs 6 (([aL0_1.1] : List (T_clock_Name))).length) }), (3, { app := 3, os := [(7, .gr 4 ((l ++ ([aL0_1.1] : List (T_clock_Name)))).length (rowF c_T_clock_Name default (l ++ ([aL0_1.1] : List (T_clock_Name)))))], v := some (.gs 7 ((l ++ ([aL0_1.1] : List (T_clock_Name)))).length) })], .x (.mitn 3)])
          (a_ (r4_ (a_ (a_ (a_ (Eq.refl 4) (a_ (le_ 4 4 rfl) (Eq.refl 0))) tr) (r1_ tr))) (a_ (r2_ (f_ cL0_3 tr)) (a_ (r1_ (m_ 4 4 rfl (a_ (a_ (a_ (Eq.refl true) (a_ (Eq.refl 4) (a_ (lt_ 0 4 rfl) (le_ 4 16777216 rfl)))) (a_ (le_sl_gs 6 1 (some 1) rfl) (a_ (sub_lit c_T_clock_Name default 4 (fun _ => rfl) ([aL0_1.1] : List (T_clock_Name))) tr))) (a_ (a_ (a_ (a_ (Eq.refl 4) (Nat.le_refl (([aL0_1.1] : List (T_clock_Name))).length)) (a_ (a_ (lt_ 0 4 rfl) (a_ (lt_ 0 16 rfl) (a_ gL0_4 (a_ (Eq.refl 4) (Eq.refl true))))) (a_ (Eq.refl 4) (Nat.le_refl (l).length)))) (a_ (le_gs_app 7 l ([aL0_1.1] : List (T_clock_Name))) (a_ (sub_app c_T_clock_Name default 4 l ([aL0_1.1] : List (T_clock_Name))) tr))) (r1_ tr))))) (a_ tr tr)))) (ih _ _ r h) (by kernel_rfl) ⟨⟨rfl, under_opn (lt_ 4 5 rfl)⟩, trivial, fun _ _ => rfl, lt_ 4 5 rfl, trivial⟩
      · skip
        exact run_to mixed hμ (L := [2, 3, 4]) (n := 23) (s := [.reg [], .reg [(2, hF)], .x (.mitn 3)])
          (a_ (r4_ (a_ (a_ (a_ (Eq.refl 4) (a_ (le_ 4 4 rfl) (Eq.refl 0))) tr) (r1_ tr))) (a_ (r2_ (f_ cL0_3 tr)) (a_ tr tr))) (ih _ _ r h) (by kernel_rfl) ⟨⟨rfl, under_opn (lt_ 4 5 rfl)⟩, trivial, fun _ _ => rfl, lt_ 4 5 rfl, trivial⟩

theorem clock_Clock_Tick_ok (now : Int) (x_at : List (T_clock_Name × Int)) (wheel : Nat → Option (List (T_clock_Name × Int))) (r : (List (T_clock_Name)) × (Int) × (Int) × (Nat → Option (List (T_clock_Name × Int))) × (List (T_clock_Name × Int))) (h : clock_Clock_Tick now x_at wheel = some r) : ∀ σ, Inj 2 σ → FnTri Try.prog 10 (renL σ [.ptr 0 0 0]) (preOf σ 0 (clock_Clock_Tick_objs now x_at wheel)) ((clock_Clock_Tick_v r).ren σ) (upOf σ (clock_Clock_Tick_up now x_at wheel r)) := by
  refine fn_of Try.func10 (by kernel_rfl) (by kernel_rfl) (by kernel_rfl) ⟨⟨rfl, under_no⟩, trivial, trivial⟩ (by kernel_rfl) ⟨⟨rfl, under_no⟩, trivial, trivial⟩ (by kernel_rfl) ?_
  intro w0 W μ0 hμ
  unfold clock_Clock_Tick at h
  obtain ⟨y2, e1, h⟩ := bind_some h
  obtain ⟨y4, e3, h⟩ := bind_some h
  rcases itb_some h with ⟨c5, h⟩ | ⟨c5, h⟩
  · skip
    obtain rfl := Option.some.inj h
    exact run_ret mixed (L := []) (n := 29) (s := [.reg [(0, { v := some (.ds 4 (([] : List (T_clock_Name))).length (rowF c_T_clock_Name default ([] : List (T_clock_Name)))) })], .reg [(1, { call := some ((clock_Clock_ok_v y2).ren (sel [0, 1]), preOf (sel [0, 1]) 0 (clock_Clock_ok_objs now x_at wheel), upOf (sel [0, 1]) (clock_Clock_ok_up now x_at wheel y2)) })], .reg [(4, hC (bits_Next_v y4))], .reg [(1, hT)], .reg [(1, { v := some (.ds 4 (([] : List (T_clock_Name))).length (rowF c_T_clock_Name default ([] : List (T_clock_Name)))) })]])
      (a_ (a_ (a_ (a_ tr (a_ (le_nil_ds 4 (rowF c_T_clock_Name default [])) tr)) (r1_ tr)) (a_ (r1_ (a_ (a_ (a_ (clock_Clock_ok_ok now x_at wheel y2 e1 (sel [0, 1]) (sel_inj rfl rfl)) (a_ (Eq.refl (.vw [.int .u32 now, .map 1] true [.int .u8, .int .u8, .int .u32, .int .u32] 64 (fun q_ => (wheel q_).map (encM v_T_clock_Name (LV.int .u32))) [] : LO)) (a_ (LO.Le.refl (.map true [.int .u8, .int .u8, .int .u32, .int .u32] (encM v_T_clock_Name (LV.int .u32) x_at))) tr))) tr) (r1_ tr))) (a_ (r1_ (r2_ (a_ (a_ (lt_ 0 2 rfl) tr) (c_ (bits_Next_tri now y4 e3) (r1_ (r4_ tr)))))) (a_ (r1_ (f_ c5 tr)) (a_ (r1_ (a_ (a_ tr (a_ (le_nil_ds 4 (rowF c_T_clock_Name default [])) tr)) (r1_ tr))) tr))))) tr) (by kernel_rfl) rfl
  · skip
    obtain ⟨g6, h⟩ := guard_some h
    obtain ⟨y7, e8, h⟩ := bind_some h
    obtain ⟨y10, e9, h⟩ := bind_some h
    exact run_to mixed hμ (L := [2, 4, 3]) (n := 41) (s := [.reg [(0, { v := some (.ds 4 (([] : List (T_clock_Name))).length (rowF c_T_clock_Name default ([] : List (T_clock_Name)))) })], .reg [(1, { call := some ((clock_Clock_ok_v y2).ren (sel [0, 1]), preOf (sel [0, 1]) 0 (clock_Clock_ok_objs now x_at wheel), upOf (sel [0, 1]) (clock_Clock_ok_up now x_at wheel y2)) })], .reg [(4, hC (bits_Next_v y4))], .reg [(1, hF)], .reg [], .void (.gr 4 (([] : List (T_clock_Name))).length (rowF c_T_clock_Name default ([] : List (T_clock_Name)))), .reg [(0, { v := some (.gs 2 (([] : List (T_clock_Name))).length) })], .x (.vwo 0 ((Int.tmod y4.1 64)).toNat (encM v_T_clock_Name (LV.int .u32) y7)), .reg [(2, { call := some ((clock_Clock_slot_v y10).ren (sel [0, 3]), preOf (sel [0, 3]) 0 (clock_Clock_slot_objs (Int.tmod y4.1 64) y7 y4.1), upOf (sel [0, 3]) (clock_Clock_slot_up (Int.tmod y4.1 64) y7 y4.1 y10)) })]])
      (a_ (a_ (a_ tr (a_ (le_nil_ds 4 (rowF c_T_clock_Name default [])) tr)) (r1_ tr)) (a_ (r1_ (a_ (a_ (a_ (clock_Clock_ok_ok now x_at wheel y2 e1 (sel [0, 1]) (sel_inj rfl rfl)) (a_ (Eq.refl (.vw [.int .u32 now, .map 1] true [.int .u8, .int .u8, .int .u32, .int .u32] 64 (fun q_ => (wheel q_).map (encM v_T_clock_Name (LV.int .u32))) [] : LO)) (a_ (LO.Le.refl (.map true [.int .u8, .int .u8, .int .u32, .int .u32] (encM v_T_clock_Name (LV.int .u32) x_at))) tr))) tr) (r1_ tr))) (a_ (r1_ (r2_ (a_ (a_ (lt_ 0 2 rfl) tr) (c_ (bits_Next_tri now y4 e3) (r1_ (r4_ tr)))))) (a_ (r1_ (f_ c5 tr)) (a_ (r4_ (a_ (a_ (a_ (Eq.refl 1) (le_ 1 2 rfl)) tr) tr)) (a_ (Eq.refl 0) (a_ (a_ (a_ tr (a_ (le_nil_gs 2) tr)) tr) (a_ (a_ (vwlt (n := 64) g6) (vwget (f := encM v_T_clock_Name (LV.int .u32)) e8)) (a_ (r2_ (a_ (a_ (a_ (clock_Clock_slot_ok (Int.tmod y4.1 64) y7 y4.1 y10 e9 (sel [0, 3]) (sel_inj rfl rfl)) (a_ (le_vwr (cs := [.int .u32 y4.1, .map 1]) (ds := [.any, .any]) (ag := true) (ks := [.int .u8, .int .u8, .int .u32, .int .u32]) (n := 64) (W := (fun q_ => (wheel q_).map (encM v_T_clock_Name (LV.int .u32)))) (opn := [(((Int.tmod y4.1 64)).toNat, 3)]) (a_ (le_any (.int .u32 y4.1)) (a_ (le_any (.map 1)) tr))) (a_ (le_mapR (ag := true) (ks := [.int .u8, .int .u8, .int .u32, .int .u32]) (es := encM v_T_clock_Name (LV.int .u32) y7)) tr))) tr) (r1_ tr))) tr))))))))) (clock_Clock_Tick_l0_ok hμ now x_at wheel y4 y7  big _ _ r h) (by kernel_rfl) ⟨⟨rfl, under_opn (lt_ 4 5 rfl)⟩, trivial, fun _ _ => rfl, lt_ 4 5 rfl, trivial⟩

/-- (*parrel/clock.Clock).Now -/

def clock_Clock_Now_v (r : (Int)) : LV := .int .u32 r

def clock_Clock_Now_up (now : Int) (x_at : List (T_clock_Name × Int)) (wheel : Nat → Option (List (T_clock_Name × Int))) (r : (Int)) : Upd := [(0, some (.vw [.int .u32 now, .map 1] true [.int .u8, .int .u8, .int .u32, .int .u32] 64 (fun q_ => (wheel q_).map (encM v_T_clock_Name (LV.int .u32))) [])), (1, some (.map true [.int .u8, .int .u8, .int .u32, .int .u32] (encM v_T_clock_Name (LV.int .u32) x_at)))]

def clock_Clock_Now_objs (now : Int) (x_at : List (T_clock_Name × Int)) (wheel : Nat → Option (List (T_clock_Name × Int))) : List LO := [.vw [.int .u32 now, .map 1] true [.int .u8, .int .u8, .int .u32, .int .u32] 64 (fun q_ => (wheel q_).map (encM v_T_clock_Name (LV.int .u32))) [], .map true [.int .u8, .int .u8, .int .u32, .int .u32] (encM v_T_clock_Name (LV.int .u32) x_at)]

def clock_Clock_Now (now : Int) (x_at : List (T_clock_Name × Int)) (wheel : Nat → Option (List (T_clock_Name × Int))) : Option ((Int)) :=
  (clock_Clock_ok now x_at wheel).bind fun y2 =>
  some now

theorem clock_Clock_Now_ok (now : Int) (x_at : List (T_clock_Name × Int)) (wheel : Nat → Option (List (T_clock_Name × Int))) (r : (Int)) (h : clock_Clock_Now now x_at wheel = some r) : ∀ σ, Inj 2 σ → FnTri Try.prog 15 (renL σ [.ptr 0 0 0]) (preOf σ 0 (clock_Clock_Now_objs now x_at wheel)) ((clock_Clock_Now_v r).ren σ) (upOf σ (clock_Clock_Now_up now x_at wheel r)) := by
  refine fn_of Try.func15 (by kernel_rfl) (by kernel_rfl) (by kernel_rfl) ⟨⟨rfl, under_no⟩, trivial, trivial⟩ (by kernel_rfl) ⟨⟨rfl, under_no⟩, trivial, trivial⟩ (by kernel_rfl) ?_
  intro w0 W μ0 hμ
  unfold clock_Clock_Now at h
  obtain ⟨y2, e1, h⟩ := bind_some h
  obtain rfl := Option.some.inj h
  exact run_ret mixed (L := []) (n := 21) (s := [.reg [], .reg [(1, { call := some ((clock_Clock_ok_v y2).ren (sel [0, 1]), preOf (sel [0, 1]) 0 (clock_Clock_ok_objs now x_at wheel), upOf (sel [0, 1]) (clock_Clock_ok_up now x_at wheel y2)) })], .reg []])
    (a_ (a_ (r1_ tr) (a_ (r1_ (a_ (a_ (a_ (clock_Clock_ok_ok now x_at wheel y2 e1 (sel [0, 1]) (sel_inj rfl rfl)) (a_ (Eq.refl (.vw [.int .u32 now, .map 1] true [.int .u8, .int .u8, .int .u32, .int .u32] 64 (fun q_ => (wheel q_).map (encM v_T_clock_Name (LV.int .u32))) [] : LO)) (a_ (LO.Le.refl (.map true [.int .u8, .int .u8, .int .u32, .int .u32] (encM v_T_clock_Name (LV.int .u32) x_at))) tr))) tr) (r1_ tr))) (a_ (r1_ (r2_ (a_ (a_ (lt_ 0 2 rfl) tr) (r1_ tr)))) tr))) tr) (by kernel_rfl) rfl

/-- parrel/parrellaw09.alive -/

def parrellaw09_alive_v (r : (Bool)) : LV := .bool r

def parrellaw09_alive  : Option ((Bool)) :=
  (clock_New).bind fun y2 =>
  (clock_Clock_Set 0 y2.2 y2.1 (T_clock_Name.mk 1 (T_api_Tx.mk 0 0 0)) 2).bind fun y4 =>
  if ((y4.1 != 0) : Bool) then
    some false
  else
    (clock_Clock_Len y4.2.1 y4.2.2.2 y4.2.2.1).bind fun y7 =>
    if ((y7 != 1) : Bool) then
      some false
    else
      (clock_Clock_Tick y4.2.1 y4.2.2.2 y4.2.2.1).bind fun y10 =>
      (clock_Clock_Tick y10.2.2.1 y10.2.2.2.2 y10.2.2.2.1).bind fun y12 =>
      if ((((y10.1).length : Int) == 0) : Bool) then
        if ((y10.2.1 == 0) : Bool) then
          if ((((y12.1).length : Int) == 1) : Bool) then
            if 0 ≤ (0 : Int) ∧ (0 : Int) < (((y12.1).length : Nat) : Int) then
            if (((y12.1.getD 0 default).f_Kind == 1) : Bool) then
              if ((y12.2.1 == 0) : Bool) then
                (clock_Clock_Now y12.2.2.1 y12.2.2.2.2 y12.2.2.2.1).bind fun y20 =>
                if ((y20 == 2) : Bool) then
                  (clock_Clock_Len y12.2.2.1 y12.2.2.2.2 y12.2.2.2.1).bind fun y23 =>
                  some (y23 == 0)
                else
                  some false
              else
                some false
            else
              some false
            else none
          else
            some false
        else
          some false
      else
        some false

theorem parrellaw09_alive_ok  (r : (Bool)) (h : parrellaw09_alive  = some r) : ∀ σ, Inj 0 σ → FnTri Try.prog 16 (renL σ []) (preOf σ 0 []) ((parrellaw09_alive_v r).ren σ) (upOf σ []) := by
  refine fn_of Try.func16 (by kernel_rfl) (by kernel_rfl) (by kernel_rfl) trivial (by kernel_rfl) trivial (by kernel_rfl) ?_
  intro w0 W μ0 hμ
  unfold parrellaw09_alive at h
  obtain ⟨y2, e1, h⟩ := bind_some h
  obtain ⟨y4, e3, h⟩ := bind_some h
  rcases itb_some h with ⟨c5, h⟩ | ⟨c5, h⟩
  · skip
    obtain rfl := Option.some.inj h
    exact run_ret mixed (L := []) (n := 23) (s := [.reg [], .reg [(0, { call := some ((clock_New_v y2).ren (sel [0, 1]), preOf (sel [0, 1]) 0 [], upOf (sel [0, 1]) (clock_New_up  y2)) })], .reg [(5, { call := some ((clock_Clock_Set_v y4).ren (sel [0, 1]), preOf (sel [0, 1]) 0 (clock_Clock_Set_objs 0 y2.2 y2.1 (T_clock_Name.mk 1 (T_api_Tx.mk 0 0 0)) 2), upOf (sel [0, 1]) (clock_Clock_Set_up 0 y2.2 y2.1 (T_clock_Name.mk 1 (T_api_Tx.mk 0 0 0)) 2 y4)) }), (8, hT)], .reg []])
      (a_ (a_ (r1_ tr) (a_ (a_ (a_ (a_ (clock_New_ok  y2 e1 (sel [0, 1]) (sel_inj rfl rfl)) tr) tr) (r1_ tr)) (a_ (r4_ (a_ (a_ (Eq.refl true) tr) (a_ (a_ (a_ (clock_Clock_Set_ok 0 y2.2 y2.1 (T_clock_Name.mk 1 (T_api_Tx.mk 0 0 0)) 2 y4 e3 (sel [0, 1]) (sel_inj rfl rfl)) (a_ (Eq.refl (.vw [.int .u32 0, .map 1] true [.int .u8, .int .u8, .int .u32, .int .u32] 64 (fun q_ => (y2.1 q_).map (encM v_T_clock_Name (LV.int .u32))) [] : LO)) (a_ (LO.Le.refl (.map true [.int .u8, .int .u8, .int .u32, .int .u32] (encM v_T_clock_Name (LV.int .u32) y2.2))) tr))) tr) (r2_ (f_ c5 (a_ tr (t2_ (r1_ tr)))))))) (a_ (r1_ tr) tr)))) tr) (by kernel_rfl) rfl
  · skip
    obtain ⟨y7, e6, h⟩ := bind_some h
    rcases itb_some h with ⟨c8, h⟩ | ⟨c8, h⟩
    · skip
      obtain rfl := Option.some.inj h
      exact run_ret mixed (L := []) (n := 23) (s := [.reg [], .reg [(0, { call := some ((clock_New_v y2).ren (sel [0, 1]), preOf (sel [0, 1]) 0 [], upOf (sel [0, 1]) (clock_New_up  y2)) })], .reg [(5, { call := some ((clock_Clock_Set_v y4).ren (sel [0, 1]), preOf (sel [0, 1]) 0 (clock_Clock_Set_objs 0 y2.2 y2.1 (T_clock_Name.mk 1 (T_api_Tx.mk 0 0 0)) 2), upOf (sel [0, 1]) (clock_Clock_Set_up 0 y2.2 y2.1 (T_clock_Name.mk 1 (T_api_Tx.mk 0 0 0)) 2 y4)) }), (8, hF), (10, { call := some ((clock_Clock_Len_v y7).ren (sel [0, 1]), preOf (sel [0, 1]) 0 (clock_Clock_Len_objs y4.2.1 y4.2.2.2 y4.2.2.1), upOf (sel [0, 1]) (clock_Clock_Len_up y4.2.1 y4.2.2.2 y4.2.2.1 y7)) }), (12, hT)], .reg []])
        (a_ (a_ (r1_ tr) (a_ (a_ (a_ (a_ (clock_New_ok  y2 e1 (sel [0, 1]) (sel_inj rfl rfl)) tr) tr) (r1_ tr)) (a_ (r4_ (a_ (a_ (Eq.refl true) tr) (a_ (a_ (a_ (clock_Clock_Set_ok 0 y2.2 y2.1 (T_clock_Name.mk 1 (T_api_Tx.mk 0 0 0)) 2 y4 e3 (sel [0, 1]) (sel_inj rfl rfl)) (a_ (Eq.refl (.vw [.int .u32 0, .map 1] true [.int .u8, .int .u8, .int .u32, .int .u32] 64 (fun q_ => (y2.1 q_).map (encM v_T_clock_Name (LV.int .u32))) [] : LO)) (a_ (LO.Le.refl (.map true [.int .u8, .int .u8, .int .u32, .int .u32] (encM v_T_clock_Name (LV.int .u32) y2.2))) tr))) tr) (r2_ (f_ c5 (r1_ (a_ (a_ (a_ (clock_Clock_Len_ok y4.2.1 y4.2.2.2 y4.2.2.1 y7 e6 (sel [0, 1]) (sel_inj rfl rfl)) (a_ (Eq.refl (.vw [.int .u32 y4.2.1, .map 1] true [.int .u8, .int .u8, .int .u32, .int .u32] 64 (fun q_ => (y4.2.2.1 q_).map (encM v_T_clock_Name (LV.int .u32))) [] : LO)) (a_ (LO.Le.refl (.map true [.int .u8, .int .u8, .int .u32, .int .u32] (encM v_T_clock_Name (LV.int .u32) y4.2.2.2))) tr))) tr) (r1_ (f_ c8 tr))))))))) (a_ (r1_ tr) tr)))) tr) (by kernel_rfl) rfl
    · skip
      obtain ⟨y10, e9, h⟩ := bind_some h
      obtain ⟨y12, e11, h⟩ := bind_some h
      rcases itb_some h with ⟨c13, h⟩ | ⟨c13, h⟩
      · skip
        rcases itb_some h with ⟨c14, h⟩ | ⟨c14, h⟩
        · skip
          rcases itb_some h with ⟨c15, h⟩ | ⟨c15, h⟩
          · skip
            obtain ⟨g16, h⟩ := guard_some h
            rcases itb_some h with ⟨c17, h⟩ | ⟨c17, h⟩
            · skip
              rcases itb_some h with ⟨c18, h⟩ | ⟨c18, h⟩
              · skip
                obtain ⟨y20, e19, h⟩ := bind_some h
                rcases itb_some h with ⟨c21, h⟩ | ⟨c21, h⟩
                · skip
                  obtain ⟨y23, e22, h⟩ := bind_some h
                  obtain rfl := Option.some.inj h
                  exact run_ret mixed (L := []) (n := 30) (s := [.reg [], .reg [(0, { call := some ((clock_New_v y2).ren (sel [0, 1]), preOf (sel [0, 1]) 0 [], upOf (sel [0, 1]) (clock_New_up  y2)) })], .reg [(5, { call := some ((clock_Clock_Set_v y4).ren (sel [0, 1]), preOf (sel [0, 1]) 0 (clock_Clock_Set_objs 0 y2.2 y2.1 (T_clock_Name.mk 1 (T_api_Tx.mk 0 0 0)) 2), upOf (sel [0, 1]) (clock_Clock_Set_up 0 y2.2 y2.1 (T_clock_Name.mk 1 (T_api_Tx.mk 0 0 0)) 2 y4)) }), (8, hF), (10, { call := some ((clock_Clock_Len_v y7).ren (sel [0, 1]), preOf (sel [0, 1]) 0 (clock_Clock_Len_objs y4.2.1 y4.2.2.2 y4.2.2.1), upOf (sel [0, 1]) (clock_Clock_Len_up y4.2.1 y4.2.2.2 y4.2.2.1 y7)) }), (12, hF)], .reg [(1, { call := some ((clock_Clock_Tick_v y10).ren (sel [0, 1]), preOf (sel [0, 1]) 0 (clock_Clock_Tick_objs y4.2.1 y4.2.2.2 y4.2.2.1), upOf (sel [0, 1]) (clock_Clock_Tick_up y4.2.1 y4.2.2.2 y4.2.2.1 y10)) })], .reg [(1, { call := some ((clock_Clock_Tick_v y12).ren (sel [0, 1]), preOf (sel [0, 1]) 0 (clock_Clock_Tick_objs y10.2.2.1 y10.2.2.2.2 y10.2.2.2.1), upOf (sel [0, 1]) (clock_Clock_Tick_up y10.2.2.1 y10.2.2.2.2 y10.2.2.2.1 y12)) })], .reg [(3, hT), (7, hT), (12, hT), (19, hT), (23, hT), (25, { call := some ((clock_Clock_Now_v y20).ren (sel [0, 1]), preOf (sel [0, 1]) 0 (clock_Clock_Now_objs y12.2.2.1 y12.2.2.2.2 y12.2.2.2.1), upOf (sel [0, 1]) (clock_Clock_Now_up y12.2.2.1 y12.2.2.2.2 y12.2.2.2.1 y20)) }), (28, hT), (30, { call := some ((clock_Clock_Len_v y23).ren (sel [0, 1]), preOf (sel [0, 1]) 0 (clock_Clock_Len_objs y12.2.2.1 y12.2.2.2.2 y12.2.2.2.1), upOf (sel [0, 1]) (clock_Clock_Len_up y12.2.2.1 y12.2.2.2.2 y12.2.2.2.1 y23)) })]])
                    (a_ (a_ (r1_ tr) (a_ (a_ (a_ (a_ (clock_New_ok  y2 e1 (sel [0, 1]) (sel_inj rfl rfl)) tr) tr) (r1_ tr)) (a_ (r4_ (a_ (a_ (Eq.refl true) tr) (a_ (a_ (a_ (clock_Clock_Set_ok 0 y2.2 y2.1 (T_clock_Name.mk 1 (T_api_Tx.mk 0 0 0)) 2 y4 e3 (sel [0, 1]) (sel_inj rfl rfl)) (a_ (Eq.refl (.vw [.int .u32 0, .map 1] true [.int .u8, .int .u8, .int .u32, .int .u32] 64 (fun q_ => (y2.1 q_).map (encM v_T_clock_Name (LV.int .u32))) [] : LO)) (a_ (LO.Le.refl (.map true [.int .u8, .int .u8, .int .u32, .int .u32] (encM v_T_clock_Name (LV.int .u32) y2.2))) tr))) tr) (r2_ (f_ c5 (r1_ (a_ (a_ (a_ (clock_Clock_Len_ok y4.2.1 y4.2.2.2 y4.2.2.1 y7 e6 (sel [0, 1]) (sel_inj rfl rfl)) (a_ (Eq.refl (.vw [.int .u32 y4.2.1, .map 1] true [.int .u8, .int .u8, .int .u32, .int .u32] 64 (fun q_ => (y4.2.2.1 q_).map (encM v_T_clock_Name (LV.int .u32))) [] : LO)) (a_ (LO.Le.refl (.map true [.int .u8, .int .u8, .int .u32, .int .u32] (encM v_T_clock_Name (LV.int .u32) y4.2.2.2))) tr))) tr) (r1_ (f_ c8 tr))))))))) (a_ (r1_ (a_ (a_ (a_ (clock_Clock_Tick_ok y4.2.1 y4.2.2.2 y4.2.2.1 y10 e9 (sel [0, 1]) (sel_inj rfl rfl)) (a_ (Eq.refl (.vw [.int .u32 y4.2.1, .map 1] true [.int .u8, .int .u8, .int .u32, .int .u32] 64 (fun q_ => (y4.2.2.1 q_).map (encM v_T_clock_Name (LV.int .u32))) [] : LO)) (a_ (LO.Le.refl (.map true [.int .u8, .int .u8, .int .u32, .int .u32] (encM v_T_clock_Name (LV.int .u32) y4.2.2.2))) tr))) tr) (r1_ (r4_ tr)))) (a_ (r1_ (a_ (a_ (a_ (clock_Clock_Tick_ok y10.2.2.1 y10.2.2.2.2 y10.2.2.2.1 y12 e11 (sel [0, 1]) (sel_inj rfl rfl)) (a_ (Eq.refl (.vw [.int .u32 y10.2.2.1, .map 1] true [.int .u8, .int .u8, .int .u32, .int .u32] 64 (fun q_ => (y10.2.2.2.1 q_).map (encM v_T_clock_Name (LV.int .u32))) [] : LO)) (a_ (LO.Le.refl (.map true [.int .u8, .int .u8, .int .u32, .int .u32] (encM v_T_clock_Name (LV.int .u32) y10.2.2.2.2))) tr))) tr) (r1_ (r4_ tr)))) (a_ (r1_ (r2_ (f_ c13 (r1_ (r2_ (f_ c14 (r4_ (f_ c15 (r1_ (a_ (a_ (a_ (Eq.refl 4) g16) tr) (r1_ (a_ (a_ (lt_ 0 4 rfl) tr) (r2_ (f_ c17 (r1_ (r2_ (f_ c18 (r1_ (a_ (a_ (a_ (clock_Clock_Now_ok y12.2.2.1 y12.2.2.2.2 y12.2.2.2.1 y20 e19 (sel [0, 1]) (sel_inj rfl rfl)) (a_ (Eq.refl (.vw [.int .u32 y12.2.2.1, .map 1] true [.int .u8, .int .u8, .int .u32, .int .u32] 64 (fun q_ => (y12.2.2.2.1 q_).map (encM v_T_clock_Name (LV.int .u32))) [] : LO)) (a_ (LO.Le.refl (.map true [.int .u8, .int .u8, .int .u32, .int .u32] (encM v_T_clock_Name (LV.int .u32) y12.2.2.2.2))) tr))) tr) (r2_ (f_ c21 (r1_ (a_ (a_ (a_ (clock_Clock_Len_ok y12.2.2.1 y12.2.2.2.2 y12.2.2.2.1 y23 e22 (sel [0, 1]) (sel_inj rfl rfl)) (a_ (Eq.refl (.vw [.int .u32 y12.2.2.1, .map 1] true [.int .u8, .int .u8, .int .u32, .int .u32] 64 (fun q_ => (y12.2.2.2.1 q_).map (encM v_T_clock_Name (LV.int .u32))) [] : LO)) (a_ (LO.Le.refl (.map true [.int .u8, .int .u8, .int .u32, .int .u32] (encM v_T_clock_Name (LV.int .u32) y12.2.2.2.2))) tr))) tr) (r1_ (r2_ tr))))))))))))))))))))))))) tr)))))) tr) (by kernel_rfl) rfl
                · skip
                  obtain rfl := Option.some.inj h
                  exact run_ret mixed (L := []) (n := 30) (s := [.reg [], .reg [(0, { call := some ((clock_New_v y2).ren (sel [0, 1]), preOf (sel [0, 1]) 0 [], upOf (sel [0, 1]) (clock_New_up  y2)) })], .reg [(5, { call := some ((clock_Clock_Set_v y4).ren (sel [0, 1]), preOf (sel [0, 1]) 0 (clock_Clock_Set_objs 0 y2.2 y2.1 (T_clock_Name.mk 1 (T_api_Tx.mk 0 0 0)) 2), upOf (sel [0, 1]) (clock_Clock_Set_up 0 y2.2 y2.1 (T_clock_Name.mk 1 (T_api_Tx.mk 0 0 0)) 2 y4)) }), (8, hF), (10, { call := some ((clock_Clock_Len_v y7).ren (sel [0, 1]), preOf (sel [0, 1]) 0 (clock_Clock_Len_objs y4.2.1 y4.2.2.2 y4.2.2.1), upOf (sel [0, 1]) (clock_Clock_Len_up y4.2.1 y4.2.2.2 y4.2.2.1 y7)) }), (12, hF)], .reg [(1, { call := some ((clock_Clock_Tick_v y10).ren (sel [0, 1]), preOf (sel [0, 1]) 0 (clock_Clock_Tick_objs y4.2.1 y4.2.2.2 y4.2.2.1), upOf (sel [0, 1]) (clock_Clock_Tick_up y4.2.1 y4.2.2.2 y4.2.2.1 y10)) })], .reg [(1, { call := some ((clock_Clock_Tick_v y12).ren (sel [0, 1]), preOf (sel [0, 1]) 0 (clock_Clock_Tick_objs y10.2.2.1 y10.2.2.2.2 y10.2.2.2.1), upOf (sel [0, 1]) (clock_Clock_Tick_up y10.2.2.1 y10.2.2.2.2 y10.2.2.2.1 y12)) })], .reg [(3, hT), (7, hT), (12, hT), (19, hT), (23, hT), (25, { call := some ((clock_Clock_Now_v y20).ren (sel [0, 1]), preOf (sel [0, 1]) 0 (clock_Clock_Now_objs y12.2.2.1 y12.2.2.2.2 y12.2.2.2.1), upOf (sel [0, 1]) (clock_Clock_Now_up y12.2.2.1 y12.2.2.2.2 y12.2.2.2.1 y20)) }), (28, hF)]])
                    (a_ (a_ (r1_ tr) (a_ (a_ (a_ (a_ (clock_New_ok  y2 e1 (sel [0, 1]) (sel_inj rfl rfl)) tr) tr) (r1_ tr)) (a_ (r4_ (a_ (a_ (Eq.refl true) tr) (a_ (a_ (a_ (clock_Clock_Set_ok 0 y2.2 y2.1 (T_clock_Name.mk 1 (T_api_Tx.mk 0 0 0)) 2 y4 e3 (sel [0, 1]) (sel_inj rfl rfl)) (a_ (Eq.refl (.vw [.int .u32 0, .map 1] true [.int .u8, .int .u8, .int .u32, .int .u32] 64 (fun q_ => (y2.1 q_).map (encM v_T_clock_Name (LV.int .u32))) [] : LO)) (a_ (LO.Le.refl (.map true [.int .u8, .int .u8, .int .u32, .int .u32] (encM v_T_clock_Name (LV.int .u32) y2.2))) tr))) tr) (r2_ (f_ c5 (r1_ (a_ (a_ (a_ (clock_Clock_Len_ok y4.2.1 y4.2.2.2 y4.2.2.1 y7 e6 (sel [0, 1]) (sel_inj rfl rfl)) (a_ (Eq.refl (.vw [.int .u32 y4.2.1, .map 1] true [.int .u8, .int .u8, .int .u32, .int .u32] 64 (fun q_ => (y4.2.2.1 q_).map (encM v_T_clock_Name (LV.int .u32))) [] : LO)) (a_ (LO.Le.refl (.map true [.int .u8, .int .u8, .int .u32, .int .u32] (encM v_T_clock_Name (LV.int .u32) y4.2.2.2))) tr))) tr) (r1_ (f_ c8 tr))))))))) (a_ (r1_ (a_ (a_ (a_ (clock_Clock_Tick_ok y4.2.1 y4.2.2.2 y4.2.2.1 y10 e9 (sel [0, 1]) (sel_inj rfl rfl)) (a_ (Eq.refl (.vw [.int .u32 y4.2.1, .map 1] true [.int .u8, .int .u8, .int .u32, .int .u32] 64 (fun q_ => (y4.2.2.1 q_).map (encM v_T_clock_Name (LV.int .u32))) [] : LO)) (a_ (LO.Le.refl (.map true [.int .u8, .int .u8, .int .u32, .int .u32] (encM v_T_clock_Name (LV.int .u32) y4.2.2.2))) tr))) tr) (r1_ (r4_ tr)))) (a_ (r1_ (a_ (a_ (a_ (clock_Clock_Tick_ok y10.2.2.1 y10.2.2.2.2 y10.2.2.2.1 y12 e11 (sel [0, 1]) (sel_inj rfl rfl)) (a_ (Eq.refl (.vw [.int .u32 y10.2.2.1, .map 1] true [.int .u8, .int .u8, .int .u32, .int .u32] 64 (fun q_ => (y10.2.2.2.1 q_).map (encM v_T_clock_Name (LV.int .u32))) [] : LO)) (a_ (LO.Le.refl (.map true [.int .u8, .int .u8, .int .u32, .int .u32] (encM v_T_clock_Name (LV.int .u32) y10.2.2.2.2))) tr))) tr) (r1_ (r4_ tr)))) (a_ (r1_ (r2_ (f_ c13 (r1_ (r2_ (f_ c14 (r4_ (f_ c15 (r1_ (a_ (a_ (a_ (Eq.refl 4) g16) tr) (r1_ (a_ (a_ (lt_ 0 4 rfl) tr) (r2_ (f_ c17 (r1_ (r2_ (f_ c18 (r1_ (a_ (a_ (a_ (clock_Clock_Now_ok y12.2.2.1 y12.2.2.2.2 y12.2.2.2.1 y20 e19 (sel [0, 1]) (sel_inj rfl rfl)) (a_ (Eq.refl (.vw [.int .u32 y12.2.2.1, .map 1] true [.int .u8, .int .u8, .int .u32, .int .u32] 64 (fun q_ => (y12.2.2.2.1 q_).map (encM v_T_clock_Name (LV.int .u32))) [] : LO)) (a_ (LO.Le.refl (.map true [.int .u8, .int .u8, .int .u32, .int .u32] (encM v_T_clock_Name (LV.int .u32) y12.2.2.2.2))) tr))) tr) (r2_ (f_ c21 (a_ tr (t2_ (r2_ tr)))))))))))))))))))))))) tr)))))) tr) (by kernel_rfl) rfl
              · skip
                obtain rfl := Option.some.inj h
                exact run_ret mixed (L := []) (n := 30) (s := [.reg [], .reg [(0, { call := some ((clock_New_v y2).ren (sel [0, 1]), preOf (sel [0, 1]) 0 [], upOf (sel [0, 1]) (clock_New_up  y2)) })], .reg [(5, { call := some ((clock_Clock_Set_v y4).ren (sel [0, 1]), preOf (sel [0, 1]) 0 (clock_Clock_Set_objs 0 y2.2 y2.1 (T_clock_Name.mk 1 (T_api_Tx.mk 0 0 0)) 2), upOf (sel [0, 1]) (clock_Clock_Set_up 0 y2.2 y2.1 (T_clock_Name.mk 1 (T_api_Tx.mk 0 0 0)) 2 y4)) }), (8, hF), (10, { call := some ((clock_Clock_Len_v y7).ren (sel [0, 1]), preOf (sel [0, 1]) 0 (clock_Clock_Len_objs y4.2.1 y4.2.2.2 y4.2.2.1), upOf (sel [0, 1]) (clock_Clock_Len_up y4.2.1 y4.2.2.2 y4.2.2.1 y7)) }), (12, hF)], .reg [(1, { call := some ((clock_Clock_Tick_v y10).ren (sel [0, 1]), preOf (sel [0, 1]) 0 (clock_Clock_Tick_objs y4.2.1 y4.2.2.2 y4.2.2.1), upOf (sel [0, 1]) (clock_Clock_Tick_up y4.2.1 y4.2.2.2 y4.2.2.1 y10)) })], .reg [(1, { call := some ((clock_Clock_Tick_v y12).ren (sel [0, 1]), preOf (sel [0, 1]) 0 (clock_Clock_Tick_objs y10.2.2.1 y10.2.2.2.2 y10.2.2.2.1), upOf (sel [0, 1]) (clock_Clock_Tick_up y10.2.2.1 y10.2.2.2.2 y10.2.2.2.1 y12)) })], .reg [(3, hT), (7, hT), (12, hT), (19, hT), (23, hF)]])
                  (a_ (a_ (r1_ tr) (a_ (a_ (a_ (a_ (clock_New_ok  y2 e1 (sel [0, 1]) (sel_inj rfl rfl)) tr) tr) (r1_ tr)) (a_ (r4_ (a_ (a_ (Eq.refl true) tr) (a_ (a_ (a_ (clock_Clock_Set_ok 0 y2.2 y2.1 (T_clock_Name.mk 1 (T_api_Tx.mk 0 0 0)) 2 y4 e3 (sel [0, 1]) (sel_inj rfl rfl)) (a_ (Eq.refl (.vw [.int .u32 0, .map 1] true [.int .u8, .int .u8, .int .u32, .int .u32] 64 (fun q_ => (y2.1 q_).map (encM v_T_clock_Name (LV.int .u32))) [] : LO)) (a_ (LO.Le.refl (.map true [.int .u8, .int .u8, .int .u32, .int .u32] (encM v_T_clock_Name (LV.int .u32) y2.2))) tr))) tr) (r2_ (f_ c5 (r1_ (a_ (a_ (a_ (clock_Clock_Len_ok y4.2.1 y4.2.2.2 y4.2.2.1 y7 e6 (sel [0, 1]) (sel_inj rfl rfl)) (a_ (Eq.refl (.vw [.int .u32 y4.2.1, .map 1] true [.int .u8, .int .u8, .int .u32, .int .u32] 64 (fun q_ => (y4.2.2.1 q_).map (encM v_T_clock_Name (LV.int .u32))) [] : LO)) (a_ (LO.Le.refl (.map true [.int .u8, .int .u8, .int .u32, .int .u32] (encM v_T_clock_Name (LV.int .u32) y4.2.2.2))) tr))) tr) (r1_ (f_ c8 tr))))))))) (a_ (r1_ (a_ (a_ (a_ (clock_Clock_Tick_ok y4.2.1 y4.2.2.2 y4.2.2.1 y10 e9 (sel [0, 1]) (sel_inj rfl rfl)) (a_ (Eq.refl (.vw [.int .u32 y4.2.1, .map 1] true [.int .u8, .int .u8, .int .u32, .int .u32] 64 (fun q_ => (y4.2.2.1 q_).map (encM v_T_clock_Name (LV.int .u32))) [] : LO)) (a_ (LO.Le.refl (.map true [.int .u8, .int .u8, .int .u32, .int .u32] (encM v_T_clock_Name (LV.int .u32) y4.2.2.2))) tr))) tr) (r1_ (r4_ tr)))) (a_ (r1_ (a_ (a_ (a_ (clock_Clock_Tick_ok y10.2.2.1 y10.2.2.2.2 y10.2.2.2.1 y12 e11 (sel [0, 1]) (sel_inj rfl rfl)) (a_ (Eq.refl (.vw [.int .u32 y10.2.2.1, .map 1] true [.int .u8, .int .u8, .int .u32, .int .u32] 64 (fun q_ => (y10.2.2.2.1 q_).map (encM v_T_clock_Name (LV.int .u32))) [] : LO)) (a_ (LO.Le.refl (.map true [.int .u8, .int .u8, .int .u32, .int .u32] (encM v_T_clock_Name (LV.int .u32) y10.2.2.2.2))) tr))) tr) (r1_ (r4_ tr)))) (a_ (r1_ (r2_ (f_ c13 (r1_ (r2_ (f_ c14 (r4_ (f_ c15 (r1_ (a_ (a_ (a_ (Eq.refl 4) g16) tr) (r1_ (a_ (a_ (lt_ 0 4 rfl) tr) (r2_ (f_ c17 (r1_ (r2_ (f_ c18 (a_ tr (t2_ (r2_ (a_ tr (t2_ (r2_ tr))))))))))))))))))))))) tr)))))) tr) (by kernel_rfl) rfl
            · skip
              obtain rfl := Option.some.inj h
              exact run_ret mixed (L := []) (n := 30) (s := [.reg [], .reg [(0, { call := some ((clock_New_v y2).ren (sel [0, 1]), preOf (sel [0, 1]) 0 [], upOf (sel [0, 1]) (clock_New_up  y2)) })], .reg [(5, { call := some ((clock_Clock_Set_v y4).ren (sel [0, 1]), preOf (sel [0, 1]) 0 (clock_Clock_Set_objs 0 y2.2 y2.1 (T_clock_Name.mk 1 (T_api_Tx.mk 0 0 0)) 2), upOf (sel [0, 1]) (clock_Clock_Set_up 0 y2.2 y2.1 (T_clock_Name.mk 1 (T_api_Tx.mk 0 0 0)) 2 y4)) }), (8, hF), (10, { call := some ((clock_Clock_Len_v y7).ren (sel [0, 1]), preOf (sel [0, 1]) 0 (clock_Clock_Len_objs y4.2.1 y4.2.2.2 y4.2.2.1), upOf (sel [0, 1]) (clock_Clock_Len_up y4.2.1 y4.2.2.2 y4.2.2.1 y7)) }), (12, hF)], .reg [(1, { call := some ((clock_Clock_Tick_v y10).ren (sel [0, 1]), preOf (sel [0, 1]) 0 (clock_Clock_Tick_objs y4.2.1 y4.2.2.2 y4.2.2.1), upOf (sel [0, 1]) (clock_Clock_Tick_up y4.2.1 y4.2.2.2 y4.2.2.1 y10)) })], .reg [(1, { call := some ((clock_Clock_Tick_v y12).ren (sel [0, 1]), preOf (sel [0, 1]) 0 (clock_Clock_Tick_objs y10.2.2.1 y10.2.2.2.2 y10.2.2.2.1), upOf (sel [0, 1]) (clock_Clock_Tick_up y10.2.2.1 y10.2.2.2.2 y10.2.2.2.1 y12)) })], .reg [(3, hT), (7, hT), (12, hT), (19, hF)]])
                (a_ (a_ (r1_ tr) (a_ (a_ (a_ (a_ (clock_New_ok  y2 e1 (sel [0, 1]) (sel_inj rfl rfl)) tr) tr) (r1_ tr)) (a_ (r4_ (a_ (a_ (Eq.refl true) tr) (a_ (a_ (a_ (clock_Clock_Set_ok 0 y2.2 y2.1 (T_clock_Name.mk 1 (T_api_Tx.mk 0 0 0)) 2 y4 e3 (sel [0, 1]) (sel_inj rfl rfl)) (a_ (Eq.refl (.vw [.int .u32 0, .map 1] true [.int .u8, .int .u8, .int .u32, .int .u32] 64 (fun q_ => (y2.1 q_).map (encM v_T_clock_Name (LV.int .u32))) [] : LO)) (a_ (LO.Le.refl (.map true [.int .u8, .int .u8, .int .u32, .int .u32] (encM v_T_clock_Name (LV.int .u32) y2.2))) tr))) tr) (r2_ (f_ c5 (r1_ (a_ (a_ (a_ (clock_Clock_Len_ok y4.2.1 y4.2.2.2 y4.2.2.1 y7 e6 (sel [0, 1]) (sel_inj rfl rfl)) (a_ (Eq.refl (.vw [.int .u32 y4.2.1, .map 1] true [.int .u8, .int .u8, .int .u32, .int .u32] 64 (fun q_ => (y4.2.2.1 q_).map (encM v_T_clock_Name (LV.int .u32))) [] : LO)) (a_ (LO.Le.refl (.map true [.int .u8, .int .u8, .int .u32, .int .u32] (encM v_T_clock_Name (LV.int .u32) y4.2.2.2))) tr))) tr) (r1_ (f_ c8 tr))))))))) (a_ (r1_ (a_ (a_ (a_ (clock_Clock_Tick_ok y4.2.1 y4.2.2.2 y4.2.2.1 y10 e9 (sel [0, 1]) (sel_inj rfl rfl)) (a_ (Eq.refl (.vw [.int .u32 y4.2.1, .map 1] true [.int .u8, .int .u8, .int .u32, .int .u32] 64 (fun q_ => (y4.2.2.1 q_).map (encM v_T_clock_Name (LV.int .u32))) [] : LO)) (a_ (LO.Le.refl (.map true [.int .u8, .int .u8, .int .u32, .int .u32] (encM v_T_clock_Name (LV.int .u32) y4.2.2.2))) tr))) tr) (r1_ (r4_ tr)))) (a_ (r1_ (a_ (a_ (a_ (clock_Clock_Tick_ok y10.2.2.1 y10.2.2.2.2 y10.2.2.2.1 y12 e11 (sel [0, 1]) (sel_inj rfl rfl)) (a_ (Eq.refl (.vw [.int .u32 y10.2.2.1, .map 1] true [.int .u8, .int .u8, .int .u32, .int .u32] 64 (fun q_ => (y10.2.2.2.1 q_).map (encM v_T_clock_Name (LV.int .u32))) [] : LO)) (a_ (LO.Le.refl (.map true [.int .u8, .int .u8, .int .u32, .int .u32] (encM v_T_clock_Name (LV.int .u32) y10.2.2.2.2))) tr))) tr) (r1_ (r4_ tr)))) (a_ (r1_ (r2_ (f_ c13 (r1_ (r2_ (f_ c14 (r4_ (f_ c15 (r1_ (a_ (a_ (a_ (Eq.refl 4) g16) tr) (r1_ (a_ (a_ (lt_ 0 4 rfl) tr) (r2_ (f_ c17 (t2_ (r2_ (a_ tr (t2_ (r2_ (a_ tr (t2_ (r2_ tr)))))))))))))))))))))) tr)))))) tr) (by kernel_rfl) rfl
          · skip
            obtain rfl := Option.some.inj h
            exact run_ret mixed (L := []) (n := 30) (s := [.reg [], .reg [(0, { call := some ((clock_New_v y2).ren (sel [0, 1]), preOf (sel [0, 1]) 0 [], upOf (sel [0, 1]) (clock_New_up  y2)) })], .reg [(5, { call := some ((clock_Clock_Set_v y4).ren (sel [0, 1]), preOf (sel [0, 1]) 0 (clock_Clock_Set_objs 0 y2.2 y2.1 (T_clock_Name.mk 1 (T_api_Tx.mk 0 0 0)) 2), upOf (sel [0, 1]) (clock_Clock_Set_up 0 y2.2 y2.1 (T_clock_Name.mk 1 (T_api_Tx.mk 0 0 0)) 2 y4)) }), (8, hF), (10, { call := some ((clock_Clock_Len_v y7).ren (sel [0, 1]), preOf (sel [0, 1]) 0 (clock_Clock_Len_objs y4.2.1 y4.2.2.2 y4.2.2.1), upOf (sel [0, 1]) (clock_Clock_Len_up y4.2.1 y4.2.2.2 y4.2.2.1 y7)) }), (12, hF)], .reg [(1, { call := some ((clock_Clock_Tick_v y10).ren (sel [0, 1]), preOf (sel [0, 1]) 0 (clock_Clock_Tick_objs y4.2.1 y4.2.2.2 y4.2.2.1), upOf (sel [0, 1]) (clock_Clock_Tick_up y4.2.1 y4.2.2.2 y4.2.2.1 y10)) })], .reg [(1, { call := some ((clock_Clock_Tick_v y12).ren (sel [0, 1]), preOf (sel [0, 1]) 0 (clock_Clock_Tick_objs y10.2.2.1 y10.2.2.2.2 y10.2.2.2.1), upOf (sel [0, 1]) (clock_Clock_Tick_up y10.2.2.1 y10.2.2.2.2 y10.2.2.2.1 y12)) })], .reg [(3, hT), (7, hT), (12, hF)]])
              (a_ (a_ (r1_ tr) (a_ (a_ (a_ (a_ (clock_New_ok  y2 e1 (sel [0, 1]) (sel_inj rfl rfl)) tr) tr) (r1_ tr)) (a_ (r4_ (a_ (a_ (Eq.refl true) tr) (a_ (a_ (a_ (clock_Clock_Set_ok 0 y2.2 y2.1 (T_clock_Name.mk 1 (T_api_Tx.mk 0 0 0)) 2 y4 e3 (sel [0, 1]) (sel_inj rfl rfl)) (a_ (Eq.refl (.vw [.int .u32 0, .map 1] true [.int .u8, .int .u8, .int .u32, .int .u32] 64 (fun q_ => (y2.1 q_).map (encM v_T_clock_Name (LV.int .u32))) [] : LO)) (a_ (LO.Le.refl (.map true [.int .u8, .int .u8, .int .u32, .int .u32] (encM v_T_clock_Name (LV.int .u32) y2.2))) tr))) tr) (r2_ (f_ c5 (r1_ (a_ (a_ (a_ (clock_Clock_Len_ok y4.2.1 y4.2.2.2 y4.2.2.1 y7 e6 (sel [0, 1]) (sel_inj rfl rfl)) (a_ (Eq.refl (.vw [.int .u32 y4.2.1, .map 1] true [.int .u8, .int .u8, .int .u32, .int .u32] 64 (fun q_ => (y4.2.2.1 q_).map (encM v_T_clock_Name (LV.int .u32))) [] : LO)) (a_ (LO.Le.refl (.map true [.int .u8, .int .u8, .int .u32, .int .u32] (encM v_T_clock_Name (LV.int .u32) y4.2.2.2))) tr))) tr) (r1_ (f_ c8 tr))))))))) (a_ (r1_ (a_ (a_ (a_ (clock_Clock_Tick_ok y4.2.1 y4.2.2.2 y4.2.2.1 y10 e9 (sel [0, 1]) (sel_inj rfl rfl)) (a_ (Eq.refl (.vw [.int .u32 y4.2.1, .map 1] true [.int .u8, .int .u8, .int .u32, .int .u32] 64 (fun q_ => (y4.2.2.1 q_).map (encM v_T_clock_Name (LV.int .u32))) [] : LO)) (a_ (LO.Le.refl (.map true [.int .u8, .int .u8, .int .u32, .int .u32] (encM v_T_clock_Name (LV.int .u32) y4.2.2.2))) tr))) tr) (r1_ (r4_ tr)))) (a_ (r1_ (a_ (a_ (a_ (clock_Clock_Tick_ok y10.2.2.1 y10.2.2.2.2 y10.2.2.2.1 y12 e11 (sel [0, 1]) (sel_inj rfl rfl)) (a_ (Eq.refl (.vw [.int .u32 y10.2.2.1, .map 1] true [.int .u8, .int .u8, .int .u32, .int .u32] 64 (fun q_ => (y10.2.2.2.1 q_).map (encM v_T_clock_Name (LV.int .u32))) [] : LO)) (a_ (LO.Le.refl (.map true [.int .u8, .int .u8, .int .u32, .int .u32] (encM v_T_clock_Name (LV.int .u32) y10.2.2.2.2))) tr))) tr) (r1_ (r4_ tr)))) (a_ (r1_ (r2_ (f_ c13 (r1_ (r2_ (f_ c14 (r4_ (f_ c15 (a_ tr (t4_ (r2_ (t2_ (r2_ (a_ tr (t2_ (r2_ (a_ tr (t2_ (r2_ tr))))))))))))))))))) tr)))))) tr) (by kernel_rfl) rfl
        · skip
          obtain rfl := Option.some.inj h
          exact run_ret mixed (L := []) (n := 30) (s := [.reg [], .reg [(0, { call := some ((clock_New_v y2).ren (sel [0, 1]), preOf (sel [0, 1]) 0 [], upOf (sel [0, 1]) (clock_New_up  y2)) })], .reg [(5, { call := some ((clock_Clock_Set_v y4).ren (sel [0, 1]), preOf (sel [0, 1]) 0 (clock_Clock_Set_objs 0 y2.2 y2.1 (T_clock_Name.mk 1 (T_api_Tx.mk 0 0 0)) 2), upOf (sel [0, 1]) (clock_Clock_Set_up 0 y2.2 y2.1 (T_clock_Name.mk 1 (T_api_Tx.mk 0 0 0)) 2 y4)) }), (8, hF), (10, { call := some ((clock_Clock_Len_v y7).ren (sel [0, 1]), preOf (sel [0, 1]) 0 (clock_Clock_Len_objs y4.2.1 y4.2.2.2 y4.2.2.1), upOf (sel [0, 1]) (clock_Clock_Len_up y4.2.1 y4.2.2.2 y4.2.2.1 y7)) }), (12, hF)], .reg [(1, { call := some ((clock_Clock_Tick_v y10).ren (sel [0, 1]), preOf (sel [0, 1]) 0 (clock_Clock_Tick_objs y4.2.1 y4.2.2.2 y4.2.2.1), upOf (sel [0, 1]) (clock_Clock_Tick_up y4.2.1 y4.2.2.2 y4.2.2.1 y10)) })], .reg [(1, { call := some ((clock_Clock_Tick_v y12).ren (sel [0, 1]), preOf (sel [0, 1]) 0 (clock_Clock_Tick_objs y10.2.2.1 y10.2.2.2.2 y10.2.2.2.1), upOf (sel [0, 1]) (clock_Clock_Tick_up y10.2.2.1 y10.2.2.2.2 y10.2.2.2.1 y12)) })], .reg [(3, hT), (7, hF)]])
            (a_ (a_ (r1_ tr) (a_ (a_ (a_ (a_ (clock_New_ok  y2 e1 (sel [0, 1]) (sel_inj rfl rfl)) tr) tr) (r1_ tr)) (a_ (r4_ (a_ (a_ (Eq.refl true) tr) (a_ (a_ (a_ (clock_Clock_Set_ok 0 y2.2 y2.1 (T_clock_Name.mk 1 (T_api_Tx.mk 0 0 0)) 2 y4 e3 (sel [0, 1]) (sel_inj rfl rfl)) (a_ (Eq.refl (.vw [.int .u32 0, .map 1] true [.int .u8, .int .u8, .int .u32, .int .u32] 64 (fun q_ => (y2.1 q_).map (encM v_T_clock_Name (LV.int .u32))) [] : LO)) (a_ (LO.Le.refl (.map true [.int .u8, .int .u8, .int .u32, .int .u32] (encM v_T_clock_Name (LV.int .u32) y2.2))) tr))) tr) (r2_ (f_ c5 (r1_ (a_ (a_ (a_ (clock_Clock_Len_ok y4.2.1 y4.2.2.2 y4.2.2.1 y7 e6 (sel [0, 1]) (sel_inj rfl rfl)) (a_ (Eq.refl (.vw [.int .u32 y4.2.1, .map 1] true [.int .u8, .int .u8, .int .u32, .int .u32] 64 (fun q_ => (y4.2.2.1 q_).map (encM v_T_clock_Name (LV.int .u32))) [] : LO)) (a_ (LO.Le.refl (.map true [.int .u8, .int .u8, .int .u32, .int .u32] (encM v_T_clock_Name (LV.int .u32) y4.2.2.2))) tr))) tr) (r1_ (f_ c8 tr))))))))) (a_ (r1_ (a_ (a_ (a_ (clock_Clock_Tick_ok y4.2.1 y4.2.2.2 y4.2.2.1 y10 e9 (sel [0, 1]) (sel_inj rfl rfl)) (a_ (Eq.refl (.vw [.int .u32 y4.2.1, .map 1] true [.int .u8, .int .u8, .int .u32, .int .u32] 64 (fun q_ => (y4.2.2.1 q_).map (encM v_T_clock_Name (LV.int .u32))) [] : LO)) (a_ (LO.Le.refl (.map true [.int .u8, .int .u8, .int .u32, .int .u32] (encM v_T_clock_Name (LV.int .u32) y4.2.2.2))) tr))) tr) (r1_ (r4_ tr)))) (a_ (r1_ (a_ (a_ (a_ (clock_Clock_Tick_ok y10.2.2.1 y10.2.2.2.2 y10.2.2.2.1 y12 e11 (sel [0, 1]) (sel_inj rfl rfl)) (a_ (Eq.refl (.vw [.int .u32 y10.2.2.1, .map 1] true [.int .u8, .int .u8, .int .u32, .int .u32] 64 (fun q_ => (y10.2.2.2.1 q_).map (encM v_T_clock_Name (LV.int .u32))) [] : LO)) (a_ (LO.Le.refl (.map true [.int .u8, .int .u8, .int .u32, .int .u32] (encM v_T_clock_Name (LV.int .u32) y10.2.2.2.2))) tr))) tr) (r1_ (r4_ tr)))) (a_ (r1_ (r2_ (f_ c13 (r1_ (r2_ (f_ c14 (a_ tr (t2_ (r2_ (a_ tr (t4_ (r2_ (t2_ (r2_ (a_ tr (t2_ (r2_ (a_ tr (t2_ (r2_ tr)))))))))))))))))))) tr)))))) tr) (by kernel_rfl) rfl
      · skip
        obtain rfl := Option.some.inj h
        exact run_ret mixed (L := []) (n := 30) (s := [.reg [], .reg [(0, { call := some ((clock_New_v y2).ren (sel [0, 1]), preOf (sel [0, 1]) 0 [], upOf (sel [0, 1]) (clock_New_up  y2)) })], .reg [(5, { call := some ((clock_Clock_Set_v y4).ren (sel [0, 1]), preOf (sel [0, 1]) 0 (clock_Clock_Set_objs 0 y2.2 y2.1 (T_clock_Name.mk 1 (T_api_Tx.mk 0 0 0)) 2), upOf (sel [0, 1]) (clock_Clock_Set_up 0 y2.2 y2.1 (T_clock_Name.mk 1 (T_api_Tx.mk 0 0 0)) 2 y4)) }), (8, hF), (10, { call := some ((clock_Clock_Len_v y7).ren (sel [0, 1]), preOf (sel [0, 1]) 0 (clock_Clock_Len_objs y4.2.1 y4.2.2.2 y4.2.2.1), upOf (sel [0, 1]) (clock_Clock_Len_up y4.2.1 y4.2.2.2 y4.2.2.1 y7)) }), (12, hF)], .reg [(1, { call := some ((clock_Clock_Tick_v y10).ren (sel [0, 1]), preOf (sel [0, 1]) 0 (clock_Clock_Tick_objs y4.2.1 y4.2.2.2 y4.2.2.1), upOf (sel [0, 1]) (clock_Clock_Tick_up y4.2.1 y4.2.2.2 y4.2.2.1 y10)) })], .reg [(1, { call := some ((clock_Clock_Tick_v y12).ren (sel [0, 1]), preOf (sel [0, 1]) 0 (clock_Clock_Tick_objs y10.2.2.1 y10.2.2.2.2 y10.2.2.2.1), upOf (sel [0, 1]) (clock_Clock_Tick_up y10.2.2.1 y10.2.2.2.2 y10.2.2.2.1 y12)) })], .reg [(3, hF)]])
          (a_ (a_ (r1_ tr) (a_ (a_ (a_ (a_ (clock_New_ok  y2 e1 (sel [0, 1]) (sel_inj rfl rfl)) tr) tr) (r1_ tr)) (a_ (r4_ (a_ (a_ (Eq.refl true) tr) (a_ (a_ (a_ (clock_Clock_Set_ok 0 y2.2 y2.1 (T_clock_Name.mk 1 (T_api_Tx.mk 0 0 0)) 2 y4 e3 (sel [0, 1]) (sel_inj rfl rfl)) (a_ (Eq.refl (.vw [.int .u32 0, .map 1] true [.int .u8, .int .u8, .int .u32, .int .u32] 64 (fun q_ => (y2.1 q_).map (encM v_T_clock_Name (LV.int .u32))) [] : LO)) (a_ (LO.Le.refl (.map true [.int .u8, .int .u8, .int .u32, .int .u32] (encM v_T_clock_Name (LV.int .u32) y2.2))) tr))) tr) (r2_ (f_ c5 (r1_ (a_ (a_ (a_ (clock_Clock_Len_ok y4.2.1 y4.2.2.2 y4.2.2.1 y7 e6 (sel [0, 1]) (sel_inj rfl rfl)) (a_ (Eq.refl (.vw [.int .u32 y4.2.1, .map 1] true [.int .u8, .int .u8, .int .u32, .int .u32] 64 (fun q_ => (y4.2.2.1 q_).map (encM v_T_clock_Name (LV.int .u32))) [] : LO)) (a_ (LO.Le.refl (.map true [.int .u8, .int .u8, .int .u32, .int .u32] (encM v_T_clock_Name (LV.int .u32) y4.2.2.2))) tr))) tr) (r1_ (f_ c8 tr))))))))) (a_ (r1_ (a_ (a_ (a_ (clock_Clock_Tick_ok y4.2.1 y4.2.2.2 y4.2.2.1 y10 e9 (sel [0, 1]) (sel_inj rfl rfl)) (a_ (Eq.refl (.vw [.int .u32 y4.2.1, .map 1] true [.int .u8, .int .u8, .int .u32, .int .u32] 64 (fun q_ => (y4.2.2.1 q_).map (encM v_T_clock_Name (LV.int .u32))) [] : LO)) (a_ (LO.Le.refl (.map true [.int .u8, .int .u8, .int .u32, .int .u32] (encM v_T_clock_Name (LV.int .u32) y4.2.2.2))) tr))) tr) (r1_ (r4_ tr)))) (a_ (r1_ (a_ (a_ (a_ (clock_Clock_Tick_ok y10.2.2.1 y10.2.2.2.2 y10.2.2.2.1 y12 e11 (sel [0, 1]) (sel_inj rfl rfl)) (a_ (Eq.refl (.vw [.int .u32 y10.2.2.1, .map 1] true [.int .u8, .int .u8, .int .u32, .int .u32] 64 (fun q_ => (y10.2.2.2.1 q_).map (encM v_T_clock_Name (LV.int .u32))) [] : LO)) (a_ (LO.Le.refl (.map true [.int .u8, .int .u8, .int .u32, .int .u32] (encM v_T_clock_Name (LV.int .u32) y10.2.2.2.2))) tr))) tr) (r1_ (r4_ tr)))) (a_ (r1_ (r2_ (f_ c13 (t2_ (r2_ (a_ tr (t2_ (r2_ (a_ tr (t4_ (r2_ (t2_ (r2_ (a_ tr (t2_ (r2_ (a_ tr (t2_ (r2_ tr))))))))))))))))))) tr)))))) tr) (by kernel_rfl) rfl

theorem parrellaw09_alive_tri  (r : (Bool)) (h : parrellaw09_alive  = some r) : FnTri Try.prog 16 [] [] (parrellaw09_alive_v r) [] := FnTri.none (parrellaw09_alive_ok  r h) rfl rfl

/-- parrel/parrellaw09.short -/

def parrellaw09_short_v (r : (List (T_parrellaw09_Act))) : LV := .ds 6 (r).length (rowF c_T_parrellaw09_Act default r)

def parrellaw09_short (l : List (T_parrellaw09_Act)) : Option ((List (T_parrellaw09_Act))) :=
  if 0 ≤ (0 : Int) ∧ 0 ≤ (if 150 < ((l).length : Int) then 150 else ((l).length : Int)) ∧ (if 150 < ((l).length : Int) then 150 else ((l).length : Int)) ≤ (((l).length : Nat) : Int) then
  some (l.take ((if 150 < ((l).length : Int) then 150 else ((l).length : Int))).toNat)
  else none

theorem parrellaw09_short_ok (l : List (T_parrellaw09_Act)) (r : (List (T_parrellaw09_Act))) (h : parrellaw09_short l = some r) : ∀ σ, Inj 0 σ → FnTri Try.prog 9 (renL σ [.ds 6 (l).length (rowF c_T_parrellaw09_Act default l)]) (preOf σ 0 []) ((parrellaw09_short_v r).ren σ) (upOf σ []) := by
  refine fn_of Try.func9 (by kernel_rfl) (by kernel_rfl) (by kernel_rfl) trivial (by kernel_rfl) trivial (by kernel_rfl) ?_
  intro w0 W μ0 hμ
  unfold parrellaw09_short at h
  obtain ⟨g1, h⟩ := guard_some h
  obtain rfl := Option.some.inj h
  exact run_ret mixed (L := []) (n := 15) (s := [.reg [(0, { v := some (.ds 6 (([] : List (T_parrellaw09_Act))).length (rowF c_T_parrellaw09_Act default ([] : List (T_parrellaw09_Act)))) })], .reg [(4, { v := some (.ds 6 ((l.take ((if 150 < ((l).length : Int) then 150 else ((l).length : Int))).toNat)).length (rowF c_T_parrellaw09_Act default (l.take ((if 150 < ((l).length : Int) then 150 else ((l).length : Int))).toNat))) })]])
    (a_ (a_ (a_ (a_ tr (a_ (le_nil_ds 6 (rowF c_T_parrellaw09_Act default [])) tr)) tr) (a_ (r4_ (a_ (a_ (a_ (Eq.refl 6) g1) (a_ (le_take c_T_parrellaw09_Act default 6 l ((if 150 < ((l).length : Int) then 150 else ((l).length : Int))).toNat (toN_le g1.2.2)) tr)) (r1_ tr))) tr)) tr) (by kernel_rfl) rfl

theorem parrellaw09_short_tri (l : List (T_parrellaw09_Act)) (r : (List (T_parrellaw09_Act))) (h : parrellaw09_short l = some r) : FnTri Try.prog 9 [.ds 6 (l).length (rowF c_T_parrellaw09_Act default l)] [] (parrellaw09_short_v r) [] := FnTri.none (parrellaw09_short_ok l r h) rfl rfl

/-- (*parrel/parrelref09.Clock).Tick -/

def parrelref09_Clock_Tick_v (r : (List (T_parrelref09_Name)) × (Int) × (Int) × (List (T_parrelref09_Timer))) : LV := .tup [.ds 4 (r.1).length (rowF c_T_parrelref09_Name default r.1), .int .i64 r.2.1]

def parrelref09_Clock_Tick_up (c : T_parrelref09_Clock) (r : (List (T_parrelref09_Name)) × (Int) × (Int) × (List (T_parrelref09_Timer))) : Upd := [(0, some (.var (c_T_parrelref09_Clock (T_parrelref09_Clock.mk r.2.2.1 r.2.2.2))))]

def parrelref09_Clock_Tick_objs (c : T_parrelref09_Clock) : List LO := [.var (c_T_parrelref09_Clock c)]

def parrelref09_Clock_Tick_T0 (c : T_parrelref09_Clock) (L : List (T_parrelref09_Timer)) (l : List (T_parrelref09_Name)) : List LV := [.ptr 0 0 0, .any, .any, .any, .gs 1 (l).length, .any, .any, .any, .any, .any, .any, .any, .any, .any, .any, .any, .any, .any, .any, .any, .any, .any, .any, .any, .any, .any, .any, .any, .any, .any, .any, .any, .any, .any, .any, .any, .any, .any, .any, .any, .any, .any, .any, .any, .any, .any, .any, .any, .any, .any, .any, .any, .any, .any, .any, .any]

def parrelref09_Clock_Tick_H0 (c : T_parrelref09_Clock) (L : List (T_parrelref09_Timer)) (l : List (T_parrelref09_Name)) : Heap := [some (.var (c_T_parrelref09_Clock (T_parrelref09_Clock.mk (IntKind.wrap .u32 (c.f_Now + 1)) L))), some (.gr 4 (l).length (rowF c_T_parrelref09_Name default l))]

def parrelref09_Clock_Tick_l0 (c : T_parrelref09_Clock)  : Nat → (List (T_parrelref09_Timer)) → (List (T_parrelref09_Name)) → Option ((List (T_parrelref09_Name)) × (Int) × (Int) × (List (T_parrelref09_Timer)))
  | 0, _, _ => none
  | fuel + 1, L, l =>
    if ((decide (0 < ((L).length : Int))) : Bool) then
      if 0 ≤ (0 : Int) ∧ (0 : Int) < (((L).length : Nat) : Int) then
      if (((L.getD 0 default).f_At == (IntKind.wrap .u32 (c.f_Now + 1))) : Bool) then
        if ((l).length + (([(L.getD 0 default).f_Name] : List (T_parrelref09_Name))).length) * 16 ≤ 140737488351232 then
        if 0 ≤ (1 : Int) ∧ (1 : Int) ≤ (((L).length : Nat) : Int) ∧ (((L).length : Nat) : Int) ≤ (((L).length : Nat) : Int) then
        parrelref09_Clock_Tick_l0 c  fuel (L.drop 1) (l ++ ([(L.getD 0 default).f_Name] : List (T_parrelref09_Name)))
        else none
        else none
      else
        some (l, 0, (IntKind.wrap .u32 (c.f_Now + 1)), L)
      else none
    else
      some (l, 0, (IntKind.wrap .u32 (c.f_Now + 1)), L)

def parrelref09_Clock_Tick (c : T_parrelref09_Clock) : Option ((List (T_parrelref09_Name)) × (Int) × (Int) × (List (T_parrelref09_Timer))) :=
  if ((decide (2147483647 ≤ c.f_Now)) : Bool) then
    some (([] : List (T_parrelref09_Name)), 17, c.f_Now, c.f_L)
  else
    parrelref09_Clock_Tick_l0 c  big c.f_L ([] : List (T_parrelref09_Name))

theorem parrelref09_Clock_Tick_l0_ok {w0 : World} {W : Nat → Prop} {μ0 : Emb} (hμ : ∀ c p, μ0 c = some p → c < 1) (c : T_parrelref09_Clock)  : ∀ (fuel : Nat) (L : List (T_parrelref09_Timer)) (l : List (T_parrelref09_Name)) (r : (List (T_parrelref09_Name)) × (Int) × (Int) × (List (T_parrelref09_Timer))), parrelref09_Clock_Tick_l0 c  fuel L l = some r → kont Try.prog w0 W μ0 (FnPost Try.prog Try.f18 1 1 (parrelref09_Clock_Tick_v r) (parrelref09_Clock_Tick_up c r)) (kAt (bodyOf Try.f18) 0) none (parrelref09_Clock_Tick_T0 c L l) (parrelref09_Clock_Tick_H0 c L l) := by
  intro fuel
  induction fuel with
  | zero => intro L l r h; rw [parrelref09_Clock_Tick_l0] at h; cases h
  | succ fuel ih =>
    intro L l r h
    rw [parrelref09_Clock_Tick_l0] at h
    rcases itb_some h with ⟨cL0_1, h⟩ | ⟨cL0_1, h⟩
    · skip
      obtain ⟨gL0_2, h⟩ := guard_some h
      rcases itb_some h with ⟨cL0_3, h⟩ | ⟨cL0_3, h⟩
      · skip
        obtain ⟨gL0_4, h⟩ := guard_some h
        obtain ⟨gL0_5, h⟩ := guard_some h
        exact run_to mixed hμ (L := [3]) (n := 23) (s := [.go, .reg [(6, hT), (19, hT)], .reg [(8, { os := [(2, .gr 4 (([(L.getD 0 default).f_Name] : List (T_parrelref09_Name))).length (rowF c_T_parrelref09_Name default ([(L.getD 0 default).f_Name] : List (T_parrelref09_Name))))], v := some (.gs 2 (([(L.getD 0 default).f_Name] : List (T_parrelref09_Name))).length) }), (9, { app := 3, os := [(3, .gr 4 ((l ++ ([(L.getD 0 default).f_Name] : List (T_parrelref09_Name)))).length (rowF c_T_parrelref09_Name default (l ++ ([(L.getD 0 default).f_Name] : List (T_parrelref09_Name)))))], v := some (.gs 3 ((l ++ ([(L.getD 0 default).f_Name] : List (T_parrelref09_Name)))).length) })], .reg [(5, { v := some (.ds 5 ((L.drop 1)).length (rowF c_T_parrelref09_Timer default (L.drop 1))) })]])
          (a_ (r1_ (r2_ (l_ 1 2 rfl (r2_ (f_ cL0_1 (r1_ (r2_ (l_ 1 2 rfl (a_ (a_ (a_ (Eq.refl 5) gL0_2) tr) (r1_ (a_ (a_ (lt_ 0 1 rfl) tr) (r1_ (r2_ (l_ 0 2 rfl (r1_ (f_ cL0_3 tr)))))))))))))))) (a_ (r4_ (l_ 1 2 rfl (a_ (a_ (a_ (Eq.refl 5) gL0_2) tr) (r1_ (a_ (a_ (le_ 4 5 rfl) tr) (a_ (a_ (a_ (Eq.refl true) (a_ (Eq.refl 4) (a_ (lt_ 0 4 rfl) (le_ 4 16777216 rfl)))) (a_ (le_sl_gs 2 1 (some 1) rfl) (a_ (sub_lit c_T_parrelref09_Name default 4 (fun _ => rfl) ([(L.getD 0 default).f_Name] : List (T_parrelref09_Name))) tr))) (a_ (a_ (a_ (a_ (Eq.refl 4) (Nat.le_refl (([(L.getD 0 default).f_Name] : List (T_parrelref09_Name))).length)) (a_ (a_ (lt_ 0 4 rfl) (a_ (lt_ 0 16 rfl) (a_ gL0_4 (a_ (Eq.refl 4) (Eq.refl true))))) (a_ (Eq.refl 4) (Nat.le_refl (l).length)))) (a_ (le_gs_app 3 l ([(L.getD 0 default).f_Name] : List (T_parrelref09_Name))) (a_ (sub_app c_T_parrelref09_Name default 4 l ([(L.getD 0 default).f_Name] : List (T_parrelref09_Name))) tr))) (r1_ tr)))))))) (a_ (r4_ (l_ 1 2 rfl (a_ (a_ (a_ (Eq.refl 5) gL0_5) (a_ (le_drop c_T_parrelref09_Timer default 5 L 1 (toN_le gL0_5.2.1)) tr)) (r2_ (a_ (a_ (a_ (Eq.refl 1) (a_ (le_ 2 2 rfl) (Eq.refl 0))) tr) tr))))) tr))) (ih _ _ r h) (by kernel_rfl) ⟨rfl, fun _ _ => rfl, trivial⟩
      · skip
        obtain rfl := Option.some.inj h
        exact run_ret mixed (L := []) (n := 20) (s := [.go, .reg [(6, hT), (19, hF)], .reg [], .frz 1])
          (a_ (a_ (r1_ (r2_ (l_ 1 2 rfl (r2_ (f_ cL0_1 (r1_ (r2_ (l_ 1 2 rfl (a_ (a_ (a_ (Eq.refl 5) gL0_2) tr) (r1_ (a_ (a_ (lt_ 0 1 rfl) tr) (r1_ (r2_ (l_ 0 2 rfl (r1_ (f_ cL0_3 tr)))))))))))))))) (a_ (r1_ (r2_ tr)) (a_ (a_ (fz_row (enc := c_T_parrelref09_Name) (d := default) (fun _ => rfl) l) (a_ (Nat.le_refl (l).length) (a_ (Nat.le_refl (l).length) (a_ (Nat.le_refl (l).length) tr)))) tr))) tr) (by kernel_rfl) rfl
    · skip
      obtain rfl := Option.some.inj h
      exact run_ret mixed (L := []) (n := 20) (s := [.go, .reg [(6, hF)], .reg [], .frz 1])
        (a_ (a_ (r1_ (r2_ (l_ 1 2 rfl (r2_ (f_ cL0_1 (t4_ (t8_ (r1_ tr)))))))) (a_ (r1_ (r2_ tr)) (a_ (a_ (fz_row (enc := c_T_parrelref09_Name) (d := default) (fun _ => rfl) l) (a_ (Nat.le_refl (l).length) (a_ (Nat.le_refl (l).length) (a_ (Nat.le_refl (l).length) tr)))) tr))) tr) (by kernel_rfl) rfl

theorem parrelref09_Clock_Tick_ok (c : T_parrelref09_Clock) (r : (List (T_parrelref09_Name)) × (Int) × (Int) × (List (T_parrelref09_Timer))) (h : parrelref09_Clock_Tick c = some r) : ∀ σ, Inj 1 σ → FnTri Try.prog 18 (renL σ [.ptr 0 0 0]) (preOf σ 0 (parrelref09_Clock_Tick_objs c)) ((parrelref09_Clock_Tick_v r).ren σ) (upOf σ (parrelref09_Clock_Tick_up c r)) := by
  refine fn_of Try.func18 (by kernel_rfl) (by kernel_rfl) (by kernel_rfl) ⟨rfl, trivial⟩ (by kernel_rfl) ⟨rfl, trivial⟩ (by kernel_rfl) ?_
  intro w0 W μ0 hμ
  unfold parrelref09_Clock_Tick at h
  rcases itb_some h with ⟨c1, h⟩ | ⟨c1, h⟩
  · skip
    obtain rfl := Option.some.inj h
    exact run_ret mixed (L := []) (n := 20) (s := [.reg [(0, { v := some (.ds 4 (([] : List (T_parrelref09_Name))).length (rowF c_T_parrelref09_Name default ([] : List (T_parrelref09_Name)))) })], .reg [(4, hT)], .reg [(0, { v := some (.ds 4 (([] : List (T_parrelref09_Name))).length (rowF c_T_parrelref09_Name default ([] : List (T_parrelref09_Name)))) })]])
      (a_ (a_ (a_ (a_ tr (a_ (le_nil_ds 4 (rowF c_T_parrelref09_Name default [])) tr)) (r1_ tr)) (a_ (r1_ (r2_ (l_ 0 2 rfl (f_ c1 tr)))) (a_ (a_ (a_ tr (a_ (le_nil_ds 4 (rowF c_T_parrelref09_Name default [])) tr)) (r1_ tr)) tr))) tr) (by kernel_rfl) rfl
  · skip
    exact run_to mixed hμ (L := [1]) (n := 28) (s := [.reg [(0, { v := some (.ds 4 (([] : List (T_parrelref09_Name))).length (rowF c_T_parrelref09_Name default ([] : List (T_parrelref09_Name)))) })], .reg [(4, hF)], .reg [], .void (.gr 4 (([] : List (T_parrelref09_Name))).length (rowF c_T_parrelref09_Name default ([] : List (T_parrelref09_Name)))), .reg [(0, { v := some (.gs 1 (([] : List (T_parrelref09_Name))).length) })]])
      (a_ (a_ (a_ tr (a_ (le_nil_ds 4 (rowF c_T_parrelref09_Name default [])) tr)) (r1_ tr)) (a_ (r1_ (r2_ (l_ 0 2 rfl (f_ c1 tr)))) (a_ (r1_ (r2_ (l_ 0 2 rfl (r1_ (r2_ (a_ (a_ (a_ (Eq.refl 1) (a_ (le_ 1 2 rfl) (Eq.refl 0))) tr) tr)))))) (a_ (Eq.refl 0) (a_ (a_ (a_ tr (a_ (le_nil_gs 1) tr)) tr) tr))))) (parrelref09_Clock_Tick_l0_ok hμ c  big _ _ r h) (by kernel_rfl) ⟨rfl, fun _ _ => rfl, trivial⟩

/-- parrel/parrellaw09.ours -/

def parrellaw09_ours_v (r : (List (T_parrelref09_Name))) : LV := .ds 4 (r).length (rowF c_T_parrelref09_Name default r)

def parrellaw09_ours_T0 (l : List (T_clock_Name)) (t8 : Int) (l2 : List (T_parrelref09_Name)) : List LV := [.any, .any, .any, .gs 0 (l2).length, .any, .any, .ds 4 (l).length (rowF c_T_clock_Name default l), .int .i64 ((l).length : Int), .int .i64 t8, .any, .any, .any, .any, .any, .any, .any, .any, .any, .any, .any, .any, .any]

def parrellaw09_ours_H0 (l : List (T_clock_Name)) (t8 : Int) (l2 : List (T_parrelref09_Name)) : Heap := [some (.gr 4 (l2).length (rowF c_T_parrelref09_Name default l2))]

def parrellaw09_ours_l0 (l : List (T_clock_Name))  : Nat → (Int) → (List (T_parrelref09_Name)) → Option ((List (T_parrelref09_Name)))
  | 0, _, _ => none
  | fuel + 1, t8, l2 =>
    if ((decide (t8 < ((l).length : Int))) : Bool) then
      if 0 ≤ t8 ∧ t8 < (((l).length : Nat) : Int) then
      if ((l2).length + (([(T_parrelref09_Name.mk (l.getD t8.toNat default).f_Kind (l.getD t8.toNat default).f_Tx)] : List (T_parrelref09_Name))).length) * 16 ≤ 140737488351232 then
      parrellaw09_ours_l0 l  fuel (IntKind.wrap .i64 (t8 + 1)) (l2 ++ ([(T_parrelref09_Name.mk (l.getD t8.toNat default).f_Kind (l.getD t8.toNat default).f_Tx)] : List (T_parrelref09_Name)))
      else none
      else none
    else
      some l2

def parrellaw09_ours (l : List (T_clock_Name)) : Option ((List (T_parrelref09_Name))) :=
  parrellaw09_ours_l0 l  big 0 ([] : List (T_parrelref09_Name))

theorem parrellaw09_ours_l0_ok {w0 : World} {W : Nat → Prop} {μ0 : Emb} (hμ : ∀ c p, μ0 c = some p → c < 0) (l : List (T_clock_Name))  : ∀ (fuel : Nat) (t8 : Int) (l2 : List (T_parrelref09_Name)) (r : (List (T_parrelref09_Name))), parrellaw09_ours_l0 l  fuel t8 l2 = some r → kont Try.prog w0 W μ0 (FnPost Try.prog Try.f20 0 0 (parrellaw09_ours_v r) []) (kAt (bodyOf Try.f20) 0) none (parrellaw09_ours_T0 l t8 l2) (parrellaw09_ours_H0 l t8 l2) := by
  intro fuel
  induction fuel with
  | zero => intro t8 l2 r h; rw [parrellaw09_ours_l0] at h; cases h
  | succ fuel ih =>
    intro t8 l2 r h
    rw [parrellaw09_ours_l0] at h
    rcases itb_some h with ⟨cL0_1, h⟩ | ⟨cL0_1, h⟩
    · skip
      obtain ⟨gL0_2, h⟩ := guard_some h
      obtain ⟨gL0_3, h⟩ := guard_some h
      exact run_to mixed hμ (L := [3]) (n := 26) (s := [.go, .reg [(0, hT)], .reg [], .reg [(6, { os := [(2, .gr 4 (([(T_parrelref09_Name.mk (l.getD t8.toNat default).f_Kind (l.getD t8.toNat default).f_Tx)] : List (T_parrelref09_Name))).length (rowF c_T_parrelref09_Name default ([(T_parrelref09_Name.mk (l.getD t8.toNat default).f_Kind (l.getD t8.toNat default).f_Tx)] : List (T_parrelref09_Name))))], v := some (.gs 2 (([(T_parrelref09_Name.mk (l.getD t8.toNat default).f_Kind (l.getD t8.toNat default).f_Tx)] : List (T_parrelref09_Name))).length) }), (7, { app := 3, os := [(3, .gr 4 ((l2 ++ ([(T_parrelref09_Name.mk (l.getD t8.toNat default).f_Kind (l.getD t8.toNat default).f_Tx)] : List (T_parrelref09_Name)))).length (rowF c_T_parrelref09_Name default (l2 ++ ([(T_parrelref09_Name.mk (l.getD t8.toNat default).f_Kind (l.getD t8.toNat default).f_Tx)] : List (T_parrelref09_Name)))))], v := some (.gs 3 ((l2 ++ ([(T_parrelref09_Name.mk (l.getD t8.toNat default).f_Kind (l.getD t8.toNat default).f_Tx)] : List (T_parrelref09_Name)))).length) })], .reg []])
        (a_ (f_ cL0_1 tr) (a_ (a_ (a_ (a_ (Eq.refl 4) gL0_2) tr) (a_ (a_ (le_ 4 4 rfl) tr) (r1_ (a_ (a_ (a_ (Eq.refl 4) (a_ (le_ 4 4 rfl) (Eq.refl 0))) tr) tr)))) (a_ (r2_ (l_ 0 4 rfl (r1_ (m_ 4 4 rfl (a_ (a_ (Eq.refl true) tr) (a_ (a_ (a_ (Eq.refl true) (a_ (Eq.refl 4) (a_ (lt_ 0 4 rfl) (le_ 4 16777216 rfl)))) (a_ (le_sl_gs 2 1 (some 1) rfl) (a_ (sub_lit c_T_parrelref09_Name default 4 (fun _ => rfl) ([(T_parrelref09_Name.mk (l.getD t8.toNat default).f_Kind (l.getD t8.toNat default).f_Tx)] : List (T_parrelref09_Name))) tr))) (a_ (a_ (a_ (a_ (Eq.refl 4) (Nat.le_refl (([(T_parrelref09_Name.mk (l.getD t8.toNat default).f_Kind (l.getD t8.toNat default).f_Tx)] : List (T_parrelref09_Name))).length)) (a_ (a_ (lt_ 0 4 rfl) (a_ (lt_ 0 16 rfl) (a_ gL0_3 (a_ (Eq.refl 4) (Eq.refl true))))) (a_ (Eq.refl 4) (Nat.le_refl (l2).length)))) (a_ (le_gs_app 3 l2 ([(T_parrelref09_Name.mk (l.getD t8.toNat default).f_Kind (l.getD t8.toNat default).f_Tx)] : List (T_parrelref09_Name))) (a_ (sub_app c_T_parrelref09_Name default 4 l2 ([(T_parrelref09_Name.mk (l.getD t8.toNat default).f_Kind (l.getD t8.toNat default).f_Tx)] : List (T_parrelref09_Name))) tr))) (r1_ tr)))))))) (a_ (r2_ tr) tr)))) (ih _ _ r h) (by kernel_rfl) ⟨fun _ _ => rfl, trivial⟩
    · skip
      obtain rfl := Option.some.inj h
      exact run_ret mixed (L := []) (n := 20) (s := [.go, .reg [(0, hF)], .reg [], .frz 0])
        (a_ (a_ (f_ cL0_1 tr) (a_ (r2_ tr) (a_ (a_ (fz_row (enc := c_T_parrelref09_Name) (d := default) (fun _ => rfl) l2) (a_ (Nat.le_refl (l2).length) (a_ (Nat.le_refl (l2).length) (a_ (Nat.le_refl (l2).length) tr)))) tr))) tr) (by kernel_rfl) rfl

theorem parrellaw09_ours_ok (l : List (T_clock_Name)) (r : (List (T_parrelref09_Name))) (h : parrellaw09_ours l = some r) : ∀ σ, Inj 0 σ → FnTri Try.prog 20 (renL σ [.ds 4 (l).length (rowF c_T_clock_Name default l)]) (preOf σ 0 []) ((parrellaw09_ours_v r).ren σ) (upOf σ []) := by
  refine fn_of Try.func20 (by kernel_rfl) (by kernel_rfl) (by kernel_rfl) trivial (by kernel_rfl) trivial (by kernel_rfl) ?_
  intro w0 W μ0 hμ
  unfold parrellaw09_ours at h
  exact run_to mixed hμ (L := [0]) (n := 22) (s := [.reg [(0, { v := some (.ds 4 (([] : List (T_parrelref09_Name))).length (rowF c_T_parrelref09_Name default ([] : List (T_parrelref09_Name)))) })], .void (.gr 4 (([] : List (T_parrelref09_Name))).length (rowF c_T_parrelref09_Name default ([] : List (T_parrelref09_Name)))), .reg [(0, { v := some (.gs 0 (([] : List (T_parrelref09_Name))).length) })], .reg []])
    (a_ (a_ (a_ tr (a_ (le_nil_ds 4 (rowF c_T_parrelref09_Name default [])) tr)) tr) (a_ (Eq.refl 0) (a_ (a_ (a_ tr (a_ (le_nil_gs 0) tr)) tr) (a_ (r1_ (r2_ tr)) tr)))) (parrellaw09_ours_l0_ok hμ l  big _ _ r h) (by kernel_rfl) ⟨fun _ _ => rfl, trivial⟩

theorem parrellaw09_ours_tri (l : List (T_clock_Name)) (r : (List (T_parrelref09_Name))) (h : parrellaw09_ours l = some r) : FnTri Try.prog 20 [.ds 4 (l).length (rowF c_T_clock_Name default l)] [] (parrellaw09_ours_v r) [] := FnTri.none (parrellaw09_ours_ok l r h) rfl rfl

/-- parrel/parrelref09.Same -/

def parrelref09_Same_v (r : (Bool)) : LV := .bool r

def parrelref09_Same_T0 (a : List (T_parrelref09_Name)) (b : List (T_parrelref09_Name)) (i : Int) : List LV := [.ds 4 (a).length (rowF c_T_parrelref09_Name default a), .ds 4 (b).length (rowF c_T_parrelref09_Name default b), .any, .any, .any, .int .i64 i, .any, .any, .any, .any, .any, .any, .any, .any, .any, .any, .any, .any, .any, .any, .any, .any, .any, .any, .any, .any]

def parrelref09_Same_H0 (a : List (T_parrelref09_Name)) (b : List (T_parrelref09_Name)) (i : Int) : Heap := []

def parrelref09_Same_l0 (a : List (T_parrelref09_Name)) (b : List (T_parrelref09_Name))  : Nat → (Int) → Option ((Bool))
  | 0, _ => none
  | fuel + 1, i =>
    if ((decide (i < ((a).length : Int))) : Bool) then
      if 0 ≤ i ∧ i < (((a).length : Nat) : Int) then
      if 0 ≤ i ∧ i < (((b).length : Nat) : Int) then
      if ((!decide ((a.getD i.toNat default) = (b.getD i.toNat default))) : Bool) then
        some false
      else
        parrelref09_Same_l0 a b  fuel (IntKind.wrap .i64 (i + 1))
      else none
      else none
    else
      some true

def parrelref09_Same (a : List (T_parrelref09_Name)) (b : List (T_parrelref09_Name)) : Option ((Bool)) :=
  if ((((a).length : Int) != ((b).length : Int)) : Bool) then
    some false
  else
    parrelref09_Same_l0 a b  big 0

theorem parrelref09_Same_l0_ok {w0 : World} {W : Nat → Prop} {μ0 : Emb} (hμ : ∀ c p, μ0 c = some p → c < 0) (a : List (T_parrelref09_Name)) (b : List (T_parrelref09_Name))  : ∀ (fuel : Nat) (i : Int) (r : (Bool)), parrelref09_Same_l0 a b  fuel i = some r → kont Try.prog w0 W μ0 (FnPost Try.prog Try.f19 0 0 (parrelref09_Same_v r) []) (kAt (bodyOf Try.f19) 0) none (parrelref09_Same_T0 a b i) (parrelref09_Same_H0 a b i) := by
  intro fuel
  induction fuel with
  | zero => intro i r h; rw [parrelref09_Same_l0] at h; cases h
  | succ fuel ih =>
    intro i r h
    rw [parrelref09_Same_l0] at h
    rcases itb_some h with ⟨cL0_1, h⟩ | ⟨cL0_1, h⟩
    · skip
      obtain ⟨gL0_2, h⟩ := guard_some h
      obtain ⟨gL0_3, h⟩ := guard_some h
      rcases itb_some h with ⟨cL0_4, h⟩ | ⟨cL0_4, h⟩
      · skip
        obtain rfl := Option.some.inj h
        exact run_ret mixed (L := []) (n := 25) (s := [.go, .reg [(3, hT)], .reg [(8, hT)], .reg []])
          (a_ (a_ (r1_ (r2_ (f_ cL0_1 tr))) (a_ (r2_ (a_ (a_ (a_ (Eq.refl 4) gL0_2) tr) (a_ (a_ (le_ 4 4 rfl) tr) (r2_ (a_ (a_ (a_ (Eq.refl 4) gL0_3) tr) (a_ (a_ (le_ 4 4 rfl) tr) (a_ (a_ tr (a_ (LV.Le.trans (leB (congrArg not (k_T_parrelref09_Name (a.getD i.toNat default) (b.getD i.toNat default)))) (leB cL0_4)) tr)) tr))))))) (a_ (r1_ tr) tr))) tr) (by kernel_rfl) rfl
      · skip
        exact run_to mixed hμ (L := []) (n := 26) (s := [.go, .reg [(3, hT)], .reg [(8, hF)], .reg []])
          (a_ (r1_ (r2_ (f_ cL0_1 tr))) (a_ (r2_ (a_ (a_ (a_ (Eq.refl 4) gL0_2) tr) (a_ (a_ (le_ 4 4 rfl) tr) (r2_ (a_ (a_ (a_ (Eq.refl 4) gL0_3) tr) (a_ (a_ (le_ 4 4 rfl) tr) (a_ (a_ tr (a_ (LV.Le.trans (leB (congrArg not (k_T_parrelref09_Name (a.getD i.toNat default) (b.getD i.toNat default)))) (leB cL0_4)) tr)) tr))))))) (a_ (r1_ (r2_ tr)) tr))) (ih _ r h) (by kernel_rfl) trivial
    · skip
      obtain rfl := Option.some.inj h
      exact run_ret mixed (L := []) (n := 19) (s := [.go, .reg [(3, hF)], .reg []])
        (a_ (a_ (r1_ (r2_ (f_ cL0_1 tr))) (a_ (r1_ tr) tr)) tr) (by kernel_rfl) rfl

theorem parrelref09_Same_ok (a : List (T_parrelref09_Name)) (b : List (T_parrelref09_Name)) (r : (Bool)) (h : parrelref09_Same a b = some r) : ∀ σ, Inj 0 σ → FnTri Try.prog 19 (renL σ [.ds 4 (a).length (rowF c_T_parrelref09_Name default a), .ds 4 (b).length (rowF c_T_parrelref09_Name default b)]) (preOf σ 0 []) ((parrelref09_Same_v r).ren σ) (upOf σ []) := by
  refine fn_of Try.func19 (by kernel_rfl) (by kernel_rfl) (by kernel_rfl) trivial (by kernel_rfl) trivial (by kernel_rfl) ?_
  intro w0 W μ0 hμ
  unfold parrelref09_Same at h
  rcases itb_some h with ⟨c1, h⟩ | ⟨c1, h⟩
  · skip
    obtain rfl := Option.some.inj h
    exact run_ret mixed (L := []) (n := 20) (s := [.reg [], .reg [(4, hT)], .reg []])
      (a_ (a_ (r1_ tr) (a_ (r4_ (f_ c1 tr)) (a_ (r1_ tr) tr))) tr) (by kernel_rfl) rfl
  · skip
    exact run_to mixed hμ (L := []) (n := 24) (s := [.reg [], .reg [(4, hF)], .reg []])
      (a_ (r1_ tr) (a_ (r4_ (f_ c1 tr)) (a_ (r1_ tr) tr))) (parrelref09_Same_l0_ok hμ a b  big _ r h) (by kernel_rfl) trivial

theorem parrelref09_Same_tri (a : List (T_parrelref09_Name)) (b : List (T_parrelref09_Name)) (r : (Bool)) (h : parrelref09_Same a b = some r) : FnTri Try.prog 19 [.ds 4 (a).length (rowF c_T_parrelref09_Name default a), .ds 4 (b).length (rowF c_T_parrelref09_Name default b)] [] (parrelref09_Same_v r) [] := FnTri.none (parrelref09_Same_ok a b r h) rfl rfl

/-- parrel/parrellaw09.theirs -/

def parrellaw09_theirs_v (r : (T_clock_Name)) : LV := v_T_clock_Name r

def parrellaw09_theirs (x_n : T_parrelref09_Name) : Option ((T_clock_Name)) :=
  some (T_clock_Name.mk x_n.f_Kind x_n.f_Tx)

theorem parrellaw09_theirs_ok (x_n : T_parrelref09_Name) (r : (T_clock_Name)) (h : parrellaw09_theirs x_n = some r) : ∀ σ, Inj 0 σ → FnTri Try.prog 12 (renL σ [v_T_parrelref09_Name x_n]) (preOf σ 0 []) ((parrellaw09_theirs_v r).ren σ) (upOf σ []) := by
  refine fn_of Try.func12 (by kernel_rfl) (by kernel_rfl) (by kernel_rfl) trivial (by kernel_rfl) trivial (by kernel_rfl) ?_
  intro w0 W μ0 hμ
  unfold parrellaw09_theirs at h
  obtain rfl := Option.some.inj h
  exact run_ret mixed (L := []) (n := 15) (s := [.reg [], .reg []])
    (a_ (a_ (r2_ tr) (a_ (r1_ (l_ 0 4 rfl (r1_ (m_ 4 4 rfl (a_ (a_ (Eq.refl true) tr) (a_ (a_ (a_ (Eq.refl 4) (a_ (le_ 4 4 rfl) (Eq.refl 0))) tr) tr)))))) tr)) (a_ (a_ tr (le_ 4 4 rfl)) tr)) (by kernel_rfl) rfl

theorem parrellaw09_theirs_tri (x_n : T_parrelref09_Name) (r : (T_clock_Name)) (h : parrellaw09_theirs x_n = some r) : FnTri Try.prog 12 [v_T_parrelref09_Name x_n] [] (parrellaw09_theirs_v r) [] := FnTri.none (parrellaw09_theirs_ok x_n r h) rfl rfl

/-- (*parrel/parrelref09.Clock).place -/

def parrelref09_Clock_place_v (r : (Int)) : LV := .int .i64 r

def parrelref09_Clock_place_up (c : T_parrelref09_Clock) (x_n : T_parrelref09_Name) (r : (Int)) : Upd := [(0, some (.var (c_T_parrelref09_Clock c)))]

def parrelref09_Clock_place_objs (c : T_parrelref09_Clock) (x_n : T_parrelref09_Name) : List LO := [.var (c_T_parrelref09_Clock c)]

def parrelref09_Clock_place_T0 (c : T_parrelref09_Clock) (x_n : T_parrelref09_Name) (i : Int) : List LV := [.ptr 0 0 0, .any, .any, .ptr 1 0 0, .any, .int .i64 i, .any, .any, .any, .any, .any, .any, .any, .any, .any, .any, .any, .any, .any, .any, .any, .any, .any, .any, .any, .any]

def parrelref09_Clock_place_H0 (c : T_parrelref09_Clock) (x_n : T_parrelref09_Name) (i : Int) : Heap := [some (.var (c_T_parrelref09_Clock c)), some (.var (c_T_parrelref09_Name x_n))]

def parrelref09_Clock_place_l0 (c : T_parrelref09_Clock) (x_n : T_parrelref09_Name)  : Nat → (Int) → Option ((Int))
  | 0, _ => none
  | fuel + 1, i =>
    if ((decide (i < ((c.f_L).length : Int))) : Bool) then
      if 0 ≤ i ∧ i < (((c.f_L).length : Nat) : Int) then
      if ((decide ((c.f_L.getD i.toNat default).f_Name = x_n)) : Bool) then
        some i
      else
        parrelref09_Clock_place_l0 c x_n  fuel (IntKind.wrap .i64 (i + 1))
      else none
    else
      some (-1)

def parrelref09_Clock_place (c : T_parrelref09_Clock) (x_n : T_parrelref09_Name) : Option ((Int)) :=
  parrelref09_Clock_place_l0 c x_n  big 0

theorem parrelref09_Clock_place_l0_ok {w0 : World} {W : Nat → Prop} {μ0 : Emb} (hμ : ∀ c p, μ0 c = some p → c < 1) (c : T_parrelref09_Clock) (x_n : T_parrelref09_Name)  : ∀ (fuel : Nat) (i : Int) (r : (Int)), parrelref09_Clock_place_l0 c x_n  fuel i = some r → kont Try.prog w0 W μ0 (FnPost Try.prog Try.f31 1 1 (parrelref09_Clock_place_v r) (parrelref09_Clock_place_up c x_n r)) (kAt (bodyOf Try.f31) 0) none (parrelref09_Clock_place_T0 c x_n i) (parrelref09_Clock_place_H0 c x_n i) := by
  intro fuel
  induction fuel with
  | zero => intro i r h; rw [parrelref09_Clock_place_l0] at h; cases h
  | succ fuel ih =>
    intro i r h
    rw [parrelref09_Clock_place_l0] at h
    rcases itb_some h with ⟨cL0_1, h⟩ | ⟨cL0_1, h⟩
    · skip
      obtain ⟨gL0_2, h⟩ := guard_some h
      rcases itb_some h with ⟨cL0_3, h⟩ | ⟨cL0_3, h⟩
      · skip
        obtain rfl := Option.some.inj h
        exact run_ret mixed (L := []) (n := 25) (s := [.go, .reg [(6, hT)], .reg [(9, hT)], .reg []])
          (a_ (a_ (r4_ (l_ 1 2 rfl (r1_ (f_ cL0_1 tr)))) (a_ (r1_ (r2_ (l_ 1 2 rfl (r1_ (a_ (a_ (a_ (Eq.refl 5) gL0_2) tr) (r1_ (a_ (a_ (le_ 4 5 rfl) tr) (m_ 4 4 rfl (a_ (a_ tr (a_ (LV.Le.trans (leB (k_T_parrelref09_Name (c.f_L.getD i.toNat default).f_Name x_n)) (leB cL0_3)) tr)) tr))))))))) (a_ (r2_ tr) tr))) tr) (by kernel_rfl) rfl
      · skip
        exact run_to mixed hμ (L := [1]) (n := 26) (s := [.go, .reg [(6, hT)], .reg [(9, hF)], .reg []])
          (a_ (r4_ (l_ 1 2 rfl (r1_ (f_ cL0_1 tr)))) (a_ (r1_ (r2_ (l_ 1 2 rfl (r1_ (a_ (a_ (a_ (Eq.refl 5) gL0_2) tr) (r1_ (a_ (a_ (le_ 4 5 rfl) tr) (m_ 4 4 rfl (a_ (a_ tr (a_ (LV.Le.trans (leB (k_T_parrelref09_Name (c.f_L.getD i.toNat default).f_Name x_n)) (leB cL0_3)) tr)) tr))))))))) (a_ (r1_ (r2_ tr)) tr))) (ih _ r h) (by kernel_rfl) ⟨rfl, rfl, trivial⟩
    · skip
      obtain rfl := Option.some.inj h
      exact run_ret mixed (L := []) (n := 19) (s := [.go, .reg [(6, hF)], .reg []])
        (a_ (a_ (r4_ (l_ 1 2 rfl (r1_ (f_ cL0_1 tr)))) (a_ (r1_ tr) tr)) tr) (by kernel_rfl) rfl

theorem parrelref09_Clock_place_ok (c : T_parrelref09_Clock) (x_n : T_parrelref09_Name) (r : (Int)) (h : parrelref09_Clock_place c x_n = some r) : ∀ σ, Inj 1 σ → FnTri Try.prog 31 (renL σ [.ptr 0 0 0, v_T_parrelref09_Name x_n]) (preOf σ 0 (parrelref09_Clock_place_objs c x_n)) ((parrelref09_Clock_place_v r).ren σ) (upOf σ (parrelref09_Clock_place_up c x_n r)) := by
  refine fn_of Try.func31 (by kernel_rfl) (by kernel_rfl) (by kernel_rfl) ⟨rfl, trivial⟩ (by kernel_rfl) ⟨rfl, trivial⟩ (by kernel_rfl) ?_
  intro w0 W μ0 hμ
  unfold parrelref09_Clock_place at h
  exact run_to mixed hμ (L := [1]) (n := 18) (s := [.reg [], .reg []])
    (a_ (r2_ tr) (a_ (r1_ tr) tr)) (parrelref09_Clock_place_l0_ok hμ c x_n  big _ r h) (by kernel_rfl) ⟨rfl, rfl, trivial⟩

/-- (*parrel/parrelref09.Clock).Until -/

def parrelref09_Clock_Until_v (r : (Int) × (Bool)) : LV := .tup [.int .u32 r.1, .bool r.2]

def parrelref09_Clock_Until_up (c : T_parrelref09_Clock) (x_n : T_parrelref09_Name) (r : (Int) × (Bool)) : Upd := [(0, some (.var (c_T_parrelref09_Clock c)))]

def parrelref09_Clock_Until_objs (c : T_parrelref09_Clock) (x_n : T_parrelref09_Name) : List LO := [.var (c_T_parrelref09_Clock c)]

def parrelref09_Clock_Until (c : T_parrelref09_Clock) (x_n : T_parrelref09_Name) : Option ((Int) × (Bool)) :=
  (parrelref09_Clock_place c x_n).bind fun y2 =>
  if ((decide (y2 < 0)) : Bool) then
    some (0, false)
  else
    if 0 ≤ y2 ∧ y2 < (((c.f_L).length : Nat) : Int) then
    some ((c.f_L.getD y2.toNat default).f_At, true)
    else none

theorem parrelref09_Clock_Until_ok (c : T_parrelref09_Clock) (x_n : T_parrelref09_Name) (r : (Int) × (Bool)) (h : parrelref09_Clock_Until c x_n = some r) : ∀ σ, Inj 1 σ → FnTri Try.prog 23 (renL σ [.ptr 0 0 0, v_T_parrelref09_Name x_n]) (preOf σ 0 (parrelref09_Clock_Until_objs c x_n)) ((parrelref09_Clock_Until_v r).ren σ) (upOf σ (parrelref09_Clock_Until_up c x_n r)) := by
  refine fn_of Try.func23 (by kernel_rfl) (by kernel_rfl) (by kernel_rfl) ⟨rfl, trivial⟩ (by kernel_rfl) ⟨rfl, trivial⟩ (by kernel_rfl) ?_
  intro w0 W μ0 hμ
  unfold parrelref09_Clock_Until at h
  obtain ⟨y2, e1, h⟩ := bind_some h
  rcases itb_some h with ⟨c3, h⟩ | ⟨c3, h⟩
  · skip
    obtain rfl := Option.some.inj h
    exact run_ret mixed (L := []) (n := 23) (s := [.reg [], .reg [(2, { call := some ((parrelref09_Clock_place_v y2).ren (sel [0]), preOf (sel [0]) 0 (parrelref09_Clock_place_objs c x_n), upOf (sel [0]) (parrelref09_Clock_place_up c x_n y2)) })], .reg [(1, hT)], .reg []])
      (a_ (a_ (r1_ (r2_ tr)) (a_ (r1_ (m_ 4 4 rfl (a_ (a_ (a_ (parrelref09_Clock_place_ok c x_n y2 e1 (sel [0]) (sel_inj rfl rfl)) (a_ (LO.Le.refl (.var (c_T_parrelref09_Clock c))) tr)) tr) (r1_ tr)))) (a_ (r1_ (f_ c3 tr)) (a_ (r2_ tr) tr)))) tr) (by kernel_rfl) rfl
  · skip
    obtain ⟨g4, h⟩ := guard_some h
    obtain rfl := Option.some.inj h
    exact run_ret mixed (L := []) (n := 24) (s := [.reg [], .reg [(2, { call := some ((parrelref09_Clock_place_v y2).ren (sel [0]), preOf (sel [0]) 0 (parrelref09_Clock_place_objs c x_n), upOf (sel [0]) (parrelref09_Clock_place_up c x_n y2)) })], .reg [(1, hF)], .reg []])
      (a_ (a_ (r1_ (r2_ tr)) (a_ (r1_ (m_ 4 4 rfl (a_ (a_ (a_ (parrelref09_Clock_place_ok c x_n y2 e1 (sel [0]) (sel_inj rfl rfl)) (a_ (LO.Le.refl (.var (c_T_parrelref09_Clock c))) tr)) tr) (r1_ tr)))) (a_ (r1_ (f_ c3 tr)) (a_ (r1_ (r2_ (l_ 1 2 rfl (r1_ (a_ (a_ (a_ (Eq.refl 5) g4) tr) (r1_ (a_ (a_ (lt_ 0 1 rfl) tr) (r2_ tr)))))))) tr)))) tr) (by kernel_rfl) rfl

/-- maps.Keys[parrel/clock.slot,parrel/clock.Name,uint32] -/

def maps_Keys_clock_slot_clock_Name_uint32_v (r : Unit) : LV := .fn 44 [] [.ptr 1 0 0]

def maps_Keys_clock_slot_clock_Name_uint32_up (m : List (T_clock_Name × Int)) (r : Unit) : Upd := [(0, some (.map true [.int .u8, .int .u8, .int .u32, .int .u32] (encM v_T_clock_Name (LV.int .u32) m))), (1, some (.var [.map 0]))]

def maps_Keys_clock_slot_clock_Name_uint32_objs (m : List (T_clock_Name × Int)) : List LO := [.map true [.int .u8, .int .u8, .int .u32, .int .u32] (encM v_T_clock_Name (LV.int .u32) m)]

def maps_Keys_clock_slot_clock_Name_uint32 (m : List (T_clock_Name × Int)) : Option (Unit) :=
  some ()

theorem maps_Keys_clock_slot_clock_Name_uint32_ok (m : List (T_clock_Name × Int)) (r : Unit) (h : maps_Keys_clock_slot_clock_Name_uint32 m = some r) : ∀ σ, Inj 2 σ → FnTri Try.prog 34 (renL σ [.map 0]) (preOf σ 0 (maps_Keys_clock_slot_clock_Name_uint32_objs m)) ((maps_Keys_clock_slot_clock_Name_uint32_v r).ren σ) (upOf σ (maps_Keys_clock_slot_clock_Name_uint32_up m r)) := by
  refine fn_of Try.func34 (by kernel_rfl) (by kernel_rfl) (by kernel_rfl) ⟨trivial, trivial⟩ (by kernel_rfl) ⟨trivial, rfl, trivial⟩ (by kernel_rfl) ?_
  intro w0 W μ0 hμ
  unfold maps_Keys_clock_slot_clock_Name_uint32 at h
  obtain rfl := Option.some.inj h
  exact run_ret mixed (L := [1]) (n := 15) (s := [.reg [], .reg []])
    (a_ (a_ (r2_ tr) (a_ (r2_ tr) tr)) tr) (by kernel_rfl) rfl

/-- (*parrel/clock.Clock).Next$1 -/

def clock_Clock_Next_L1_v (r : (Int)) : LV := .int .i64 r

def clock_Clock_Next_L1_up (x : T_clock_Name) (y : T_clock_Name) (z0 : Int) (z1 : List (T_clock_Name × Int)) (r : (Int)) : Upd := []

def clock_Clock_Next_L1_objs (x : T_clock_Name) (y : T_clock_Name) (z0 : Int) (z1 : List (T_clock_Name × Int)) : List LO := [.row 1 1 (fun _ => [.ptr 1 0 0]) false, .vwr [.int .u32 z0, .map 2] 64 [], .mapR true [.int .u8, .int .u8, .int .u32, .int .u32] (encM v_T_clock_Name (LV.int .u32) z1)]

def clock_Clock_Next_L1 (x : T_clock_Name) (y : T_clock_Name) (z0 : Int) (z1 : List (T_clock_Name × Int)) : Option ((Int)) :=
  (cmp_Compare_uint32 ((mget z1 x).getD default) ((mget z1 y).getD default)).bind fun y2 =>
  (clock_names x y).bind fun y4 =>
  (cmp_Or_int ([y2, y4] : List (Int))).bind fun y6 =>
  some y6

theorem clock_Clock_Next_L1_ok (x : T_clock_Name) (y : T_clock_Name) (z0 : Int) (z1 : List (T_clock_Name × Int)) (r : (Int)) (h : clock_Clock_Next_L1 x y z0 z1 = some r) : ∀ σ, Inj 3 σ → FnTri Try.prog 35 (renL σ [v_T_clock_Name x, v_T_clock_Name y, .ptr 0 0 0]) (preOf σ 0 (clock_Clock_Next_L1_objs x y z0 z1)) ((clock_Clock_Next_L1_v r).ren σ) (upOf σ (clock_Clock_Next_L1_up x y z0 z1 r)) := by
  refine fn_of Try.func35 (by kernel_rfl) (by kernel_rfl) (by kernel_rfl) ⟨fun _ _ => rfl, ⟨rfl, under_no⟩, trivial, trivial⟩ (by kernel_rfl) trivial (by kernel_rfl) ?_
  intro w0 W μ0 hμ
  unfold clock_Clock_Next_L1 at h
  obtain ⟨y2, e1, h⟩ := bind_some h
  obtain ⟨y4, e3, h⟩ := bind_some h
  obtain ⟨y6, e5, h⟩ := bind_some h
  obtain rfl := Option.some.inj h
  exact run_ret mixed (L := []) (n := 15) (s := [.reg [], .reg [(5, { look := ((mget z1 x).map (LV.int .u32)), v := some (.int .u32 ((mget z1 x).getD default)) }), (11, { look := ((mget z1 y).map (LV.int .u32)), v := some (.int .u32 ((mget z1 y).getD default)) }), (12, hC (cmp_Compare_uint32_v y2)), (15, hC (clock_names_v y4)), (16, { os := [(5, .gr 1 (([y2, y4] : List (Int))).length (rowF (cInt .i64) default ([y2, y4] : List (Int))))], v := some (.gs 5 (([y2, y4] : List (Int))).length), fz := true }), (17, hC (cmp_Or_int_v y6))]])
    (a_ (a_ (r1_ (r2_ tr)) (a_ (a_ (a_ (a_ (lt_ 0 1 rfl) (lt_ 0 1 rfl)) tr) (r2_ (a_ (a_ (lt_ 1 2 rfl) tr) (m_ 4 4 rfl (a_ (a_ (a_ (Eq.refl true) (findE_enc v_T_clock_Name (LV.int .u32) k_T_clock_Name z1 x)) (a_ (le_look (LV.int .u32) (mget z1 x) default) tr)) (a_ (a_ (a_ (lt_ 0 1 rfl) (lt_ 0 1 rfl)) tr) (r2_ (a_ (a_ (lt_ 1 2 rfl) tr) (m_ 4 4 rfl (a_ (a_ (a_ (Eq.refl true) (findE_enc v_T_clock_Name (LV.int .u32) k_T_clock_Name z1 y)) (a_ (le_look (LV.int .u32) (mget z1 y) default) tr)) (a_ (a_ (a_ (cmp_Compare_uint32_tri ((mget z1 x).getD default) ((mget z1 y).getD default) y2 e1) tr) tr) (m_ 4 4 rfl (m_ 4 4 rfl (c_ (clock_names_tri x y y4 e3) (a_ (a_ (a_ (a_ (Eq.refl true) (a_ (Eq.refl 1) (a_ (lt_ 0 1 rfl) (le_ 2 16777216 rfl)))) (a_ (le_sl_gs 5 2 (some 2) rfl) (a_ (sub_lit (cInt .i64) default 1 (fun _ => rfl) ([y2, y4] : List (Int))) tr))) (a_ (Nat.le_refl (([y2, y4] : List (Int))).length) (fz_row (enc := (cInt .i64)) (d := default) (fun _ => rfl) ([y2, y4] : List (Int))))) (a_ (a_ (a_ (cmp_Or_int_tri ([y2, y4] : List (Int)) y6 e5) tr) tr) (r1_ tr))))))))))))))))) tr)) tr) (by kernel_rfl) rfl

theorem so33k44_keys (n : Nat) (Bm b : Nat) (es : Array MapEntry) (clock : Nat) (ks : List (T_clock_Name)) (w : World) (off : Nat) (hm : w.cell? ⟨Bm, off, none⟩ = some (.map (some b))) (hBm : Bm < w.heap.size) (hb : w.heap[b]? = some (.map es clock))
    (hold : ∀ x ∈ es.toList, x.born < clock) (hnd : (es.toList.map (·.born)).Nodup) (hk : es.toList.map (·.key) = ks.map so33_kv) :
    SeqD Fence.wide n Try.prog 44 #[.pointer (some ⟨Bm, off, none⟩)] so33_kv (fun xs => xs.Perm ks) es.size w := fun l J W hW hJ hY h0 => by
  have hbW : W.heap[b]? = some (.map es clock) := (hW.block b (Array.getElem?_eq_some_iff.1 hb).1).trans hb
  have hc : W.cell? ⟨Bm, off, none⟩ = some (.map (some b)) := (World.cell?_of_block (hW.block Bm hBm)).trans hm
  refine callsIn_of_wp Try.func44 rfl trivial ?_ rfl
  simp only [Try.ntmps44, List.size_toArray, List.length_cons, List.length_nil, Nat.reduceAdd, Nat.reduceSub, Array.replicate_succ, Array.replicate_zero, List.push_toArray, List.append_toArray, List.nil_append, List.cons_append]
  gi_wp2_with (first
    | (gi_at_range; refine wpListIn_range_raw _ rfl _ 66 rfl 38 23 Try.underlying66 b es clock rfl hbW ?_)
    | gi_in)
  go_frame
  have hrg0 : Rg (W.alloc (.mapIter (some b) clock #[] clock)) b W.heap.size es clock [] :=
    ⟨(Below.heap_alloc _ _ b (Array.getElem?_eq_some_iff.1 hbW).1).trans hbW, World.alloc_heap_new W _, (fun d hd => by cases hd), List.nodup_nil⟩
  have hJ0 : J [] (W.alloc (.mapIter (some b) clock #[] clock)) := hJ [] W _ none h0 (World.grownBy_alloc W _ none) (Nat.le_refl _) (fun r e => by cases e)
  gi_loopw [3] (fun _ wr => ∃ (ds : List MapEntry) (xs : List (T_clock_Name)), Rg wr b W.heap.size es clock ds ∧ ds.map (·.key) = xs.map so33_kv ∧ J xs wr)
    (fun _ wr => itLeft b W.heap.size wr)
  case atStart => exact ⟨[], [], hrg0, rfl, hJ0⟩
  case round =>
    obtain ⟨ds, xs, hrg, hdx, hJs⟩ := hrel
    gi_wp2_with (first
      | (gi_at_next; refine wpListIn_next_raw _ rfl _ rfl b W.heap.size es clock ds rfl hrg hold hnd ?_ ?_)
      | gi_in)
    · intro hall
      gi_wp2
      go_end0
      refine ⟨⟨_, rfl⟩, xs, ?_, hJs⟩
      have hp := (hrg.perm hnd (fun x hx => hall x (by simpa using hx))).map (·.key)
      rw [hdx, hk] at hp
      exact perm_of_map so33_kv so33_kd so33_kdv hp
    · intro e w2 he hrg2 hg2 hd2 hs2 hen
      obtain ⟨x, hx⟩ : ∃ x, e.key = so33_kv x := by
        have : e.key ∈ es.toList.map (·.key) := List.mem_map.2 ⟨e, by simpa using he, rfl⟩
        rw [hk] at this
        obtain ⟨x, _, hx⟩ := List.mem_map.1 this
        exact ⟨x, hx.symm⟩
      rw [hx] at hen ⊢
      have hJ2 : J xs w2 := hJ xs wr w2 _ hJs hg2 hd2 (fun r e => by cases e; exact ⟨Nat.le_refl _, _, hrg.it, rfl⟩)
      have hlt2 : xs.length < es.size := by
        have h1 := hrg2.len hnd
        have h2 := congrArg List.length hdx
        simp only [List.length_map, List.length_append, List.length_cons, List.length_nil] at h1 h2
        omega
      have hJ3 : J xs (w2.alloc (.cells #[.int .u8 x.f_Kind, .int .u8 x.f_Tx.f_Node, .int .u32 x.f_Tx.f_Boot, .int .u32 x.f_Tx.f_Num] 38)) := hJ xs w2 _ none hJ2 (World.grownBy_alloc w2 _ none) (Nat.le_refl _) (fun r e => by cases e)
      obtain ⟨fn, tmps, assign, body, hy, hR⟩ := hY xs x _ hJ3 hlt2
      unfold so33_kv at hen hy ⊢
      clear hs2 hd2
      gi_wp2
      refine ⟨fun h => absurd h (by simp [Fence.wide]), hR.mono ?_⟩
      rintro e' W4 ⟨rfl, hJ4, hk4⟩
      gi_wp2
      have hrg4 := (hrg2.walks (KeepsWalks.alloc _ _)).walks hk4
      go_roundw
      case rel => exact ⟨ds ++ [e], xs ++ [x], hrg4, by rw [List.map_append, List.map_append, hdx, List.map_cons, hx]; rfl, hJ4⟩
      case measure =>
        rw [hrg4.left, hrg.left]
        have := hrg2.len hnd
        simp only [List.length_append, List.length_cons, List.length_nil] at this ⊢
        omega


theorem so33k44_keysn (n : Nat) (Bm off : Nat) (w : World) (hm : w.cell? ⟨Bm, off, none⟩ = some (.map none)) (hBm : Bm < w.heap.size) :
    SeqD Fence.wide n Try.prog 44 #[.pointer (some ⟨Bm, off, none⟩)] so33_kv (fun xs => xs.Perm []) 0 w := fun l J W hW hJ hY h0 => by
  have hc : W.cell? ⟨Bm, off, none⟩ = some (.map none) := (World.cell?_of_block (hW.block Bm hBm)).trans hm
  refine callsIn_of_wp Try.func44 rfl trivial ?_ rfl
  simp only [Try.ntmps44, List.size_toArray, List.length_cons, List.length_nil, Nat.reduceAdd, Nat.reduceSub, Array.replicate_succ, Array.replicate_zero, List.push_toArray, List.append_toArray, List.nil_append, List.cons_append]
  gi_wp2_with (first
    | (gi_at_range; refine wpListIn_range_nil _ rfl _ 66 rfl 38 23 Try.underlying66 rfl ?_)
    | gi_in)
  go_frame
  have hJ0 : J [] (W.alloc (.mapIter none 0 #[] 0)) := hJ [] W _ none h0 (World.grownBy_alloc W _ none) (Nat.le_refl _) (fun r e => by cases e)
  gi_loopw [3] (fun _ wr => wr.heap[W.heap.size]? = some (.mapIter none 0 #[] 0) ∧ J [] wr) (fun _ _ => 0)
  case atStart => exact ⟨World.alloc_heap_new W _, hJ0⟩
  case round =>
    obtain ⟨hit, hJs⟩ := hrel
    gi_wp2_with (first
      | (gi_at_next; refine wpListIn_next_nil _ rfl _ rfl W.heap.size rfl hit ?_)
      | gi_in)
    gi_wp2
    go_end0
    exact ⟨⟨_, rfl⟩, [], List.Perm.refl _, hJs⟩

theorem so33k44_det (φ : Fro) (x : (T_clock_Name)) (v : Value) (h : RelF φ (v_T_clock_Name x) v) : v = so33_kv x := so33_det φ x v h
theorem so33k44_rel (μ : Emb) (x : (T_clock_Name)) : Rel μ (v_T_clock_Name x) (.agg (so33_kc x).toArray) := ⟨_, rfl, RelFL.rel (so33_enc μ.fro x)⟩
theorem so33k44_tri (g : FuncId) (cmp : (T_clock_Name) → (T_clock_Name) → Option Int) (r : List (T_clock_Name)) (caps : List LV) (cpre full : Pre) (hcmp : ∀ x y r, cmp x y = some r → FnTri Try.prog g (v_T_clock_Name x :: v_T_clock_Name y :: caps) cpre (.int .i64 r) []) (hsub : ∀ z ∈ cpre, z ∈ full) (b c : Nat) (m : List ((T_clock_Name) × (Int)))
    (hb1 : (b, LO.var [.map c]) ∈ full) (hc1 : (c, LO.map true [.int .u8, .int .u8, .int .u32, .int .u32] (encM v_T_clock_Name (LV.int .u32) m)) ∈ full) (h : sortO cmp 16 (m.map (·.1)) = some r) : FnTri Try.prog 33 [.fn 44 [] [.ptr b 0 0], .fn g [] caps] full (.ds 4 r.length (rowF c_T_clock_Name default r)) [] := by
  obtain ⟨cf, hT, hcf, hL1, hL2, rfl⟩ := sortO_some h
  have eg := enters_tri (hcmp default default _ (hcf default default)).1
  refine ⟨⟨_, Try.func33, by kernel_rfl, by kernel_rfl⟩, fun μ w vals hr hp hf => ?_⟩
  obtain ⟨v0, r0, rfl, ⟨a0, b0, rfl, ha, hb⟩, v1, r1, rfl, ⟨a1, b1, rfl, ha1, hb1'⟩, rfl⟩ := hr
  obtain rfl := rel_nocap ha
  obtain rfl := rel_nocap ha1
  obtain ⟨p, hpb, rfl⟩ := rel_cap hb
  obtain ⟨p', hpb', hok⟩ := hp.obj b _ hb1
  obtain rfl := Option.some.inj (hpb.symm.trans hpb')
  obtain ⟨vm, hvm, hcell, hlt⟩ := var_cell hok
  obtain ⟨q, hq, rfl⟩ := hvm
  obtain ⟨q', hq', hok2⟩ := hp.obj c _ hc1
  obtain rfl := Option.some.inj (hq.symm.trans hq')
  obtain ⟨⟨es, clock, hes, hF2, hnd, hborn⟩, _⟩ := hok2
  have hlen : es.size = (m.map (·.1)).length := by
    have := ents_len _ _ hF2
    rw [List.length_map]; simpa using this
  have hseq := so33k44_keys 8 p.rb q.rb es clock (m.map (·.1)) w _ hcell hlt hes hborn hnd (ents_keys so33k44_det _ _ hF2)
  rw [hlen] at hseq
  have hcl : ∀ w1 blk off size, Below w.heap.size w w1 → w.heap.size ≤ blk → Go.Proofs.CmpLays Try.prog g b1 so33_kc 4 cf blk off size w1 := fun w1 blk off size hB hblk => by
    have := cmp_of_triX (ek := v_T_clock_Name) (fun x y => hcmp x y _ (hcf x y)) so33k44_rel (hp.sub hsub) hb1' hB hblk 4 off size
    simpa using this
  refine (so33_sortedF 44 g _ b1 (enters_of Try.func44 (by kernel_rfl) rfl) eg cf hT (m.map (·.1)) hL1 hL2 w hcl hseq).mono ?_
  rintro e w' ⟨v, rfl, hb', hd', hs'⟩
  obtain ⟨μ', h1, h2⟩ := sorted_fin so33_enc so33_len so33_one hp hb' hd' hs'
  exact ⟨v, μ', rfl, h1, h2⟩
theorem so33k44_trin (g : FuncId) (cmp : (T_clock_Name) → (T_clock_Name) → Option Int) (r : List (T_clock_Name)) (caps : List LV) (cpre full : Pre) (hcmp : ∀ x y r, cmp x y = some r → FnTri Try.prog g (v_T_clock_Name x :: v_T_clock_Name y :: caps) cpre (.int .i64 r) []) (hsub : ∀ z ∈ cpre, z ∈ full) (b : Nat)
    (hb1 : (b, LO.var [.nilmap]) ∈ full) (h : sortO cmp 16 ([] : List (T_clock_Name)) = some r) : FnTri Try.prog 33 [.fn 44 [] [.ptr b 0 0], .fn g [] caps] full (.ds 4 r.length (rowF c_T_clock_Name default r)) [] := by
  obtain ⟨cf, hT, hcf, hL1, hL2, rfl⟩ := sortO_some h
  have eg := enters_tri (hcmp default default _ (hcf default default)).1
  refine ⟨⟨_, Try.func33, by kernel_rfl, by kernel_rfl⟩, fun μ w vals hr hp hf => ?_⟩
  obtain ⟨v0, r0, rfl, ⟨a0, b0, rfl, ha, hb⟩, v1, r1, rfl, ⟨a1, b1, rfl, ha1, hb1'⟩, rfl⟩ := hr
  obtain rfl := rel_nocap ha
  obtain rfl := rel_nocap ha1
  obtain ⟨p, hpb, rfl⟩ := rel_cap hb
  obtain ⟨p', hpb', hok⟩ := hp.obj b _ hb1
  obtain rfl := Option.some.inj (hpb.symm.trans hpb')
  obtain ⟨vm, hvm, hcell, hlt⟩ := var_cell hok
  simp only [Rel] at hvm
  subst hvm
  have hseq := so33k44_keysn 8 p.rb _ w hcell hlt
  have hcl : ∀ w1 blk off size, Below w.heap.size w w1 → w.heap.size ≤ blk → Go.Proofs.CmpLays Try.prog g b1 so33_kc 4 cf blk off size w1 := fun w1 blk off size hB hblk => by
    have := cmp_of_triX (ek := v_T_clock_Name) (fun x y => hcmp x y _ (hcf x y)) so33k44_rel (hp.sub hsub) hb1' hB hblk 4 off size
    simpa using this
  refine (so33_sortedF 44 g _ b1 (enters_of Try.func44 (by kernel_rfl) rfl) eg cf hT [] hL1 hL2 w hcl hseq).mono ?_
  rintro e w' ⟨v, rfl, hb', hd', hs'⟩
  obtain ⟨μ', h1, h2⟩ := sorted_fin so33_enc so33_len so33_one hp hb' hd' hs'
  exact ⟨v, μ', rfl, h1, h2⟩

/-- (*parrel/clock.Clock).Next -/

def clock_Clock_Next_v (r : (T_clock_Name) × (Int) × (Bool)) : LV := .tup [v_T_clock_Name r.1, .int .u32 r.2.1, .bool r.2.2]

def clock_Clock_Next_up (now : Int) (x_at : List (T_clock_Name × Int)) (wheel : Nat → Option (List (T_clock_Name × Int))) (r : (T_clock_Name) × (Int) × (Bool)) : Upd := [(0, some (.vw [.int .u32 now, .map 1] true [.int .u8, .int .u8, .int .u32, .int .u32] 64 (fun q_ => (wheel q_).map (encM v_T_clock_Name (LV.int .u32))) [])), (1, some (.map true [.int .u8, .int .u8, .int .u32, .int .u32] (encM v_T_clock_Name (LV.int .u32) x_at)))]

def clock_Clock_Next_objs (now : Int) (x_at : List (T_clock_Name × Int)) (wheel : Nat → Option (List (T_clock_Name × Int))) : List LO := [.vw [.int .u32 now, .map 1] true [.int .u8, .int .u8, .int .u32, .int .u32] 64 (fun q_ => (wheel q_).map (encM v_T_clock_Name (LV.int .u32))) [], .map true [.int .u8, .int .u8, .int .u32, .int .u32] (encM v_T_clock_Name (LV.int .u32) x_at)]

def clock_Clock_Next (now : Int) (x_at : List (T_clock_Name × Int)) (wheel : Nat → Option (List (T_clock_Name × Int))) : Option ((T_clock_Name) × (Int) × (Bool)) :=
  (clock_Clock_Len now x_at wheel).bind fun y2 =>
  if ((y2 == 0) : Bool) then
    some ((T_clock_Name.mk 0 (T_api_Tx.mk 0 0 0)), 0, false)
  else
    (maps_Keys_clock_slot_clock_Name_uint32 x_at).bind fun y5 =>
    (sortO (fun x y => clock_Clock_Next_L1 x y now x_at) 16 (x_at.map (·.1))).bind fun y6 =>
    if 0 ≤ (0 : Int) ∧ (0 : Int) < (((y6).length : Nat) : Int) then
    some ((y6.getD 0 default), ((mget x_at (y6.getD 0 default)).getD default), true)
    else none

theorem clock_Clock_Next_ok (now : Int) (x_at : List (T_clock_Name × Int)) (wheel : Nat → Option (List (T_clock_Name × Int))) (r : (T_clock_Name) × (Int) × (Bool)) (h : clock_Clock_Next now x_at wheel = some r) : ∀ σ, Inj 2 σ → FnTri Try.prog 24 (renL σ [.ptr 0 0 0]) (preOf σ 0 (clock_Clock_Next_objs now x_at wheel)) ((clock_Clock_Next_v r).ren σ) (upOf σ (clock_Clock_Next_up now x_at wheel r)) := by
  refine fn_of Try.func24 (by kernel_rfl) (by kernel_rfl) (by kernel_rfl) ⟨⟨rfl, under_no⟩, trivial, trivial⟩ (by kernel_rfl) ⟨⟨rfl, under_no⟩, trivial, trivial⟩ (by kernel_rfl) ?_
  intro w0 W μ0 hμ
  unfold clock_Clock_Next at h
  obtain ⟨y2, e1, h⟩ := bind_some h
  rcases itb_some h with ⟨c3, h⟩ | ⟨c3, h⟩
  · skip
    obtain rfl := Option.some.inj h
    exact run_ret mixed (L := []) (n := 20) (s := [.reg [], .reg [(1, { call := some ((clock_Clock_Len_v y2).ren (sel [0, 1]), preOf (sel [0, 1]) 0 (clock_Clock_Len_objs now x_at wheel), upOf (sel [0, 1]) (clock_Clock_Len_up now x_at wheel y2)) }), (2, hT)], .reg []])
      (a_ (a_ (r4_ tr) (a_ (l_ 0 1 rfl (a_ (a_ (a_ (clock_Clock_Len_ok now x_at wheel y2 e1 (sel [0, 1]) (sel_inj rfl rfl)) (a_ (Eq.refl (.vw [.int .u32 now, .map 1] true [.int .u8, .int .u8, .int .u32, .int .u32] 64 (fun q_ => (wheel q_).map (encM v_T_clock_Name (LV.int .u32))) [] : LO)) (a_ (LO.Le.refl (.map true [.int .u8, .int .u8, .int .u32, .int .u32] (encM v_T_clock_Name (LV.int .u32) x_at))) tr))) tr) (f_ c3 tr))) (a_ (a_ (a_ (Eq.refl true) tr) (a_ (a_ (a_ (Eq.refl 4) (a_ (le_ 4 4 rfl) (Eq.refl 0))) tr) (r2_ tr))) tr))) (a_ (a_ tr (le_ 4 4 rfl)) tr)) (by kernel_rfl) rfl
  · skip
    obtain ⟨y5, e4, h⟩ := bind_some h
    obtain ⟨y6, e7, h⟩ := bind_some h
    obtain ⟨g8, h⟩ := guard_some h
    obtain rfl := Option.some.inj h
    exact run_ret mixed (L := []) (n := 24) (s := [.reg [], .reg [(1, { call := some ((clock_Clock_Len_v y2).ren (sel [0, 1]), preOf (sel [0, 1]) 0 (clock_Clock_Len_objs now x_at wheel), upOf (sel [0, 1]) (clock_Clock_Len_up now x_at wheel y2)) }), (2, hF)], .reg [(4, { call := some ((maps_Keys_clock_slot_clock_Name_uint32_v y5).ren (sel [1, 4]), preOf (sel [1, 4]) 0 (maps_Keys_clock_slot_clock_Name_uint32_objs x_at), upOf (sel [1, 4]) (maps_Keys_clock_slot_clock_Name_uint32_up x_at y5)) }), (6, { call := some (.ds 4 (y6).length (rowF c_T_clock_Name default y6), [(4, .var [.map 1]), (1, .map true [.int .u8, .int .u8, .int .u32, .int .u32] (encM v_T_clock_Name (LV.int .u32) x_at)), (2, .row 1 1 (fun _ => [.ptr 0 0 0]) false), (0, .vwr [.int .u32 now, .map 1] 64 []), (1, .mapR true [.int .u8, .int .u8, .int .u32, .int .u32] (encM v_T_clock_Name (LV.int .u32) x_at))], []) })], .reg [(10, { look := ((mget x_at (y6.getD 0 default)).map (LV.int .u32)), v := some (.int .u32 ((mget x_at (y6.getD 0 default)).getD default)) })]])
      (a_ (a_ (r4_ tr) (a_ (l_ 0 1 rfl (a_ (a_ (a_ (clock_Clock_Len_ok now x_at wheel y2 e1 (sel [0, 1]) (sel_inj rfl rfl)) (a_ (Eq.refl (.vw [.int .u32 now, .map 1] true [.int .u8, .int .u8, .int .u32, .int .u32] 64 (fun q_ => (wheel q_).map (encM v_T_clock_Name (LV.int .u32))) [] : LO)) (a_ (LO.Le.refl (.map true [.int .u8, .int .u8, .int .u32, .int .u32] (encM v_T_clock_Name (LV.int .u32) x_at))) tr))) tr) (f_ c3 tr))) (a_ (l_ 0 1 rfl (r2_ (a_ (a_ (lt_ 1 2 rfl) tr) (a_ (a_ (a_ (maps_Keys_clock_slot_clock_Name_uint32_ok x_at y5 e4 (sel [1, 4]) (sel_inj rfl rfl)) (a_ (LO.Le.refl (.map true [.int .u8, .int .u8, .int .u32, .int .u32] (encM v_T_clock_Name (LV.int .u32) x_at))) tr)) tr) (r1_ (a_ (a_ (a_ (so33k44_tri 35 (fun x y => clock_Clock_Next_L1 x y now x_at) y6 [.ptr 2 0 0] [(2, .row 1 1 (fun _ => [.ptr 0 0 0]) false), (0, .vwr [.int .u32 now, .map 1] 64 []), (1, .mapR true [.int .u8, .int .u8, .int .u32, .int .u32] (encM v_T_clock_Name (LV.int .u32) x_at))] [(4, .var [.map 1]), (1, .map true [.int .u8, .int .u8, .int .u32, .int .u32] (encM v_T_clock_Name (LV.int .u32) x_at)), (2, .row 1 1 (fun _ => [.ptr 0 0 0]) false), (0, .vwr [.int .u32 now, .map 1] 64 []), (1, .mapR true [.int .u8, .int .u8, .int .u32, .int .u32] (encM v_T_clock_Name (LV.int .u32) x_at))] (fun x y r h => tri_eq (clock_Clock_Next_L1_ok x y now x_at r h (sel [2, 0, 1]) (sel_inj rfl rfl)) (by kernel_rfl) (by kernel_rfl) (by kernel_rfl) (by kernel_rfl)) (fun z hz => List.mem_cons_of_mem _ (List.mem_cons_of_mem _ hz)) 4 1 x_at List.mem_cons_self (List.mem_cons_of_mem _ List.mem_cons_self) e7) (a_ (LO.Le.refl (.var [.map 1])) (a_ (LO.Le.refl (.map true [.int .u8, .int .u8, .int .u32, .int .u32] (encM v_T_clock_Name (LV.int .u32) x_at))) (a_ (LO.Le.ofVar ([.ptr 0 0 0])) (a_ (le_vwr (cs := [.int .u32 now, .map 1]) (ds := [.int .u32 now, .map 1]) (ag := true) (ks := [.int .u8, .int .u8, .int .u32, .int .u32]) (n := 64) (W := (fun q_ => (wheel q_).map (encM v_T_clock_Name (LV.int .u32)))) (opn := []) (a_ (LV.Le.refl (.int .u32 now)) (a_ (LV.Le.refl (.map 1)) tr))) (a_ (le_mapR (ag := true) (ks := [.int .u8, .int .u8, .int .u32, .int .u32]) (es := encM v_T_clock_Name (LV.int .u32) x_at)) tr)))))) tr) (r1_ tr))))))) (a_ (r1_ (a_ (a_ (a_ (Eq.refl 4) g8) tr) (a_ (a_ (le_ 4 4 rfl) tr) (l_ 0 1 rfl (r2_ (a_ (a_ (lt_ 1 2 rfl) tr) (r1_ (a_ (a_ (a_ (Eq.refl 4) g8) tr) (a_ (a_ (le_ 4 4 rfl) tr) (a_ (a_ (a_ (Eq.refl true) (findE_enc v_T_clock_Name (LV.int .u32) k_T_clock_Name x_at (y6.getD 0 default))) (a_ (le_look (LV.int .u32) (mget x_at (y6.getD 0 default)) default) tr)) (a_ (a_ (a_ (Eq.refl 4) (a_ (le_ 4 4 rfl) (Eq.refl 0))) tr) (r2_ tr)))))))))))) tr)))) (a_ (a_ tr (le_ 4 4 rfl)) tr)) (by kernel_rfl) rfl

/-- (*parrel/parrelref09.Clock).Next -/

def parrelref09_Clock_Next_v (r : (T_parrelref09_Name) × (Int) × (Bool)) : LV := .tup [v_T_parrelref09_Name r.1, .int .u32 r.2.1, .bool r.2.2]

def parrelref09_Clock_Next_up (c : T_parrelref09_Clock) (r : (T_parrelref09_Name) × (Int) × (Bool)) : Upd := [(0, some (.var (c_T_parrelref09_Clock c)))]

def parrelref09_Clock_Next_objs (c : T_parrelref09_Clock) : List LO := [.var (c_T_parrelref09_Clock c)]

def parrelref09_Clock_Next (c : T_parrelref09_Clock) : Option ((T_parrelref09_Name) × (Int) × (Bool)) :=
  if ((((c.f_L).length : Int) == 0) : Bool) then
    some ((T_parrelref09_Name.mk 0 (T_api_Tx.mk 0 0 0)), 0, false)
  else
    if 0 ≤ (0 : Int) ∧ (0 : Int) < (((c.f_L).length : Nat) : Int) then
    some ((c.f_L.getD 0 default).f_Name, (c.f_L.getD 0 default).f_At, true)
    else none

theorem parrelref09_Clock_Next_ok (c : T_parrelref09_Clock) (r : (T_parrelref09_Name) × (Int) × (Bool)) (h : parrelref09_Clock_Next c = some r) : ∀ σ, Inj 1 σ → FnTri Try.prog 25 (renL σ [.ptr 0 0 0]) (preOf σ 0 (parrelref09_Clock_Next_objs c)) ((parrelref09_Clock_Next_v r).ren σ) (upOf σ (parrelref09_Clock_Next_up c r)) := by
  refine fn_of Try.func25 (by kernel_rfl) (by kernel_rfl) (by kernel_rfl) ⟨rfl, trivial⟩ (by kernel_rfl) ⟨rfl, trivial⟩ (by kernel_rfl) ?_
  intro w0 W μ0 hμ
  unfold parrelref09_Clock_Next at h
  rcases itb_some h with ⟨c1, h⟩ | ⟨c1, h⟩
  · skip
    obtain rfl := Option.some.inj h
    exact run_ret mixed (L := []) (n := 20) (s := [.reg [], .reg [(5, hT)], .reg []])
      (a_ (a_ (r1_ (r2_ tr)) (a_ (r1_ (r2_ (l_ 1 2 rfl (r1_ (f_ c1 tr))))) (a_ (a_ (a_ (Eq.refl true) tr) (a_ (a_ (a_ (Eq.refl 4) (a_ (le_ 4 4 rfl) (Eq.refl 0))) tr) (r2_ tr))) tr))) (a_ (a_ tr (le_ 4 4 rfl)) tr)) (by kernel_rfl) rfl
  · skip
    obtain ⟨g2, h⟩ := guard_some h
    obtain rfl := Option.some.inj h
    exact run_ret mixed (L := []) (n := 21) (s := [.reg [], .reg [(5, hF)], .reg []])
      (a_ (a_ (r1_ (r2_ tr)) (a_ (r1_ (r2_ (l_ 1 2 rfl (r1_ (f_ c1 tr))))) (a_ (r1_ (r2_ (l_ 1 2 rfl (a_ (a_ (a_ (Eq.refl 5) g2) tr) (r1_ (a_ (a_ (le_ 4 5 rfl) tr) (r1_ (r2_ (l_ 1 2 rfl (a_ (a_ (a_ (Eq.refl 5) g2) tr) (r1_ (a_ (a_ (lt_ 0 1 rfl) tr) (a_ (a_ (a_ (Eq.refl 4) (a_ (le_ 4 4 rfl) (Eq.refl 0))) tr) (r2_ tr)))))))))))))) tr))) (a_ (a_ tr (le_ 4 4 rfl)) tr)) (by kernel_rfl) rfl

/-- (*parrel/parrelref09.Clock).Stop -/

def parrelref09_Clock_Stop_v (r : (Bool) × (Int) × (List (T_parrelref09_Timer))) : LV := .bool r.1

def parrelref09_Clock_Stop_up (c : T_parrelref09_Clock) (x_n : T_parrelref09_Name) (r : (Bool) × (Int) × (List (T_parrelref09_Timer))) : Upd := [(0, some (.var (c_T_parrelref09_Clock (T_parrelref09_Clock.mk r.2.1 r.2.2))))]

def parrelref09_Clock_Stop_objs (c : T_parrelref09_Clock) (x_n : T_parrelref09_Name) : List LO := [.var (c_T_parrelref09_Clock c)]

def parrelref09_Clock_Stop (c : T_parrelref09_Clock) (x_n : T_parrelref09_Name) : Option ((Bool) × (Int) × (List (T_parrelref09_Timer))) :=
  (parrelref09_Clock_place c x_n).bind fun y2 =>
  if ((decide (y2 < 0)) : Bool) then
    some (false, c.f_Now, c.f_L)
  else
    if 0 ≤ (0 : Int) ∧ 0 ≤ y2 ∧ y2 ≤ (((c.f_L).length : Nat) : Int) then
    if (0 + ((c.f_L.take y2.toNat)).length) * 20 ≤ 140737488351232 then
    if 0 ≤ (IntKind.wrap .i64 (y2 + 1)) ∧ (IntKind.wrap .i64 (y2 + 1)) ≤ (((c.f_L).length : Nat) : Int) ∧ (((c.f_L).length : Nat) : Int) ≤ (((c.f_L).length : Nat) : Int) then
    if (((c.f_L.take y2.toNat)).length + ((c.f_L.drop ((IntKind.wrap .i64 (y2 + 1))).toNat)).length) * 20 ≤ 140737488351232 then
    some (true, c.f_Now, ((c.f_L.take y2.toNat) ++ (c.f_L.drop ((IntKind.wrap .i64 (y2 + 1))).toNat)))
    else none
    else none
    else none
    else none

theorem parrelref09_Clock_Stop_ok (c : T_parrelref09_Clock) (x_n : T_parrelref09_Name) (r : (Bool) × (Int) × (List (T_parrelref09_Timer))) (h : parrelref09_Clock_Stop c x_n = some r) : ∀ σ, Inj 1 σ → FnTri Try.prog 21 (renL σ [.ptr 0 0 0, v_T_parrelref09_Name x_n]) (preOf σ 0 (parrelref09_Clock_Stop_objs c x_n)) ((parrelref09_Clock_Stop_v r).ren σ) (upOf σ (parrelref09_Clock_Stop_up c x_n r)) := by
  refine fn_of Try.func21 (by kernel_rfl) (by kernel_rfl) (by kernel_rfl) ⟨rfl, trivial⟩ (by kernel_rfl) ⟨rfl, trivial⟩ (by kernel_rfl) ?_
  intro w0 W μ0 hμ
  unfold parrelref09_Clock_Stop at h
  obtain ⟨y2, e1, h⟩ := bind_some h
  rcases itb_some h with ⟨c3, h⟩ | ⟨c3, h⟩
  · skip
    obtain rfl := Option.some.inj h
    exact run_ret mixed (L := []) (n := 23) (s := [.reg [], .reg [(2, { call := some ((parrelref09_Clock_place_v y2).ren (sel [0]), preOf (sel [0]) 0 (parrelref09_Clock_place_objs c x_n), upOf (sel [0]) (parrelref09_Clock_place_up c x_n y2)) })], .reg [(1, hT)], .reg []])
      (a_ (a_ (r2_ tr) (a_ (r1_ (m_ 4 4 rfl (a_ (a_ (a_ (parrelref09_Clock_place_ok c x_n y2 e1 (sel [0]) (sel_inj rfl rfl)) (a_ (LO.Le.refl (.var (c_T_parrelref09_Clock c))) tr)) tr) (r1_ tr)))) (a_ (r1_ (f_ c3 tr)) (a_ (r1_ tr) tr)))) tr) (by kernel_rfl) rfl
  · skip
    obtain ⟨g4, h⟩ := guard_some h
    obtain ⟨g5, h⟩ := guard_some h
    obtain ⟨g6, h⟩ := guard_some h
    obtain ⟨g7, h⟩ := guard_some h
    obtain rfl := Option.some.inj h
    exact run_ret mixed (L := []) (n := 28) (s := [.reg [], .reg [(2, { call := some ((parrelref09_Clock_place_v y2).ren (sel [0]), preOf (sel [0]) 0 (parrelref09_Clock_place_objs c x_n), upOf (sel [0]) (parrelref09_Clock_place_up c x_n y2)) })], .reg [(1, hF)], .reg [(6, { v := some (.ds 5 ((c.f_L.take y2.toNat)).length (rowF c_T_parrelref09_Timer default (c.f_L.take y2.toNat))) }), (7, { app := 3 }), (14, { v := some (.ds 5 ((c.f_L.drop ((IntKind.wrap .i64 (y2 + 1))).toNat)).length (rowF c_T_parrelref09_Timer default (c.f_L.drop ((IntKind.wrap .i64 (y2 + 1))).toNat))) }), (15, { app := 3, os := [(3, .gr 5 (((c.f_L.take y2.toNat) ++ (c.f_L.drop ((IntKind.wrap .i64 (y2 + 1))).toNat))).length (rowF c_T_parrelref09_Timer default ((c.f_L.take y2.toNat) ++ (c.f_L.drop ((IntKind.wrap .i64 (y2 + 1))).toNat))))], v := some (.gs 3 (((c.f_L.take y2.toNat) ++ (c.f_L.drop ((IntKind.wrap .i64 (y2 + 1))).toNat))).length) })], .reg [], .frz 3])
      (a_ (a_ (r2_ tr) (a_ (r1_ (m_ 4 4 rfl (a_ (a_ (a_ (parrelref09_Clock_place_ok c x_n y2 e1 (sel [0]) (sel_inj rfl rfl)) (a_ (LO.Le.refl (.var (c_T_parrelref09_Clock c))) tr)) tr) (r1_ tr)))) (a_ (r1_ (f_ c3 tr)) (a_ (r4_ (l_ 1 2 rfl (r1_ (a_ (a_ (a_ (Eq.refl 5) g4) (a_ (le_take c_T_parrelref09_Timer default 5 c.f_L y2.toNat (toN_le g4.2.2)) tr)) (a_ (a_ (a_ (Eq.refl 5) (a_ (lt_ 0 5 rfl) (a_ (lt_ 0 20 rfl) (a_ g5 (a_ (Eq.refl 5) (Eq.refl true)))))) tr) (r1_ (r2_ (l_ 1 2 rfl (r2_ (a_ (a_ (a_ (Eq.refl 5) g6) (a_ (le_drop c_T_parrelref09_Timer default 5 c.f_L ((IntKind.wrap .i64 (y2 + 1))).toNat (toN_le g6.2.1)) tr)) (a_ (a_ (a_ (Eq.refl 5) (a_ (a_ (lt_ 0 5 rfl) (a_ (lt_ 0 20 rfl) (a_ g7 (a_ (Eq.refl 5) (Eq.refl true))))) (a_ (Eq.refl 5) (Nat.le_refl ((c.f_L.take y2.toNat)).length)))) (a_ (le_gs_app 3 (c.f_L.take y2.toNat) (c.f_L.drop ((IntKind.wrap .i64 (y2 + 1))).toNat)) (a_ (sub_app c_T_parrelref09_Timer default 5 (c.f_L.take y2.toNat) (c.f_L.drop ((IntKind.wrap .i64 (y2 + 1))).toNat)) tr))) (r2_ (a_ (a_ (a_ (Eq.refl 1) (a_ (le_ 2 2 rfl) (Eq.refl 0))) tr) tr))))))))))))) (a_ (r1_ tr) (a_ (a_ (fz_row (enc := c_T_parrelref09_Timer) (d := default) (fun _ => rfl) ((c.f_L.take y2.toNat) ++ (c.f_L.drop ((IntKind.wrap .i64 (y2 + 1))).toNat))) (a_ (Nat.le_refl (((c.f_L.take y2.toNat) ++ (c.f_L.drop ((IntKind.wrap .i64 (y2 + 1))).toNat))).length) (a_ (Nat.le_refl (((c.f_L.take y2.toNat) ++ (c.f_L.drop ((IntKind.wrap .i64 (y2 + 1))).toNat))).length) tr))) tr)))))) tr) (by kernel_rfl) rfl

/-- parrel/parrelref05.numbers -/

def parrelref05_numbers_v (r : (List (Int))) : LV := .ds 1 (r).length (rowF (cInt .u32) default r)

def parrelref05_numbers (t : T_api_Tx) : Option ((List (Int))) :=
  some ([(IntKind.wrap .u32 t.f_Node), t.f_Boot, t.f_Num] : List (Int))

theorem parrelref05_numbers_ok (t : T_api_Tx) (r : (List (Int))) (h : parrelref05_numbers t = some r) : ∀ σ, Inj 0 σ → FnTri Try.prog 58 (renL σ [v_T_api_Tx t]) (preOf σ 0 []) ((parrelref05_numbers_v r).ren σ) (upOf σ []) := by
  refine fn_of Try.func58 (by kernel_rfl) (by kernel_rfl) (by kernel_rfl) trivial (by kernel_rfl) trivial (by kernel_rfl) ?_
  intro w0 W μ0 hμ
  unfold parrelref05_numbers at h
  obtain rfl := Option.some.inj h
  exact run_ret mixed (L := []) (n := 16) (s := [.reg [(1, { v := some (.ds 1 (([] : List (Int))).length (rowF (cInt .u32) default ([] : List (Int)))) })], .reg [(7, { os := [(1, .gr 1 (([(IntKind.wrap .u32 t.f_Node), t.f_Boot, t.f_Num] : List (Int))).length (rowF (cInt .u32) default ([(IntKind.wrap .u32 t.f_Node), t.f_Boot, t.f_Num] : List (Int))))], v := some (.gs 1 (([(IntKind.wrap .u32 t.f_Node), t.f_Boot, t.f_Num] : List (Int))).length) })], .frz 1])
    (a_ (a_ (r1_ (a_ (a_ tr (a_ (le_nil_ds 1 (rowF (cInt .u32) default [])) tr)) tr)) (a_ (r1_ (l_ 0 3 rfl (r2_ (l_ 1 3 rfl (r1_ (l_ 2 3 rfl (a_ (a_ (a_ (Eq.refl true) (a_ (Eq.refl 1) (a_ (lt_ 0 1 rfl) (le_ 3 16777216 rfl)))) (a_ (le_sl_gs 1 3 (some 3) rfl) (a_ (sub_lit (cInt .u32) default 1 (fun _ => rfl) ([(IntKind.wrap .u32 t.f_Node), t.f_Boot, t.f_Num] : List (Int))) tr))) (r1_ tr)))))))) (a_ (a_ (fz_row (enc := (cInt .u32)) (d := default) (fun _ => rfl) ([(IntKind.wrap .u32 t.f_Node), t.f_Boot, t.f_Num] : List (Int))) (a_ (Nat.le_refl (([(IntKind.wrap .u32 t.f_Node), t.f_Boot, t.f_Num] : List (Int))).length) (a_ (Nat.le_refl (([(IntKind.wrap .u32 t.f_Node), t.f_Boot, t.f_Num] : List (Int))).length) tr))) tr))) tr) (by kernel_rfl) rfl

theorem parrelref05_numbers_tri (t : T_api_Tx) (r : (List (Int))) (h : parrelref05_numbers t = some r) : FnTri Try.prog 58 [v_T_api_Tx t] [] (parrelref05_numbers_v r) [] := FnTri.none (parrelref05_numbers_ok t r h) rfl rfl

/-- parrel/parrelref05.first -/

def parrelref05_first_v (r : (Int)) : LV := .int .i64 r

def parrelref05_first_T0 (a : List (Int)) (b : List (Int)) (i : Int) : List LV := [.ds 1 (a).length (rowF (cInt .u32) default a), .ds 1 (b).length (rowF (cInt .u32) default b), .any, .any, .any, .int .i64 i, .any, .any, .any, .any, .any, .any, .any, .any, .any, .any, .any, .any, .any, .any, .any, .any, .any, .any, .any, .any, .any, .any, .any, .any]

def parrelref05_first_H0 (a : List (Int)) (b : List (Int)) (i : Int) : Heap := []

def parrelref05_first_l0 (a : List (Int)) (b : List (Int))  : Nat → (Int) → Option ((Int))
  | 0, _ => none
  | fuel + 1, i =>
    if ((decide (i < ((a).length : Int))) : Bool) then
      if 0 ≤ i ∧ i < (((a).length : Nat) : Int) then
      if 0 ≤ i ∧ i < (((b).length : Nat) : Int) then
      if ((decide ((a.getD i.toNat default) < (b.getD i.toNat default))) : Bool) then
        some (-1)
      else
        if ((decide ((b.getD i.toNat default) < (a.getD i.toNat default))) : Bool) then
          some 1
        else
          parrelref05_first_l0 a b  fuel (IntKind.wrap .i64 (i + 1))
      else none
      else none
    else
      some 0

def parrelref05_first (a : List (Int)) (b : List (Int)) : Option ((Int)) :=
  parrelref05_first_l0 a b  big 0

theorem parrelref05_first_l0_ok {w0 : World} {W : Nat → Prop} {μ0 : Emb} (hμ : ∀ c p, μ0 c = some p → c < 0) (a : List (Int)) (b : List (Int))  : ∀ (fuel : Nat) (i : Int) (r : (Int)), parrelref05_first_l0 a b  fuel i = some r → kont Try.prog w0 W μ0 (FnPost Try.prog Try.f57 0 0 (parrelref05_first_v r) []) (kAt (bodyOf Try.f57) 0) none (parrelref05_first_T0 a b i) (parrelref05_first_H0 a b i) := by
  intro fuel
  induction fuel with
  | zero => intro i r h; rw [parrelref05_first_l0] at h; cases h
  | succ fuel ih =>
    intro i r h
    rw [parrelref05_first_l0] at h
    rcases itb_some h with ⟨cL0_1, h⟩ | ⟨cL0_1, h⟩
    · skip
      obtain ⟨gL0_2, h⟩ := guard_some h
      obtain ⟨gL0_3, h⟩ := guard_some h
      rcases itb_some h with ⟨cL0_4, h⟩ | ⟨cL0_4, h⟩
      · skip
        obtain rfl := Option.some.inj h
        exact run_ret mixed (L := []) (n := 26) (s := [.go, .reg [(3, hT)], .reg [(8, hT)], .reg []])
          (a_ (a_ (r1_ (r2_ (f_ cL0_1 tr))) (a_ (r2_ (a_ (a_ (a_ (Eq.refl 1) gL0_2) tr) (a_ (a_ (lt_ 0 1 rfl) tr) (r2_ (a_ (a_ (a_ (Eq.refl 1) gL0_3) tr) (a_ (a_ (lt_ 0 1 rfl) tr) (f_ cL0_4 tr))))))) (a_ (r1_ tr) tr))) tr) (by kernel_rfl) rfl
      · skip
        rcases itb_some h with ⟨cL0_5, h⟩ | ⟨cL0_5, h⟩
        · skip
          obtain rfl := Option.some.inj h
          exact run_ret mixed (L := []) (n := 31) (s := [.go, .reg [(3, hT)], .reg [(8, hF)], .reg [(8, hT)], .reg []])
            (a_ (a_ (r1_ (r2_ (f_ cL0_1 tr))) (a_ (r2_ (a_ (a_ (a_ (Eq.refl 1) gL0_2) tr) (a_ (a_ (lt_ 0 1 rfl) tr) (r2_ (a_ (a_ (a_ (Eq.refl 1) gL0_3) tr) (a_ (a_ (lt_ 0 1 rfl) tr) (f_ cL0_4 tr))))))) (a_ (r2_ (a_ (a_ (a_ (Eq.refl 1) gL0_2) tr) (a_ (a_ (lt_ 0 1 rfl) tr) (r2_ (a_ (a_ (a_ (Eq.refl 1) gL0_3) tr) (a_ (a_ (lt_ 0 1 rfl) tr) (f_ cL0_5 tr))))))) (a_ (r1_ tr) tr)))) tr) (by kernel_rfl) rfl
        · skip
          exact run_to mixed hμ (L := []) (n := 32) (s := [.go, .reg [(3, hT)], .reg [(8, hF)], .reg [(8, hF)], .reg []])
            (a_ (r1_ (r2_ (f_ cL0_1 tr))) (a_ (r2_ (a_ (a_ (a_ (Eq.refl 1) gL0_2) tr) (a_ (a_ (lt_ 0 1 rfl) tr) (r2_ (a_ (a_ (a_ (Eq.refl 1) gL0_3) tr) (a_ (a_ (lt_ 0 1 rfl) tr) (f_ cL0_4 tr))))))) (a_ (r2_ (a_ (a_ (a_ (Eq.refl 1) gL0_2) tr) (a_ (a_ (lt_ 0 1 rfl) tr) (r2_ (a_ (a_ (a_ (Eq.refl 1) gL0_3) tr) (a_ (a_ (lt_ 0 1 rfl) tr) (f_ cL0_5 tr))))))) (a_ (r1_ (r2_ tr)) tr)))) (ih _ r h) (by kernel_rfl) trivial
    · skip
      obtain rfl := Option.some.inj h
      exact run_ret mixed (L := []) (n := 19) (s := [.go, .reg [(3, hF)], .reg []])
        (a_ (a_ (r1_ (r2_ (f_ cL0_1 tr))) (a_ (r1_ tr) tr)) tr) (by kernel_rfl) rfl

theorem parrelref05_first_ok (a : List (Int)) (b : List (Int)) (r : (Int)) (h : parrelref05_first a b = some r) : ∀ σ, Inj 0 σ → FnTri Try.prog 57 (renL σ [.ds 1 (a).length (rowF (cInt .u32) default a), .ds 1 (b).length (rowF (cInt .u32) default b)]) (preOf σ 0 []) ((parrelref05_first_v r).ren σ) (upOf σ []) := by
  refine fn_of Try.func57 (by kernel_rfl) (by kernel_rfl) (by kernel_rfl) trivial (by kernel_rfl) trivial (by kernel_rfl) ?_
  intro w0 W μ0 hμ
  unfold parrelref05_first at h
  exact run_to mixed hμ (L := []) (n := 18) (s := [.reg [], .reg []])
    (a_ (r1_ tr) (a_ (r1_ tr) tr)) (parrelref05_first_l0_ok hμ a b  big _ r h) (by kernel_rfl) trivial

theorem parrelref05_first_tri (a : List (Int)) (b : List (Int)) (r : (Int)) (h : parrelref05_first a b = some r) : FnTri Try.prog 57 [.ds 1 (a).length (rowF (cInt .u32) default a), .ds 1 (b).length (rowF (cInt .u32) default b)] [] (parrelref05_first_v r) [] := FnTri.none (parrelref05_first_ok a b r h) rfl rfl

/-- parrel/parrelref05.Txs -/

def parrelref05_Txs_v (r : (Int)) : LV := .int .i64 r

def parrelref05_Txs (a : T_api_Tx) (b : T_api_Tx) : Option ((Int)) :=
  (parrelref05_numbers a).bind fun y2 =>
  (parrelref05_numbers b).bind fun y4 =>
  (parrelref05_first y2 y4).bind fun y6 =>
  some y6

theorem parrelref05_Txs_ok (a : T_api_Tx) (b : T_api_Tx) (r : (Int)) (h : parrelref05_Txs a b = some r) : ∀ σ, Inj 0 σ → FnTri Try.prog 42 (renL σ [v_T_api_Tx a, v_T_api_Tx b]) (preOf σ 0 []) ((parrelref05_Txs_v r).ren σ) (upOf σ []) := by
  refine fn_of Try.func42 (by kernel_rfl) (by kernel_rfl) (by kernel_rfl) trivial (by kernel_rfl) trivial (by kernel_rfl) ?_
  intro w0 W μ0 hμ
  unfold parrelref05_Txs at h
  obtain ⟨y2, e1, h⟩ := bind_some h
  obtain ⟨y4, e3, h⟩ := bind_some h
  obtain ⟨y6, e5, h⟩ := bind_some h
  obtain rfl := Option.some.inj h
  exact run_ret mixed (L := []) (n := 15) (s := [.reg [], .reg [(1, hC (parrelref05_numbers_v y2)), (3, hC (parrelref05_numbers_v y4)), (4, hC (parrelref05_first_v y6))]])
    (a_ (a_ (r1_ (r2_ tr)) (a_ (m_ 3 3 rfl (c_ (parrelref05_numbers_tri a y2 e1) (m_ 3 3 rfl (c_ (parrelref05_numbers_tri b y4 e3) (c_ (parrelref05_first_tri y2 y4 y6 e5) (r1_ tr)))))) tr)) tr) (by kernel_rfl) rfl

theorem parrelref05_Txs_tri (a : T_api_Tx) (b : T_api_Tx) (r : (Int)) (h : parrelref05_Txs a b = some r) : FnTri Try.prog 42 [v_T_api_Tx a, v_T_api_Tx b] [] (parrelref05_Txs_v r) [] := FnTri.none (parrelref05_Txs_ok a b r h) rfl rfl

/-- parrel/parrelref09.ahead -/

def parrelref09_ahead_v (r : (Bool)) : LV := .bool r

def parrelref09_ahead (a : T_parrelref09_Timer) (b : T_parrelref09_Timer) : Option ((Bool)) :=
  if ((a.f_At != b.f_At) : Bool) then
    some (decide (a.f_At < b.f_At))
  else
    if ((a.f_Name.f_Kind != b.f_Name.f_Kind) : Bool) then
      some (decide (a.f_Name.f_Kind < b.f_Name.f_Kind))
    else
      (parrelref05_Txs a.f_Name.f_Tx b.f_Name.f_Tx).bind fun y4 =>
      some (decide (y4 < 0))

theorem parrelref09_ahead_ok (a : T_parrelref09_Timer) (b : T_parrelref09_Timer) (r : (Bool)) (h : parrelref09_ahead a b = some r) : ∀ σ, Inj 0 σ → FnTri Try.prog 32 (renL σ [v_T_parrelref09_Timer a, v_T_parrelref09_Timer b]) (preOf σ 0 []) ((parrelref09_ahead_v r).ren σ) (upOf σ []) := by
  refine fn_of Try.func32 (by kernel_rfl) (by kernel_rfl) (by kernel_rfl) trivial (by kernel_rfl) trivial (by kernel_rfl) ?_
  intro w0 W μ0 hμ
  unfold parrelref09_ahead at h
  rcases itb_some h with ⟨c1, h⟩ | ⟨c1, h⟩
  · skip
    obtain rfl := Option.some.inj h
    exact run_ret mixed (L := []) (n := 20) (s := [.reg [], .reg [(4, hT)], .reg []])
      (a_ (a_ (r1_ (r2_ tr)) (a_ (r1_ (l_ 4 5 rfl (r1_ (l_ 4 5 rfl (f_ c1 tr))))) (a_ (r1_ (l_ 4 5 rfl (r1_ (l_ 4 5 rfl (r2_ tr))))) tr))) tr) (by kernel_rfl) rfl
  · skip
    rcases itb_some h with ⟨c2, h⟩ | ⟨c2, h⟩
    · skip
      obtain rfl := Option.some.inj h
      exact run_ret mixed (L := []) (n := 26) (s := [.reg [], .reg [(4, hF)], .reg [(6, hT)], .reg []])
        (a_ (a_ (r1_ (r2_ tr)) (a_ (r1_ (l_ 4 5 rfl (r1_ (l_ 4 5 rfl (f_ c1 tr))))) (a_ (r2_ (l_ 0 5 rfl (r2_ (l_ 0 5 rfl (f_ c2 tr))))) (a_ (r2_ (l_ 0 5 rfl (r2_ (l_ 0 5 rfl (r2_ tr))))) tr)))) tr) (by kernel_rfl) rfl
    · skip
      obtain ⟨y4, e3, h⟩ := bind_some h
      obtain rfl := Option.some.inj h
      exact run_ret mixed (L := []) (n := 27) (s := [.reg [], .reg [(4, hF)], .reg [(6, hF)], .reg [(6, hC (parrelref05_Txs_v y4))]])
        (a_ (a_ (r1_ (r2_ tr)) (a_ (r1_ (l_ 4 5 rfl (r1_ (l_ 4 5 rfl (f_ c1 tr))))) (a_ (r2_ (l_ 0 5 rfl (r2_ (l_ 0 5 rfl (f_ c2 tr))))) (a_ (r2_ (m_ 4 5 rfl (r2_ (m_ 4 5 rfl (c_ (parrelref05_Txs_tri a.f_Name.f_Tx b.f_Name.f_Tx y4 e3) (r2_ tr)))))) tr)))) tr) (by kernel_rfl) rfl

theorem parrelref09_ahead_tri (a : T_parrelref09_Timer) (b : T_parrelref09_Timer) (r : (Bool)) (h : parrelref09_ahead a b = some r) : FnTri Try.prog 32 [v_T_parrelref09_Timer a, v_T_parrelref09_Timer b] [] (parrelref09_ahead_v r) [] := FnTri.none (parrelref09_ahead_ok a b r h) rfl rfl

/-- (*parrel/parrelref09.Clock).Set -/

def parrelref09_Clock_Set_v (r : (Int) × (Int) × (List (T_parrelref09_Timer))) : LV := .int .i64 r.1

def parrelref09_Clock_Set_up (c : T_parrelref09_Clock) (x_n : T_parrelref09_Name) (after : Int) (r : (Int) × (Int) × (List (T_parrelref09_Timer))) : Upd := [(0, some (.var (c_T_parrelref09_Clock (T_parrelref09_Clock.mk r.2.1 r.2.2))))]

def parrelref09_Clock_Set_objs (c : T_parrelref09_Clock) (x_n : T_parrelref09_Name) (after : Int) : List LO := [.var (c_T_parrelref09_Clock c)]

def parrelref09_Clock_Set_T0 (x_n : T_parrelref09_Name) (i : Int) (Now : Int) (L : List (T_parrelref09_Timer)) (At : Int) : List LV := [.ptr 0 0 0, .any, .any, .any, .any, .any, .any, .ptr 1 0 0, .int .i64 i, .any, .any, .any, .any, .any, .any, .any, .any, .any, .any, .any, .any, .any, .any, .any, .any, .any, .any, .any, .any, .any, .any, .any, .any, .any, .any, .any, .any, .any, .any, .any, .any, .any, .any, .any, .any, .any, .any, .any, .any, .any, .any, .any, .any, .any, .any, .any, .any, .any, .any, .any, .any, .any, .any, .any, .any, .any, .any, .any, .any, .any, .any, .any, .any, .any, .any, .any, .any, .any, .any, .any, .any, .any, .any, .any]

def parrelref09_Clock_Set_H0 (x_n : T_parrelref09_Name) (i : Int) (Now : Int) (L : List (T_parrelref09_Timer)) (At : Int) : Heap := [some (.var (c_T_parrelref09_Clock (T_parrelref09_Clock.mk Now L))), some (.var (c_T_parrelref09_Timer (T_parrelref09_Timer.mk x_n At)))]

def parrelref09_Clock_Set_l0 (c : T_parrelref09_Clock) (x_n : T_parrelref09_Name) (after : Int)  : Nat → (Int) → (Int) → (List (T_parrelref09_Timer)) → (Int) → Option ((Int) × (Int) × (List (T_parrelref09_Timer)))
  | 0, _, _, _, _ => none
  | fuel + 1, i, Now, L, At =>
    if ((decide (i < ((L).length : Int))) : Bool) then
      if 0 ≤ i ∧ i < (((L).length : Nat) : Int) then
      (parrelref09_ahead (L.getD i.toNat default) (T_parrelref09_Timer.mk x_n At)).bind fun yL0_4 =>
      if (yL0_4 : Bool) then
        parrelref09_Clock_Set_l0 c x_n after  fuel (IntKind.wrap .i64 (i + 1)) Now L At
      else
        if 0 ≤ (0 : Int) ∧ 0 ≤ i ∧ i ≤ (((L).length : Nat) : Int) then
        if (0 + ((L.take i.toNat)).length) * 20 ≤ 140737488351232 then
        if (((L.take i.toNat)).length + (([(T_parrelref09_Timer.mk x_n At)] : List (T_parrelref09_Timer))).length) * 20 ≤ 140737488351232 then
        if 0 ≤ i ∧ i ≤ (((L).length : Nat) : Int) ∧ (((L).length : Nat) : Int) ≤ (((L).length : Nat) : Int) then
        if ((((L.take i.toNat) ++ ([(T_parrelref09_Timer.mk x_n At)] : List (T_parrelref09_Timer)))).length + ((L.drop i.toNat)).length) * 20 ≤ 140737488351232 then
        some (0, Now, (((L.take i.toNat) ++ ([(T_parrelref09_Timer.mk x_n At)] : List (T_parrelref09_Timer))) ++ (L.drop i.toNat)))
        else none
        else none
        else none
        else none
        else none
      else none
    else
      if 0 ≤ (0 : Int) ∧ 0 ≤ i ∧ i ≤ (((L).length : Nat) : Int) then
      if (0 + ((L.take i.toNat)).length) * 20 ≤ 140737488351232 then
      if (((L.take i.toNat)).length + (([(T_parrelref09_Timer.mk x_n At)] : List (T_parrelref09_Timer))).length) * 20 ≤ 140737488351232 then
      if 0 ≤ i ∧ i ≤ (((L).length : Nat) : Int) ∧ (((L).length : Nat) : Int) ≤ (((L).length : Nat) : Int) then
      if ((((L.take i.toNat) ++ ([(T_parrelref09_Timer.mk x_n At)] : List (T_parrelref09_Timer)))).length + ((L.drop i.toNat)).length) * 20 ≤ 140737488351232 then
      some (0, Now, (((L.take i.toNat) ++ ([(T_parrelref09_Timer.mk x_n At)] : List (T_parrelref09_Timer))) ++ (L.drop i.toNat)))
      else none
      else none
      else none
      else none
      else none

def parrelref09_Clock_Set (c : T_parrelref09_Clock) (x_n : T_parrelref09_Name) (after : Int) : Option ((Int) × (Int) × (List (T_parrelref09_Timer))) :=
  if ((after == 0) : Bool) then
    some (1, c.f_Now, c.f_L)
  else
    if ((decide ((IntKind.wrap .u32 (2147483647 - c.f_Now)) < after)) : Bool) then
      some (17, c.f_Now, c.f_L)
    else
      (parrelref09_Clock_place c x_n).bind fun y4 =>
      if ((decide (y4 < 0)) : Bool) then
        if ((decide (1024 ≤ ((c.f_L).length : Int))) : Bool) then
          some (5, c.f_Now, c.f_L)
        else
          (parrelref09_Clock_Stop c x_n).bind fun y8 =>
          parrelref09_Clock_Set_l0 c x_n after  big 0 y8.2.1 y8.2.2 (IntKind.wrap .u32 (y8.2.1 + after))
      else
        (parrelref09_Clock_Stop c x_n).bind fun y7 =>
        parrelref09_Clock_Set_l0 c x_n after  big 0 y7.2.1 y7.2.2 (IntKind.wrap .u32 (y7.2.1 + after))

theorem parrelref09_Clock_Set_l0_ok {w0 : World} {W : Nat → Prop} {μ0 : Emb} (hμ : ∀ c p, μ0 c = some p → c < 1) (c : T_parrelref09_Clock) (x_n : T_parrelref09_Name) (after : Int)  : ∀ (fuel : Nat) (i : Int) (Now : Int) (L : List (T_parrelref09_Timer)) (At : Int) (r : (Int) × (Int) × (List (T_parrelref09_Timer))), parrelref09_Clock_Set_l0 c x_n after  fuel i Now L At = some r → kont Try.prog w0 W μ0 (FnPost Try.prog Try.f22 1 1 (parrelref09_Clock_Set_v r) (parrelref09_Clock_Set_up c x_n after r)) (kAt (bodyOf Try.f22) 0) none (parrelref09_Clock_Set_T0 x_n i Now L At) (parrelref09_Clock_Set_H0 x_n i Now L At) := by
  intro fuel
  induction fuel with
  | zero => intro i Now L At r h; rw [parrelref09_Clock_Set_l0] at h; cases h
  | succ fuel ih =>
    intro i Now L At r h
    rw [parrelref09_Clock_Set_l0] at h
    rcases itb_some h with ⟨cL0_1, h⟩ | ⟨cL0_1, h⟩
    · skip
      obtain ⟨gL0_2, h⟩ := guard_some h
      obtain ⟨yL0_4, eL0_3, h⟩ := bind_some h
      rcases itb_some h with ⟨cL0_5, h⟩ | ⟨cL0_5, h⟩
      · skip
        exact run_to mixed hμ (L := [1]) (n := 20) (s := [.go, .reg [(7, hT), (16, hC (parrelref09_ahead_v yL0_4)), (17, hT)], .reg []])
          (a_ (r4_ (l_ 1 2 rfl (r2_ (f_ cL0_1 (r1_ (r2_ (l_ 1 2 rfl (r1_ (a_ (a_ (a_ (Eq.refl 5) gL0_2) tr) (a_ (a_ (le_ 5 5 rfl) tr) (m_ 5 5 rfl (a_ (a_ (a_ (parrelref09_ahead_tri (L.getD i.toNat default) (T_parrelref09_Timer.mk x_n At) yL0_4 eL0_3) tr) tr) (f_ cL0_5 tr))))))))))))) (a_ (r1_ (r2_ tr)) tr)) (ih _ _ _ _ r h) (by kernel_rfl) ⟨rfl, rfl, trivial⟩
      · skip
        obtain ⟨gL0_6, h⟩ := guard_some h
        obtain ⟨gL0_7, h⟩ := guard_some h
        obtain ⟨gL0_8, h⟩ := guard_some h
        obtain ⟨gL0_9, h⟩ := guard_some h
        obtain ⟨gL0_10, h⟩ := guard_some h
        obtain rfl := Option.some.inj h
        exact run_ret mixed (L := []) (n := 23) (s := [.go, .reg [(7, hT), (16, hC (parrelref09_ahead_v yL0_4)), (17, hF)], .reg [(6, { v := some (.ds 5 ((L.take i.toNat)).length (rowF c_T_parrelref09_Timer default (L.take i.toNat))) }), (7, { app := 3 }), (9, { os := [(3, .gr 5 (([(T_parrelref09_Timer.mk x_n At)] : List (T_parrelref09_Timer))).length (rowF c_T_parrelref09_Timer default ([(T_parrelref09_Timer.mk x_n At)] : List (T_parrelref09_Timer))))], v := some (.gs 3 (([(T_parrelref09_Timer.mk x_n At)] : List (T_parrelref09_Timer))).length) }), (10, { app := 3, os := [(4, .gr 5 (((L.take i.toNat) ++ ([(T_parrelref09_Timer.mk x_n At)] : List (T_parrelref09_Timer)))).length (rowF c_T_parrelref09_Timer default ((L.take i.toNat) ++ ([(T_parrelref09_Timer.mk x_n At)] : List (T_parrelref09_Timer)))))], v := some (.gs 4 (((L.take i.toNat) ++ ([(T_parrelref09_Timer.mk x_n At)] : List (T_parrelref09_Timer)))).length) }), (16, { v := some (.ds 5 ((L.drop i.toNat)).length (rowF c_T_parrelref09_Timer default (L.drop i.toNat))) }), (17, { app := 3, os := [(5, .gr 5 ((((L.take i.toNat) ++ ([(T_parrelref09_Timer.mk x_n At)] : List (T_parrelref09_Timer))) ++ (L.drop i.toNat))).length (rowF c_T_parrelref09_Timer default (((L.take i.toNat) ++ ([(T_parrelref09_Timer.mk x_n At)] : List (T_parrelref09_Timer))) ++ (L.drop i.toNat))))], v := some (.gs 5 ((((L.take i.toNat) ++ ([(T_parrelref09_Timer.mk x_n At)] : List (T_parrelref09_Timer))) ++ (L.drop i.toNat))).length) })], .reg [], .frz 5])
          (a_ (a_ (r4_ (l_ 1 2 rfl (r2_ (f_ cL0_1 (r1_ (r2_ (l_ 1 2 rfl (r1_ (a_ (a_ (a_ (Eq.refl 5) gL0_2) tr) (a_ (a_ (le_ 5 5 rfl) tr) (m_ 5 5 rfl (a_ (a_ (a_ (parrelref09_ahead_tri (L.getD i.toNat default) (T_parrelref09_Timer.mk x_n At) yL0_4 eL0_3) tr) tr) (f_ cL0_5 tr))))))))))))) (a_ (r4_ (l_ 1 2 rfl (r1_ (a_ (a_ (a_ (Eq.refl 5) gL0_6) (a_ (le_take c_T_parrelref09_Timer default 5 L i.toNat (toN_le gL0_6.2.2)) tr)) (a_ (a_ (a_ (Eq.refl 5) (a_ (lt_ 0 5 rfl) (a_ (lt_ 0 20 rfl) (a_ gL0_7 (a_ (Eq.refl 5) (Eq.refl true)))))) tr) (m_ 5 5 rfl (a_ (a_ (a_ (Eq.refl true) (a_ (Eq.refl 5) (a_ (lt_ 0 5 rfl) (le_ 5 16777216 rfl)))) (a_ (le_sl_gs 3 1 (some 1) rfl) (a_ (sub_lit c_T_parrelref09_Timer default 5 (fun _ => rfl) ([(T_parrelref09_Timer.mk x_n At)] : List (T_parrelref09_Timer))) tr))) (a_ (a_ (a_ (a_ (Eq.refl 5) (Nat.le_refl (([(T_parrelref09_Timer.mk x_n At)] : List (T_parrelref09_Timer))).length)) (a_ (a_ (lt_ 0 5 rfl) (a_ (lt_ 0 20 rfl) (a_ gL0_8 (a_ (Eq.refl 5) (Eq.refl true))))) (a_ (Eq.refl 5) (Nat.le_refl ((L.take i.toNat)).length)))) (a_ (le_gs_app 4 (L.take i.toNat) ([(T_parrelref09_Timer.mk x_n At)] : List (T_parrelref09_Timer))) (a_ (sub_app c_T_parrelref09_Timer default 5 (L.take i.toNat) ([(T_parrelref09_Timer.mk x_n At)] : List (T_parrelref09_Timer))) tr))) (r1_ (r2_ (l_ 1 2 rfl (r1_ (a_ (a_ (a_ (Eq.refl 5) gL0_9) (a_ (le_drop c_T_parrelref09_Timer default 5 L i.toNat (toN_le gL0_9.2.1)) tr)) (a_ (a_ (a_ (Eq.refl 5) (a_ (a_ (lt_ 0 5 rfl) (a_ (lt_ 0 20 rfl) (a_ gL0_10 (a_ (Eq.refl 5) (Eq.refl true))))) (a_ (Eq.refl 5) (Nat.le_refl (((L.take i.toNat) ++ ([(T_parrelref09_Timer.mk x_n At)] : List (T_parrelref09_Timer)))).length)))) (a_ (le_gs_app 5 ((L.take i.toNat) ++ ([(T_parrelref09_Timer.mk x_n At)] : List (T_parrelref09_Timer))) (L.drop i.toNat)) (a_ (sub_app c_T_parrelref09_Timer default 5 ((L.take i.toNat) ++ ([(T_parrelref09_Timer.mk x_n At)] : List (T_parrelref09_Timer))) (L.drop i.toNat)) tr))) (r2_ (a_ (a_ (a_ (Eq.refl 1) (a_ (le_ 2 2 rfl) (Eq.refl 0))) tr) tr)))))))))))))))) (a_ (r1_ tr) (a_ (a_ (fz_row (enc := c_T_parrelref09_Timer) (d := default) (fun _ => rfl) (((L.take i.toNat) ++ ([(T_parrelref09_Timer.mk x_n At)] : List (T_parrelref09_Timer))) ++ (L.drop i.toNat))) (a_ (Nat.le_refl ((((L.take i.toNat) ++ ([(T_parrelref09_Timer.mk x_n At)] : List (T_parrelref09_Timer))) ++ (L.drop i.toNat))).length) (a_ (Nat.le_refl ((((L.take i.toNat) ++ ([(T_parrelref09_Timer.mk x_n At)] : List (T_parrelref09_Timer))) ++ (L.drop i.toNat))).length) tr))) tr)))) tr) (by kernel_rfl) rfl
    · skip
      obtain ⟨gL0_2, h⟩ := guard_some h
      obtain ⟨gL0_3, h⟩ := guard_some h
      obtain ⟨gL0_4, h⟩ := guard_some h
      obtain ⟨gL0_5, h⟩ := guard_some h
      obtain ⟨gL0_6, h⟩ := guard_some h
      obtain rfl := Option.some.inj h
      exact run_ret mixed (L := []) (n := 23) (s := [.go, .reg [(7, hF)], .reg [(6, { v := some (.ds 5 ((L.take i.toNat)).length (rowF c_T_parrelref09_Timer default (L.take i.toNat))) }), (7, { app := 3 }), (9, { os := [(3, .gr 5 (([(T_parrelref09_Timer.mk x_n At)] : List (T_parrelref09_Timer))).length (rowF c_T_parrelref09_Timer default ([(T_parrelref09_Timer.mk x_n At)] : List (T_parrelref09_Timer))))], v := some (.gs 3 (([(T_parrelref09_Timer.mk x_n At)] : List (T_parrelref09_Timer))).length) }), (10, { app := 3, os := [(4, .gr 5 (((L.take i.toNat) ++ ([(T_parrelref09_Timer.mk x_n At)] : List (T_parrelref09_Timer)))).length (rowF c_T_parrelref09_Timer default ((L.take i.toNat) ++ ([(T_parrelref09_Timer.mk x_n At)] : List (T_parrelref09_Timer)))))], v := some (.gs 4 (((L.take i.toNat) ++ ([(T_parrelref09_Timer.mk x_n At)] : List (T_parrelref09_Timer)))).length) }), (16, { v := some (.ds 5 ((L.drop i.toNat)).length (rowF c_T_parrelref09_Timer default (L.drop i.toNat))) }), (17, { app := 3, os := [(5, .gr 5 ((((L.take i.toNat) ++ ([(T_parrelref09_Timer.mk x_n At)] : List (T_parrelref09_Timer))) ++ (L.drop i.toNat))).length (rowF c_T_parrelref09_Timer default (((L.take i.toNat) ++ ([(T_parrelref09_Timer.mk x_n At)] : List (T_parrelref09_Timer))) ++ (L.drop i.toNat))))], v := some (.gs 5 ((((L.take i.toNat) ++ ([(T_parrelref09_Timer.mk x_n At)] : List (T_parrelref09_Timer))) ++ (L.drop i.toNat))).length) })], .reg [], .frz 5])
        (a_ (a_ (r4_ (l_ 1 2 rfl (r2_ (f_ cL0_1 (a_ tr (t8_ (r1_ tr))))))) (a_ (r4_ (l_ 1 2 rfl (r1_ (a_ (a_ (a_ (Eq.refl 5) gL0_2) (a_ (le_take c_T_parrelref09_Timer default 5 L i.toNat (toN_le gL0_2.2.2)) tr)) (a_ (a_ (a_ (Eq.refl 5) (a_ (lt_ 0 5 rfl) (a_ (lt_ 0 20 rfl) (a_ gL0_3 (a_ (Eq.refl 5) (Eq.refl true)))))) tr) (m_ 5 5 rfl (a_ (a_ (a_ (Eq.refl true) (a_ (Eq.refl 5) (a_ (lt_ 0 5 rfl) (le_ 5 16777216 rfl)))) (a_ (le_sl_gs 3 1 (some 1) rfl) (a_ (sub_lit c_T_parrelref09_Timer default 5 (fun _ => rfl) ([(T_parrelref09_Timer.mk x_n At)] : List (T_parrelref09_Timer))) tr))) (a_ (a_ (a_ (a_ (Eq.refl 5) (Nat.le_refl (([(T_parrelref09_Timer.mk x_n At)] : List (T_parrelref09_Timer))).length)) (a_ (a_ (lt_ 0 5 rfl) (a_ (lt_ 0 20 rfl) (a_ gL0_4 (a_ (Eq.refl 5) (Eq.refl true))))) (a_ (Eq.refl 5) (Nat.le_refl ((L.take i.toNat)).length)))) (a_ (le_gs_app 4 (L.take i.toNat) ([(T_parrelref09_Timer.mk x_n At)] : List (T_parrelref09_Timer))) (a_ (sub_app c_T_parrelref09_Timer default 5 (L.take i.toNat) ([(T_parrelref09_Timer.mk x_n At)] : List (T_parrelref09_Timer))) tr))) (r1_ (r2_ (l_ 1 2 rfl (r1_ (a_ (a_ (a_ (Eq.refl 5) gL0_5) (a_ (le_drop c_T_parrelref09_Timer default 5 L i.toNat (toN_le gL0_5.2.1)) tr)) (a_ (a_ (a_ (Eq.refl 5) (a_ (a_ (lt_ 0 5 rfl) (a_ (lt_ 0 20 rfl) (a_ gL0_6 (a_ (Eq.refl 5) (Eq.refl true))))) (a_ (Eq.refl 5) (Nat.le_refl (((L.take i.toNat) ++ ([(T_parrelref09_Timer.mk x_n At)] : List (T_parrelref09_Timer)))).length)))) (a_ (le_gs_app 5 ((L.take i.toNat) ++ ([(T_parrelref09_Timer.mk x_n At)] : List (T_parrelref09_Timer))) (L.drop i.toNat)) (a_ (sub_app c_T_parrelref09_Timer default 5 ((L.take i.toNat) ++ ([(T_parrelref09_Timer.mk x_n At)] : List (T_parrelref09_Timer))) (L.drop i.toNat)) tr))) (r2_ (a_ (a_ (a_ (Eq.refl 1) (a_ (le_ 2 2 rfl) (Eq.refl 0))) tr) tr)))))))))))))))) (a_ (r1_ tr) (a_ (a_ (fz_row (enc := c_T_parrelref09_Timer) (d := default) (fun _ => rfl) (((L.take i.toNat) ++ ([(T_parrelref09_Timer.mk x_n At)] : List (T_parrelref09_Timer))) ++ (L.drop i.toNat))) (a_ (Nat.le_refl ((((L.take i.toNat) ++ ([(T_parrelref09_Timer.mk x_n At)] : List (T_parrelref09_Timer))) ++ (L.drop i.toNat))).length) (a_ (Nat.le_refl ((((L.take i.toNat) ++ ([(T_parrelref09_Timer.mk x_n At)] : List (T_parrelref09_Timer))) ++ (L.drop i.toNat))).length) tr))) tr)))) tr) (by kernel_rfl) rfl

theorem parrelref09_Clock_Set_ok (c : T_parrelref09_Clock) (x_n : T_parrelref09_Name) (after : Int) (r : (Int) × (Int) × (List (T_parrelref09_Timer))) (h : parrelref09_Clock_Set c x_n after = some r) : ∀ σ, Inj 1 σ → FnTri Try.prog 22 (renL σ [.ptr 0 0 0, v_T_parrelref09_Name x_n, .int .u32 after]) (preOf σ 0 (parrelref09_Clock_Set_objs c x_n after)) ((parrelref09_Clock_Set_v r).ren σ) (upOf σ (parrelref09_Clock_Set_up c x_n after r)) := by
  refine fn_of Try.func22 (by kernel_rfl) (by kernel_rfl) (by kernel_rfl) ⟨rfl, trivial⟩ (by kernel_rfl) ⟨rfl, trivial⟩ (by kernel_rfl) ?_
  intro w0 W μ0 hμ
  unfold parrelref09_Clock_Set at h
  rcases itb_some h with ⟨c1, h⟩ | ⟨c1, h⟩
  · skip
    obtain rfl := Option.some.inj h
    exact run_ret mixed (L := []) (n := 21) (s := [.reg [], .reg [(2, hT)], .reg []])
      (a_ (a_ (r2_ tr) (a_ (r2_ (f_ c1 tr)) (a_ (r1_ tr) tr))) tr) (by kernel_rfl) rfl
  · skip
    rcases itb_some h with ⟨c2, h⟩ | ⟨c2, h⟩
    · skip
      obtain rfl := Option.some.inj h
      exact run_ret mixed (L := []) (n := 25) (s := [.reg [], .reg [(2, hF)], .reg [(7, hT)], .reg []])
        (a_ (a_ (r2_ tr) (a_ (r2_ (f_ c1 tr)) (a_ (r4_ (l_ 0 2 rfl (r2_ (f_ c2 tr)))) (a_ (r1_ tr) tr)))) tr) (by kernel_rfl) rfl
    · skip
      obtain ⟨y4, e3, h⟩ := bind_some h
      rcases itb_some h with ⟨c5, h⟩ | ⟨c5, h⟩
      · skip
        rcases itb_some h with ⟨c6, h⟩ | ⟨c6, h⟩
        · skip
          obtain rfl := Option.some.inj h
          exact run_ret mixed (L := []) (n := 29) (s := [.reg [], .reg [(2, hF)], .reg [(7, hF)], .reg [(2, { call := some ((parrelref09_Clock_place_v y4).ren (sel [0]), preOf (sel [0]) 0 (parrelref09_Clock_place_objs c x_n), upOf (sel [0]) (parrelref09_Clock_place_up c x_n y4)) }), (4, hT), (12, hT)], .reg []])
            (a_ (a_ (r2_ tr) (a_ (r2_ (f_ c1 tr)) (a_ (r4_ (l_ 0 2 rfl (r2_ (f_ c2 tr)))) (a_ (r1_ (m_ 4 4 rfl (a_ (a_ (a_ (parrelref09_Clock_place_ok c x_n y4 e3 (sel [0]) (sel_inj rfl rfl)) (a_ (LO.Le.refl (.var (c_T_parrelref09_Clock c))) tr)) tr) (r1_ (f_ c5 (r1_ (r2_ (l_ 1 2 rfl (r1_ (r2_ (f_ c6 tr))))))))))) (a_ (r1_ tr) tr))))) tr) (by kernel_rfl) rfl
        · skip
          obtain ⟨y8, e7, h⟩ := bind_some h
          exact run_to mixed hμ (L := [2]) (n := 40) (s := [.reg [], .reg [(2, hF)], .reg [(7, hF)], .reg [(2, { call := some ((parrelref09_Clock_place_v y4).ren (sel [0]), preOf (sel [0]) 0 (parrelref09_Clock_place_objs c x_n), upOf (sel [0]) (parrelref09_Clock_place_up c x_n y4)) }), (4, hT), (12, hF)], .reg [(2, { call := some ((parrelref09_Clock_Stop_v y8).ren (sel [0]), preOf (sel [0]) 0 (parrelref09_Clock_Stop_objs c x_n), upOf (sel [0]) (parrelref09_Clock_Stop_up c x_n y8)) })], .reg [], .reg []])
            (a_ (r2_ tr) (a_ (r2_ (f_ c1 tr)) (a_ (r4_ (l_ 0 2 rfl (r2_ (f_ c2 tr)))) (a_ (r1_ (m_ 4 4 rfl (a_ (a_ (a_ (parrelref09_Clock_place_ok c x_n y4 e3 (sel [0]) (sel_inj rfl rfl)) (a_ (LO.Le.refl (.var (c_T_parrelref09_Clock c))) tr)) tr) (r1_ (f_ c5 (r1_ (r2_ (l_ 1 2 rfl (r1_ (r2_ (f_ c6 tr))))))))))) (a_ (r1_ (m_ 4 4 rfl (a_ (a_ (a_ (parrelref09_Clock_Stop_ok c x_n y8 e7 (sel [0]) (sel_inj rfl rfl)) (a_ (LO.Le.refl (.var (c_T_parrelref09_Clock c))) tr)) tr) tr))) (a_ (m_ 4 4 rfl (r1_ (r2_ (l_ 0 2 rfl (r2_ (a_ (a_ (Eq.refl true) tr) (r1_ (a_ (a_ (a_ (Eq.refl 5) (a_ (le_ 5 5 rfl) (Eq.refl 0))) tr) tr)))))))) (a_ (r1_ tr) tr))))))) (parrelref09_Clock_Set_l0_ok hμ c x_n after  big _ _ _ _ r h) (by kernel_rfl) ⟨rfl, rfl, trivial⟩
      · skip
        obtain ⟨y7, e6, h⟩ := bind_some h
        exact run_to mixed hμ (L := [2]) (n := 40) (s := [.reg [], .reg [(2, hF)], .reg [(7, hF)], .reg [(2, { call := some ((parrelref09_Clock_place_v y4).ren (sel [0]), preOf (sel [0]) 0 (parrelref09_Clock_place_objs c x_n), upOf (sel [0]) (parrelref09_Clock_place_up c x_n y4)) }), (4, hF)], .reg [(2, { call := some ((parrelref09_Clock_Stop_v y7).ren (sel [0]), preOf (sel [0]) 0 (parrelref09_Clock_Stop_objs c x_n), upOf (sel [0]) (parrelref09_Clock_Stop_up c x_n y7)) })], .reg [], .reg []])
          (a_ (r2_ tr) (a_ (r2_ (f_ c1 tr)) (a_ (r4_ (l_ 0 2 rfl (r2_ (f_ c2 tr)))) (a_ (r1_ (m_ 4 4 rfl (a_ (a_ (a_ (parrelref09_Clock_place_ok c x_n y4 e3 (sel [0]) (sel_inj rfl rfl)) (a_ (LO.Le.refl (.var (c_T_parrelref09_Clock c))) tr)) tr) (r1_ (f_ c5 (t2_ (t4_ (r2_ tr)))))))) (a_ (r1_ (m_ 4 4 rfl (a_ (a_ (a_ (parrelref09_Clock_Stop_ok c x_n y7 e6 (sel [0]) (sel_inj rfl rfl)) (a_ (LO.Le.refl (.var (c_T_parrelref09_Clock c))) tr)) tr) tr))) (a_ (m_ 4 4 rfl (r1_ (r2_ (l_ 0 2 rfl (r2_ (a_ (a_ (Eq.refl true) tr) (r1_ (a_ (a_ (a_ (Eq.refl 5) (a_ (le_ 5 5 rfl) (Eq.refl 0))) tr) tr)))))))) (a_ (r1_ tr) tr))))))) (parrelref09_Clock_Set_l0_ok hμ c x_n after  big _ _ _ _ r h) (by kernel_rfl) ⟨rfl, rfl, trivial⟩

end
end Go.Proofs.Yteigbcpbehddoaa.Wk
