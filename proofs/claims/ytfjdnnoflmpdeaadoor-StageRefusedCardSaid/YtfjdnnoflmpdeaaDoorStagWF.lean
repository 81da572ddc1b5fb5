/- Printed by tr.py: counting loops as walks over lists and over numbers. -/
import Derived.Test.YtfjdnnoflmpdeaaDoorStagW
import Derived.Test.YtfjdnnoflmpdeaaDoorCnX
namespace Go.Proofs.YtfjdnnoflmpdeaaDoor.Wk
open Go Go.Cn
set_option maxRecDepth 100000
set_option maxHeartbeats 4000000
set_option linter.unusedVariables false
set_option linter.unusedSimpArgs false
noncomputable section
theorem parrellaw14_far_l1_k (t11 : Int) (y2 : (List (T_parrellaw14_Act)))  (k k' : (Int) → (Int) → Option ((Bool))) (h : ∀ x_n_, k x_n_ (IntKind.wrap .i64 (t11 + 1)) = k' x_n_ (IntKind.wrap .i64 (t11 + 1))) : ∀ fuel x_n2 t22, parrellaw14_far_l1 t11 y2 k fuel x_n2 t22 = parrellaw14_far_l1 t11 y2 k' fuel x_n2 t22 := by
  intro fuel
  induction fuel with
  | zero => intros; rfl
  | succ fuel ih => first | (intros; simp only [parrellaw14_far_l1, ih, h]; done) | (have ih_ := funext fun a0_ => funext fun a1_ => ih a0_ a1_; intros; simp only [parrellaw14_far_l1, ih, ih_, h])

def parrellaw14_far_b1 (t11 : Int) (y2 : (List (T_parrellaw14_Act))) (k0 : ((Int)) → Option ((Bool))) (t22 : Nat) (s_ : (Int)) (k_ : ((Int)) → Option ((Bool))) : Option ((Bool)) :=
  k_ (IntKind.wrap .i64 (s_ + (if 10000 < ((((y2.getD t11.toNat default).f_Writes.getD t22 default).f_Item.f_Value).length : Int) then 10000 else ((((y2.getD t11.toNat default).f_Writes.getD t22 default).f_Item.f_Value).length : Int))))

def parrellaw14_far_e1  (k0 : ((Int)) → Option ((Bool))) (s_ : (Int)) : Option ((Bool)) :=
  k0 s_

theorem parrellaw14_far_w1 (t11 : Int) (y2 : (List (T_parrellaw14_Act))) (k0 : (Int) → (Int) → Option ((Bool))) (x_n2 : Int) (hN : ((y2.getD t11.toNat default).f_Writes).length < 9223372036854775807) :
    parrellaw14_far_l1 t11 y2 k0 big x_n2 0 = walkN (parrellaw14_far_b1 t11 y2 (fun s_ => k0 s_ (IntKind.wrap .i64 (t11 + 1)))) (parrellaw14_far_e1  (fun s_ => k0 s_ (IntKind.wrap .i64 (t11 + 1)))) ((y2.getD t11.toNat default).f_Writes).length 0 x_n2 := by
  refine loopN ((y2.getD t11.toNat default).f_Writes).length (fun fuel_ t_ s_ => parrellaw14_far_l1 t11 y2 k0 fuel_ s_ t_) (parrellaw14_far_b1 t11 y2 (fun s_ => k0 s_ (IntKind.wrap .i64 (t11 + 1)))) (parrellaw14_far_e1  (fun s_ => k0 s_ (IntKind.wrap .i64 (t11 + 1)))) (by first | exact hN | (have := hN; simp only [List.length_nil] at this ⊢; omega)) ?_ ?_ x_n2
  · intro fuel_ i_ s_ hi_
    have hg_ : 0 ≤ (i_ : Int) ∧ (i_ : Int) < ((((y2.getD t11.toNat default).f_Writes).length : Nat) : Int) := by omega
    show parrellaw14_far_l1 t11 y2 k0 (fuel_ + 1) s_ (i_ : Int) = _
    rw [parrellaw14_far_l1, if_pos (decide_eq_true (by omega))]
    repeat rw [if_pos hg_]
    have hinc_ : IntKind.wrap .i64 ((i_ : Int) + 1) = (((i_ + 1 : Nat)) : Int) := by rw [w64 (by omega) (by omega)]; rfl
    try rw [hinc_]
    first | rfl | (unfold parrellaw14_far_b1; simp only [hinc_]; done) | (unfold parrellaw14_far_b1; simp only [hinc_]; rfl)
  · intro fuel_ s_
    show parrellaw14_far_l1 t11 y2 k0 (fuel_ + 1) s_ ((((y2.getD t11.toNat default).f_Writes).length : Nat) : Int) = _
    rw [parrellaw14_far_l1, if_neg (by rw [decide_eq_true_eq]; omega)]
    rfl

def parrellaw14_far_b0 (y2 : (List (T_parrellaw14_Act)))  (t11 : Nat) (s_ : (Int)) (k_ : ((Int)) → Option ((Bool))) : Option ((Bool)) :=
  if ((decide (40 < (((y2.getD t11 default).f_Writes).length : Int))) : Bool) then
    some true
  else
    parrellaw14_far_l1 (t11 : Int) y2 (fun x_n_ _ => k_ x_n_) big s_ 0

def parrellaw14_far_e0   (s_ : (Int)) : Option ((Bool)) :=
  some (decide (20000 < s_))

theorem parrellaw14_far_w0 (y2 : (List (T_parrellaw14_Act)))  (x_n : Int) (hN : (y2).length < 9223372036854775807) :
    parrellaw14_far_l0 y2  big x_n 0 = walkN (parrellaw14_far_b0 y2 ) (parrellaw14_far_e0  ) (y2).length 0 x_n := by
  refine loopN (y2).length (fun fuel_ t_ s_ => parrellaw14_far_l0 y2  fuel_ s_ t_) (parrellaw14_far_b0 y2 ) (parrellaw14_far_e0  ) (by first | exact hN | (have := hN; simp only [List.length_nil] at this ⊢; omega)) ?_ ?_ x_n
  · intro fuel_ i_ s_ hi_
    have hg_ : 0 ≤ (i_ : Int) ∧ (i_ : Int) < (((y2).length : Nat) : Int) := by omega
    show parrellaw14_far_l0 y2  (fuel_ + 1) s_ (i_ : Int) = _
    rw [parrellaw14_far_l0, if_pos (decide_eq_true (by omega))]
    repeat rw [if_pos hg_]
    have hinc_ : IntKind.wrap .i64 ((i_ : Int) + 1) = (((i_ + 1 : Nat)) : Int) := by rw [w64 (by omega) (by omega)]; rfl
    simp only [parrellaw14_far_l1_k (i_ : Int) _  (parrellaw14_far_l0 y2  fuel_) (fun x_n_ _ => parrellaw14_far_l0 y2  fuel_ x_n_ (((i_ + 1 : Nat)) : Int)) (fun x_n_ => by first | rfl | rw [hinc_])]
    try rw [hinc_]
    first | rfl | (unfold parrellaw14_far_b0; simp only [hinc_]; done) | (unfold parrellaw14_far_b0; simp only [hinc_]; rfl)
  · intro fuel_ s_
    show parrellaw14_far_l0 y2  (fuel_ + 1) s_ (((y2).length : Nat) : Int) = _
    rw [parrellaw14_far_l0, if_neg (by rw [decide_eq_true_eq]; omega)]
    rfl

def votes_Of_b0 (c : T_api_Config) (set : Int)  (t10 : Nat) (s_ : (Int)) (k_ : ((Int)) → Option ((Int))) : Option ((Int)) :=
  if 0 ≤ (t10 : Int) then
  k_ (IntKind.wrap .i64 (s_ + (IntKind.wrap .i64 ((IntKind.wrap .i64 (A8.get c.f_Votes t10)) * (IntKind.wrap .i64 (IntKind.wrap .u64 ((BitVec.ofInt (IntKind.bits .u64) (Int.fdiv set (2 ^ (min (Int.toNat (t10 : Int)) (IntKind.bits .u64)))) &&& BitVec.ofInt (IntKind.bits .u64) 1).toNat : Int)))))))
  else none

def votes_Of_e0   (s_ : (Int)) : Option ((Int)) :=
  some s_

theorem votes_Of_w0 (c : T_api_Config) (set : Int)  (x_n : Int) (hN : 8 < 9223372036854775807) :
    votes_Of_l0 c set  big x_n 0 = walkN (votes_Of_b0 c set ) (votes_Of_e0  ) 8 0 x_n := by
  refine loopN 8 (fun fuel_ t_ s_ => votes_Of_l0 c set  fuel_ s_ t_) (votes_Of_b0 c set ) (votes_Of_e0  ) (by first | exact hN | (have := hN; simp only [List.length_nil] at this ⊢; omega)) ?_ ?_ x_n
  · intro fuel_ i_ s_ hi_
    have hg_ : 0 ≤ (i_ : Int) ∧ (i_ : Int) < 8 := by omega
    show votes_Of_l0 c set  (fuel_ + 1) s_ (i_ : Int) = _
    rw [votes_Of_l0, if_pos (decide_eq_true (by omega))]
    repeat rw [if_pos hg_]
    have hinc_ : IntKind.wrap .i64 ((i_ : Int) + 1) = (((i_ + 1 : Nat)) : Int) := by rw [w64 (by omega) (by omega)]; rfl
    try rw [hinc_]
    first | rfl | (unfold votes_Of_b0; simp only [hinc_]; done) | (unfold votes_Of_b0; simp only [hinc_]; rfl)
  · intro fuel_ s_
    show votes_Of_l0 c set  (fuel_ + 1) s_ ((8 : Nat) : Int) = _
    rw [votes_Of_l0, if_neg (by rw [decide_eq_true_eq]; omega)]
    rfl

def slices_Max_uint8_uint8_b0 (x : T_api_Config)  (i : Nat) (s_ : (Int)) (k_ : ((Int)) → Option ((Int))) : Option ((Int)) :=
  k_ (if (A8.get x.f_Votes i) > s_ then (A8.get x.f_Votes i) else s_)

def slices_Max_uint8_uint8_e0   (s_ : (Int)) : Option ((Int)) :=
  some s_

theorem slices_Max_uint8_uint8_ws0 (x : T_api_Config)  (m : Int) (st_ : Nat) (hst_ : st_ ≤ 8) (hN : 8 < 9223372036854775807) :
    slices_Max_uint8_uint8_l0 x  big m (st_ : Int) = walkN (slices_Max_uint8_uint8_b0 x ) (slices_Max_uint8_uint8_e0  ) (8 - st_) st_ m := by
  refine loopNs 8 st_ hst_ (fun fuel_ t_ s_ => slices_Max_uint8_uint8_l0 x  fuel_ s_ t_) (slices_Max_uint8_uint8_b0 x ) (slices_Max_uint8_uint8_e0  ) (by first | exact hN | (have := hN; simp only [List.length_nil] at this ⊢; omega)) ?_ ?_ m
  · intro fuel_ i_ s_ hi_
    have hg_ : 0 ≤ (i_ : Int) ∧ (i_ : Int) < 8 := by omega
    show slices_Max_uint8_uint8_l0 x  (fuel_ + 1) s_ (i_ : Int) = _
    rw [slices_Max_uint8_uint8_l0, if_pos (decide_eq_true (by omega))]
    repeat rw [if_pos hg_]
    have hinc_ : IntKind.wrap .i64 ((i_ : Int) + 1) = (((i_ + 1 : Nat)) : Int) := by rw [w64 (by omega) (by omega)]; rfl
    try rw [hinc_]
    first | rfl | (unfold slices_Max_uint8_uint8_b0; simp only [hinc_]; done) | (unfold slices_Max_uint8_uint8_b0; simp only [hinc_]; rfl)
  · intro fuel_ s_
    show slices_Max_uint8_uint8_l0 x  (fuel_ + 1) s_ ((8 : Nat) : Int) = _
    rw [slices_Max_uint8_uint8_l0, if_neg (by rw [decide_eq_true_eq]; omega)]
    rfl

def slices_Compare_byte_byte_b0 (s1 : A8 (Int)) (s2 : A8 (Int))  (t11 : Nat) (s_ : Unit) (k_ : (Unit) → Option ((Int))) : Option ((Int)) :=
  if ((decide (8 ≤ (t11 : Int))) : Bool) then
    some 1
  else
    (cmp_Compare_uint8 (A8.get s1 t11) (A8.get s2 t11)).bind fun yL0_5 =>
    if ((yL0_5 != 0) : Bool) then
      some yL0_5
    else
      k_ ()

def slices_Compare_byte_byte_e0   (s_ : Unit) : Option ((Int)) :=
  some 0

theorem slices_Compare_byte_byte_w0 (s1 : A8 (Int)) (s2 : A8 (Int))   (hN : 8 < 9223372036854775807) :
    slices_Compare_byte_byte_l0 s1 s2  big 0 = walkN (slices_Compare_byte_byte_b0 s1 s2 ) (slices_Compare_byte_byte_e0  ) 8 0 () := by
  refine loopN 8 (fun fuel_ t_ s_ => slices_Compare_byte_byte_l0 s1 s2  fuel_ t_) (slices_Compare_byte_byte_b0 s1 s2 ) (slices_Compare_byte_byte_e0  ) (by first | exact hN | (have := hN; simp only [List.length_nil] at this ⊢; omega)) ?_ ?_ ()
  · intro fuel_ i_ s_ hi_
    have hg_ : 0 ≤ (i_ : Int) ∧ (i_ : Int) < 8 := by omega
    show slices_Compare_byte_byte_l0 s1 s2  (fuel_ + 1) (i_ : Int) = _
    rw [slices_Compare_byte_byte_l0, if_pos (decide_eq_true (by omega))]
    repeat rw [if_pos hg_]
    have hinc_ : IntKind.wrap .i64 ((i_ : Int) + 1) = (((i_ + 1 : Nat)) : Int) := by rw [w64 (by omega) (by omega)]; rfl
    try rw [hinc_]
    first | rfl | (unfold slices_Compare_byte_byte_b0; simp only [hinc_]; done) | (unfold slices_Compare_byte_byte_b0; simp only [hinc_]; rfl)
  · intro fuel_ s_
    show slices_Compare_byte_byte_l0 s1 s2  (fuel_ + 1) ((8 : Nat) : Int) = _
    rw [slices_Compare_byte_byte_l0, if_neg (by rw [decide_eq_true_eq]; omega)]
    rfl

def msg_WritesMay_b0 (l : List (T_api_Write))  (t7 : Nat) (s_ : Unit) (k_ : (Unit) → Option ((Bool))) : Option ((Bool)) :=
  (msg_keyMay (l.getD t7 default).f_Key).bind fun yL0_4 =>
  if ((!yL0_4) : Bool) then
    some false
  else
    (msg_ItemMay (l.getD t7 default).f_Item).bind fun yL0_7 =>
    if ((!yL0_7) : Bool) then
      some false
    else
      if ((decide (0 < (t7 : Int))) : Bool) then
        if 0 ≤ (IntKind.wrap .i64 ((t7 : Int) - 1)) ∧ (IntKind.wrap .i64 ((t7 : Int) - 1)) < (((l).length : Nat) : Int) then
        (ids_Keys (l.getD ((IntKind.wrap .i64 ((t7 : Int) - 1))).toNat default).f_Key (l.getD t7 default).f_Key).bind fun yL0_12 =>
        if ((decide (0 ≤ yL0_12)) : Bool) then
          some false
        else
          k_ ()
        else none
      else
        k_ ()

def msg_WritesMay_e0 (l : List (T_api_Write))  (s_ : Unit) : Option ((Bool)) :=
  some (decide (((l).length : Int) ≤ 16))

theorem msg_WritesMay_w0 (l : List (T_api_Write))   (hN : (l).length < 9223372036854775807) :
    msg_WritesMay_l0 l  big 0 = walkN (msg_WritesMay_b0 l ) (msg_WritesMay_e0 l ) (l).length 0 () := by
  refine loopN (l).length (fun fuel_ t_ s_ => msg_WritesMay_l0 l  fuel_ t_) (msg_WritesMay_b0 l ) (msg_WritesMay_e0 l ) (by first | exact hN | (have := hN; simp only [List.length_nil] at this ⊢; omega)) ?_ ?_ ()
  · intro fuel_ i_ s_ hi_
    have hg_ : 0 ≤ (i_ : Int) ∧ (i_ : Int) < (((l).length : Nat) : Int) := by omega
    show msg_WritesMay_l0 l  (fuel_ + 1) (i_ : Int) = _
    rw [msg_WritesMay_l0, if_pos (decide_eq_true (by omega))]
    repeat rw [if_pos hg_]
    have hinc_ : IntKind.wrap .i64 ((i_ : Int) + 1) = (((i_ + 1 : Nat)) : Int) := by rw [w64 (by omega) (by omega)]; rfl
    try rw [hinc_]
    first | rfl | (unfold msg_WritesMay_b0; simp only [hinc_]; done) | (unfold msg_WritesMay_b0; simp only [hinc_]; rfl)
  · intro fuel_ s_
    show msg_WritesMay_l0 l  (fuel_ + 1) (((l).length : Nat) : Int) = _
    rw [msg_WritesMay_l0, if_neg (by rw [decide_eq_true_eq]; omega)]
    rfl

def slices_Equal_api_Write_api_Write_b0 (s1 : List (T_api_Write)) (s2 : List (T_api_Write))  (t13 : Nat) (s_ : Unit) (k_ : (Unit) → Option ((Bool))) : Option ((Bool)) :=
  if 0 ≤ (t13 : Int) ∧ (t13 : Int) < (((s2).length : Nat) : Int) then
  if ((!decide ((s1.getD t13 default) = (s2.getD t13 default))) : Bool) then
    some false
  else
    k_ ()
  else none

def slices_Equal_api_Write_api_Write_e0   (s_ : Unit) : Option ((Bool)) :=
  some true

theorem slices_Equal_api_Write_api_Write_w0 (s1 : List (T_api_Write)) (s2 : List (T_api_Write))   (hN : (s1).length < 9223372036854775807) :
    slices_Equal_api_Write_api_Write_l0 s1 s2  big 0 = walkN (slices_Equal_api_Write_api_Write_b0 s1 s2 ) (slices_Equal_api_Write_api_Write_e0  ) (s1).length 0 () := by
  refine loopN (s1).length (fun fuel_ t_ s_ => slices_Equal_api_Write_api_Write_l0 s1 s2  fuel_ t_) (slices_Equal_api_Write_api_Write_b0 s1 s2 ) (slices_Equal_api_Write_api_Write_e0  ) (by first | exact hN | (have := hN; simp only [List.length_nil] at this ⊢; omega)) ?_ ?_ ()
  · intro fuel_ i_ s_ hi_
    have hg_ : 0 ≤ (i_ : Int) ∧ (i_ : Int) < (((s1).length : Nat) : Int) := by omega
    show slices_Equal_api_Write_api_Write_l0 s1 s2  (fuel_ + 1) (i_ : Int) = _
    rw [slices_Equal_api_Write_api_Write_l0, if_pos (decide_eq_true (by omega))]
    repeat rw [if_pos hg_]
    have hinc_ : IntKind.wrap .i64 ((i_ : Int) + 1) = (((i_ + 1 : Nat)) : Int) := by rw [w64 (by omega) (by omega)]; rfl
    try rw [hinc_]
    first | rfl | (unfold slices_Equal_api_Write_api_Write_b0; simp only [hinc_]; done) | (unfold slices_Equal_api_Write_api_Write_b0; simp only [hinc_]; rfl)
  · intro fuel_ s_
    show slices_Equal_api_Write_api_Write_l0 s1 s2  (fuel_ + 1) (((s1).length : Nat) : Int) = _
    rw [slices_Equal_api_Write_api_Write_l0, if_neg (by rw [decide_eq_true_eq]; omega)]
    rfl

def stage_Stage_Put_b1 (t : T_api_Tx)  (a_ : T_api_Write) (s_ : (List (A8 (Int) × T_api_Tx))) (k_ : ((List (A8 (Int) × T_api_Tx))) → Option ((Int) × (List (T_api_Tx × T_stage_prepared)) × (List (A8 (Int) × T_api_Tx)))) : Option ((Int) × (List (T_api_Tx × T_stage_prepared)) × (List (A8 (Int) × T_api_Tx))) :=
  k_ (mset s_ a_.f_Key t)

def stage_Stage_Put_e1 (all : List (T_api_Tx × T_stage_prepared)) (t : T_api_Tx) (g : T_api_Reg) (l : List (T_api_Write))  (s_ : (List (A8 (Int) × T_api_Tx))) : Option ((Int) × (List (T_api_Tx × T_stage_prepared)) × (List (A8 (Int) × T_api_Tx))) :=
  some (0, (mset all t (T_stage_prepared.mk g l)), s_)

theorem stage_Stage_Put_w1 (all : List (T_api_Tx × T_stage_prepared)) (owners : List (A8 (Int) × T_api_Tx)) (t : T_api_Tx) (g : T_api_Reg) (l : List (T_api_Write))  (m : List (A8 (Int) × T_api_Tx)) (hN : (l).length < 9223372036854775807) :
    stage_Stage_Put_l1 all owners t g l  big 0 m = walkL (stage_Stage_Put_b1 t ) (stage_Stage_Put_e1 all t g l ) l m := by
  refine loopL l (fun fuel_ t_ s_ => stage_Stage_Put_l1 all owners t g l  fuel_ t_ s_) (stage_Stage_Put_b1 t ) (stage_Stage_Put_e1 all t g l ) (by first | exact hN | (have := hN; simp only [List.length_nil] at this ⊢; omega)) ?_ ?_ m
  · intro fuel_ i_ s_ hi_
    have hg_ : 0 ≤ (i_ : Int) ∧ (i_ : Int) < (((l).length : Nat) : Int) := by omega
    show stage_Stage_Put_l1 all owners t g l  (fuel_ + 1) (i_ : Int) s_ = _
    rw [stage_Stage_Put_l1, if_pos (decide_eq_true (by omega))]
    repeat rw [if_pos hg_]
    have hinc_ : IntKind.wrap .i64 ((i_ : Int) + 1) = (((i_ + 1 : Nat)) : Int) := by rw [w64 (by omega) (by omega)]; rfl
    try rw [hinc_]
    first | rfl | (unfold stage_Stage_Put_b1; simp only [hinc_]; done) | (unfold stage_Stage_Put_b1; simp only [hinc_]; rfl)
  · intro fuel_ s_
    show stage_Stage_Put_l1 all owners t g l  (fuel_ + 1) (((l).length : Nat) : Int) s_ = _
    rw [stage_Stage_Put_l1, if_neg (by rw [decide_eq_true_eq]; omega)]
    rfl

def stage_Stage_Put_b0 (all : List (T_api_Tx × T_stage_prepared)) (owners : List (A8 (Int) × T_api_Tx))  (a_ : T_api_Write) (s_ : Unit) (k_ : (Unit) → Option ((Int) × (List (T_api_Tx × T_stage_prepared)) × (List (A8 (Int) × T_api_Tx)))) : Option ((Int) × (List (T_api_Tx × T_stage_prepared)) × (List (A8 (Int) × T_api_Tx))) :=
  if (((mget owners a_.f_Key).isSome) : Bool) then
    some (11, all, owners)
  else
    k_ ()

def stage_Stage_Put_e0 (all : List (T_api_Tx × T_stage_prepared)) (owners : List (A8 (Int) × T_api_Tx)) (t : T_api_Tx) (g : T_api_Reg) (l : List (T_api_Write))  (s_ : Unit) : Option ((Int) × (List (T_api_Tx × T_stage_prepared)) × (List (A8 (Int) × T_api_Tx))) :=
  if ((((all).length : Int) == 64) : Bool) then
    some (5, all, owners)
  else
    if (0 + (l).length) * 48 ≤ 140737488351232 then
    stage_Stage_Put_l1 all owners t g l  big 0 owners
    else none

theorem stage_Stage_Put_w0 (all : List (T_api_Tx × T_stage_prepared)) (owners : List (A8 (Int) × T_api_Tx)) (t : T_api_Tx) (g : T_api_Reg) (l : List (T_api_Write))   (hN : (l).length < 9223372036854775807) :
    stage_Stage_Put_l0 all owners t g l  big 0 = walkL (stage_Stage_Put_b0 all owners ) (stage_Stage_Put_e0 all owners t g l ) l () := by
  refine loopL l (fun fuel_ t_ s_ => stage_Stage_Put_l0 all owners t g l  fuel_ t_) (stage_Stage_Put_b0 all owners ) (stage_Stage_Put_e0 all owners t g l ) (by first | exact hN | (have := hN; simp only [List.length_nil] at this ⊢; omega)) ?_ ?_ ()
  · intro fuel_ i_ s_ hi_
    have hg_ : 0 ≤ (i_ : Int) ∧ (i_ : Int) < (((l).length : Nat) : Int) := by omega
    show stage_Stage_Put_l0 all owners t g l  (fuel_ + 1) (i_ : Int) = _
    rw [stage_Stage_Put_l0, if_pos (decide_eq_true (by omega))]
    repeat rw [if_pos hg_]
    have hinc_ : IntKind.wrap .i64 ((i_ : Int) + 1) = (((i_ + 1 : Nat)) : Int) := by rw [w64 (by omega) (by omega)]; rfl
    try rw [hinc_]
    first | rfl | (unfold stage_Stage_Put_b0; simp only [hinc_]; done) | (unfold stage_Stage_Put_b0; simp only [hinc_]; rfl)
  · intro fuel_ s_
    show stage_Stage_Put_l0 all owners t g l  (fuel_ + 1) (((l).length : Nat) : Int) = _
    rw [stage_Stage_Put_l0, if_neg (by rw [decide_eq_true_eq]; omega)]
    rfl

def stage_Stage_Take_b0 (all : List (T_api_Tx × T_stage_prepared)) (t : T_api_Tx)  (t32 : Nat) (s_ : (List (A8 (Int) × T_api_Tx))) (k_ : ((List (A8 (Int) × T_api_Tx))) → Option ((List (T_api_Write)) × (Int) × (List (T_api_Tx × T_stage_prepared)) × (List (A8 (Int) × T_api_Tx)))) : Option ((List (T_api_Write)) × (Int) × (List (T_api_Tx × T_stage_prepared)) × (List (A8 (Int) × T_api_Tx))) :=
  k_ (mdel s_ (((mget all t).getD default).f_writes.getD t32 default).f_Key)

def stage_Stage_Take_e0 (all : List (T_api_Tx × T_stage_prepared)) (t : T_api_Tx)  (s_ : (List (A8 (Int) × T_api_Tx))) : Option ((List (T_api_Write)) × (Int) × (List (T_api_Tx × T_stage_prepared)) × (List (A8 (Int) × T_api_Tx))) :=
  some (((mget all t).getD default).f_writes, 0, (mdel all t), s_)

theorem stage_Stage_Take_w0 (all : List (T_api_Tx × T_stage_prepared)) (owners : List (A8 (Int) × T_api_Tx)) (t : T_api_Tx)  (m : List (A8 (Int) × T_api_Tx)) (hN : (((mget all t).getD default).f_writes).length < 9223372036854775807) :
    stage_Stage_Take_l0 all owners t  big 0 m = walkN (stage_Stage_Take_b0 all t ) (stage_Stage_Take_e0 all t ) (((mget all t).getD default).f_writes).length 0 m := by
  refine loopN (((mget all t).getD default).f_writes).length (fun fuel_ t_ s_ => stage_Stage_Take_l0 all owners t  fuel_ t_ s_) (stage_Stage_Take_b0 all t ) (stage_Stage_Take_e0 all t ) (by first | exact hN | (have := hN; simp only [List.length_nil] at this ⊢; omega)) ?_ ?_ m
  · intro fuel_ i_ s_ hi_
    have hg_ : 0 ≤ (i_ : Int) ∧ (i_ : Int) < (((((mget all t).getD default).f_writes).length : Nat) : Int) := by omega
    show stage_Stage_Take_l0 all owners t  (fuel_ + 1) (i_ : Int) s_ = _
    rw [stage_Stage_Take_l0, if_pos (decide_eq_true (by omega))]
    repeat rw [if_pos hg_]
    have hinc_ : IntKind.wrap .i64 ((i_ : Int) + 1) = (((i_ + 1 : Nat)) : Int) := by rw [w64 (by omega) (by omega)]; rfl
    try rw [hinc_]
    first | rfl | (unfold stage_Stage_Take_b0; simp only [hinc_]; done) | (unfold stage_Stage_Take_b0; simp only [hinc_]; rfl)
  · intro fuel_ s_
    show stage_Stage_Take_l0 all owners t  (fuel_ + 1) (((((mget all t).getD default).f_writes).length : Nat) : Int) s_ = _
    rw [stage_Stage_Take_l0, if_neg (by rw [decide_eq_true_eq]; omega)]
    rfl

def parrelref10_SameWrites_b0 (a : List (T_api_Write)) (b : List (T_api_Write))  (i : Nat) (s_ : Unit) (k_ : (Unit) → Option ((Bool))) : Option ((Bool)) :=
  if 0 ≤ (i : Int) ∧ (i : Int) < (((b).length : Nat) : Int) then
  if ((!decide ((a.getD i default) = (b.getD i default))) : Bool) then
    some false
  else
    k_ ()
  else none

def parrelref10_SameWrites_e0   (s_ : Unit) : Option ((Bool)) :=
  some true

theorem parrelref10_SameWrites_w0 (a : List (T_api_Write)) (b : List (T_api_Write))   (hN : (a).length < 9223372036854775807) :
    parrelref10_SameWrites_l0 a b  big 0 = walkN (parrelref10_SameWrites_b0 a b ) (parrelref10_SameWrites_e0  ) (a).length 0 () := by
  refine loopN (a).length (fun fuel_ t_ s_ => parrelref10_SameWrites_l0 a b  fuel_ t_) (parrelref10_SameWrites_b0 a b ) (parrelref10_SameWrites_e0  ) (by first | exact hN | (have := hN; simp only [List.length_nil] at this ⊢; omega)) ?_ ?_ ()
  · intro fuel_ i_ s_ hi_
    have hg_ : 0 ≤ (i_ : Int) ∧ (i_ : Int) < (((a).length : Nat) : Int) := by omega
    show parrelref10_SameWrites_l0 a b  (fuel_ + 1) (i_ : Int) = _
    rw [parrelref10_SameWrites_l0, if_pos (decide_eq_true (by omega))]
    repeat rw [if_pos hg_]
    have hinc_ : IntKind.wrap .i64 ((i_ : Int) + 1) = (((i_ + 1 : Nat)) : Int) := by rw [w64 (by omega) (by omega)]; rfl
    try rw [hinc_]
    first | rfl | (unfold parrelref10_SameWrites_b0; simp only [hinc_]; done) | (unfold parrelref10_SameWrites_b0; simp only [hinc_]; rfl)
  · intro fuel_ s_
    show parrelref10_SameWrites_l0 a b  (fuel_ + 1) (((a).length : Nat) : Int) = _
    rw [parrelref10_SameWrites_l0, if_neg (by rw [decide_eq_true_eq]; omega)]
    rfl

def cmp_Or_int_b0   (a_ : Int) (s_ : Unit) (k_ : (Unit) → Option ((Int))) : Option ((Int)) :=
  if ((a_ != 0) : Bool) then
    some a_
  else
    k_ ()

def cmp_Or_int_e0   (s_ : Unit) : Option ((Int)) :=
  some 0

theorem cmp_Or_int_w0 (vals : List (Int))   (hN : (vals).length < 9223372036854775807) :
    cmp_Or_int_l0 vals  big 0 = walkL (cmp_Or_int_b0  ) (cmp_Or_int_e0  ) vals () := by
  refine loopL vals (fun fuel_ t_ s_ => cmp_Or_int_l0 vals  fuel_ t_) (cmp_Or_int_b0  ) (cmp_Or_int_e0  ) (by first | exact hN | (have := hN; simp only [List.length_nil] at this ⊢; omega)) ?_ ?_ ()
  · intro fuel_ i_ s_ hi_
    have hg_ : 0 ≤ (i_ : Int) ∧ (i_ : Int) < (((vals).length : Nat) : Int) := by omega
    show cmp_Or_int_l0 vals  (fuel_ + 1) (i_ : Int) = _
    rw [cmp_Or_int_l0, if_pos (decide_eq_true (by omega))]
    repeat rw [if_pos hg_]
    have hinc_ : IntKind.wrap .i64 ((i_ : Int) + 1) = (((i_ + 1 : Nat)) : Int) := by rw [w64 (by omega) (by omega)]; rfl
    try rw [hinc_]
    first | rfl | (unfold cmp_Or_int_b0; simp only [hinc_]; done) | (unfold cmp_Or_int_b0; simp only [hinc_]; rfl)
  · intro fuel_ s_
    show cmp_Or_int_l0 vals  (fuel_ + 1) (((vals).length : Nat) : Int) = _
    rw [cmp_Or_int_l0, if_neg (by rw [decide_eq_true_eq]; omega)]
    rfl

def msg_WritesMay_2_b0 (l : List (T_api_Write))  (t7 : Nat) (s_ : Unit) (k_ : (Unit) → Option ((Bool))) : Option ((Bool)) :=
  (msg_keyMay (l.getD t7 default).f_Key).bind fun yL0_4 =>
  if ((!yL0_4) : Bool) then
    some false
  else
    (msg_ItemMay (l.getD t7 default).f_Item).bind fun yL0_7 =>
    if ((!yL0_7) : Bool) then
      some false
    else
      if ((decide (0 < (t7 : Int))) : Bool) then
        if 0 ≤ (IntKind.wrap .i64 ((t7 : Int) - 1)) ∧ (IntKind.wrap .i64 ((t7 : Int) - 1)) < (((l).length : Nat) : Int) then
        (ids_Keys (l.getD ((IntKind.wrap .i64 ((t7 : Int) - 1))).toNat default).f_Key (l.getD t7 default).f_Key).bind fun yL0_12 =>
        if ((decide (0 ≤ yL0_12)) : Bool) then
          some false
        else
          k_ ()
        else none
      else
        k_ ()

def msg_WritesMay_2_e0 (l : List (T_api_Write))  (s_ : Unit) : Option ((Bool)) :=
  some (decide (((l).length : Int) ≤ 16))

theorem msg_WritesMay_2_w0 (l : List (T_api_Write))   (hN : (l).length < 9223372036854775807) :
    msg_WritesMay_2_l0 l  big 0 = walkN (msg_WritesMay_2_b0 l ) (msg_WritesMay_2_e0 l ) (l).length 0 () := by
  refine loopN (l).length (fun fuel_ t_ s_ => msg_WritesMay_2_l0 l  fuel_ t_) (msg_WritesMay_2_b0 l ) (msg_WritesMay_2_e0 l ) (by first | exact hN | (have := hN; simp only [List.length_nil] at this ⊢; omega)) ?_ ?_ ()
  · intro fuel_ i_ s_ hi_
    have hg_ : 0 ≤ (i_ : Int) ∧ (i_ : Int) < (((l).length : Nat) : Int) := by omega
    show msg_WritesMay_2_l0 l  (fuel_ + 1) (i_ : Int) = _
    rw [msg_WritesMay_2_l0, if_pos (decide_eq_true (by omega))]
    repeat rw [if_pos hg_]
    have hinc_ : IntKind.wrap .i64 ((i_ : Int) + 1) = (((i_ + 1 : Nat)) : Int) := by rw [w64 (by omega) (by omega)]; rfl
    try rw [hinc_]
    first | rfl | (unfold msg_WritesMay_2_b0; simp only [hinc_]; done) | (unfold msg_WritesMay_2_b0; simp only [hinc_]; rfl)
  · intro fuel_ s_
    show msg_WritesMay_2_l0 l  (fuel_ + 1) (((l).length : Nat) : Int) = _
    rw [msg_WritesMay_2_l0, if_neg (by rw [decide_eq_true_eq]; omega)]
    rfl

def slices_Equal_api_Write_api_Write_2_b0 (s1 : List (T_api_Write)) (s2 : List (T_api_Write))  (t13 : Nat) (s_ : Unit) (k_ : (Unit) → Option ((Bool))) : Option ((Bool)) :=
  if 0 ≤ (t13 : Int) ∧ (t13 : Int) < (((s2).length : Nat) : Int) then
  if ((!decide ((s1.getD t13 default) = (s2.getD t13 default))) : Bool) then
    some false
  else
    k_ ()
  else none

def slices_Equal_api_Write_api_Write_2_e0   (s_ : Unit) : Option ((Bool)) :=
  some true

theorem slices_Equal_api_Write_api_Write_2_w0 (s1 : List (T_api_Write)) (s2 : List (T_api_Write))   (hN : (s1).length < 9223372036854775807) :
    slices_Equal_api_Write_api_Write_2_l0 s1 s2  big 0 = walkN (slices_Equal_api_Write_api_Write_2_b0 s1 s2 ) (slices_Equal_api_Write_api_Write_2_e0  ) (s1).length 0 () := by
  refine loopN (s1).length (fun fuel_ t_ s_ => slices_Equal_api_Write_api_Write_2_l0 s1 s2  fuel_ t_) (slices_Equal_api_Write_api_Write_2_b0 s1 s2 ) (slices_Equal_api_Write_api_Write_2_e0  ) (by first | exact hN | (have := hN; simp only [List.length_nil] at this ⊢; omega)) ?_ ?_ ()
  · intro fuel_ i_ s_ hi_
    have hg_ : 0 ≤ (i_ : Int) ∧ (i_ : Int) < (((s1).length : Nat) : Int) := by omega
    show slices_Equal_api_Write_api_Write_2_l0 s1 s2  (fuel_ + 1) (i_ : Int) = _
    rw [slices_Equal_api_Write_api_Write_2_l0, if_pos (decide_eq_true (by omega))]
    repeat rw [if_pos hg_]
    have hinc_ : IntKind.wrap .i64 ((i_ : Int) + 1) = (((i_ + 1 : Nat)) : Int) := by rw [w64 (by omega) (by omega)]; rfl
    try rw [hinc_]
    first | rfl | (unfold slices_Equal_api_Write_api_Write_2_b0; simp only [hinc_]; done) | (unfold slices_Equal_api_Write_api_Write_2_b0; simp only [hinc_]; rfl)
  · intro fuel_ s_
    show slices_Equal_api_Write_api_Write_2_l0 s1 s2  (fuel_ + 1) (((s1).length : Nat) : Int) = _
    rw [slices_Equal_api_Write_api_Write_2_l0, if_neg (by rw [decide_eq_true_eq]; omega)]
    rfl

def stage_Stage_Put_2_b1 (t : T_api_Tx)  (a_ : T_api_Write) (s_ : (List (A8 (Int) × T_api_Tx))) (k_ : ((List (A8 (Int) × T_api_Tx))) → Option ((Int) × (List (T_api_Tx × T_stage_prepared)) × (List (A8 (Int) × T_api_Tx)))) : Option ((Int) × (List (T_api_Tx × T_stage_prepared)) × (List (A8 (Int) × T_api_Tx))) :=
  k_ (mset s_ a_.f_Key t)

def stage_Stage_Put_2_e1 (all : List (T_api_Tx × T_stage_prepared)) (t : T_api_Tx) (g : T_api_Reg) (yL0_4 : (List (T_api_Write)))  (s_ : (List (A8 (Int) × T_api_Tx))) : Option ((Int) × (List (T_api_Tx × T_stage_prepared)) × (List (A8 (Int) × T_api_Tx))) :=
  some (0, (mset all t (T_stage_prepared.mk g yL0_4)), s_)

theorem stage_Stage_Put_2_w1 (all : List (T_api_Tx × T_stage_prepared)) (owners : List (A8 (Int) × T_api_Tx)) (t : T_api_Tx) (g : T_api_Reg) (l : List (T_api_Write)) (yL0_4 : (List (T_api_Write)))  (m : List (A8 (Int) × T_api_Tx)) (hN : (l).length < 9223372036854775807) :
    stage_Stage_Put_2_l1 all owners t g l yL0_4  big 0 m = walkL (stage_Stage_Put_2_b1 t ) (stage_Stage_Put_2_e1 all t g yL0_4 ) l m := by
  refine loopL l (fun fuel_ t_ s_ => stage_Stage_Put_2_l1 all owners t g l yL0_4  fuel_ t_ s_) (stage_Stage_Put_2_b1 t ) (stage_Stage_Put_2_e1 all t g yL0_4 ) (by first | exact hN | (have := hN; simp only [List.length_nil] at this ⊢; omega)) ?_ ?_ m
  · intro fuel_ i_ s_ hi_
    have hg_ : 0 ≤ (i_ : Int) ∧ (i_ : Int) < (((l).length : Nat) : Int) := by omega
    show stage_Stage_Put_2_l1 all owners t g l yL0_4  (fuel_ + 1) (i_ : Int) s_ = _
    rw [stage_Stage_Put_2_l1, if_pos (decide_eq_true (by omega))]
    repeat rw [if_pos hg_]
    have hinc_ : IntKind.wrap .i64 ((i_ : Int) + 1) = (((i_ + 1 : Nat)) : Int) := by rw [w64 (by omega) (by omega)]; rfl
    try rw [hinc_]
    first | rfl | (unfold stage_Stage_Put_2_b1; simp only [hinc_]; done) | (unfold stage_Stage_Put_2_b1; simp only [hinc_]; rfl)
  · intro fuel_ s_
    show stage_Stage_Put_2_l1 all owners t g l yL0_4  (fuel_ + 1) (((l).length : Nat) : Int) s_ = _
    rw [stage_Stage_Put_2_l1, if_neg (by rw [decide_eq_true_eq]; omega)]
    rfl

def stage_Stage_Put_2_b0 (all : List (T_api_Tx × T_stage_prepared)) (owners : List (A8 (Int) × T_api_Tx))  (a_ : T_api_Write) (s_ : Unit) (k_ : (Unit) → Option ((Int) × (List (T_api_Tx × T_stage_prepared)) × (List (A8 (Int) × T_api_Tx)))) : Option ((Int) × (List (T_api_Tx × T_stage_prepared)) × (List (A8 (Int) × T_api_Tx))) :=
  if (((mget owners a_.f_Key).isSome) : Bool) then
    some (11, all, owners)
  else
    k_ ()

def stage_Stage_Put_2_e0 (all : List (T_api_Tx × T_stage_prepared)) (owners : List (A8 (Int) × T_api_Tx)) (t : T_api_Tx) (g : T_api_Reg) (l : List (T_api_Write))  (s_ : Unit) : Option ((Int) × (List (T_api_Tx × T_stage_prepared)) × (List (A8 (Int) × T_api_Tx))) :=
  if ((((all).length : Int) == 64) : Bool) then
    some (5, all, owners)
  else
    (slices_Clone_api_Write_api_Write_3 l).bind fun yL0_4 =>
    stage_Stage_Put_2_l1 all owners t g l yL0_4  big 0 owners

theorem stage_Stage_Put_2_w0 (all : List (T_api_Tx × T_stage_prepared)) (owners : List (A8 (Int) × T_api_Tx)) (t : T_api_Tx) (g : T_api_Reg) (l : List (T_api_Write))   (hN : (l).length < 9223372036854775807) :
    stage_Stage_Put_2_l0 all owners t g l  big 0 = walkL (stage_Stage_Put_2_b0 all owners ) (stage_Stage_Put_2_e0 all owners t g l ) l () := by
  refine loopL l (fun fuel_ t_ s_ => stage_Stage_Put_2_l0 all owners t g l  fuel_ t_) (stage_Stage_Put_2_b0 all owners ) (stage_Stage_Put_2_e0 all owners t g l ) (by first | exact hN | (have := hN; simp only [List.length_nil] at this ⊢; omega)) ?_ ?_ ()
  · intro fuel_ i_ s_ hi_
    have hg_ : 0 ≤ (i_ : Int) ∧ (i_ : Int) < (((l).length : Nat) : Int) := by omega
    show stage_Stage_Put_2_l0 all owners t g l  (fuel_ + 1) (i_ : Int) = _
    rw [stage_Stage_Put_2_l0, if_pos (decide_eq_true (by omega))]
    repeat rw [if_pos hg_]
    have hinc_ : IntKind.wrap .i64 ((i_ : Int) + 1) = (((i_ + 1 : Nat)) : Int) := by rw [w64 (by omega) (by omega)]; rfl
    try rw [hinc_]
    first | rfl | (unfold stage_Stage_Put_2_b0; simp only [hinc_]; done) | (unfold stage_Stage_Put_2_b0; simp only [hinc_]; rfl)
  · intro fuel_ s_
    show stage_Stage_Put_2_l0 all owners t g l  (fuel_ + 1) (((l).length : Nat) : Int) = _
    rw [stage_Stage_Put_2_l0, if_neg (by rw [decide_eq_true_eq]; omega)]
    rfl

def parrelref05_Same_b0 (a : List (T_api_Tx)) (b : List (T_api_Tx))  (i : Nat) (s_ : Unit) (k_ : (Unit) → Option ((Bool))) : Option ((Bool)) :=
  if 0 ≤ (i : Int) ∧ (i : Int) < (((b).length : Nat) : Int) then
  if ((!decide ((a.getD i default) = (b.getD i default))) : Bool) then
    some false
  else
    k_ ()
  else none

def parrelref05_Same_e0   (s_ : Unit) : Option ((Bool)) :=
  some true

theorem parrelref05_Same_w0 (a : List (T_api_Tx)) (b : List (T_api_Tx))   (hN : (a).length < 9223372036854775807) :
    parrelref05_Same_l0 a b  big 0 = walkN (parrelref05_Same_b0 a b ) (parrelref05_Same_e0  ) (a).length 0 () := by
  refine loopN (a).length (fun fuel_ t_ s_ => parrelref05_Same_l0 a b  fuel_ t_) (parrelref05_Same_b0 a b ) (parrelref05_Same_e0  ) (by first | exact hN | (have := hN; simp only [List.length_nil] at this ⊢; omega)) ?_ ?_ ()
  · intro fuel_ i_ s_ hi_
    have hg_ : 0 ≤ (i_ : Int) ∧ (i_ : Int) < (((a).length : Nat) : Int) := by omega
    show parrelref05_Same_l0 a b  (fuel_ + 1) (i_ : Int) = _
    rw [parrelref05_Same_l0, if_pos (decide_eq_true (by omega))]
    repeat rw [if_pos hg_]
    have hinc_ : IntKind.wrap .i64 ((i_ : Int) + 1) = (((i_ + 1 : Nat)) : Int) := by rw [w64 (by omega) (by omega)]; rfl
    try rw [hinc_]
    first | rfl | (unfold parrelref05_Same_b0; simp only [hinc_]; done) | (unfold parrelref05_Same_b0; simp only [hinc_]; rfl)
  · intro fuel_ s_
    show parrelref05_Same_l0 a b  (fuel_ + 1) (((a).length : Nat) : Int) = _
    rw [parrelref05_Same_l0, if_neg (by rw [decide_eq_true_eq]; omega)]
    rfl

def parrelref10_SameWrites_2_b0 (a : List (T_api_Write)) (b : List (T_api_Write))  (i : Nat) (s_ : Unit) (k_ : (Unit) → Option ((Bool))) : Option ((Bool)) :=
  if 0 ≤ (i : Int) ∧ (i : Int) < (((b).length : Nat) : Int) then
  if ((!decide ((a.getD i default) = (b.getD i default))) : Bool) then
    some false
  else
    k_ ()
  else none

def parrelref10_SameWrites_2_e0   (s_ : Unit) : Option ((Bool)) :=
  some true

theorem parrelref10_SameWrites_2_w0 (a : List (T_api_Write)) (b : List (T_api_Write))   (hN : (a).length < 9223372036854775807) :
    parrelref10_SameWrites_2_l0 a b  big 0 = walkN (parrelref10_SameWrites_2_b0 a b ) (parrelref10_SameWrites_2_e0  ) (a).length 0 () := by
  refine loopN (a).length (fun fuel_ t_ s_ => parrelref10_SameWrites_2_l0 a b  fuel_ t_) (parrelref10_SameWrites_2_b0 a b ) (parrelref10_SameWrites_2_e0  ) (by first | exact hN | (have := hN; simp only [List.length_nil] at this ⊢; omega)) ?_ ?_ ()
  · intro fuel_ i_ s_ hi_
    have hg_ : 0 ≤ (i_ : Int) ∧ (i_ : Int) < (((a).length : Nat) : Int) := by omega
    show parrelref10_SameWrites_2_l0 a b  (fuel_ + 1) (i_ : Int) = _
    rw [parrelref10_SameWrites_2_l0, if_pos (decide_eq_true (by omega))]
    repeat rw [if_pos hg_]
    have hinc_ : IntKind.wrap .i64 ((i_ : Int) + 1) = (((i_ + 1 : Nat)) : Int) := by rw [w64 (by omega) (by omega)]; rfl
    try rw [hinc_]
    first | rfl | (unfold parrelref10_SameWrites_2_b0; simp only [hinc_]; done) | (unfold parrelref10_SameWrites_2_b0; simp only [hinc_]; rfl)
  · intro fuel_ s_
    show parrelref10_SameWrites_2_l0 a b  (fuel_ + 1) (((a).length : Nat) : Int) = _
    rw [parrelref10_SameWrites_2_l0, if_neg (by rw [decide_eq_true_eq]; omega)]
    rfl

def parrellaw14_StageRefused_b2   (t124 : Nat) (s_ : (List (T_api_Write))) (k_ : ((List (T_api_Write))) → Option ((Bool))) : Option ((Bool)) :=
  if 0 ≤ (t124 : Int) ∧ (t124 : Int) < (((s_).length : Nat) : Int) then
  k_ (s_.set t124 (T_api_Write.mk (s_.getD t124 default).f_Key (T_api_Item.mk (IntKind.wrap .u32 ((s_.getD t124 default).f_Item.f_Version + 1)) (s_.getD t124 default).f_Item.f_Value (s_.getD t124 default).f_Item.f_Conf)))
  else none

def parrellaw14_StageRefused_e2 (last : T_parrellaw14_Act) (yL0_6 : (Int) × (List (T_api_Tx × T_stage_prepared)) × (List (A8 (Int) × T_api_Tx)))  (s_ : (List (T_api_Write))) : Option ((Bool)) :=
  (stage_Stage_Writes yL0_6.2.1 yL0_6.2.2 last.f_Tx).bind fun yL2_3 =>
  if (yL2_3.1 : Bool) then
    if ((yL0_6.1 == 0) : Bool) then
      (parrelref10_SameWrites ([] : List (T_api_Write)) last.f_Writes).bind fun yL2_7 =>
      if ((!yL2_7) : Bool) then
        some false
      else
        (stage_Stage_Take_2 last.f_Tx).bind fun yL2_10 =>
        (stage_Stage_Writes_2 last.f_Tx).bind fun yL2_12 =>
        (stage_Stage_Owner_2 (A8.mk 97 0 0 0 0 0 0 0)).bind fun yL2_14 =>
        (stage_Stage_Put_3 last.f_Tx last.f_Reg last.f_Writes).bind fun yL2_16 =>
        (stage_Stage_All_2).bind fun yL2_18 =>
        (stage_Stage_Take_3 last.f_Tx).bind fun yL2_20 =>
        (stage_Stage_Writes_3 last.f_Tx).bind fun yL2_22 =>
        (stage_Stage_Owner_3 (A8.mk 97 0 0 0 0 0 0 0)).bind fun yL2_24 =>
        (stage_Stage_Put_4 last.f_Tx last.f_Reg last.f_Writes).bind fun yL2_26 =>
        (stage_Stage_All_3).bind fun yL2_28 =>
        (parrellaw14_alive).bind fun yL2_30 =>
        some yL2_30
    else
      (stage_Stage_Take_2 last.f_Tx).bind fun yL2_7 =>
      (stage_Stage_Writes_2 last.f_Tx).bind fun yL2_9 =>
      (stage_Stage_Owner_2 (A8.mk 97 0 0 0 0 0 0 0)).bind fun yL2_11 =>
      (stage_Stage_Put_3 last.f_Tx last.f_Reg last.f_Writes).bind fun yL2_13 =>
      (stage_Stage_All_2).bind fun yL2_15 =>
      (stage_Stage_Take_3 last.f_Tx).bind fun yL2_17 =>
      (stage_Stage_Writes_3 last.f_Tx).bind fun yL2_19 =>
      (stage_Stage_Owner_3 (A8.mk 97 0 0 0 0 0 0 0)).bind fun yL2_21 =>
      (stage_Stage_Put_4 last.f_Tx last.f_Reg last.f_Writes).bind fun yL2_23 =>
      (stage_Stage_All_3).bind fun yL2_25 =>
      (parrellaw14_alive).bind fun yL2_27 =>
      some yL2_27
  else
    if ((yL0_6.1 == 0) : Bool) then
      (parrelref10_SameWrites_2 yL2_3.2.2.2.2 last.f_Writes).bind fun yL2_7 =>
      if ((!yL2_7) : Bool) then
        some false
      else
        (stage_Stage_Take_2 last.f_Tx).bind fun yL2_10 =>
        (stage_Stage_Writes_2 last.f_Tx).bind fun yL2_12 =>
        (stage_Stage_Owner_2 (A8.mk 97 0 0 0 0 0 0 0)).bind fun yL2_14 =>
        (stage_Stage_Put_3 last.f_Tx last.f_Reg last.f_Writes).bind fun yL2_16 =>
        (stage_Stage_All_2).bind fun yL2_18 =>
        (stage_Stage_Take_3 last.f_Tx).bind fun yL2_20 =>
        (stage_Stage_Writes_3 last.f_Tx).bind fun yL2_22 =>
        (stage_Stage_Owner_3 (A8.mk 97 0 0 0 0 0 0 0)).bind fun yL2_24 =>
        (stage_Stage_Put_4 last.f_Tx last.f_Reg last.f_Writes).bind fun yL2_26 =>
        (stage_Stage_All_3).bind fun yL2_28 =>
        (parrellaw14_alive).bind fun yL2_30 =>
        some yL2_30
    else
      (stage_Stage_Take_2 last.f_Tx).bind fun yL2_7 =>
      (stage_Stage_Writes_2 last.f_Tx).bind fun yL2_9 =>
      (stage_Stage_Owner_2 (A8.mk 97 0 0 0 0 0 0 0)).bind fun yL2_11 =>
      (stage_Stage_Put_3 last.f_Tx last.f_Reg last.f_Writes).bind fun yL2_13 =>
      (stage_Stage_All_2).bind fun yL2_15 =>
      (stage_Stage_Take_3 last.f_Tx).bind fun yL2_17 =>
      (stage_Stage_Writes_3 last.f_Tx).bind fun yL2_19 =>
      (stage_Stage_Owner_3 (A8.mk 97 0 0 0 0 0 0 0)).bind fun yL2_21 =>
      (stage_Stage_Put_4 last.f_Tx last.f_Reg last.f_Writes).bind fun yL2_23 =>
      (stage_Stage_All_3).bind fun yL2_25 =>
      (parrellaw14_alive).bind fun yL2_27 =>
      some yL2_27

theorem parrellaw14_StageRefused_w2 (last : T_parrellaw14_Act) (yL0_6 : (Int) × (List (T_api_Tx × T_stage_prepared)) × (List (A8 (Int) × T_api_Tx))) (yL1_3 : Bool × ((T_api_Reg) × (Bool)) × ((T_api_Reg) × (Bool) × (List (T_api_Write))))  (l2 : List (T_api_Write)) (hN : (yL1_3.2.2.2.2).length < 9223372036854775807) :
    parrellaw14_StageRefused_l2 last yL0_6 yL1_3  big 0 l2 = walkN (parrellaw14_StageRefused_b2  ) (parrellaw14_StageRefused_e2 last yL0_6 ) (yL1_3.2.2.2.2).length 0 l2 := by
  refine loopN (yL1_3.2.2.2.2).length (fun fuel_ t_ s_ => parrellaw14_StageRefused_l2 last yL0_6 yL1_3  fuel_ t_ s_) (parrellaw14_StageRefused_b2  ) (parrellaw14_StageRefused_e2 last yL0_6 ) (by first | exact hN | (have := hN; simp only [List.length_nil] at this ⊢; omega)) ?_ ?_ l2
  · intro fuel_ i_ s_ hi_
    have hg_ : 0 ≤ (i_ : Int) ∧ (i_ : Int) < (((yL1_3.2.2.2.2).length : Nat) : Int) := by omega
    show parrellaw14_StageRefused_l2 last yL0_6 yL1_3  (fuel_ + 1) (i_ : Int) s_ = _
    rw [parrellaw14_StageRefused_l2, if_pos (decide_eq_true (by omega))]
    have hinc_ : IntKind.wrap .i64 ((i_ : Int) + 1) = (((i_ + 1 : Nat)) : Int) := by rw [w64 (by omega) (by omega)]; rfl
    try rw [hinc_]
    first | rfl | (unfold parrellaw14_StageRefused_b2; simp only [hinc_]; done) | (unfold parrellaw14_StageRefused_b2; simp only [hinc_]; rfl)
  · intro fuel_ s_
    show parrellaw14_StageRefused_l2 last yL0_6 yL1_3  (fuel_ + 1) (((yL1_3.2.2.2.2).length : Nat) : Int) s_ = _
    rw [parrellaw14_StageRefused_l2, if_neg (by rw [decide_eq_true_eq]; omega)]
    rfl

def parrellaw14_StageRefused_b1   (t76 : Nat) (s_ : (List (T_api_Write))) (k_ : ((List (T_api_Write))) → Option ((Bool))) : Option ((Bool)) :=
  if 0 ≤ (t76 : Int) ∧ (t76 : Int) < (((s_).length : Nat) : Int) then
  k_ (s_.set t76 (T_api_Write.mk (s_.getD t76 default).f_Key (T_api_Item.mk (IntKind.wrap .u32 ((s_.getD t76 default).f_Item.f_Version + 1)) (s_.getD t76 default).f_Item.f_Value (s_.getD t76 default).f_Item.f_Conf)))
  else none

def parrellaw14_StageRefused_e1 (last : T_parrellaw14_Act) (yL0_3 : (List (T_api_Tx))) (yL0_6 : (Int) × (List (T_api_Tx × T_stage_prepared)) × (List (A8 (Int) × T_api_Tx)))  (s_ : (List (T_api_Write))) : Option ((Bool)) :=
  (stage_Stage_Writes yL0_6.2.1 yL0_6.2.2 last.f_Tx).bind fun yL1_3 =>
  if (yL1_3.1 : Bool) then
    if ((yL0_6.1 == 0) : Bool) then
      if ((!yL1_3.2.1.2) : Bool) then
        some false
      else
        (parrelref10_SameWrites ([] : List (T_api_Write)) last.f_Writes).bind fun yL1_8 =>
        if ((!yL1_8) : Bool) then
          some false
        else
          if ((yL0_6.1 != 0) : Bool) then
            (stage_Stage_All yL0_6.2.1 yL0_6.2.2).bind fun yL1_12 =>
            (parrelref05_Same yL1_12 yL0_3).bind fun yL1_14 =>
            if ((!yL1_14) : Bool) then
              some false
            else
              (stage_Stage_Writes yL0_6.2.1 yL0_6.2.2 last.f_Tx).bind fun yL1_17 =>
              if (yL1_17.1 : Bool) then
                if ((yL0_6.1 == 0) : Bool) then
                  (parrelref10_SameWrites ([] : List (T_api_Write)) last.f_Writes).bind fun yL1_21 =>
                  if ((!yL1_21) : Bool) then
                    some false
                  else
                    (stage_Stage_Take_2 last.f_Tx).bind fun yL1_24 =>
                    (stage_Stage_Writes_2 last.f_Tx).bind fun yL1_26 =>
                    (stage_Stage_Owner_2 (A8.mk 97 0 0 0 0 0 0 0)).bind fun yL1_28 =>
                    (stage_Stage_Put_3 last.f_Tx last.f_Reg last.f_Writes).bind fun yL1_30 =>
                    (stage_Stage_All_2).bind fun yL1_32 =>
                    (stage_Stage_Take_3 last.f_Tx).bind fun yL1_34 =>
                    (stage_Stage_Writes_3 last.f_Tx).bind fun yL1_36 =>
                    (stage_Stage_Owner_3 (A8.mk 97 0 0 0 0 0 0 0)).bind fun yL1_38 =>
                    (stage_Stage_Put_4 last.f_Tx last.f_Reg last.f_Writes).bind fun yL1_40 =>
                    (stage_Stage_All_3).bind fun yL1_42 =>
                    (parrellaw14_alive).bind fun yL1_44 =>
                    some yL1_44
                else
                  (stage_Stage_Take_2 last.f_Tx).bind fun yL1_21 =>
                  (stage_Stage_Writes_2 last.f_Tx).bind fun yL1_23 =>
                  (stage_Stage_Owner_2 (A8.mk 97 0 0 0 0 0 0 0)).bind fun yL1_25 =>
                  (stage_Stage_Put_3 last.f_Tx last.f_Reg last.f_Writes).bind fun yL1_27 =>
                  (stage_Stage_All_2).bind fun yL1_29 =>
                  (stage_Stage_Take_3 last.f_Tx).bind fun yL1_31 =>
                  (stage_Stage_Writes_3 last.f_Tx).bind fun yL1_33 =>
                  (stage_Stage_Owner_3 (A8.mk 97 0 0 0 0 0 0 0)).bind fun yL1_35 =>
                  (stage_Stage_Put_4 last.f_Tx last.f_Reg last.f_Writes).bind fun yL1_37 =>
                  (stage_Stage_All_3).bind fun yL1_39 =>
                  (parrellaw14_alive).bind fun yL1_41 =>
                  some yL1_41
              else
                if ((yL0_6.1 == 0) : Bool) then
                  (parrelref10_SameWrites_2 yL1_17.2.2.2.2 last.f_Writes).bind fun yL1_21 =>
                  if ((!yL1_21) : Bool) then
                    some false
                  else
                    (stage_Stage_Take_2 last.f_Tx).bind fun yL1_24 =>
                    (stage_Stage_Writes_2 last.f_Tx).bind fun yL1_26 =>
                    (stage_Stage_Owner_2 (A8.mk 97 0 0 0 0 0 0 0)).bind fun yL1_28 =>
                    (stage_Stage_Put_3 last.f_Tx last.f_Reg last.f_Writes).bind fun yL1_30 =>
                    (stage_Stage_All_2).bind fun yL1_32 =>
                    (stage_Stage_Take_3 last.f_Tx).bind fun yL1_34 =>
                    (stage_Stage_Writes_3 last.f_Tx).bind fun yL1_36 =>
                    (stage_Stage_Owner_3 (A8.mk 97 0 0 0 0 0 0 0)).bind fun yL1_38 =>
                    (stage_Stage_Put_4 last.f_Tx last.f_Reg last.f_Writes).bind fun yL1_40 =>
                    (stage_Stage_All_3).bind fun yL1_42 =>
                    (parrellaw14_alive).bind fun yL1_44 =>
                    some yL1_44
                else
                  (stage_Stage_Take_2 last.f_Tx).bind fun yL1_21 =>
                  (stage_Stage_Writes_2 last.f_Tx).bind fun yL1_23 =>
                  (stage_Stage_Owner_2 (A8.mk 97 0 0 0 0 0 0 0)).bind fun yL1_25 =>
                  (stage_Stage_Put_3 last.f_Tx last.f_Reg last.f_Writes).bind fun yL1_27 =>
                  (stage_Stage_All_2).bind fun yL1_29 =>
                  (stage_Stage_Take_3 last.f_Tx).bind fun yL1_31 =>
                  (stage_Stage_Writes_3 last.f_Tx).bind fun yL1_33 =>
                  (stage_Stage_Owner_3 (A8.mk 97 0 0 0 0 0 0 0)).bind fun yL1_35 =>
                  (stage_Stage_Put_4 last.f_Tx last.f_Reg last.f_Writes).bind fun yL1_37 =>
                  (stage_Stage_All_3).bind fun yL1_39 =>
                  (parrellaw14_alive).bind fun yL1_41 =>
                  some yL1_41
          else
            (stage_Stage_Writes yL0_6.2.1 yL0_6.2.2 last.f_Tx).bind fun yL1_12 =>
            if (yL1_12.1 : Bool) then
              if ((yL0_6.1 == 0) : Bool) then
                (parrelref10_SameWrites ([] : List (T_api_Write)) last.f_Writes).bind fun yL1_16 =>
                if ((!yL1_16) : Bool) then
                  some false
                else
                  (stage_Stage_Take_2 last.f_Tx).bind fun yL1_19 =>
                  (stage_Stage_Writes_2 last.f_Tx).bind fun yL1_21 =>
                  (stage_Stage_Owner_2 (A8.mk 97 0 0 0 0 0 0 0)).bind fun yL1_23 =>
                  (stage_Stage_Put_3 last.f_Tx last.f_Reg last.f_Writes).bind fun yL1_25 =>
                  (stage_Stage_All_2).bind fun yL1_27 =>
                  (stage_Stage_Take_3 last.f_Tx).bind fun yL1_29 =>
                  (stage_Stage_Writes_3 last.f_Tx).bind fun yL1_31 =>
                  (stage_Stage_Owner_3 (A8.mk 97 0 0 0 0 0 0 0)).bind fun yL1_33 =>
                  (stage_Stage_Put_4 last.f_Tx last.f_Reg last.f_Writes).bind fun yL1_35 =>
                  (stage_Stage_All_3).bind fun yL1_37 =>
                  (parrellaw14_alive).bind fun yL1_39 =>
                  some yL1_39
              else
                (stage_Stage_Take_2 last.f_Tx).bind fun yL1_16 =>
                (stage_Stage_Writes_2 last.f_Tx).bind fun yL1_18 =>
                (stage_Stage_Owner_2 (A8.mk 97 0 0 0 0 0 0 0)).bind fun yL1_20 =>
                (stage_Stage_Put_3 last.f_Tx last.f_Reg last.f_Writes).bind fun yL1_22 =>
                (stage_Stage_All_2).bind fun yL1_24 =>
                (stage_Stage_Take_3 last.f_Tx).bind fun yL1_26 =>
                (stage_Stage_Writes_3 last.f_Tx).bind fun yL1_28 =>
                (stage_Stage_Owner_3 (A8.mk 97 0 0 0 0 0 0 0)).bind fun yL1_30 =>
                (stage_Stage_Put_4 last.f_Tx last.f_Reg last.f_Writes).bind fun yL1_32 =>
                (stage_Stage_All_3).bind fun yL1_34 =>
                (parrellaw14_alive).bind fun yL1_36 =>
                some yL1_36
            else
              if ((yL0_6.1 == 0) : Bool) then
                (parrelref10_SameWrites_2 yL1_12.2.2.2.2 last.f_Writes).bind fun yL1_16 =>
                if ((!yL1_16) : Bool) then
                  some false
                else
                  (stage_Stage_Take_2 last.f_Tx).bind fun yL1_19 =>
                  (stage_Stage_Writes_2 last.f_Tx).bind fun yL1_21 =>
                  (stage_Stage_Owner_2 (A8.mk 97 0 0 0 0 0 0 0)).bind fun yL1_23 =>
                  (stage_Stage_Put_3 last.f_Tx last.f_Reg last.f_Writes).bind fun yL1_25 =>
                  (stage_Stage_All_2).bind fun yL1_27 =>
                  (stage_Stage_Take_3 last.f_Tx).bind fun yL1_29 =>
                  (stage_Stage_Writes_3 last.f_Tx).bind fun yL1_31 =>
                  (stage_Stage_Owner_3 (A8.mk 97 0 0 0 0 0 0 0)).bind fun yL1_33 =>
                  (stage_Stage_Put_4 last.f_Tx last.f_Reg last.f_Writes).bind fun yL1_35 =>
                  (stage_Stage_All_3).bind fun yL1_37 =>
                  (parrellaw14_alive).bind fun yL1_39 =>
                  some yL1_39
              else
                (stage_Stage_Take_2 last.f_Tx).bind fun yL1_16 =>
                (stage_Stage_Writes_2 last.f_Tx).bind fun yL1_18 =>
                (stage_Stage_Owner_2 (A8.mk 97 0 0 0 0 0 0 0)).bind fun yL1_20 =>
                (stage_Stage_Put_3 last.f_Tx last.f_Reg last.f_Writes).bind fun yL1_22 =>
                (stage_Stage_All_2).bind fun yL1_24 =>
                (stage_Stage_Take_3 last.f_Tx).bind fun yL1_26 =>
                (stage_Stage_Writes_3 last.f_Tx).bind fun yL1_28 =>
                (stage_Stage_Owner_3 (A8.mk 97 0 0 0 0 0 0 0)).bind fun yL1_30 =>
                (stage_Stage_Put_4 last.f_Tx last.f_Reg last.f_Writes).bind fun yL1_32 =>
                (stage_Stage_All_3).bind fun yL1_34 =>
                (parrellaw14_alive).bind fun yL1_36 =>
                some yL1_36
    else
      if ((yL0_6.1 != 0) : Bool) then
        (stage_Stage_All yL0_6.2.1 yL0_6.2.2).bind fun yL1_8 =>
        (parrelref05_Same yL1_8 yL0_3).bind fun yL1_10 =>
        if ((!yL1_10) : Bool) then
          some false
        else
          (stage_Stage_Writes yL0_6.2.1 yL0_6.2.2 last.f_Tx).bind fun yL1_13 =>
          if (yL1_13.1 : Bool) then
            if ((yL0_6.1 == 0) : Bool) then
              (parrelref10_SameWrites ([] : List (T_api_Write)) last.f_Writes).bind fun yL1_17 =>
              if ((!yL1_17) : Bool) then
                some false
              else
                (stage_Stage_Take_2 last.f_Tx).bind fun yL1_20 =>
                (stage_Stage_Writes_2 last.f_Tx).bind fun yL1_22 =>
                (stage_Stage_Owner_2 (A8.mk 97 0 0 0 0 0 0 0)).bind fun yL1_24 =>
                (stage_Stage_Put_3 last.f_Tx last.f_Reg last.f_Writes).bind fun yL1_26 =>
                (stage_Stage_All_2).bind fun yL1_28 =>
                (stage_Stage_Take_3 last.f_Tx).bind fun yL1_30 =>
                (stage_Stage_Writes_3 last.f_Tx).bind fun yL1_32 =>
                (stage_Stage_Owner_3 (A8.mk 97 0 0 0 0 0 0 0)).bind fun yL1_34 =>
                (stage_Stage_Put_4 last.f_Tx last.f_Reg last.f_Writes).bind fun yL1_36 =>
                (stage_Stage_All_3).bind fun yL1_38 =>
                (parrellaw14_alive).bind fun yL1_40 =>
                some yL1_40
            else
              (stage_Stage_Take_2 last.f_Tx).bind fun yL1_17 =>
              (stage_Stage_Writes_2 last.f_Tx).bind fun yL1_19 =>
              (stage_Stage_Owner_2 (A8.mk 97 0 0 0 0 0 0 0)).bind fun yL1_21 =>
              (stage_Stage_Put_3 last.f_Tx last.f_Reg last.f_Writes).bind fun yL1_23 =>
              (stage_Stage_All_2).bind fun yL1_25 =>
              (stage_Stage_Take_3 last.f_Tx).bind fun yL1_27 =>
              (stage_Stage_Writes_3 last.f_Tx).bind fun yL1_29 =>
              (stage_Stage_Owner_3 (A8.mk 97 0 0 0 0 0 0 0)).bind fun yL1_31 =>
              (stage_Stage_Put_4 last.f_Tx last.f_Reg last.f_Writes).bind fun yL1_33 =>
              (stage_Stage_All_3).bind fun yL1_35 =>
              (parrellaw14_alive).bind fun yL1_37 =>
              some yL1_37
          else
            if ((yL0_6.1 == 0) : Bool) then
              (parrelref10_SameWrites_2 yL1_13.2.2.2.2 last.f_Writes).bind fun yL1_17 =>
              if ((!yL1_17) : Bool) then
                some false
              else
                (stage_Stage_Take_2 last.f_Tx).bind fun yL1_20 =>
                (stage_Stage_Writes_2 last.f_Tx).bind fun yL1_22 =>
                (stage_Stage_Owner_2 (A8.mk 97 0 0 0 0 0 0 0)).bind fun yL1_24 =>
                (stage_Stage_Put_3 last.f_Tx last.f_Reg last.f_Writes).bind fun yL1_26 =>
                (stage_Stage_All_2).bind fun yL1_28 =>
                (stage_Stage_Take_3 last.f_Tx).bind fun yL1_30 =>
                (stage_Stage_Writes_3 last.f_Tx).bind fun yL1_32 =>
                (stage_Stage_Owner_3 (A8.mk 97 0 0 0 0 0 0 0)).bind fun yL1_34 =>
                (stage_Stage_Put_4 last.f_Tx last.f_Reg last.f_Writes).bind fun yL1_36 =>
                (stage_Stage_All_3).bind fun yL1_38 =>
                (parrellaw14_alive).bind fun yL1_40 =>
                some yL1_40
            else
              (stage_Stage_Take_2 last.f_Tx).bind fun yL1_17 =>
              (stage_Stage_Writes_2 last.f_Tx).bind fun yL1_19 =>
              (stage_Stage_Owner_2 (A8.mk 97 0 0 0 0 0 0 0)).bind fun yL1_21 =>
              (stage_Stage_Put_3 last.f_Tx last.f_Reg last.f_Writes).bind fun yL1_23 =>
              (stage_Stage_All_2).bind fun yL1_25 =>
              (stage_Stage_Take_3 last.f_Tx).bind fun yL1_27 =>
              (stage_Stage_Writes_3 last.f_Tx).bind fun yL1_29 =>
              (stage_Stage_Owner_3 (A8.mk 97 0 0 0 0 0 0 0)).bind fun yL1_31 =>
              (stage_Stage_Put_4 last.f_Tx last.f_Reg last.f_Writes).bind fun yL1_33 =>
              (stage_Stage_All_3).bind fun yL1_35 =>
              (parrellaw14_alive).bind fun yL1_37 =>
              some yL1_37
      else
        (stage_Stage_Writes yL0_6.2.1 yL0_6.2.2 last.f_Tx).bind fun yL1_8 =>
        if (yL1_8.1 : Bool) then
          if ((yL0_6.1 == 0) : Bool) then
            (parrelref10_SameWrites ([] : List (T_api_Write)) last.f_Writes).bind fun yL1_12 =>
            if ((!yL1_12) : Bool) then
              some false
            else
              (stage_Stage_Take_2 last.f_Tx).bind fun yL1_15 =>
              (stage_Stage_Writes_2 last.f_Tx).bind fun yL1_17 =>
              (stage_Stage_Owner_2 (A8.mk 97 0 0 0 0 0 0 0)).bind fun yL1_19 =>
              (stage_Stage_Put_3 last.f_Tx last.f_Reg last.f_Writes).bind fun yL1_21 =>
              (stage_Stage_All_2).bind fun yL1_23 =>
              (stage_Stage_Take_3 last.f_Tx).bind fun yL1_25 =>
              (stage_Stage_Writes_3 last.f_Tx).bind fun yL1_27 =>
              (stage_Stage_Owner_3 (A8.mk 97 0 0 0 0 0 0 0)).bind fun yL1_29 =>
              (stage_Stage_Put_4 last.f_Tx last.f_Reg last.f_Writes).bind fun yL1_31 =>
              (stage_Stage_All_3).bind fun yL1_33 =>
              (parrellaw14_alive).bind fun yL1_35 =>
              some yL1_35
          else
            (stage_Stage_Take_2 last.f_Tx).bind fun yL1_12 =>
            (stage_Stage_Writes_2 last.f_Tx).bind fun yL1_14 =>
            (stage_Stage_Owner_2 (A8.mk 97 0 0 0 0 0 0 0)).bind fun yL1_16 =>
            (stage_Stage_Put_3 last.f_Tx last.f_Reg last.f_Writes).bind fun yL1_18 =>
            (stage_Stage_All_2).bind fun yL1_20 =>
            (stage_Stage_Take_3 last.f_Tx).bind fun yL1_22 =>
            (stage_Stage_Writes_3 last.f_Tx).bind fun yL1_24 =>
            (stage_Stage_Owner_3 (A8.mk 97 0 0 0 0 0 0 0)).bind fun yL1_26 =>
            (stage_Stage_Put_4 last.f_Tx last.f_Reg last.f_Writes).bind fun yL1_28 =>
            (stage_Stage_All_3).bind fun yL1_30 =>
            (parrellaw14_alive).bind fun yL1_32 =>
            some yL1_32
        else
          if ((yL0_6.1 == 0) : Bool) then
            (parrelref10_SameWrites_2 yL1_8.2.2.2.2 last.f_Writes).bind fun yL1_12 =>
            if ((!yL1_12) : Bool) then
              some false
            else
              (stage_Stage_Take_2 last.f_Tx).bind fun yL1_15 =>
              (stage_Stage_Writes_2 last.f_Tx).bind fun yL1_17 =>
              (stage_Stage_Owner_2 (A8.mk 97 0 0 0 0 0 0 0)).bind fun yL1_19 =>
              (stage_Stage_Put_3 last.f_Tx last.f_Reg last.f_Writes).bind fun yL1_21 =>
              (stage_Stage_All_2).bind fun yL1_23 =>
              (stage_Stage_Take_3 last.f_Tx).bind fun yL1_25 =>
              (stage_Stage_Writes_3 last.f_Tx).bind fun yL1_27 =>
              (stage_Stage_Owner_3 (A8.mk 97 0 0 0 0 0 0 0)).bind fun yL1_29 =>
              (stage_Stage_Put_4 last.f_Tx last.f_Reg last.f_Writes).bind fun yL1_31 =>
              (stage_Stage_All_3).bind fun yL1_33 =>
              (parrellaw14_alive).bind fun yL1_35 =>
              some yL1_35
          else
            (stage_Stage_Take_2 last.f_Tx).bind fun yL1_12 =>
            (stage_Stage_Writes_2 last.f_Tx).bind fun yL1_14 =>
            (stage_Stage_Owner_2 (A8.mk 97 0 0 0 0 0 0 0)).bind fun yL1_16 =>
            (stage_Stage_Put_3 last.f_Tx last.f_Reg last.f_Writes).bind fun yL1_18 =>
            (stage_Stage_All_2).bind fun yL1_20 =>
            (stage_Stage_Take_3 last.f_Tx).bind fun yL1_22 =>
            (stage_Stage_Writes_3 last.f_Tx).bind fun yL1_24 =>
            (stage_Stage_Owner_3 (A8.mk 97 0 0 0 0 0 0 0)).bind fun yL1_26 =>
            (stage_Stage_Put_4 last.f_Tx last.f_Reg last.f_Writes).bind fun yL1_28 =>
            (stage_Stage_All_3).bind fun yL1_30 =>
            (parrellaw14_alive).bind fun yL1_32 =>
            some yL1_32
  else
    if ((yL0_6.1 == 0) : Bool) then
      if ((!yL1_3.2.2.2.1) : Bool) then
        some false
      else
        (parrelref10_SameWrites_2 yL1_3.2.2.2.2 last.f_Writes).bind fun yL1_8 =>
        if ((!yL1_8) : Bool) then
          some false
        else
          if ((yL0_6.1 != 0) : Bool) then
            (stage_Stage_All yL0_6.2.1 yL0_6.2.2).bind fun yL1_12 =>
            (parrelref05_Same yL1_12 yL0_3).bind fun yL1_14 =>
            if ((!yL1_14) : Bool) then
              some false
            else
              parrellaw14_StageRefused_l2 last yL0_6 yL1_3  big 0 yL1_3.2.2.2.2
          else
            parrellaw14_StageRefused_l2 last yL0_6 yL1_3  big 0 yL1_3.2.2.2.2
    else
      if ((yL0_6.1 != 0) : Bool) then
        (stage_Stage_All yL0_6.2.1 yL0_6.2.2).bind fun yL1_8 =>
        (parrelref05_Same yL1_8 yL0_3).bind fun yL1_10 =>
        if ((!yL1_10) : Bool) then
          some false
        else
          parrellaw14_StageRefused_l2 last yL0_6 yL1_3  big 0 yL1_3.2.2.2.2
      else
        parrellaw14_StageRefused_l2 last yL0_6 yL1_3  big 0 yL1_3.2.2.2.2

theorem parrellaw14_StageRefused_w1 (last : T_parrellaw14_Act) (yL0_3 : (List (T_api_Tx))) (yL0_6 : (Int) × (List (T_api_Tx × T_stage_prepared)) × (List (A8 (Int) × T_api_Tx)))  (l : List (T_api_Write)) (hN : (last.f_Writes).length < 9223372036854775807) :
    parrellaw14_StageRefused_l1 last yL0_3 yL0_6  big 0 l = walkN (parrellaw14_StageRefused_b1  ) (parrellaw14_StageRefused_e1 last yL0_3 yL0_6 ) (last.f_Writes).length 0 l := by
  refine loopN (last.f_Writes).length (fun fuel_ t_ s_ => parrellaw14_StageRefused_l1 last yL0_3 yL0_6  fuel_ t_ s_) (parrellaw14_StageRefused_b1  ) (parrellaw14_StageRefused_e1 last yL0_3 yL0_6 ) (by first | exact hN | (have := hN; simp only [List.length_nil] at this ⊢; omega)) ?_ ?_ l
  · intro fuel_ i_ s_ hi_
    have hg_ : 0 ≤ (i_ : Int) ∧ (i_ : Int) < (((last.f_Writes).length : Nat) : Int) := by omega
    show parrellaw14_StageRefused_l1 last yL0_3 yL0_6  (fuel_ + 1) (i_ : Int) s_ = _
    rw [parrellaw14_StageRefused_l1, if_pos (decide_eq_true (by omega))]
    have hinc_ : IntKind.wrap .i64 ((i_ : Int) + 1) = (((i_ + 1 : Nat)) : Int) := by rw [w64 (by omega) (by omega)]; rfl
    try rw [hinc_]
    first | rfl | (unfold parrellaw14_StageRefused_b1; simp only [hinc_]; done) | (unfold parrellaw14_StageRefused_b1; simp only [hinc_]; rfl)
  · intro fuel_ s_
    show parrellaw14_StageRefused_l1 last yL0_3 yL0_6  (fuel_ + 1) (((last.f_Writes).length : Nat) : Int) s_ = _
    rw [parrellaw14_StageRefused_l1, if_neg (by rw [decide_eq_true_eq]; omega)]
    rfl

def parrellaw14_StageRefused_b0 (y10 : (List (T_parrellaw14_Act)))  (t48 : Nat) (s_ : (List (T_api_Tx × T_stage_prepared)) × (List (A8 (Int) × T_api_Tx))) (k_ : ((List (T_api_Tx × T_stage_prepared)) × (List (A8 (Int) × T_api_Tx))) → Option ((Bool))) : Option ((Bool)) :=
  if (0 + ((y10.getD t48 default).f_Writes).length) * 48 ≤ 140737488351232 then
  (stage_Stage_Put_2 s_.1 s_.2 (y10.getD t48 default).f_Tx (y10.getD t48 default).f_Reg (y10.getD t48 default).f_Writes).bind fun yL0_5 =>
  k_ (yL0_5.2.1, yL0_5.2.2)
  else none

def parrellaw14_StageRefused_e0 (last : T_parrellaw14_Act)  (s_ : (List (T_api_Tx × T_stage_prepared)) × (List (A8 (Int) × T_api_Tx))) : Option ((Bool)) :=
  (stage_Stage_All s_.1 s_.2).bind fun yL0_3 =>
  if (0 + (last.f_Writes).length) * 48 ≤ 140737488351232 then
  (stage_Stage_Put_2 s_.1 s_.2 last.f_Tx last.f_Reg last.f_Writes).bind fun yL0_6 =>
  parrellaw14_StageRefused_l1 last yL0_3 yL0_6  big 0 last.f_Writes
  else none

theorem parrellaw14_StageRefused_w0 (last : T_parrellaw14_Act) (y10 : (List (T_parrellaw14_Act)))  (m : List (T_api_Tx × T_stage_prepared)) (m2 : List (A8 (Int) × T_api_Tx)) (hN : (y10).length < 9223372036854775807) :
    parrellaw14_StageRefused_l0 last y10  big 0 m m2 = walkN (parrellaw14_StageRefused_b0 y10 ) (parrellaw14_StageRefused_e0 last ) (y10).length 0 (m, m2) := by
  refine loopN (y10).length (fun fuel_ t_ s_ => parrellaw14_StageRefused_l0 last y10  fuel_ t_ s_.1 s_.2) (parrellaw14_StageRefused_b0 y10 ) (parrellaw14_StageRefused_e0 last ) (by first | exact hN | (have := hN; simp only [List.length_nil] at this ⊢; omega)) ?_ ?_ (m, m2)
  · intro fuel_ i_ s_ hi_
    have hg_ : 0 ≤ (i_ : Int) ∧ (i_ : Int) < (((y10).length : Nat) : Int) := by omega
    show parrellaw14_StageRefused_l0 last y10  (fuel_ + 1) (i_ : Int) s_.1 s_.2 = _
    rw [parrellaw14_StageRefused_l0, if_pos (decide_eq_true (by omega))]
    repeat rw [if_pos hg_]
    have hinc_ : IntKind.wrap .i64 ((i_ : Int) + 1) = (((i_ + 1 : Nat)) : Int) := by rw [w64 (by omega) (by omega)]; rfl
    try rw [hinc_]
    first | rfl | (unfold parrellaw14_StageRefused_b0; simp only [hinc_]; done) | (unfold parrellaw14_StageRefused_b0; simp only [hinc_]; rfl)
  · intro fuel_ s_
    show parrellaw14_StageRefused_l0 last y10  (fuel_ + 1) (((y10).length : Nat) : Int) s_.1 s_.2 = _
    rw [parrellaw14_StageRefused_l0, if_neg (by rw [decide_eq_true_eq]; omega)]
    rfl

def parrelref05_Name_b1 (x_k : A8 (Int))  (i : Nat) (s_ : Unit) (k_ : (Unit) → Option ((List UInt8) × (Bool))) : Option ((List UInt8) × (Bool)) :=
  if (((A8.get x_k i) != 0) : Bool) then
    some ([], false)
  else
    k_ ()

def parrelref05_Name_e1 (x_k : A8 (Int)) (x_n : Int)  (s_ : Unit) : Option ((List UInt8) × (Bool)) :=
  if ((x_n == 0) : Bool) then
    some ([], false)
  else
    if 0 ≤ (0 : Int) ∧ 0 ≤ x_n ∧ x_n ≤ 8 then
    some ((strI (([x_k.a0, x_k.a1, x_k.a2, x_k.a3, x_k.a4, x_k.a5, x_k.a6, x_k.a7] : List Int).take (x_n.toNat))), true)
    else none

theorem parrelref05_Name_ws1 (x_k : A8 (Int)) (x_n : Int)   (st_ : Nat) (hst_ : st_ ≤ 8) (hN : 8 < 9223372036854775807) :
    parrelref05_Name_l1 x_k x_n  big (st_ : Int) = walkN (parrelref05_Name_b1 x_k ) (parrelref05_Name_e1 x_k x_n ) (8 - st_) st_ () := by
  refine loopNs 8 st_ hst_ (fun fuel_ t_ s_ => parrelref05_Name_l1 x_k x_n  fuel_ t_) (parrelref05_Name_b1 x_k ) (parrelref05_Name_e1 x_k x_n ) (by first | exact hN | (have := hN; simp only [List.length_nil] at this ⊢; omega)) ?_ ?_ ()
  · intro fuel_ i_ s_ hi_
    have hg_ : 0 ≤ (i_ : Int) ∧ (i_ : Int) < 8 := by omega
    show parrelref05_Name_l1 x_k x_n  (fuel_ + 1) (i_ : Int) = _
    rw [parrelref05_Name_l1, if_pos (decide_eq_true (by omega))]
    repeat rw [if_pos hg_]
    have hinc_ : IntKind.wrap .i64 ((i_ : Int) + 1) = (((i_ + 1 : Nat)) : Int) := by rw [w64 (by omega) (by omega)]; rfl
    try rw [hinc_]
    first | rfl | (unfold parrelref05_Name_b1; simp only [hinc_]; done) | (unfold parrelref05_Name_b1; simp only [hinc_]; rfl)
  · intro fuel_ s_
    show parrelref05_Name_l1 x_k x_n  (fuel_ + 1) ((8 : Nat) : Int) = _
    rw [parrelref05_Name_l1, if_neg (by rw [decide_eq_true_eq]; omega)]
    rfl

def parrelref05_Name_b0 (x_k : A8 (Int))  (x_n : Nat) (s_ : Unit) (k_ : (Unit) → Option ((List UInt8) × (Bool))) : Option ((List UInt8) × (Bool)) :=
  if (((A8.get x_k x_n) != 0) : Bool) then
    k_ ()
  else
    parrelref05_Name_l1 x_k (x_n : Int)  big (x_n : Int)

def parrelref05_Name_e0 (x_k : A8 (Int))  (s_ : Unit) : Option ((List UInt8) × (Bool)) :=
  parrelref05_Name_l1 x_k ((8 : Nat) : Int)  big ((8 : Nat) : Int)

theorem parrelref05_Name_w0 (x_k : A8 (Int))   (hN : 8 < 9223372036854775807) :
    parrelref05_Name_l0 x_k  big 0 = walkN (parrelref05_Name_b0 x_k ) (parrelref05_Name_e0 x_k ) 8 0 () := by
  refine loopN 8 (fun fuel_ t_ s_ => parrelref05_Name_l0 x_k  fuel_ t_) (parrelref05_Name_b0 x_k ) (parrelref05_Name_e0 x_k ) (by first | exact hN | (have := hN; simp only [List.length_nil] at this ⊢; omega)) ?_ ?_ ()
  · intro fuel_ i_ s_ hi_
    have hg_ : 0 ≤ (i_ : Int) ∧ (i_ : Int) < 8 := by omega
    show parrelref05_Name_l0 x_k  (fuel_ + 1) (i_ : Int) = _
    rw [parrelref05_Name_l0, if_pos (decide_eq_true (by omega))]
    repeat rw [if_pos hg_]
    have hinc_ : IntKind.wrap .i64 ((i_ : Int) + 1) = (((i_ + 1 : Nat)) : Int) := by rw [w64 (by omega) (by omega)]; rfl
    try rw [hinc_]
    first | rfl | (unfold parrelref05_Name_b0; simp only [hinc_]; done) | (unfold parrelref05_Name_b0; simp only [hinc_]; rfl)
  · intro fuel_ s_
    show parrelref05_Name_l0 x_k  (fuel_ + 1) ((8 : Nat) : Int) = _
    rw [parrelref05_Name_l0, if_neg (by rw [decide_eq_true_eq]; omega)]
    rfl

def parrelref06_Total_b0 (c : T_api_Config)  (i : Nat) (s_ : (Int)) (k_ : ((Int)) → Option ((Int))) : Option ((Int)) :=
  k_ (IntKind.wrap .i64 (s_ + (IntKind.wrap .i64 (A8.get c.f_Votes i))))

def parrelref06_Total_e0   (s_ : (Int)) : Option ((Int)) :=
  some s_

theorem parrelref06_Total_w0 (c : T_api_Config)  (x_n : Int) (hN : 8 < 9223372036854775807) :
    parrelref06_Total_l0 c  big x_n 0 = walkN (parrelref06_Total_b0 c ) (parrelref06_Total_e0  ) 8 0 x_n := by
  refine loopN 8 (fun fuel_ t_ s_ => parrelref06_Total_l0 c  fuel_ s_ t_) (parrelref06_Total_b0 c ) (parrelref06_Total_e0  ) (by first | exact hN | (have := hN; simp only [List.length_nil] at this ⊢; omega)) ?_ ?_ x_n
  · intro fuel_ i_ s_ hi_
    have hg_ : 0 ≤ (i_ : Int) ∧ (i_ : Int) < 8 := by omega
    show parrelref06_Total_l0 c  (fuel_ + 1) s_ (i_ : Int) = _
    rw [parrelref06_Total_l0, if_pos (decide_eq_true (by omega))]
    repeat rw [if_pos hg_]
    have hinc_ : IntKind.wrap .i64 ((i_ : Int) + 1) = (((i_ + 1 : Nat)) : Int) := by rw [w64 (by omega) (by omega)]; rfl
    try rw [hinc_]
    first | rfl | (unfold parrelref06_Total_b0; simp only [hinc_]; done) | (unfold parrelref06_Total_b0; simp only [hinc_]; rfl)
  · intro fuel_ s_
    show parrelref06_Total_l0 c  (fuel_ + 1) s_ ((8 : Nat) : Int) = _
    rw [parrelref06_Total_l0, if_neg (by rw [decide_eq_true_eq]; omega)]
    rfl

def parrelref06_May_b0 (c : T_api_Config)  (i : Nat) (s_ : Unit) (k_ : (Unit) → Option ((Bool))) : Option ((Bool)) :=
  if ((decide (15 < (A8.get c.f_Votes i))) : Bool) then
    some false
  else
    k_ ()

def parrelref06_May_e0 (c : T_api_Config) (y2 : (Int))  (s_ : Unit) : Option ((Bool)) :=
  if ((decide (1 ≤ c.f_Epoch)) : Bool) then
    if ((decide (c.f_Epoch ≤ 2147483647)) : Bool) then
      if ((decide (1 ≤ (IntKind.wrap .i64 c.f_R))) : Bool) then
        if ((decide (1 ≤ (IntKind.wrap .i64 c.f_W))) : Bool) then
          if ((decide ((IntKind.wrap .i64 c.f_R) ≤ y2)) : Bool) then
            if ((decide ((IntKind.wrap .i64 c.f_W) ≤ y2)) : Bool) then
              if ((decide (y2 < (IntKind.wrap .i64 ((IntKind.wrap .i64 c.f_R) + (IntKind.wrap .i64 c.f_W))))) : Bool) then
                some (decide (y2 < (IntKind.wrap .i64 (2 * (IntKind.wrap .i64 c.f_W)))))
              else
                some false
            else
              some false
          else
            some false
        else
          some false
      else
        some false
    else
      some false
  else
    some false

theorem parrelref06_May_w0 (c : T_api_Config) (y2 : (Int))   (hN : 8 < 9223372036854775807) :
    parrelref06_May_l0 c y2  big 0 = walkN (parrelref06_May_b0 c ) (parrelref06_May_e0 c y2 ) 8 0 () := by
  refine loopN 8 (fun fuel_ t_ s_ => parrelref06_May_l0 c y2  fuel_ t_) (parrelref06_May_b0 c ) (parrelref06_May_e0 c y2 ) (by first | exact hN | (have := hN; simp only [List.length_nil] at this ⊢; omega)) ?_ ?_ ()
  · intro fuel_ i_ s_ hi_
    have hg_ : 0 ≤ (i_ : Int) ∧ (i_ : Int) < 8 := by omega
    show parrelref06_May_l0 c y2  (fuel_ + 1) (i_ : Int) = _
    rw [parrelref06_May_l0, if_pos (decide_eq_true (by omega))]
    repeat rw [if_pos hg_]
    have hinc_ : IntKind.wrap .i64 ((i_ : Int) + 1) = (((i_ + 1 : Nat)) : Int) := by rw [w64 (by omega) (by omega)]; rfl
    try rw [hinc_]
    first | rfl | (unfold parrelref06_May_b0; simp only [hinc_]; done) | (unfold parrelref06_May_b0; simp only [hinc_]; rfl)
  · intro fuel_ s_
    show parrelref06_May_l0 c y2  (fuel_ + 1) ((8 : Nat) : Int) = _
    rw [parrelref06_May_l0, if_neg (by rw [decide_eq_true_eq]; omega)]
    rfl

def parrelref05_first_b0 (a : List (Int)) (b : List (Int))  (i : Nat) (s_ : Unit) (k_ : (Unit) → Option ((Int))) : Option ((Int)) :=
  if 0 ≤ (i : Int) ∧ (i : Int) < (((b).length : Nat) : Int) then
  if ((decide ((a.getD i default) < (b.getD i default))) : Bool) then
    some (-1)
  else
    if ((decide ((b.getD i default) < (a.getD i default))) : Bool) then
      some 1
    else
      k_ ()
  else none

def parrelref05_first_e0   (s_ : Unit) : Option ((Int)) :=
  some 0

theorem parrelref05_first_w0 (a : List (Int)) (b : List (Int))   (hN : (a).length < 9223372036854775807) :
    parrelref05_first_l0 a b  big 0 = walkN (parrelref05_first_b0 a b ) (parrelref05_first_e0  ) (a).length 0 () := by
  refine loopN (a).length (fun fuel_ t_ s_ => parrelref05_first_l0 a b  fuel_ t_) (parrelref05_first_b0 a b ) (parrelref05_first_e0  ) (by first | exact hN | (have := hN; simp only [List.length_nil] at this ⊢; omega)) ?_ ?_ ()
  · intro fuel_ i_ s_ hi_
    have hg_ : 0 ≤ (i_ : Int) ∧ (i_ : Int) < (((a).length : Nat) : Int) := by omega
    show parrelref05_first_l0 a b  (fuel_ + 1) (i_ : Int) = _
    rw [parrelref05_first_l0, if_pos (decide_eq_true (by omega))]
    repeat rw [if_pos hg_]
    have hinc_ : IntKind.wrap .i64 ((i_ : Int) + 1) = (((i_ + 1 : Nat)) : Int) := by rw [w64 (by omega) (by omega)]; rfl
    try rw [hinc_]
    first | rfl | (unfold parrelref05_first_b0; simp only [hinc_]; done) | (unfold parrelref05_first_b0; simp only [hinc_]; rfl)
  · intro fuel_ s_
    show parrelref05_first_l0 a b  (fuel_ + 1) (((a).length : Nat) : Int) = _
    rw [parrelref05_first_l0, if_neg (by rw [decide_eq_true_eq]; omega)]
    rfl

def parrelref05_Keys_b0 (a : A8 (Int)) (b : A8 (Int))  (i : Nat) (s_ : (List (Int)) × (List (Int))) (k_ : ((List (Int)) × (List (Int))) → Option ((Int))) : Option ((Int)) :=
  if ((s_.1).length + (([(IntKind.wrap .u32 (A8.get a i))] : List (Int))).length) * 4 ≤ 140737488351232 then
  if ((s_.2).length + (([(IntKind.wrap .u32 (A8.get b i))] : List (Int))).length) * 4 ≤ 140737488351232 then
  k_ ((s_.1 ++ ([(IntKind.wrap .u32 (A8.get a i))] : List (Int))), (s_.2 ++ ([(IntKind.wrap .u32 (A8.get b i))] : List (Int))))
  else none
  else none

def parrelref05_Keys_e0   (s_ : (List (Int)) × (List (Int))) : Option ((Int)) :=
  (parrelref05_first s_.1 s_.2).bind fun yL0_3 =>
  some yL0_3

theorem parrelref05_Keys_w0 (a : A8 (Int)) (b : A8 (Int))  (l : List (Int)) (l2 : List (Int)) (hN : 8 < 9223372036854775807) :
    parrelref05_Keys_l0 a b  big 0 l l2 = walkN (parrelref05_Keys_b0 a b ) (parrelref05_Keys_e0  ) 8 0 (l, l2) := by
  refine loopN 8 (fun fuel_ t_ s_ => parrelref05_Keys_l0 a b  fuel_ t_ s_.1 s_.2) (parrelref05_Keys_b0 a b ) (parrelref05_Keys_e0  ) (by first | exact hN | (have := hN; simp only [List.length_nil] at this ⊢; omega)) ?_ ?_ (l, l2)
  · intro fuel_ i_ s_ hi_
    have hg_ : 0 ≤ (i_ : Int) ∧ (i_ : Int) < 8 := by omega
    show parrelref05_Keys_l0 a b  (fuel_ + 1) (i_ : Int) s_.1 s_.2 = _
    rw [parrelref05_Keys_l0, if_pos (decide_eq_true (by omega))]
    repeat rw [if_pos hg_]
    have hinc_ : IntKind.wrap .i64 ((i_ : Int) + 1) = (((i_ + 1 : Nat)) : Int) := by rw [w64 (by omega) (by omega)]; rfl
    try rw [hinc_]
    first | rfl | (unfold parrelref05_Keys_b0; simp only [hinc_]; done) | (unfold parrelref05_Keys_b0; simp only [hinc_]; rfl)
  · intro fuel_ s_
    show parrelref05_Keys_l0 a b  (fuel_ + 1) ((8 : Nat) : Int) s_.1 s_.2 = _
    rw [parrelref05_Keys_l0, if_neg (by rw [decide_eq_true_eq]; omega)]
    rfl

def parrelref10_WritesMay_b0 (l : List (T_api_Write))  (i : Nat) (s_ : Unit) (k_ : (Unit) → Option ((Bool))) : Option ((Bool)) :=
  (parrelref10_KeyMay (l.getD i default).f_Key).bind fun yL0_4 =>
  if ((!yL0_4) : Bool) then
    some false
  else
    (parrelref10_ItemMay (l.getD i default).f_Item).bind fun yL0_7 =>
    if ((!yL0_7) : Bool) then
      some false
    else
      if ((decide (0 < (i : Int))) : Bool) then
        if 0 ≤ (IntKind.wrap .i64 ((i : Int) - 1)) ∧ (IntKind.wrap .i64 ((i : Int) - 1)) < (((l).length : Nat) : Int) then
        (parrelref05_Keys (l.getD ((IntKind.wrap .i64 ((i : Int) - 1))).toNat default).f_Key (l.getD i default).f_Key).bind fun yL0_12 =>
        if ((decide (0 ≤ yL0_12)) : Bool) then
          some false
        else
          k_ ()
        else none
      else
        k_ ()

def parrelref10_WritesMay_e0 (l : List (T_api_Write))  (s_ : Unit) : Option ((Bool)) :=
  some (decide (((l).length : Int) ≤ 16))

theorem parrelref10_WritesMay_w0 (l : List (T_api_Write))   (hN : (l).length < 9223372036854775807) :
    parrelref10_WritesMay_l0 l  big 0 = walkN (parrelref10_WritesMay_b0 l ) (parrelref10_WritesMay_e0 l ) (l).length 0 () := by
  refine loopN (l).length (fun fuel_ t_ s_ => parrelref10_WritesMay_l0 l  fuel_ t_) (parrelref10_WritesMay_b0 l ) (parrelref10_WritesMay_e0 l ) (by first | exact hN | (have := hN; simp only [List.length_nil] at this ⊢; omega)) ?_ ?_ ()
  · intro fuel_ i_ s_ hi_
    have hg_ : 0 ≤ (i_ : Int) ∧ (i_ : Int) < (((l).length : Nat) : Int) := by omega
    show parrelref10_WritesMay_l0 l  (fuel_ + 1) (i_ : Int) = _
    rw [parrelref10_WritesMay_l0, if_pos (decide_eq_true (by omega))]
    repeat rw [if_pos hg_]
    have hinc_ : IntKind.wrap .i64 ((i_ : Int) + 1) = (((i_ + 1 : Nat)) : Int) := by rw [w64 (by omega) (by omega)]; rfl
    try rw [hinc_]
    first | rfl | (unfold parrelref10_WritesMay_b0; simp only [hinc_]; done) | (unfold parrelref10_WritesMay_b0; simp only [hinc_]; rfl)
  · intro fuel_ s_
    show parrelref10_WritesMay_l0 l  (fuel_ + 1) (((l).length : Nat) : Int) = _
    rw [parrelref10_WritesMay_l0, if_neg (by rw [decide_eq_true_eq]; omega)]
    rfl

end
end Go.Proofs.YtfjdnnoflmpdeaaDoor.Wk
