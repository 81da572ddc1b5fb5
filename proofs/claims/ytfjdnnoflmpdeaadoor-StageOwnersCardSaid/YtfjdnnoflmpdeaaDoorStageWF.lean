/- Printed by tr.py: counting loops as walks over lists and over numbers. -/
import Derived.Test.YtfjdnnoflmpdeaaDoorStageW
import Derived.Test.YtfjdnnoflmpdeaaDoorCnX
namespace Go.Proofs.YtfjdnnoflmpdeaaDoor.Wk
open Go Go.Cn
set_option maxRecDepth 100000
set_option maxHeartbeats 4000000
set_option linter.unusedVariables false
set_option linter.unusedSimpArgs false
noncomputable section
theorem parrellaw14_far_l1_k (t11 : Int) (y2 : (List (T_parrellaw14_Act)))  (k k' : (Int) → (Int) → Option ((Bool))) (h : ∀ x_n_, k x_n_ (IntKind.wrap .i64 (t11 + 1)) = k' x_n_ (IntKind.wrap .i64 (t11 + 1))) : ∀ fuel x_n2 t22, parrellaw14_far_l1 t11 y2 k fuel x_n2 t22 = parrellaw14_far_l1 t11 y2 k' fuel x_n2 t22 := by
  intro fuel
  induction fuel with
  | zero => intros; rfl
  | succ fuel ih => intros; simp only [parrellaw14_far_l1, ih, h]

def parrellaw14_far_b1 (t11 : Int) (y2 : (List (T_parrellaw14_Act))) (k0 : ((Int)) → Option ((Bool))) (t22 : Nat) (s_ : (Int)) (k_ : ((Int)) → Option ((Bool))) : Option ((Bool)) :=
  k_ (IntKind.wrap .i64 (s_ + (if 10000 < ((((y2.getD t11.toNat default).f_Writes.getD t22 default).f_Item.f_Value).length : Int) then 10000 else ((((y2.getD t11.toNat default).f_Writes.getD t22 default).f_Item.f_Value).length : Int))))

def parrellaw14_far_e1  (k0 : ((Int)) → Option ((Bool))) (s_ : (Int)) : Option ((Bool)) :=
  k0 s_

theorem parrellaw14_far_w1 (t11 : Int) (y2 : (List (T_parrellaw14_Act))) (k0 : (Int) → (Int) → Option ((Bool))) (x_n2 : Int) (hN : ((y2.getD t11.toNat default).f_Writes).length < 9223372036854775807) :
    parrellaw14_far_l1 t11 y2 k0 big x_n2 0 = walkN (parrellaw14_far_b1 t11 y2 (fun s_ => k0 s_ (IntKind.wrap .i64 (t11 + 1)))) (parrellaw14_far_e1  (fun s_ => k0 s_ (IntKind.wrap .i64 (t11 + 1)))) ((y2.getD t11.toNat default).f_Writes).length 0 x_n2 := by
  refine loopN ((y2.getD t11.toNat default).f_Writes).length (fun fuel_ t_ s_ => parrellaw14_far_l1 t11 y2 k0 fuel_ s_ t_) (parrellaw14_far_b1 t11 y2 (fun s_ => k0 s_ (IntKind.wrap .i64 (t11 + 1)))) (parrellaw14_far_e1  (fun s_ => k0 s_ (IntKind.wrap .i64 (t11 + 1)))) (by first | exact hN | (have := hN; simp only [List.length_nil] at this ⊢; omega)) ?_ ?_ x_n2
  · intro fuel_ i_ s_ hi_
    have hg_ : 0 ≤ (i_ : Int) ∧ (i_ : Int) < ((((y2.getD t11.toNat default).f_Writes).length : Nat) : Int) := by omega
    show parrellaw14_far_l1 t11 y2 k0 (fuel_ + 1) s_ (i_ : Int) = _
    rw [parrellaw14_far_l1, if_pos (decide_eq_true (by omega))]
    repeat rw [if_pos hg_]
    have hinc_ : IntKind.wrap .i64 ((i_ : Int) + 1) = (((i_ + 1 : Nat)) : Int) := by rw [w64 (by omega) (by omega)]; rfl
    try rw [hinc_]
    first | rfl | (unfold parrellaw14_far_b1; simp only [hinc_]) | (unfold parrellaw14_far_b1; simp only [hinc_]; rfl)
  · intro fuel_ s_
    show parrellaw14_far_l1 t11 y2 k0 (fuel_ + 1) s_ ((((y2.getD t11.toNat default).f_Writes).length : Nat) : Int) = _
    rw [parrellaw14_far_l1, if_neg (by rw [decide_eq_true_eq]; omega)]
    rfl

def parrellaw14_far_b0 (y2 : (List (T_parrellaw14_Act)))  (t11 : Nat) (s_ : (Int)) (k_ : ((Int)) → Option ((Bool))) : Option ((Bool)) :=
  if ((decide (40 < (((y2.getD t11 default).f_Writes).length : Int))) : Bool) then
    some true
  else
    parrellaw14_far_l1 (t11 : Int) y2 (fun x_n_ _ => k_ x_n_) big s_ 0

def parrellaw14_far_e0   (s_ : (Int)) : Option ((Bool)) :=
  some (decide (20000 < s_))

theorem parrellaw14_far_w0 (y2 : (List (T_parrellaw14_Act)))  (x_n : Int) (hN : (y2).length < 9223372036854775807) :
    parrellaw14_far_l0 y2  big x_n 0 = walkN (parrellaw14_far_b0 y2 ) (parrellaw14_far_e0  ) (y2).length 0 x_n := by
  refine loopN (y2).length (fun fuel_ t_ s_ => parrellaw14_far_l0 y2  fuel_ s_ t_) (parrellaw14_far_b0 y2 ) (parrellaw14_far_e0  ) (by first | exact hN | (have := hN; simp only [List.length_nil] at this ⊢; omega)) ?_ ?_ x_n
  · intro fuel_ i_ s_ hi_
    have hg_ : 0 ≤ (i_ : Int) ∧ (i_ : Int) < (((y2).length : Nat) : Int) := by omega
    show parrellaw14_far_l0 y2  (fuel_ + 1) s_ (i_ : Int) = _
    rw [parrellaw14_far_l0, if_pos (decide_eq_true (by omega))]
    repeat rw [if_pos hg_]
    have hinc_ : IntKind.wrap .i64 ((i_ : Int) + 1) = (((i_ + 1 : Nat)) : Int) := by rw [w64 (by omega) (by omega)]; rfl
    simp only [parrellaw14_far_l1_k (i_ : Int) _  (parrellaw14_far_l0 y2  fuel_) (fun x_n_ _ => parrellaw14_far_l0 y2  fuel_ x_n_ (((i_ + 1 : Nat)) : Int)) (fun x_n_ => by first | rfl | rw [hinc_])]
    try rw [hinc_]
    first | rfl | (unfold parrellaw14_far_b0; simp only [hinc_]) | (unfold parrellaw14_far_b0; simp only [hinc_]; rfl)
  · intro fuel_ s_
    show parrellaw14_far_l0 y2  (fuel_ + 1) s_ (((y2).length : Nat) : Int) = _
    rw [parrellaw14_far_l0, if_neg (by rw [decide_eq_true_eq]; omega)]
    rfl

def votes_Of_b0 (c : T_api_Config) (set : Int)  (t10 : Nat) (s_ : (Int)) (k_ : ((Int)) → Option ((Int))) : Option ((Int)) :=
  if 0 ≤ (t10 : Int) then
  k_ (IntKind.wrap .i64 (s_ + (IntKind.wrap .i64 ((IntKind.wrap .i64 (A8.get c.f_Votes t10)) * (IntKind.wrap .i64 (IntKind.wrap .u64 ((BitVec.ofInt (IntKind.bits .u64) (Int.fdiv set (2 ^ (min (Int.toNat (t10 : Int)) (IntKind.bits .u64)))) &&& BitVec.ofInt (IntKind.bits .u64) 1).toNat : Int)))))))
  else none

def votes_Of_e0   (s_ : (Int)) : Option ((Int)) :=
  some s_

theorem votes_Of_w0 (c : T_api_Config) (set : Int)  (x_n : Int) (hN : 8 < 9223372036854775807) :
    votes_Of_l0 c set  big x_n 0 = walkN (votes_Of_b0 c set ) (votes_Of_e0  ) 8 0 x_n := by
  refine loopN 8 (fun fuel_ t_ s_ => votes_Of_l0 c set  fuel_ s_ t_) (votes_Of_b0 c set ) (votes_Of_e0  ) (by first | exact hN | (have := hN; simp only [List.length_nil] at this ⊢; omega)) ?_ ?_ x_n
  · intro fuel_ i_ s_ hi_
    have hg_ : 0 ≤ (i_ : Int) ∧ (i_ : Int) < 8 := by omega
    show votes_Of_l0 c set  (fuel_ + 1) s_ (i_ : Int) = _
    rw [votes_Of_l0, if_pos (decide_eq_true (by omega))]
    repeat rw [if_pos hg_]
    have hinc_ : IntKind.wrap .i64 ((i_ : Int) + 1) = (((i_ + 1 : Nat)) : Int) := by rw [w64 (by omega) (by omega)]; rfl
    try rw [hinc_]
    first | rfl | (unfold votes_Of_b0; simp only [hinc_]) | (unfold votes_Of_b0; simp only [hinc_]; rfl)
  · intro fuel_ s_
    show votes_Of_l0 c set  (fuel_ + 1) s_ ((8 : Nat) : Int) = _
    rw [votes_Of_l0, if_neg (by rw [decide_eq_true_eq]; omega)]
    rfl

def slices_Max_uint8_uint8_b0 (x : T_api_Config)  (i : Nat) (s_ : (Int)) (k_ : ((Int)) → Option ((Int))) : Option ((Int)) :=
  k_ (if (A8.get x.f_Votes i) > s_ then (A8.get x.f_Votes i) else s_)

def slices_Max_uint8_uint8_e0   (s_ : (Int)) : Option ((Int)) :=
  some s_

theorem slices_Max_uint8_uint8_w0 (x : T_api_Config)  (m : Int) (hN : 8 < 9223372036854775807) :
    slices_Max_uint8_uint8_l0 x  big m 0 = walkN (slices_Max_uint8_uint8_b0 x ) (slices_Max_uint8_uint8_e0  ) 8 0 m := by
  refine loopN 8 (fun fuel_ t_ s_ => slices_Max_uint8_uint8_l0 x  fuel_ s_ t_) (slices_Max_uint8_uint8_b0 x ) (slices_Max_uint8_uint8_e0  ) (by first | exact hN | (have := hN; simp only [List.length_nil] at this ⊢; omega)) ?_ ?_ m
  · intro fuel_ i_ s_ hi_
    have hg_ : 0 ≤ (i_ : Int) ∧ (i_ : Int) < 8 := by omega
    show slices_Max_uint8_uint8_l0 x  (fuel_ + 1) s_ (i_ : Int) = _
    rw [slices_Max_uint8_uint8_l0, if_pos (decide_eq_true (by omega))]
    repeat rw [if_pos hg_]
    have hinc_ : IntKind.wrap .i64 ((i_ : Int) + 1) = (((i_ + 1 : Nat)) : Int) := by rw [w64 (by omega) (by omega)]; rfl
    try rw [hinc_]
    first | rfl | (unfold slices_Max_uint8_uint8_b0; simp only [hinc_]) | (unfold slices_Max_uint8_uint8_b0; simp only [hinc_]; rfl)
  · intro fuel_ s_
    show slices_Max_uint8_uint8_l0 x  (fuel_ + 1) s_ ((8 : Nat) : Int) = _
    rw [slices_Max_uint8_uint8_l0, if_neg (by rw [decide_eq_true_eq]; omega)]
    rfl

def slices_Compare_byte_byte_b0 (s1 : A8 (Int)) (s2 : A8 (Int))  (t11 : Nat) (s_ : Unit) (k_ : (Unit) → Option ((Int))) : Option ((Int)) :=
  if ((decide (8 ≤ (t11 : Int))) : Bool) then
    some 1
  else
    (cmp_Compare_uint8 (A8.get s1 t11) (A8.get s2 t11)).bind fun yL0_5 =>
    if ((yL0_5 != 0) : Bool) then
      some yL0_5
    else
      k_ ()

def slices_Compare_byte_byte_e0   (s_ : Unit) : Option ((Int)) :=
  some 0

theorem slices_Compare_byte_byte_w0 (s1 : A8 (Int)) (s2 : A8 (Int))   (hN : 8 < 9223372036854775807) :
    slices_Compare_byte_byte_l0 s1 s2  big 0 = walkN (slices_Compare_byte_byte_b0 s1 s2 ) (slices_Compare_byte_byte_e0  ) 8 0 () := by
  refine loopN 8 (fun fuel_ t_ s_ => slices_Compare_byte_byte_l0 s1 s2  fuel_ t_) (slices_Compare_byte_byte_b0 s1 s2 ) (slices_Compare_byte_byte_e0  ) (by first | exact hN | (have := hN; simp only [List.length_nil] at this ⊢; omega)) ?_ ?_ ()
  · intro fuel_ i_ s_ hi_
    have hg_ : 0 ≤ (i_ : Int) ∧ (i_ : Int) < 8 := by omega
    show slices_Compare_byte_byte_l0 s1 s2  (fuel_ + 1) (i_ : Int) = _
    rw [slices_Compare_byte_byte_l0, if_pos (decide_eq_true (by omega))]
    repeat rw [if_pos hg_]
    have hinc_ : IntKind.wrap .i64 ((i_ : Int) + 1) = (((i_ + 1 : Nat)) : Int) := by rw [w64 (by omega) (by omega)]; rfl
    try rw [hinc_]
    first | rfl | (unfold slices_Compare_byte_byte_b0; simp only [hinc_]) | (unfold slices_Compare_byte_byte_b0; simp only [hinc_]; rfl)
  · intro fuel_ s_
    show slices_Compare_byte_byte_l0 s1 s2  (fuel_ + 1) ((8 : Nat) : Int) = _
    rw [slices_Compare_byte_byte_l0, if_neg (by rw [decide_eq_true_eq]; omega)]
    rfl

def msg_WritesMay_b0 (l : List (T_api_Write))  (t7 : Nat) (s_ : Unit) (k_ : (Unit) → Option ((Bool))) : Option ((Bool)) :=
  (msg_keyMay (l.getD t7 default).f_Key).bind fun yL0_4 =>
  if ((!yL0_4) : Bool) then
    some false
  else
    (msg_ItemMay (l.getD t7 default).f_Item).bind fun yL0_7 =>
    if ((!yL0_7) : Bool) then
      some false
    else
      if ((decide (0 < (t7 : Int))) : Bool) then
        if 0 ≤ (IntKind.wrap .i64 ((t7 : Int) - 1)) ∧ (IntKind.wrap .i64 ((t7 : Int) - 1)) < (((l).length : Nat) : Int) then
        (ids_Keys (l.getD ((IntKind.wrap .i64 ((t7 : Int) - 1))).toNat default).f_Key (l.getD t7 default).f_Key).bind fun yL0_12 =>
        if ((decide (0 ≤ yL0_12)) : Bool) then
          some false
        else
          k_ ()
        else none
      else
        k_ ()

def msg_WritesMay_e0 (l : List (T_api_Write))  (s_ : Unit) : Option ((Bool)) :=
  some (decide (((l).length : Int) ≤ 16))

theorem msg_WritesMay_w0 (l : List (T_api_Write))   (hN : (l).length < 9223372036854775807) :
    msg_WritesMay_l0 l  big 0 = walkN (msg_WritesMay_b0 l ) (msg_WritesMay_e0 l ) (l).length 0 () := by
  refine loopN (l).length (fun fuel_ t_ s_ => msg_WritesMay_l0 l  fuel_ t_) (msg_WritesMay_b0 l ) (msg_WritesMay_e0 l ) (by first | exact hN | (have := hN; simp only [List.length_nil] at this ⊢; omega)) ?_ ?_ ()
  · intro fuel_ i_ s_ hi_
    have hg_ : 0 ≤ (i_ : Int) ∧ (i_ : Int) < (((l).length : Nat) : Int) := by omega
    show msg_WritesMay_l0 l  (fuel_ + 1) (i_ : Int) = _
    rw [msg_WritesMay_l0, if_pos (decide_eq_true (by omega))]
    repeat rw [if_pos hg_]
    have hinc_ : IntKind.wrap .i64 ((i_ : Int) + 1) = (((i_ + 1 : Nat)) : Int) := by rw [w64 (by omega) (by omega)]; rfl
    try rw [hinc_]
    first | rfl | (unfold msg_WritesMay_b0; simp only [hinc_]) | (unfold msg_WritesMay_b0; simp only [hinc_]; rfl)
  · intro fuel_ s_
    show msg_WritesMay_l0 l  (fuel_ + 1) (((l).length : Nat) : Int) = _
    rw [msg_WritesMay_l0, if_neg (by rw [decide_eq_true_eq]; omega)]
    rfl

def slices_Equal_api_Write_api_Write_b0 (s1 : List (T_api_Write)) (s2 : List (T_api_Write))  (t13 : Nat) (s_ : Unit) (k_ : (Unit) → Option ((Bool))) : Option ((Bool)) :=
  if 0 ≤ (t13 : Int) ∧ (t13 : Int) < (((s2).length : Nat) : Int) then
  if ((!decide ((s1.getD t13 default) = (s2.getD t13 default))) : Bool) then
    some false
  else
    k_ ()
  else none

def slices_Equal_api_Write_api_Write_e0   (s_ : Unit) : Option ((Bool)) :=
  some true

theorem slices_Equal_api_Write_api_Write_w0 (s1 : List (T_api_Write)) (s2 : List (T_api_Write))   (hN : (s1).length < 9223372036854775807) :
    slices_Equal_api_Write_api_Write_l0 s1 s2  big 0 = walkN (slices_Equal_api_Write_api_Write_b0 s1 s2 ) (slices_Equal_api_Write_api_Write_e0  ) (s1).length 0 () := by
  refine loopN (s1).length (fun fuel_ t_ s_ => slices_Equal_api_Write_api_Write_l0 s1 s2  fuel_ t_) (slices_Equal_api_Write_api_Write_b0 s1 s2 ) (slices_Equal_api_Write_api_Write_e0  ) (by first | exact hN | (have := hN; simp only [List.length_nil] at this ⊢; omega)) ?_ ?_ ()
  · intro fuel_ i_ s_ hi_
    have hg_ : 0 ≤ (i_ : Int) ∧ (i_ : Int) < (((s1).length : Nat) : Int) := by omega
    show slices_Equal_api_Write_api_Write_l0 s1 s2  (fuel_ + 1) (i_ : Int) = _
    rw [slices_Equal_api_Write_api_Write_l0, if_pos (decide_eq_true (by omega))]
    repeat rw [if_pos hg_]
    have hinc_ : IntKind.wrap .i64 ((i_ : Int) + 1) = (((i_ + 1 : Nat)) : Int) := by rw [w64 (by omega) (by omega)]; rfl
    try rw [hinc_]
    first | rfl | (unfold slices_Equal_api_Write_api_Write_b0; simp only [hinc_]) | (unfold slices_Equal_api_Write_api_Write_b0; simp only [hinc_]; rfl)
  · intro fuel_ s_
    show slices_Equal_api_Write_api_Write_l0 s1 s2  (fuel_ + 1) (((s1).length : Nat) : Int) = _
    rw [slices_Equal_api_Write_api_Write_l0, if_neg (by rw [decide_eq_true_eq]; omega)]
    rfl

def stage_Stage_Put_b1 (t : T_api_Tx)  (a_ : T_api_Write) (s_ : (List (A8 (Int) × T_api_Tx))) (k_ : ((List (A8 (Int) × T_api_Tx))) → Option ((Int) × (List (T_api_Tx × T_stage_prepared)) × (List (A8 (Int) × T_api_Tx)))) : Option ((Int) × (List (T_api_Tx × T_stage_prepared)) × (List (A8 (Int) × T_api_Tx))) :=
  k_ (mset s_ a_.f_Key t)

def stage_Stage_Put_e1 (all : List (T_api_Tx × T_stage_prepared)) (t : T_api_Tx) (g : T_api_Reg) (l : List (T_api_Write))  (s_ : (List (A8 (Int) × T_api_Tx))) : Option ((Int) × (List (T_api_Tx × T_stage_prepared)) × (List (A8 (Int) × T_api_Tx))) :=
  some (0, (mset all t (T_stage_prepared.mk g l)), s_)

theorem stage_Stage_Put_w1 (all : List (T_api_Tx × T_stage_prepared)) (owners : List (A8 (Int) × T_api_Tx)) (t : T_api_Tx) (g : T_api_Reg) (l : List (T_api_Write))  (m : List (A8 (Int) × T_api_Tx)) (hN : (l).length < 9223372036854775807) :
    stage_Stage_Put_l1 all owners t g l  big 0 m = walkL (stage_Stage_Put_b1 t ) (stage_Stage_Put_e1 all t g l ) l m := by
  refine loopL l (fun fuel_ t_ s_ => stage_Stage_Put_l1 all owners t g l  fuel_ t_ s_) (stage_Stage_Put_b1 t ) (stage_Stage_Put_e1 all t g l ) (by first | exact hN | (have := hN; simp only [List.length_nil] at this ⊢; omega)) ?_ ?_ m
  · intro fuel_ i_ s_ hi_
    have hg_ : 0 ≤ (i_ : Int) ∧ (i_ : Int) < (((l).length : Nat) : Int) := by omega
    show stage_Stage_Put_l1 all owners t g l  (fuel_ + 1) (i_ : Int) s_ = _
    rw [stage_Stage_Put_l1, if_pos (decide_eq_true (by omega))]
    repeat rw [if_pos hg_]
    have hinc_ : IntKind.wrap .i64 ((i_ : Int) + 1) = (((i_ + 1 : Nat)) : Int) := by rw [w64 (by omega) (by omega)]; rfl
    try rw [hinc_]
    first | rfl | (unfold stage_Stage_Put_b1; simp only [hinc_]) | (unfold stage_Stage_Put_b1; simp only [hinc_]; rfl)
  · intro fuel_ s_
    show stage_Stage_Put_l1 all owners t g l  (fuel_ + 1) (((l).length : Nat) : Int) s_ = _
    rw [stage_Stage_Put_l1, if_neg (by rw [decide_eq_true_eq]; omega)]
    rfl

def stage_Stage_Put_b0 (all : List (T_api_Tx × T_stage_prepared)) (owners : List (A8 (Int) × T_api_Tx))  (a_ : T_api_Write) (s_ : Unit) (k_ : (Unit) → Option ((Int) × (List (T_api_Tx × T_stage_prepared)) × (List (A8 (Int) × T_api_Tx)))) : Option ((Int) × (List (T_api_Tx × T_stage_prepared)) × (List (A8 (Int) × T_api_Tx))) :=
  if (((mget owners a_.f_Key).isSome) : Bool) then
    some (11, all, owners)
  else
    k_ ()

def stage_Stage_Put_e0 (all : List (T_api_Tx × T_stage_prepared)) (owners : List (A8 (Int) × T_api_Tx)) (t : T_api_Tx) (g : T_api_Reg) (l : List (T_api_Write))  (s_ : Unit) : Option ((Int) × (List (T_api_Tx × T_stage_prepared)) × (List (A8 (Int) × T_api_Tx))) :=
  if ((((all).length : Int) == 64) : Bool) then
    some (5, all, owners)
  else
    if (0 + (l).length) * 48 ≤ 140737488351232 then
    stage_Stage_Put_l1 all owners t g l  big 0 owners
    else none

theorem stage_Stage_Put_w0 (all : List (T_api_Tx × T_stage_prepared)) (owners : List (A8 (Int) × T_api_Tx)) (t : T_api_Tx) (g : T_api_Reg) (l : List (T_api_Write))   (hN : (l).length < 9223372036854775807) :
    stage_Stage_Put_l0 all owners t g l  big 0 = walkL (stage_Stage_Put_b0 all owners ) (stage_Stage_Put_e0 all owners t g l ) l () := by
  refine loopL l (fun fuel_ t_ s_ => stage_Stage_Put_l0 all owners t g l  fuel_ t_) (stage_Stage_Put_b0 all owners ) (stage_Stage_Put_e0 all owners t g l ) (by first | exact hN | (have := hN; simp only [List.length_nil] at this ⊢; omega)) ?_ ?_ ()
  · intro fuel_ i_ s_ hi_
    have hg_ : 0 ≤ (i_ : Int) ∧ (i_ : Int) < (((l).length : Nat) : Int) := by omega
    show stage_Stage_Put_l0 all owners t g l  (fuel_ + 1) (i_ : Int) = _
    rw [stage_Stage_Put_l0, if_pos (decide_eq_true (by omega))]
    repeat rw [if_pos hg_]
    have hinc_ : IntKind.wrap .i64 ((i_ : Int) + 1) = (((i_ + 1 : Nat)) : Int) := by rw [w64 (by omega) (by omega)]; rfl
    try rw [hinc_]
    first | rfl | (unfold stage_Stage_Put_b0; simp only [hinc_]) | (unfold stage_Stage_Put_b0; simp only [hinc_]; rfl)
  · intro fuel_ s_
    show stage_Stage_Put_l0 all owners t g l  (fuel_ + 1) (((l).length : Nat) : Int) = _
    rw [stage_Stage_Put_l0, if_neg (by rw [decide_eq_true_eq]; omega)]
    rfl

def stage_Stage_Take_b0 (all : List (T_api_Tx × T_stage_prepared)) (t : T_api_Tx)  (t32 : Nat) (s_ : (List (A8 (Int) × T_api_Tx))) (k_ : ((List (A8 (Int) × T_api_Tx))) → Option ((List (T_api_Write)) × (Int) × (List (T_api_Tx × T_stage_prepared)) × (List (A8 (Int) × T_api_Tx)))) : Option ((List (T_api_Write)) × (Int) × (List (T_api_Tx × T_stage_prepared)) × (List (A8 (Int) × T_api_Tx))) :=
  k_ (mdel s_ (((mget all t).getD default).f_writes.getD t32 default).f_Key)

def stage_Stage_Take_e0 (all : List (T_api_Tx × T_stage_prepared)) (t : T_api_Tx)  (s_ : (List (A8 (Int) × T_api_Tx))) : Option ((List (T_api_Write)) × (Int) × (List (T_api_Tx × T_stage_prepared)) × (List (A8 (Int) × T_api_Tx))) :=
  some (((mget all t).getD default).f_writes, 0, (mdel all t), s_)

theorem stage_Stage_Take_w0 (all : List (T_api_Tx × T_stage_prepared)) (owners : List (A8 (Int) × T_api_Tx)) (t : T_api_Tx)  (m : List (A8 (Int) × T_api_Tx)) (hN : (((mget all t).getD default).f_writes).length < 9223372036854775807) :
    stage_Stage_Take_l0 all owners t  big 0 m = walkN (stage_Stage_Take_b0 all t ) (stage_Stage_Take_e0 all t ) (((mget all t).getD default).f_writes).length 0 m := by
  refine loopN (((mget all t).getD default).f_writes).length (fun fuel_ t_ s_ => stage_Stage_Take_l0 all owners t  fuel_ t_ s_) (stage_Stage_Take_b0 all t ) (stage_Stage_Take_e0 all t ) (by first | exact hN | (have := hN; simp only [List.length_nil] at this ⊢; omega)) ?_ ?_ m
  · intro fuel_ i_ s_ hi_
    have hg_ : 0 ≤ (i_ : Int) ∧ (i_ : Int) < (((((mget all t).getD default).f_writes).length : Nat) : Int) := by omega
    show stage_Stage_Take_l0 all owners t  (fuel_ + 1) (i_ : Int) s_ = _
    rw [stage_Stage_Take_l0, if_pos (decide_eq_true (by omega))]
    repeat rw [if_pos hg_]
    have hinc_ : IntKind.wrap .i64 ((i_ : Int) + 1) = (((i_ + 1 : Nat)) : Int) := by rw [w64 (by omega) (by omega)]; rfl
    try rw [hinc_]
    first | rfl | (unfold stage_Stage_Take_b0; simp only [hinc_]) | (unfold stage_Stage_Take_b0; simp only [hinc_]; rfl)
  · intro fuel_ s_
    show stage_Stage_Take_l0 all owners t  (fuel_ + 1) (((((mget all t).getD default).f_writes).length : Nat) : Int) s_ = _
    rw [stage_Stage_Take_l0, if_neg (by rw [decide_eq_true_eq]; omega)]
    rfl

def parrelref10_SameWrites_b0 (a : List (T_api_Write)) (b : List (T_api_Write))  (i : Nat) (s_ : Unit) (k_ : (Unit) → Option ((Bool))) : Option ((Bool)) :=
  if 0 ≤ (i : Int) ∧ (i : Int) < (((b).length : Nat) : Int) then
  if ((!decide ((a.getD i default) = (b.getD i default))) : Bool) then
    some false
  else
    k_ ()
  else none

def parrelref10_SameWrites_e0   (s_ : Unit) : Option ((Bool)) :=
  some true

theorem parrelref10_SameWrites_w0 (a : List (T_api_Write)) (b : List (T_api_Write))   (hN : (a).length < 9223372036854775807) :
    parrelref10_SameWrites_l0 a b  big 0 = walkN (parrelref10_SameWrites_b0 a b ) (parrelref10_SameWrites_e0  ) (a).length 0 () := by
  refine loopN (a).length (fun fuel_ t_ s_ => parrelref10_SameWrites_l0 a b  fuel_ t_) (parrelref10_SameWrites_b0 a b ) (parrelref10_SameWrites_e0  ) (by first | exact hN | (have := hN; simp only [List.length_nil] at this ⊢; omega)) ?_ ?_ ()
  · intro fuel_ i_ s_ hi_
    have hg_ : 0 ≤ (i_ : Int) ∧ (i_ : Int) < (((a).length : Nat) : Int) := by omega
    show parrelref10_SameWrites_l0 a b  (fuel_ + 1) (i_ : Int) = _
    rw [parrelref10_SameWrites_l0, if_pos (decide_eq_true (by omega))]
    repeat rw [if_pos hg_]
    have hinc_ : IntKind.wrap .i64 ((i_ : Int) + 1) = (((i_ + 1 : Nat)) : Int) := by rw [w64 (by omega) (by omega)]; rfl
    try rw [hinc_]
    first | rfl | (unfold parrelref10_SameWrites_b0; simp only [hinc_]) | (unfold parrelref10_SameWrites_b0; simp only [hinc_]; rfl)
  · intro fuel_ s_
    show parrelref10_SameWrites_l0 a b  (fuel_ + 1) (((a).length : Nat) : Int) = _
    rw [parrelref10_SameWrites_l0, if_neg (by rw [decide_eq_true_eq]; omega)]
    rfl

def cmp_Or_int_b0   (a_ : Int) (s_ : Unit) (k_ : (Unit) → Option ((Int))) : Option ((Int)) :=
  if ((a_ != 0) : Bool) then
    some a_
  else
    k_ ()

def cmp_Or_int_e0   (s_ : Unit) : Option ((Int)) :=
  some 0

theorem cmp_Or_int_w0 (vals : List (Int))   (hN : (vals).length < 9223372036854775807) :
    cmp_Or_int_l0 vals  big 0 = walkL (cmp_Or_int_b0  ) (cmp_Or_int_e0  ) vals () := by
  refine loopL vals (fun fuel_ t_ s_ => cmp_Or_int_l0 vals  fuel_ t_) (cmp_Or_int_b0  ) (cmp_Or_int_e0  ) (by first | exact hN | (have := hN; simp only [List.length_nil] at this ⊢; omega)) ?_ ?_ ()
  · intro fuel_ i_ s_ hi_
    have hg_ : 0 ≤ (i_ : Int) ∧ (i_ : Int) < (((vals).length : Nat) : Int) := by omega
    show cmp_Or_int_l0 vals  (fuel_ + 1) (i_ : Int) = _
    rw [cmp_Or_int_l0, if_pos (decide_eq_true (by omega))]
    repeat rw [if_pos hg_]
    have hinc_ : IntKind.wrap .i64 ((i_ : Int) + 1) = (((i_ + 1 : Nat)) : Int) := by rw [w64 (by omega) (by omega)]; rfl
    try rw [hinc_]
    first | rfl | (unfold cmp_Or_int_b0; simp only [hinc_]) | (unfold cmp_Or_int_b0; simp only [hinc_]; rfl)
  · intro fuel_ s_
    show cmp_Or_int_l0 vals  (fuel_ + 1) (((vals).length : Nat) : Int) = _
    rw [cmp_Or_int_l0, if_neg (by rw [decide_eq_true_eq]; omega)]
    rfl

def parrellaw14_StageBack_b1 (yL0_3 : (List (T_api_Write)) × (Int) × (List (T_api_Tx × T_stage_prepared)) × (List (A8 (Int) × T_api_Tx)))  (a_ : T_api_Write) (s_ : Unit) (k_ : (Unit) → Option ((Bool))) : Option ((Bool)) :=
  (stage_Stage_Owner yL0_3.2.2.1 yL0_3.2.2.2 a_.f_Key).bind fun yL1_4 =>
  if (yL1_4.2 : Bool) then
    some false
  else
    k_ ()

def parrellaw14_StageBack_e1 (one : T_parrellaw14_Act) (yL0_3 : (List (T_api_Write)) × (Int) × (List (T_api_Tx × T_stage_prepared)) × (List (A8 (Int) × T_api_Tx)))  (s_ : Unit) : Option ((Bool)) :=
  (stage_Stage_Take yL0_3.2.2.1 yL0_3.2.2.2 one.f_Tx).bind fun yL1_3 =>
  (parrelref10_SameWrites yL0_3.1 one.f_Writes).bind fun yL1_5 =>
  if (yL1_5 : Bool) then
    if ((yL0_3.2.1 == 0) : Bool) then
      if ((yL1_3.2.1 == 6) : Bool) then
        (parrellaw14_alive).bind fun yL1_10 =>
        some yL1_10
      else
        some false
    else
      some false
  else
    some false

theorem parrellaw14_StageBack_w1 (one : T_parrellaw14_Act) (yL0_3 : (List (T_api_Write)) × (Int) × (List (T_api_Tx × T_stage_prepared)) × (List (A8 (Int) × T_api_Tx)))   (hN : (one.f_Writes).length < 9223372036854775807) :
    parrellaw14_StageBack_l1 one yL0_3  big 0 = walkL (parrellaw14_StageBack_b1 yL0_3 ) (parrellaw14_StageBack_e1 one yL0_3 ) one.f_Writes () := by
  refine loopL one.f_Writes (fun fuel_ t_ s_ => parrellaw14_StageBack_l1 one yL0_3  fuel_ t_) (parrellaw14_StageBack_b1 yL0_3 ) (parrellaw14_StageBack_e1 one yL0_3 ) (by first | exact hN | (have := hN; simp only [List.length_nil] at this ⊢; omega)) ?_ ?_ ()
  · intro fuel_ i_ s_ hi_
    have hg_ : 0 ≤ (i_ : Int) ∧ (i_ : Int) < (((one.f_Writes).length : Nat) : Int) := by omega
    show parrellaw14_StageBack_l1 one yL0_3  (fuel_ + 1) (i_ : Int) = _
    rw [parrellaw14_StageBack_l1, if_pos (decide_eq_true (by omega))]
    repeat rw [if_pos hg_]
    have hinc_ : IntKind.wrap .i64 ((i_ : Int) + 1) = (((i_ + 1 : Nat)) : Int) := by rw [w64 (by omega) (by omega)]; rfl
    try rw [hinc_]
    first | rfl | (unfold parrellaw14_StageBack_b1; simp only [hinc_]) | (unfold parrellaw14_StageBack_b1; simp only [hinc_]; rfl)
  · intro fuel_ s_
    show parrellaw14_StageBack_l1 one yL0_3  (fuel_ + 1) (((one.f_Writes).length : Nat) : Int) = _
    rw [parrellaw14_StageBack_l1, if_neg (by rw [decide_eq_true_eq]; omega)]
    rfl

def parrellaw14_StageBack_b0 (one : T_parrellaw14_Act) (y13 : (List (T_parrellaw14_Act)))  (t52 : Nat) (s_ : (List (T_api_Tx × T_stage_prepared)) × (List (A8 (Int) × T_api_Tx))) (k_ : ((List (T_api_Tx × T_stage_prepared)) × (List (A8 (Int) × T_api_Tx))) → Option ((Bool))) : Option ((Bool)) :=
  if ((decide ((y13.getD t52 default).f_Tx = one.f_Tx)) : Bool) then
    k_ (s_.1, s_.2)
  else
    if ((y13.getD t52 default).f_Take : Bool) then
      (stage_Stage_Take s_.1 s_.2 (y13.getD t52 default).f_Tx).bind fun yL0_6 =>
      k_ (yL0_6.2.2.1, yL0_6.2.2.2)
    else
      (stage_Stage_Put s_.1 s_.2 (y13.getD t52 default).f_Tx (y13.getD t52 default).f_Reg (y13.getD t52 default).f_Writes).bind fun yL0_6 =>
      k_ (yL0_6.2.1, yL0_6.2.2)

def parrellaw14_StageBack_e0 (one : T_parrellaw14_Act)  (s_ : (List (T_api_Tx × T_stage_prepared)) × (List (A8 (Int) × T_api_Tx))) : Option ((Bool)) :=
  (stage_Stage_Take s_.1 s_.2 one.f_Tx).bind fun yL0_3 =>
  parrellaw14_StageBack_l1 one yL0_3  big 0

theorem parrellaw14_StageBack_w0 (one : T_parrellaw14_Act) (y13 : (List (T_parrellaw14_Act)))  (m : List (T_api_Tx × T_stage_prepared)) (m2 : List (A8 (Int) × T_api_Tx)) (hN : (y13).length < 9223372036854775807) :
    parrellaw14_StageBack_l0 one y13  big 0 m m2 = walkN (parrellaw14_StageBack_b0 one y13 ) (parrellaw14_StageBack_e0 one ) (y13).length 0 (m, m2) := by
  refine loopN (y13).length (fun fuel_ t_ s_ => parrellaw14_StageBack_l0 one y13  fuel_ t_ s_.1 s_.2) (parrellaw14_StageBack_b0 one y13 ) (parrellaw14_StageBack_e0 one ) (by first | exact hN | (have := hN; simp only [List.length_nil] at this ⊢; omega)) ?_ ?_ (m, m2)
  · intro fuel_ i_ s_ hi_
    have hg_ : 0 ≤ (i_ : Int) ∧ (i_ : Int) < (((y13).length : Nat) : Int) := by omega
    show parrellaw14_StageBack_l0 one y13  (fuel_ + 1) (i_ : Int) s_.1 s_.2 = _
    rw [parrellaw14_StageBack_l0, if_pos (decide_eq_true (by omega))]
    repeat rw [if_pos hg_]
    have hinc_ : IntKind.wrap .i64 ((i_ : Int) + 1) = (((i_ + 1 : Nat)) : Int) := by rw [w64 (by omega) (by omega)]; rfl
    try rw [hinc_]
    first | rfl | (unfold parrellaw14_StageBack_b0; simp only [hinc_]) | (unfold parrellaw14_StageBack_b0; simp only [hinc_]; rfl)
  · intro fuel_ s_
    show parrellaw14_StageBack_l0 one y13  (fuel_ + 1) (((y13).length : Nat) : Int) s_.1 s_.2 = _
    rw [parrellaw14_StageBack_l0, if_neg (by rw [decide_eq_true_eq]; omega)]
    rfl

def parrelref14_Stage_find_b0 (s : T_parrelref14_Stage) (t : T_api_Tx)  (i : Nat) (s_ : Unit) (k_ : (Unit) → Option ((Int))) : Option ((Int)) :=
  if ((decide ((s.f_L.getD i default).f_Tx = t)) : Bool) then
    some (i : Int)
  else
    k_ ()

def parrelref14_Stage_find_e0   (s_ : Unit) : Option ((Int)) :=
  some (-1)

theorem parrelref14_Stage_find_w0 (s : T_parrelref14_Stage) (t : T_api_Tx)   (hN : (s.f_L).length < 9223372036854775807) :
    parrelref14_Stage_find_l0 s t  big 0 = walkN (parrelref14_Stage_find_b0 s t ) (parrelref14_Stage_find_e0  ) (s.f_L).length 0 () := by
  refine loopN (s.f_L).length (fun fuel_ t_ s_ => parrelref14_Stage_find_l0 s t  fuel_ t_) (parrelref14_Stage_find_b0 s t ) (parrelref14_Stage_find_e0  ) (by first | exact hN | (have := hN; simp only [List.length_nil] at this ⊢; omega)) ?_ ?_ ()
  · intro fuel_ i_ s_ hi_
    have hg_ : 0 ≤ (i_ : Int) ∧ (i_ : Int) < (((s.f_L).length : Nat) : Int) := by omega
    show parrelref14_Stage_find_l0 s t  (fuel_ + 1) (i_ : Int) = _
    rw [parrelref14_Stage_find_l0, if_pos (decide_eq_true (by omega))]
    repeat rw [if_pos hg_]
    have hinc_ : IntKind.wrap .i64 ((i_ : Int) + 1) = (((i_ + 1 : Nat)) : Int) := by rw [w64 (by omega) (by omega)]; rfl
    try rw [hinc_]
    first | rfl | (unfold parrelref14_Stage_find_b0; simp only [hinc_]) | (unfold parrelref14_Stage_find_b0; simp only [hinc_]; rfl)
  · intro fuel_ s_
    show parrelref14_Stage_find_l0 s t  (fuel_ + 1) (((s.f_L).length : Nat) : Int) = _
    rw [parrelref14_Stage_find_l0, if_neg (by rw [decide_eq_true_eq]; omega)]
    rfl

def parrelref14_Stage_All_b0   (a_ : T_parrelref14_One) (s_ : (List (T_api_Tx))) (k_ : ((List (T_api_Tx))) → Option ((List (T_api_Tx)))) : Option ((List (T_api_Tx))) :=
  if ((s_).length + ([a_.f_Tx]).length) * 12 ≤ 140737488351232 then
  k_ (s_ ++ [a_.f_Tx])
  else none

def parrelref14_Stage_All_e0   (s_ : (List (T_api_Tx))) : Option ((List (T_api_Tx))) :=
  some s_

theorem parrelref14_Stage_All_w0 (s : T_parrelref14_Stage)  (l : List (T_api_Tx)) (hN : (s.f_L).length < 9223372036854775807) :
    parrelref14_Stage_All_l0 s  big 0 l = walkL (parrelref14_Stage_All_b0  ) (parrelref14_Stage_All_e0  ) s.f_L l := by
  refine loopL s.f_L (fun fuel_ t_ s_ => parrelref14_Stage_All_l0 s  fuel_ t_ s_) (parrelref14_Stage_All_b0  ) (parrelref14_Stage_All_e0  ) (by first | exact hN | (have := hN; simp only [List.length_nil] at this ⊢; omega)) ?_ ?_ l
  · intro fuel_ i_ s_ hi_
    have hg_ : 0 ≤ (i_ : Int) ∧ (i_ : Int) < (((s.f_L).length : Nat) : Int) := by omega
    show parrelref14_Stage_All_l0 s  (fuel_ + 1) (i_ : Int) s_ = _
    rw [parrelref14_Stage_All_l0, if_pos (decide_eq_true (by omega))]
    repeat rw [if_pos hg_]
    have hinc_ : IntKind.wrap .i64 ((i_ : Int) + 1) = (((i_ + 1 : Nat)) : Int) := by rw [w64 (by omega) (by omega)]; rfl
    try rw [hinc_]
    first | rfl | (unfold parrelref14_Stage_All_b0; simp only [hinc_]) | (unfold parrelref14_Stage_All_b0; simp only [hinc_]; rfl)
  · intro fuel_ s_
    show parrelref14_Stage_All_l0 s  (fuel_ + 1) (((s.f_L).length : Nat) : Int) s_ = _
    rw [parrelref14_Stage_All_l0, if_neg (by rw [decide_eq_true_eq]; omega)]
    rfl

def parrelref05_Same_b0 (a : List (T_api_Tx)) (b : List (T_api_Tx))  (i : Nat) (s_ : Unit) (k_ : (Unit) → Option ((Bool))) : Option ((Bool)) :=
  if 0 ≤ (i : Int) ∧ (i : Int) < (((b).length : Nat) : Int) then
  if ((!decide ((a.getD i default) = (b.getD i default))) : Bool) then
    some false
  else
    k_ ()
  else none

def parrelref05_Same_e0   (s_ : Unit) : Option ((Bool)) :=
  some true

theorem parrelref05_Same_w0 (a : List (T_api_Tx)) (b : List (T_api_Tx))   (hN : (a).length < 9223372036854775807) :
    parrelref05_Same_l0 a b  big 0 = walkN (parrelref05_Same_b0 a b ) (parrelref05_Same_e0  ) (a).length 0 () := by
  refine loopN (a).length (fun fuel_ t_ s_ => parrelref05_Same_l0 a b  fuel_ t_) (parrelref05_Same_b0 a b ) (parrelref05_Same_e0  ) (by first | exact hN | (have := hN; simp only [List.length_nil] at this ⊢; omega)) ?_ ?_ ()
  · intro fuel_ i_ s_ hi_
    have hg_ : 0 ≤ (i_ : Int) ∧ (i_ : Int) < (((a).length : Nat) : Int) := by omega
    show parrelref05_Same_l0 a b  (fuel_ + 1) (i_ : Int) = _
    rw [parrelref05_Same_l0, if_pos (decide_eq_true (by omega))]
    repeat rw [if_pos hg_]
    have hinc_ : IntKind.wrap .i64 ((i_ : Int) + 1) = (((i_ + 1 : Nat)) : Int) := by rw [w64 (by omega) (by omega)]; rfl
    try rw [hinc_]
    first | rfl | (unfold parrelref05_Same_b0; simp only [hinc_]) | (unfold parrelref05_Same_b0; simp only [hinc_]; rfl)
  · intro fuel_ s_
    show parrelref05_Same_l0 a b  (fuel_ + 1) (((a).length : Nat) : Int) = _
    rw [parrelref05_Same_l0, if_neg (by rw [decide_eq_true_eq]; omega)]
    rfl

def parrelref05_Name_b1 (x_k : A8 (Int))  (i : Nat) (s_ : Unit) (k_ : (Unit) → Option ((List UInt8) × (Bool))) : Option ((List UInt8) × (Bool)) :=
  if (((A8.get x_k i) != 0) : Bool) then
    some ([], false)
  else
    k_ ()

def parrelref05_Name_e1 (x_k : A8 (Int)) (x_n : Int)  (s_ : Unit) : Option ((List UInt8) × (Bool)) :=
  if ((x_n == 0) : Bool) then
    some ([], false)
  else
    if 0 ≤ (0 : Int) ∧ 0 ≤ x_n ∧ x_n ≤ 8 then
    some ((strI (([x_k.a0, x_k.a1, x_k.a2, x_k.a3, x_k.a4, x_k.a5, x_k.a6, x_k.a7] : List Int).take (x_n.toNat))), true)
    else none

theorem parrelref05_Name_w1 (x_k : A8 (Int)) (x_n : Int)   (hN : 8 < 9223372036854775807) :
    parrelref05_Name_l1 x_k x_n  big 0 = walkN (parrelref05_Name_b1 x_k ) (parrelref05_Name_e1 x_k x_n ) 8 0 () := by
  refine loopN 8 (fun fuel_ t_ s_ => parrelref05_Name_l1 x_k x_n  fuel_ t_) (parrelref05_Name_b1 x_k ) (parrelref05_Name_e1 x_k x_n ) (by first | exact hN | (have := hN; simp only [List.length_nil] at this ⊢; omega)) ?_ ?_ ()
  · intro fuel_ i_ s_ hi_
    have hg_ : 0 ≤ (i_ : Int) ∧ (i_ : Int) < 8 := by omega
    show parrelref05_Name_l1 x_k x_n  (fuel_ + 1) (i_ : Int) = _
    rw [parrelref05_Name_l1, if_pos (decide_eq_true (by omega))]
    repeat rw [if_pos hg_]
    have hinc_ : IntKind.wrap .i64 ((i_ : Int) + 1) = (((i_ + 1 : Nat)) : Int) := by rw [w64 (by omega) (by omega)]; rfl
    try rw [hinc_]
    first | rfl | (unfold parrelref05_Name_b1; simp only [hinc_]) | (unfold parrelref05_Name_b1; simp only [hinc_]; rfl)
  · intro fuel_ s_
    show parrelref05_Name_l1 x_k x_n  (fuel_ + 1) ((8 : Nat) : Int) = _
    rw [parrelref05_Name_l1, if_neg (by rw [decide_eq_true_eq]; omega)]
    rfl

def parrelref05_Name_b0 (x_k : A8 (Int))  (x_n : Nat) (s_ : Unit) (k_ : (Unit) → Option ((List UInt8) × (Bool))) : Option ((List UInt8) × (Bool)) :=
  if (((A8.get x_k x_n) != 0) : Bool) then
    k_ ()
  else
    parrelref05_Name_l1 x_k (x_n : Int)  big (x_n : Int)

def parrelref05_Name_e0 (x_k : A8 (Int))  (s_ : Unit) : Option ((List UInt8) × (Bool)) :=
  parrelref05_Name_l1 x_k ((8 : Nat) : Int)  big ((8 : Nat) : Int)

theorem parrelref05_Name_w0 (x_k : A8 (Int))   (hN : 8 < 9223372036854775807) :
    parrelref05_Name_l0 x_k  big 0 = walkN (parrelref05_Name_b0 x_k ) (parrelref05_Name_e0 x_k ) 8 0 () := by
  refine loopN 8 (fun fuel_ t_ s_ => parrelref05_Name_l0 x_k  fuel_ t_) (parrelref05_Name_b0 x_k ) (parrelref05_Name_e0 x_k ) (by first | exact hN | (have := hN; simp only [List.length_nil] at this ⊢; omega)) ?_ ?_ ()
  · intro fuel_ i_ s_ hi_
    have hg_ : 0 ≤ (i_ : Int) ∧ (i_ : Int) < 8 := by omega
    show parrelref05_Name_l0 x_k  (fuel_ + 1) (i_ : Int) = _
    rw [parrelref05_Name_l0, if_pos (decide_eq_true (by omega))]
    repeat rw [if_pos hg_]
    have hinc_ : IntKind.wrap .i64 ((i_ : Int) + 1) = (((i_ + 1 : Nat)) : Int) := by rw [w64 (by omega) (by omega)]; rfl
    try rw [hinc_]
    first | rfl | (unfold parrelref05_Name_b0; simp only [hinc_]) | (unfold parrelref05_Name_b0; simp only [hinc_]; rfl)
  · intro fuel_ s_
    show parrelref05_Name_l0 x_k  (fuel_ + 1) ((8 : Nat) : Int) = _
    rw [parrelref05_Name_l0, if_neg (by rw [decide_eq_true_eq]; omega)]
    rfl

def parrelref06_Total_b0 (c : T_api_Config)  (i : Nat) (s_ : (Int)) (k_ : ((Int)) → Option ((Int))) : Option ((Int)) :=
  k_ (IntKind.wrap .i64 (s_ + (IntKind.wrap .i64 (A8.get c.f_Votes i))))

def parrelref06_Total_e0   (s_ : (Int)) : Option ((Int)) :=
  some s_

theorem parrelref06_Total_w0 (c : T_api_Config)  (x_n : Int) (hN : 8 < 9223372036854775807) :
    parrelref06_Total_l0 c  big x_n 0 = walkN (parrelref06_Total_b0 c ) (parrelref06_Total_e0  ) 8 0 x_n := by
  refine loopN 8 (fun fuel_ t_ s_ => parrelref06_Total_l0 c  fuel_ s_ t_) (parrelref06_Total_b0 c ) (parrelref06_Total_e0  ) (by first | exact hN | (have := hN; simp only [List.length_nil] at this ⊢; omega)) ?_ ?_ x_n
  · intro fuel_ i_ s_ hi_
    have hg_ : 0 ≤ (i_ : Int) ∧ (i_ : Int) < 8 := by omega
    show parrelref06_Total_l0 c  (fuel_ + 1) s_ (i_ : Int) = _
    rw [parrelref06_Total_l0, if_pos (decide_eq_true (by omega))]
    repeat rw [if_pos hg_]
    have hinc_ : IntKind.wrap .i64 ((i_ : Int) + 1) = (((i_ + 1 : Nat)) : Int) := by rw [w64 (by omega) (by omega)]; rfl
    try rw [hinc_]
    first | rfl | (unfold parrelref06_Total_b0; simp only [hinc_]) | (unfold parrelref06_Total_b0; simp only [hinc_]; rfl)
  · intro fuel_ s_
    show parrelref06_Total_l0 c  (fuel_ + 1) s_ ((8 : Nat) : Int) = _
    rw [parrelref06_Total_l0, if_neg (by rw [decide_eq_true_eq]; omega)]
    rfl

def parrelref06_May_b0 (c : T_api_Config)  (i : Nat) (s_ : Unit) (k_ : (Unit) → Option ((Bool))) : Option ((Bool)) :=
  if ((decide (15 < (A8.get c.f_Votes i))) : Bool) then
    some false
  else
    k_ ()

def parrelref06_May_e0 (c : T_api_Config) (y2 : (Int))  (s_ : Unit) : Option ((Bool)) :=
  if ((decide (1 ≤ c.f_Epoch)) : Bool) then
    if ((decide (c.f_Epoch ≤ 2147483647)) : Bool) then
      if ((decide (1 ≤ (IntKind.wrap .i64 c.f_R))) : Bool) then
        if ((decide (1 ≤ (IntKind.wrap .i64 c.f_W))) : Bool) then
          if ((decide ((IntKind.wrap .i64 c.f_R) ≤ y2)) : Bool) then
            if ((decide ((IntKind.wrap .i64 c.f_W) ≤ y2)) : Bool) then
              if ((decide (y2 < (IntKind.wrap .i64 ((IntKind.wrap .i64 c.f_R) + (IntKind.wrap .i64 c.f_W))))) : Bool) then
                some (decide (y2 < (IntKind.wrap .i64 (2 * (IntKind.wrap .i64 c.f_W)))))
              else
                some false
            else
              some false
          else
            some false
        else
          some false
      else
        some false
    else
      some false
  else
    some false

theorem parrelref06_May_w0 (c : T_api_Config) (y2 : (Int))   (hN : 8 < 9223372036854775807) :
    parrelref06_May_l0 c y2  big 0 = walkN (parrelref06_May_b0 c ) (parrelref06_May_e0 c y2 ) 8 0 () := by
  refine loopN 8 (fun fuel_ t_ s_ => parrelref06_May_l0 c y2  fuel_ t_) (parrelref06_May_b0 c ) (parrelref06_May_e0 c y2 ) (by first | exact hN | (have := hN; simp only [List.length_nil] at this ⊢; omega)) ?_ ?_ ()
  · intro fuel_ i_ s_ hi_
    have hg_ : 0 ≤ (i_ : Int) ∧ (i_ : Int) < 8 := by omega
    show parrelref06_May_l0 c y2  (fuel_ + 1) (i_ : Int) = _
    rw [parrelref06_May_l0, if_pos (decide_eq_true (by omega))]
    repeat rw [if_pos hg_]
    have hinc_ : IntKind.wrap .i64 ((i_ : Int) + 1) = (((i_ + 1 : Nat)) : Int) := by rw [w64 (by omega) (by omega)]; rfl
    try rw [hinc_]
    first | rfl | (unfold parrelref06_May_b0; simp only [hinc_]) | (unfold parrelref06_May_b0; simp only [hinc_]; rfl)
  · intro fuel_ s_
    show parrelref06_May_l0 c y2  (fuel_ + 1) ((8 : Nat) : Int) = _
    rw [parrelref06_May_l0, if_neg (by rw [decide_eq_true_eq]; omega)]
    rfl

def parrelref05_first_b0 (a : List (Int)) (b : List (Int))  (i : Nat) (s_ : Unit) (k_ : (Unit) → Option ((Int))) : Option ((Int)) :=
  if 0 ≤ (i : Int) ∧ (i : Int) < (((b).length : Nat) : Int) then
  if ((decide ((a.getD i default) < (b.getD i default))) : Bool) then
    some (-1)
  else
    if ((decide ((b.getD i default) < (a.getD i default))) : Bool) then
      some 1
    else
      k_ ()
  else none

def parrelref05_first_e0   (s_ : Unit) : Option ((Int)) :=
  some 0

theorem parrelref05_first_w0 (a : List (Int)) (b : List (Int))   (hN : (a).length < 9223372036854775807) :
    parrelref05_first_l0 a b  big 0 = walkN (parrelref05_first_b0 a b ) (parrelref05_first_e0  ) (a).length 0 () := by
  refine loopN (a).length (fun fuel_ t_ s_ => parrelref05_first_l0 a b  fuel_ t_) (parrelref05_first_b0 a b ) (parrelref05_first_e0  ) (by first | exact hN | (have := hN; simp only [List.length_nil] at this ⊢; omega)) ?_ ?_ ()
  · intro fuel_ i_ s_ hi_
    have hg_ : 0 ≤ (i_ : Int) ∧ (i_ : Int) < (((a).length : Nat) : Int) := by omega
    show parrelref05_first_l0 a b  (fuel_ + 1) (i_ : Int) = _
    rw [parrelref05_first_l0, if_pos (decide_eq_true (by omega))]
    repeat rw [if_pos hg_]
    have hinc_ : IntKind.wrap .i64 ((i_ : Int) + 1) = (((i_ + 1 : Nat)) : Int) := by rw [w64 (by omega) (by omega)]; rfl
    try rw [hinc_]
    first | rfl | (unfold parrelref05_first_b0; simp only [hinc_]) | (unfold parrelref05_first_b0; simp only [hinc_]; rfl)
  · intro fuel_ s_
    show parrelref05_first_l0 a b  (fuel_ + 1) (((a).length : Nat) : Int) = _
    rw [parrelref05_first_l0, if_neg (by rw [decide_eq_true_eq]; omega)]
    rfl

def parrelref05_Keys_b0 (a : A8 (Int)) (b : A8 (Int))  (i : Nat) (s_ : (List (Int)) × (List (Int))) (k_ : ((List (Int)) × (List (Int))) → Option ((Int))) : Option ((Int)) :=
  if ((s_.1).length + ([(IntKind.wrap .u32 (A8.get a i))]).length) * 4 ≤ 140737488351232 then
  if ((s_.2).length + ([(IntKind.wrap .u32 (A8.get b i))]).length) * 4 ≤ 140737488351232 then
  k_ ((s_.1 ++ [(IntKind.wrap .u32 (A8.get a i))]), (s_.2 ++ [(IntKind.wrap .u32 (A8.get b i))]))
  else none
  else none

def parrelref05_Keys_e0   (s_ : (List (Int)) × (List (Int))) : Option ((Int)) :=
  (parrelref05_first s_.1 s_.2).bind fun yL0_3 =>
  some yL0_3

theorem parrelref05_Keys_w0 (a : A8 (Int)) (b : A8 (Int))  (l : List (Int)) (l2 : List (Int)) (hN : 8 < 9223372036854775807) :
    parrelref05_Keys_l0 a b  big 0 l l2 = walkN (parrelref05_Keys_b0 a b ) (parrelref05_Keys_e0  ) 8 0 (l, l2) := by
  refine loopN 8 (fun fuel_ t_ s_ => parrelref05_Keys_l0 a b  fuel_ t_ s_.1 s_.2) (parrelref05_Keys_b0 a b ) (parrelref05_Keys_e0  ) (by first | exact hN | (have := hN; simp only [List.length_nil] at this ⊢; omega)) ?_ ?_ (l, l2)
  · intro fuel_ i_ s_ hi_
    have hg_ : 0 ≤ (i_ : Int) ∧ (i_ : Int) < 8 := by omega
    show parrelref05_Keys_l0 a b  (fuel_ + 1) (i_ : Int) s_.1 s_.2 = _
    rw [parrelref05_Keys_l0, if_pos (decide_eq_true (by omega))]
    repeat rw [if_pos hg_]
    have hinc_ : IntKind.wrap .i64 ((i_ : Int) + 1) = (((i_ + 1 : Nat)) : Int) := by rw [w64 (by omega) (by omega)]; rfl
    try rw [hinc_]
    first | rfl | (unfold parrelref05_Keys_b0; simp only [hinc_]) | (unfold parrelref05_Keys_b0; simp only [hinc_]; rfl)
  · intro fuel_ s_
    show parrelref05_Keys_l0 a b  (fuel_ + 1) ((8 : Nat) : Int) s_.1 s_.2 = _
    rw [parrelref05_Keys_l0, if_neg (by rw [decide_eq_true_eq]; omega)]
    rfl

def parrelref10_WritesMay_b0 (l : List (T_api_Write))  (i : Nat) (s_ : Unit) (k_ : (Unit) → Option ((Bool))) : Option ((Bool)) :=
  (parrelref10_KeyMay (l.getD i default).f_Key).bind fun yL0_4 =>
  if ((!yL0_4) : Bool) then
    some false
  else
    (parrelref10_ItemMay (l.getD i default).f_Item).bind fun yL0_7 =>
    if ((!yL0_7) : Bool) then
      some false
    else
      if ((decide (0 < (i : Int))) : Bool) then
        if 0 ≤ (IntKind.wrap .i64 ((i : Int) - 1)) ∧ (IntKind.wrap .i64 ((i : Int) - 1)) < (((l).length : Nat) : Int) then
        (parrelref05_Keys (l.getD ((IntKind.wrap .i64 ((i : Int) - 1))).toNat default).f_Key (l.getD i default).f_Key).bind fun yL0_12 =>
        if ((decide (0 ≤ yL0_12)) : Bool) then
          some false
        else
          k_ ()
        else none
      else
        k_ ()

def parrelref10_WritesMay_e0 (l : List (T_api_Write))  (s_ : Unit) : Option ((Bool)) :=
  some (decide (((l).length : Int) ≤ 16))

theorem parrelref10_WritesMay_w0 (l : List (T_api_Write))   (hN : (l).length < 9223372036854775807) :
    parrelref10_WritesMay_l0 l  big 0 = walkN (parrelref10_WritesMay_b0 l ) (parrelref10_WritesMay_e0 l ) (l).length 0 () := by
  refine loopN (l).length (fun fuel_ t_ s_ => parrelref10_WritesMay_l0 l  fuel_ t_) (parrelref10_WritesMay_b0 l ) (parrelref10_WritesMay_e0 l ) (by first | exact hN | (have := hN; simp only [List.length_nil] at this ⊢; omega)) ?_ ?_ ()
  · intro fuel_ i_ s_ hi_
    have hg_ : 0 ≤ (i_ : Int) ∧ (i_ : Int) < (((l).length : Nat) : Int) := by omega
    show parrelref10_WritesMay_l0 l  (fuel_ + 1) (i_ : Int) = _
    rw [parrelref10_WritesMay_l0, if_pos (decide_eq_true (by omega))]
    repeat rw [if_pos hg_]
    have hinc_ : IntKind.wrap .i64 ((i_ : Int) + 1) = (((i_ + 1 : Nat)) : Int) := by rw [w64 (by omega) (by omega)]; rfl
    try rw [hinc_]
    first | rfl | (unfold parrelref10_WritesMay_b0; simp only [hinc_]) | (unfold parrelref10_WritesMay_b0; simp only [hinc_]; rfl)
  · intro fuel_ s_
    show parrelref10_WritesMay_l0 l  (fuel_ + 1) (((l).length : Nat) : Int) = _
    rw [parrelref10_WritesMay_l0, if_neg (by rw [decide_eq_true_eq]; omega)]
    rfl

theorem parrelref14_Stage_Owner_l1_k (s : T_parrelref14_Stage) (x_k : A8 (Int)) (i : Int)  (k k' : (Int) → Option ((T_api_Tx) × (Bool))) (h : k (IntKind.wrap .i64 (i + 1)) = k' (IntKind.wrap .i64 (i + 1))) : ∀ fuel j, parrelref14_Stage_Owner_l1 s x_k i k fuel j = parrelref14_Stage_Owner_l1 s x_k i k' fuel j := by
  intro fuel
  induction fuel with
  | zero => intros; rfl
  | succ fuel ih => intros; simp only [parrelref14_Stage_Owner_l1, ih, h]

def parrelref14_Stage_Owner_b1 (s : T_parrelref14_Stage) (x_k : A8 (Int)) (i : Int) (k0 : (Unit) → Option ((T_api_Tx) × (Bool))) (a_ : T_api_Write) (s_ : Unit) (k_ : (Unit) → Option ((T_api_Tx) × (Bool))) : Option ((T_api_Tx) × (Bool)) :=
  if ((decide (a_.f_Key = x_k)) : Bool) then
    some ((s.f_L.getD i.toNat default).f_Tx, true)
  else
    k_ ()

def parrelref14_Stage_Owner_e1  (k0 : (Unit) → Option ((T_api_Tx) × (Bool))) (s_ : Unit) : Option ((T_api_Tx) × (Bool)) :=
  k0 ()

theorem parrelref14_Stage_Owner_w1 (s : T_parrelref14_Stage) (x_k : A8 (Int)) (i : Int) (k0 : (Int) → Option ((T_api_Tx) × (Bool)))  (hN : ((s.f_L.getD i.toNat default).f_Writes).length < 9223372036854775807) (hG0_ : 0 ≤ i ∧ i < (((s.f_L).length : Nat) : Int)) :
    parrelref14_Stage_Owner_l1 s x_k i k0 big 0 = walkL (parrelref14_Stage_Owner_b1 s x_k i (fun s_ => k0 (IntKind.wrap .i64 (i + 1)))) (parrelref14_Stage_Owner_e1  (fun s_ => k0 (IntKind.wrap .i64 (i + 1)))) (s.f_L.getD i.toNat default).f_Writes () := by
  refine loopL (s.f_L.getD i.toNat default).f_Writes (fun fuel_ t_ s_ => parrelref14_Stage_Owner_l1 s x_k i k0 fuel_ t_) (parrelref14_Stage_Owner_b1 s x_k i (fun s_ => k0 (IntKind.wrap .i64 (i + 1)))) (parrelref14_Stage_Owner_e1  (fun s_ => k0 (IntKind.wrap .i64 (i + 1)))) (by first | exact hN | (have := hN; simp only [List.length_nil] at this ⊢; omega)) ?_ ?_ ()
  · intro fuel_ i_ s_ hi_
    have hg_ : 0 ≤ (i_ : Int) ∧ (i_ : Int) < ((((s.f_L.getD i.toNat default).f_Writes).length : Nat) : Int) := by omega
    show parrelref14_Stage_Owner_l1 s x_k i k0 (fuel_ + 1) (i_ : Int) = _
    rw [parrelref14_Stage_Owner_l1, if_pos hG0_, if_pos (decide_eq_true (by omega))]
    repeat rw [if_pos hg_]
    have hinc_ : IntKind.wrap .i64 ((i_ : Int) + 1) = (((i_ + 1 : Nat)) : Int) := by rw [w64 (by omega) (by omega)]; rfl
    try rw [hinc_]
    first | rfl | (unfold parrelref14_Stage_Owner_b1; simp only [hinc_]) | (unfold parrelref14_Stage_Owner_b1; simp only [hinc_]; rfl)
  · intro fuel_ s_
    show parrelref14_Stage_Owner_l1 s x_k i k0 (fuel_ + 1) ((((s.f_L.getD i.toNat default).f_Writes).length : Nat) : Int) = _
    rw [parrelref14_Stage_Owner_l1, if_pos hG0_, if_neg (by rw [decide_eq_true_eq]; omega)]
    rfl

def parrelref14_Stage_Owner_b0 (s : T_parrelref14_Stage) (x_k : A8 (Int))  (i : Nat) (s_ : Unit) (k_ : (Unit) → Option ((T_api_Tx) × (Bool))) : Option ((T_api_Tx) × (Bool)) :=
  parrelref14_Stage_Owner_l1 s x_k (i : Int) (fun _ => k_ ()) big 0

def parrelref14_Stage_Owner_e0   (s_ : Unit) : Option ((T_api_Tx) × (Bool)) :=
  some ((T_api_Tx.mk 0 0 0), false)

theorem parrelref14_Stage_Owner_w0 (s : T_parrelref14_Stage) (x_k : A8 (Int))   (hN : (s.f_L).length < 9223372036854775807) :
    parrelref14_Stage_Owner_l0 s x_k  big 0 = walkN (parrelref14_Stage_Owner_b0 s x_k ) (parrelref14_Stage_Owner_e0  ) (s.f_L).length 0 () := by
  refine loopN (s.f_L).length (fun fuel_ t_ s_ => parrelref14_Stage_Owner_l0 s x_k  fuel_ t_) (parrelref14_Stage_Owner_b0 s x_k ) (parrelref14_Stage_Owner_e0  ) (by first | exact hN | (have := hN; simp only [List.length_nil] at this ⊢; omega)) ?_ ?_ ()
  · intro fuel_ i_ s_ hi_
    have hg_ : 0 ≤ (i_ : Int) ∧ (i_ : Int) < (((s.f_L).length : Nat) : Int) := by omega
    show parrelref14_Stage_Owner_l0 s x_k  (fuel_ + 1) (i_ : Int) = _
    rw [parrelref14_Stage_Owner_l0, if_pos (decide_eq_true (by omega))]
    have hinc_ : IntKind.wrap .i64 ((i_ : Int) + 1) = (((i_ + 1 : Nat)) : Int) := by rw [w64 (by omega) (by omega)]; rfl
    simp only [parrelref14_Stage_Owner_l1_k _ _ (i_ : Int)  (parrelref14_Stage_Owner_l0 s x_k  fuel_) (fun _ => parrelref14_Stage_Owner_l0 s x_k  fuel_ (((i_ + 1 : Nat)) : Int)) (by first | rfl | rw [hinc_])]
    try rw [hinc_]
    first | rfl | (unfold parrelref14_Stage_Owner_b0; simp only [hinc_]) | (unfold parrelref14_Stage_Owner_b0; simp only [hinc_]; rfl)
  · intro fuel_ s_
    show parrelref14_Stage_Owner_l0 s x_k  (fuel_ + 1) (((s.f_L).length : Nat) : Int) = _
    rw [parrelref14_Stage_Owner_l0, if_neg (by rw [decide_eq_true_eq]; omega)]
    rfl

def parrelref14_Stage_Put_b1 (s : T_parrelref14_Stage) (t : T_api_Tx) (g : T_api_Reg) (l : List (T_api_Write))  (x_k : Nat) (s_ : Unit) (k_ : (Unit) → Option ((Int) × (List (T_parrelref14_One)))) : Option ((Int) × (List (T_parrelref14_One))) :=
  (parrelref05_Txs (s.f_L.getD x_k default).f_Tx t).bind fun yL1_4 =>
  if ((decide (yL1_4 < 0)) : Bool) then
    k_ ()
  else
    if 0 ≤ (0 : Int) ∧ 0 ≤ (x_k : Int) ∧ (x_k : Int) ≤ (((s.f_L).length : Nat) : Int) then
    if (0 + ((s.f_L.take x_k)).length) * 48 ≤ 140737488351232 then
    if (0 + (l).length) * 48 ≤ 140737488351232 then
    if (((s.f_L.take x_k)).length + ([(T_parrelref14_One.mk t g l)]).length) * 48 ≤ 140737488351232 then
    if 0 ≤ (x_k : Int) ∧ (x_k : Int) ≤ (((s.f_L).length : Nat) : Int) ∧ (((s.f_L).length : Nat) : Int) ≤ (((s.f_L).length : Nat) : Int) then
    if ((((s.f_L.take x_k) ++ [(T_parrelref14_One.mk t g l)])).length + ((s.f_L.drop x_k)).length) * 48 ≤ 140737488351232 then
    some (0, (((s.f_L.take x_k) ++ [(T_parrelref14_One.mk t g l)]) ++ (s.f_L.drop x_k)))
    else none
    else none
    else none
    else none
    else none
    else none

def parrelref14_Stage_Put_e1 (s : T_parrelref14_Stage) (t : T_api_Tx) (g : T_api_Reg) (l : List (T_api_Write))  (s_ : Unit) : Option ((Int) × (List (T_parrelref14_One))) :=
  if 0 ≤ (0 : Int) ∧ 0 ≤ (((s.f_L).length : Nat) : Int) ∧ (((s.f_L).length : Nat) : Int) ≤ (((s.f_L).length : Nat) : Int) then
  if (0 + ((s.f_L.take (((s.f_L).length : Nat) : Int).toNat)).length) * 48 ≤ 140737488351232 then
  if (0 + (l).length) * 48 ≤ 140737488351232 then
  if (((s.f_L.take (((s.f_L).length : Nat) : Int).toNat)).length + ([(T_parrelref14_One.mk t g l)]).length) * 48 ≤ 140737488351232 then
  if 0 ≤ (((s.f_L).length : Nat) : Int) ∧ (((s.f_L).length : Nat) : Int) ≤ (((s.f_L).length : Nat) : Int) ∧ (((s.f_L).length : Nat) : Int) ≤ (((s.f_L).length : Nat) : Int) then
  if ((((s.f_L.take (((s.f_L).length : Nat) : Int).toNat) ++ [(T_parrelref14_One.mk t g l)])).length + ((s.f_L.drop (((s.f_L).length : Nat) : Int).toNat)).length) * 48 ≤ 140737488351232 then
  some (0, (((s.f_L.take (((s.f_L).length : Nat) : Int).toNat) ++ [(T_parrelref14_One.mk t g l)]) ++ (s.f_L.drop (((s.f_L).length : Nat) : Int).toNat)))
  else none
  else none
  else none
  else none
  else none
  else none

theorem parrelref14_Stage_Put_w1 (s : T_parrelref14_Stage) (t : T_api_Tx) (g : T_api_Reg) (l : List (T_api_Write))   (hN : (s.f_L).length < 9223372036854775807) :
    parrelref14_Stage_Put_l1 s t g l  big 0 = walkN (parrelref14_Stage_Put_b1 s t g l ) (parrelref14_Stage_Put_e1 s t g l ) (s.f_L).length 0 () := by
  refine loopN (s.f_L).length (fun fuel_ t_ s_ => parrelref14_Stage_Put_l1 s t g l  fuel_ t_) (parrelref14_Stage_Put_b1 s t g l ) (parrelref14_Stage_Put_e1 s t g l ) (by first | exact hN | (have := hN; simp only [List.length_nil] at this ⊢; omega)) ?_ ?_ ()
  · intro fuel_ i_ s_ hi_
    have hg_ : 0 ≤ (i_ : Int) ∧ (i_ : Int) < (((s.f_L).length : Nat) : Int) := by omega
    show parrelref14_Stage_Put_l1 s t g l  (fuel_ + 1) (i_ : Int) = _
    rw [parrelref14_Stage_Put_l1, if_pos (decide_eq_true (by omega))]
    repeat rw [if_pos hg_]
    have hinc_ : IntKind.wrap .i64 ((i_ : Int) + 1) = (((i_ + 1 : Nat)) : Int) := by rw [w64 (by omega) (by omega)]; rfl
    try rw [hinc_]
    first | rfl | (unfold parrelref14_Stage_Put_b1; simp only [hinc_]) | (unfold parrelref14_Stage_Put_b1; simp only [hinc_]; rfl)
  · intro fuel_ s_
    show parrelref14_Stage_Put_l1 s t g l  (fuel_ + 1) (((s.f_L).length : Nat) : Int) = _
    rw [parrelref14_Stage_Put_l1, if_neg (by rw [decide_eq_true_eq]; omega)]
    rfl

def parrelref14_Stage_Put_b0 (s : T_parrelref14_Stage)  (a_ : T_api_Write) (s_ : Unit) (k_ : (Unit) → Option ((Int) × (List (T_parrelref14_One)))) : Option ((Int) × (List (T_parrelref14_One))) :=
  (parrelref14_Stage_Owner s a_.f_Key).bind fun yL0_4 =>
  if (yL0_4.2 : Bool) then
    some (11, s.f_L)
  else
    k_ ()

def parrelref14_Stage_Put_e0 (s : T_parrelref14_Stage) (t : T_api_Tx) (g : T_api_Reg) (l : List (T_api_Write))  (s_ : Unit) : Option ((Int) × (List (T_parrelref14_One))) :=
  if ((decide (64 ≤ ((s.f_L).length : Int))) : Bool) then
    some (5, s.f_L)
  else
    parrelref14_Stage_Put_l1 s t g l  big 0

theorem parrelref14_Stage_Put_w0 (s : T_parrelref14_Stage) (t : T_api_Tx) (g : T_api_Reg) (l : List (T_api_Write))   (hN : (l).length < 9223372036854775807) :
    parrelref14_Stage_Put_l0 s t g l  big 0 = walkL (parrelref14_Stage_Put_b0 s ) (parrelref14_Stage_Put_e0 s t g l ) l () := by
  refine loopL l (fun fuel_ t_ s_ => parrelref14_Stage_Put_l0 s t g l  fuel_ t_) (parrelref14_Stage_Put_b0 s ) (parrelref14_Stage_Put_e0 s t g l ) (by first | exact hN | (have := hN; simp only [List.length_nil] at this ⊢; omega)) ?_ ?_ ()
  · intro fuel_ i_ s_ hi_
    have hg_ : 0 ≤ (i_ : Int) ∧ (i_ : Int) < (((l).length : Nat) : Int) := by omega
    show parrelref14_Stage_Put_l0 s t g l  (fuel_ + 1) (i_ : Int) = _
    rw [parrelref14_Stage_Put_l0, if_pos (decide_eq_true (by omega))]
    repeat rw [if_pos hg_]
    have hinc_ : IntKind.wrap .i64 ((i_ : Int) + 1) = (((i_ + 1 : Nat)) : Int) := by rw [w64 (by omega) (by omega)]; rfl
    try rw [hinc_]
    first | rfl | (unfold parrelref14_Stage_Put_b0; simp only [hinc_]) | (unfold parrelref14_Stage_Put_b0; simp only [hinc_]; rfl)
  · intro fuel_ s_
    show parrelref14_Stage_Put_l0 s t g l  (fuel_ + 1) (((l).length : Nat) : Int) = _
    rw [parrelref14_Stage_Put_l0, if_neg (by rw [decide_eq_true_eq]; omega)]
    rfl

theorem parrellaw14_StagePlays_l1_k (t38 : Int) (y7 : (List (T_parrellaw14_Act)))  (k k' : (Int) → (List (T_parrelref14_One)) → (List (T_api_Tx × T_stage_prepared)) → (List (A8 (Int) × T_api_Tx)) → Option ((Bool))) (h : ∀ L_ m_ m2_, k (IntKind.wrap .i64 (t38 + 1)) L_ m_ m2_ = k' (IntKind.wrap .i64 (t38 + 1)) L_ m_ m2_) : ∀ fuel t121 L2 m3 m4, parrellaw14_StagePlays_l1 t38 y7 k fuel t121 L2 m3 m4 = parrellaw14_StagePlays_l1 t38 y7 k' fuel t121 L2 m3 m4 := by
  intro fuel
  induction fuel with
  | zero => intros; rfl
  | succ fuel ih => intros; simp only [parrellaw14_StagePlays_l1, ih, h]

def parrellaw14_StagePlays_b1 (t38 : Int) (y7 : (List (T_parrellaw14_Act))) (k0 : ((List (T_parrelref14_One)) × (List (T_api_Tx × T_stage_prepared)) × (List (A8 (Int) × T_api_Tx))) → Option ((Bool))) (t121 : Nat) (s_ : (List (T_parrelref14_One)) × (List (T_api_Tx × T_stage_prepared)) × (List (A8 (Int) × T_api_Tx))) (k_ : ((List (T_parrelref14_One)) × (List (T_api_Tx × T_stage_prepared)) × (List (A8 (Int) × T_api_Tx))) → Option ((Bool))) : Option ((Bool)) :=
  (stage_Stage_Owner s_.2.1 s_.2.2 ((y7.getD t38.toNat default).f_Writes.getD t121 default).f_Key).bind fun yL1_4 =>
  (parrelref14_Stage_Owner (T_parrelref14_Stage.mk s_.1) ((y7.getD t38.toNat default).f_Writes.getD t121 default).f_Key).bind fun yL1_6 =>
  if ((!decide (yL1_4.1 = yL1_6.1)) : Bool) then
    some false
  else
    if ((!(yL1_4.2 == yL1_6.2)) : Bool) then
      some false
    else
      k_ ((T_parrelref14_Stage.mk s_.1).f_L, s_.2.1, s_.2.2)

def parrellaw14_StagePlays_e1  (k0 : ((List (T_parrelref14_One)) × (List (T_api_Tx × T_stage_prepared)) × (List (A8 (Int) × T_api_Tx))) → Option ((Bool))) (s_ : (List (T_parrelref14_One)) × (List (T_api_Tx × T_stage_prepared)) × (List (A8 (Int) × T_api_Tx))) : Option ((Bool)) :=
  k0 (s_.1, s_.2.1, s_.2.2)

theorem parrellaw14_StagePlays_w1 (t38 : Int) (y7 : (List (T_parrellaw14_Act))) (k0 : (Int) → (List (T_parrelref14_One)) → (List (T_api_Tx × T_stage_prepared)) → (List (A8 (Int) × T_api_Tx)) → Option ((Bool))) (L2 : List (T_parrelref14_One)) (m3 : List (T_api_Tx × T_stage_prepared)) (m4 : List (A8 (Int) × T_api_Tx)) (hN : ((y7.getD t38.toNat default).f_Writes).length < 9223372036854775807) :
    parrellaw14_StagePlays_l1 t38 y7 k0 big 0 L2 m3 m4 = walkN (parrellaw14_StagePlays_b1 t38 y7 (fun s_ => k0 (IntKind.wrap .i64 (t38 + 1)) s_.1 s_.2.1 s_.2.2)) (parrellaw14_StagePlays_e1  (fun s_ => k0 (IntKind.wrap .i64 (t38 + 1)) s_.1 s_.2.1 s_.2.2)) ((y7.getD t38.toNat default).f_Writes).length 0 (L2, m3, m4) := by
  refine loopN ((y7.getD t38.toNat default).f_Writes).length (fun fuel_ t_ s_ => parrellaw14_StagePlays_l1 t38 y7 k0 fuel_ t_ s_.1 s_.2.1 s_.2.2) (parrellaw14_StagePlays_b1 t38 y7 (fun s_ => k0 (IntKind.wrap .i64 (t38 + 1)) s_.1 s_.2.1 s_.2.2)) (parrellaw14_StagePlays_e1  (fun s_ => k0 (IntKind.wrap .i64 (t38 + 1)) s_.1 s_.2.1 s_.2.2)) (by first | exact hN | (have := hN; simp only [List.length_nil] at this ⊢; omega)) ?_ ?_ (L2, m3, m4)
  · intro fuel_ i_ s_ hi_
    have hg_ : 0 ≤ (i_ : Int) ∧ (i_ : Int) < ((((y7.getD t38.toNat default).f_Writes).length : Nat) : Int) := by omega
    show parrellaw14_StagePlays_l1 t38 y7 k0 (fuel_ + 1) (i_ : Int) s_.1 s_.2.1 s_.2.2 = _
    rw [parrellaw14_StagePlays_l1, if_pos (decide_eq_true (by omega))]
    repeat rw [if_pos hg_]
    have hinc_ : IntKind.wrap .i64 ((i_ : Int) + 1) = (((i_ + 1 : Nat)) : Int) := by rw [w64 (by omega) (by omega)]; rfl
    try rw [hinc_]
    first | rfl | (unfold parrellaw14_StagePlays_b1; simp only [hinc_]) | (unfold parrellaw14_StagePlays_b1; simp only [hinc_]; rfl)
  · intro fuel_ s_
    show parrellaw14_StagePlays_l1 t38 y7 k0 (fuel_ + 1) ((((y7.getD t38.toNat default).f_Writes).length : Nat) : Int) s_.1 s_.2.1 s_.2.2 = _
    rw [parrellaw14_StagePlays_l1, if_neg (by rw [decide_eq_true_eq]; omega)]
    rfl

def parrellaw14_StagePlays_b0 (y7 : (List (T_parrellaw14_Act)))  (t38 : Nat) (s_ : (List (T_parrelref14_One)) × (List (T_api_Tx × T_stage_prepared)) × (List (A8 (Int) × T_api_Tx))) (k_ : ((List (T_parrelref14_One)) × (List (T_api_Tx × T_stage_prepared)) × (List (A8 (Int) × T_api_Tx))) → Option ((Bool))) : Option ((Bool)) :=
  if ((y7.getD t38 default).f_Take : Bool) then
    (stage_Stage_Take s_.2.1 s_.2.2 (y7.getD t38 default).f_Tx).bind fun yL0_5 =>
    (parrelref14_Stage_Take (T_parrelref14_Stage.mk s_.1) (y7.getD t38 default).f_Tx).bind fun yL0_7 =>
    (parrelref10_SameWrites yL0_5.1 yL0_7.1).bind fun yL0_9 =>
    if ((!yL0_9) : Bool) then
      some false
    else
      if ((yL0_5.2.1 != yL0_7.2.1) : Bool) then
        some false
      else
        (stage_Stage_Writes yL0_5.2.2.1 yL0_5.2.2.2 (y7.getD t38 default).f_Tx).bind fun yL0_13 =>
        (parrelref14_Stage_Writes (T_parrelref14_Stage.mk yL0_7.2.2) (y7.getD t38 default).f_Tx).bind fun yL0_15 =>
        (parrelref10_SameWrites yL0_13.1 yL0_15.1).bind fun yL0_17 =>
        if ((!yL0_17) : Bool) then
          some false
        else
          if ((!decide (yL0_13.2.1 = yL0_15.2.1)) : Bool) then
            some false
          else
            if ((!(yL0_13.2.2 == yL0_15.2.2)) : Bool) then
              some false
            else
              (stage_Stage_All yL0_5.2.2.1 yL0_5.2.2.2).bind fun yL0_22 =>
              (parrelref14_Stage_All (T_parrelref14_Stage.mk yL0_7.2.2)).bind fun yL0_24 =>
              (parrelref05_Same yL0_22 yL0_24).bind fun yL0_26 =>
              if ((!yL0_26) : Bool) then
                some false
              else
                parrellaw14_StagePlays_l1 (t38 : Int) y7 (fun _ L_ m_ m2_ => k_ (L_, m_, m2_)) big 0 (T_parrelref14_Stage.mk yL0_7.2.2).f_L yL0_5.2.2.1 yL0_5.2.2.2
  else
    (stage_Stage_Put s_.2.1 s_.2.2 (y7.getD t38 default).f_Tx (y7.getD t38 default).f_Reg (y7.getD t38 default).f_Writes).bind fun yL0_5 =>
    (parrelref14_Stage_Put (T_parrelref14_Stage.mk s_.1) (y7.getD t38 default).f_Tx (y7.getD t38 default).f_Reg (y7.getD t38 default).f_Writes).bind fun yL0_7 =>
    if ((yL0_5.1 != yL0_7.1) : Bool) then
      some false
    else
      (stage_Stage_Writes yL0_5.2.1 yL0_5.2.2 (y7.getD t38 default).f_Tx).bind fun yL0_10 =>
      (parrelref14_Stage_Writes (T_parrelref14_Stage.mk yL0_7.2) (y7.getD t38 default).f_Tx).bind fun yL0_12 =>
      (parrelref10_SameWrites yL0_10.1 yL0_12.1).bind fun yL0_14 =>
      if ((!yL0_14) : Bool) then
        some false
      else
        if ((!decide (yL0_10.2.1 = yL0_12.2.1)) : Bool) then
          some false
        else
          if ((!(yL0_10.2.2 == yL0_12.2.2)) : Bool) then
            some false
          else
            (stage_Stage_All yL0_5.2.1 yL0_5.2.2).bind fun yL0_19 =>
            (parrelref14_Stage_All (T_parrelref14_Stage.mk yL0_7.2)).bind fun yL0_21 =>
            (parrelref05_Same yL0_19 yL0_21).bind fun yL0_23 =>
            if ((!yL0_23) : Bool) then
              some false
            else
              parrellaw14_StagePlays_l1 (t38 : Int) y7 (fun _ L_ m_ m2_ => k_ (L_, m_, m2_)) big 0 (T_parrelref14_Stage.mk yL0_7.2).f_L yL0_5.2.1 yL0_5.2.2

def parrellaw14_StagePlays_e0   (s_ : (List (T_parrelref14_One)) × (List (T_api_Tx × T_stage_prepared)) × (List (A8 (Int) × T_api_Tx))) : Option ((Bool)) :=
  (parrellaw14_alive).bind fun yL0_3 =>
  some yL0_3

theorem parrellaw14_StagePlays_w0 (y7 : (List (T_parrellaw14_Act)))  (L : List (T_parrelref14_One)) (m : List (T_api_Tx × T_stage_prepared)) (m2 : List (A8 (Int) × T_api_Tx)) (hN : (y7).length < 9223372036854775807) :
    parrellaw14_StagePlays_l0 y7  big 0 L m m2 = walkN (parrellaw14_StagePlays_b0 y7 ) (parrellaw14_StagePlays_e0  ) (y7).length 0 (L, m, m2) := by
  refine loopN (y7).length (fun fuel_ t_ s_ => parrellaw14_StagePlays_l0 y7  fuel_ t_ s_.1 s_.2.1 s_.2.2) (parrellaw14_StagePlays_b0 y7 ) (parrellaw14_StagePlays_e0  ) (by first | exact hN | (have := hN; simp only [List.length_nil] at this ⊢; omega)) ?_ ?_ (L, m, m2)
  · intro fuel_ i_ s_ hi_
    have hg_ : 0 ≤ (i_ : Int) ∧ (i_ : Int) < (((y7).length : Nat) : Int) := by omega
    show parrellaw14_StagePlays_l0 y7  (fuel_ + 1) (i_ : Int) s_.1 s_.2.1 s_.2.2 = _
    rw [parrellaw14_StagePlays_l0, if_pos (decide_eq_true (by omega))]
    repeat rw [if_pos hg_]
    have hinc_ : IntKind.wrap .i64 ((i_ : Int) + 1) = (((i_ + 1 : Nat)) : Int) := by rw [w64 (by omega) (by omega)]; rfl
    simp only [parrellaw14_StagePlays_l1_k (i_ : Int) _  (parrellaw14_StagePlays_l0 y7  fuel_) (fun _ L_ m_ m2_ => parrellaw14_StagePlays_l0 y7  fuel_ (((i_ + 1 : Nat)) : Int) L_ m_ m2_) (fun L_ m_ m2_ => by first | rfl | rw [hinc_])]
    try rw [hinc_]
    first | rfl | (unfold parrellaw14_StagePlays_b0; simp only [hinc_]) | (unfold parrellaw14_StagePlays_b0; simp only [hinc_]; rfl)
  · intro fuel_ s_
    show parrellaw14_StagePlays_l0 y7  (fuel_ + 1) (((y7).length : Nat) : Int) s_.1 s_.2.1 s_.2.2 = _
    rw [parrellaw14_StagePlays_l0, if_neg (by rw [decide_eq_true_eq]; omega)]
    rfl

theorem parrellaw14_StageOwners_l2_k (script : List (T_parrellaw14_Act)) (m : List (T_api_Tx × T_stage_prepared)) (m2 : List (A8 (Int) × T_api_Tx)) (t60 : Int) (yL0_3 : (List (T_api_Tx))) (yL1_4 : (List (T_api_Write)) × (T_api_Reg) × (Bool))  (k k' : (Int) → (List (A8 (Int) × Bool)) → Option ((Bool))) (h : ∀ m3_, k (IntKind.wrap .i64 (t60 + 1)) m3_ = k' (IntKind.wrap .i64 (t60 + 1)) m3_) : ∀ fuel t80 m4, parrellaw14_StageOwners_l2 script m m2 t60 yL0_3 yL1_4 k fuel t80 m4 = parrellaw14_StageOwners_l2 script m m2 t60 yL0_3 yL1_4 k' fuel t80 m4 := by
  intro fuel
  induction fuel with
  | zero => intros; rfl
  | succ fuel ih => intros; simp only [parrellaw14_StageOwners_l2, ih, h]

def parrellaw14_StageOwners_b2 (m : List (T_api_Tx × T_stage_prepared)) (m2 : List (A8 (Int) × T_api_Tx)) (t60 : Int) (yL0_3 : (List (T_api_Tx))) (yL1_4 : (List (T_api_Write)) × (T_api_Reg) × (Bool)) (k1 : ((List (A8 (Int) × Bool))) → Option ((Bool))) (t80 : Nat) (s_ : (List (A8 (Int) × Bool))) (k_ : ((List (A8 (Int) × Bool))) → Option ((Bool))) : Option ((Bool)) :=
  (stage_Stage_Owner m m2 (yL1_4.1.getD t80 default).f_Key).bind fun yL2_4 =>
  if (((mget s_ (yL1_4.1.getD t80 default).f_Key).getD default) : Bool) then
    some false
  else
    if ((!yL2_4.2) : Bool) then
      some false
    else
      if ((!decide (yL2_4.1 = (yL0_3.getD t60.toNat default))) : Bool) then
        some false
      else
        k_ (mset s_ (yL1_4.1.getD t80 default).f_Key true)

def parrellaw14_StageOwners_e2  (k1 : ((List (A8 (Int) × Bool))) → Option ((Bool))) (s_ : (List (A8 (Int) × Bool))) : Option ((Bool)) :=
  k1 s_

theorem parrellaw14_StageOwners_w2 (script : List (T_parrellaw14_Act)) (m : List (T_api_Tx × T_stage_prepared)) (m2 : List (A8 (Int) × T_api_Tx)) (t60 : Int) (yL0_3 : (List (T_api_Tx))) (yL1_4 : (List (T_api_Write)) × (T_api_Reg) × (Bool)) (k1 : (Int) → (List (A8 (Int) × Bool)) → Option ((Bool))) (m4 : List (A8 (Int) × Bool)) (hN : (yL1_4.1).length < 9223372036854775807) :
    parrellaw14_StageOwners_l2 script m m2 t60 yL0_3 yL1_4 k1 big 0 m4 = walkN (parrellaw14_StageOwners_b2 m m2 t60 yL0_3 yL1_4 (fun s_ => k1 (IntKind.wrap .i64 (t60 + 1)) s_)) (parrellaw14_StageOwners_e2  (fun s_ => k1 (IntKind.wrap .i64 (t60 + 1)) s_)) (yL1_4.1).length 0 m4 := by
  refine loopN (yL1_4.1).length (fun fuel_ t_ s_ => parrellaw14_StageOwners_l2 script m m2 t60 yL0_3 yL1_4 k1 fuel_ t_ s_) (parrellaw14_StageOwners_b2 m m2 t60 yL0_3 yL1_4 (fun s_ => k1 (IntKind.wrap .i64 (t60 + 1)) s_)) (parrellaw14_StageOwners_e2  (fun s_ => k1 (IntKind.wrap .i64 (t60 + 1)) s_)) (by first | exact hN | (have := hN; simp only [List.length_nil] at this ⊢; omega)) ?_ ?_ m4
  · intro fuel_ i_ s_ hi_
    have hg_ : 0 ≤ (i_ : Int) ∧ (i_ : Int) < (((yL1_4.1).length : Nat) : Int) := by omega
    show parrellaw14_StageOwners_l2 script m m2 t60 yL0_3 yL1_4 k1 (fuel_ + 1) (i_ : Int) s_ = _
    rw [parrellaw14_StageOwners_l2, if_pos (decide_eq_true (by omega))]
    repeat rw [if_pos hg_]
    have hinc_ : IntKind.wrap .i64 ((i_ : Int) + 1) = (((i_ + 1 : Nat)) : Int) := by rw [w64 (by omega) (by omega)]; rfl
    try rw [hinc_]
    first | rfl | (unfold parrellaw14_StageOwners_b2; simp only [hinc_]) | (unfold parrellaw14_StageOwners_b2; simp only [hinc_]; rfl)
  · intro fuel_ s_
    show parrellaw14_StageOwners_l2 script m m2 t60 yL0_3 yL1_4 k1 (fuel_ + 1) (((yL1_4.1).length : Nat) : Int) s_ = _
    rw [parrellaw14_StageOwners_l2, if_neg (by rw [decide_eq_true_eq]; omega)]
    rfl

theorem parrellaw14_StageOwners_l4_k (m : List (T_api_Tx × T_stage_prepared)) (m2 : List (A8 (Int) × T_api_Tx)) (m3 : List (A8 (Int) × Bool)) (t112 : Int) (yL1_3 : (List (T_parrellaw14_Act)))  (k k' : (Int) → Option ((Bool))) (h : k (IntKind.wrap .i64 (t112 + 1)) = k' (IntKind.wrap .i64 (t112 + 1))) : ∀ fuel t119, parrellaw14_StageOwners_l4 m m2 m3 t112 yL1_3 k fuel t119 = parrellaw14_StageOwners_l4 m m2 m3 t112 yL1_3 k' fuel t119 := by
  intro fuel
  induction fuel with
  | zero => intros; rfl
  | succ fuel ih => intros; simp only [parrellaw14_StageOwners_l4, ih, h]

def parrellaw14_StageOwners_b4 (m : List (T_api_Tx × T_stage_prepared)) (m2 : List (A8 (Int) × T_api_Tx)) (m3 : List (A8 (Int) × Bool)) (t112 : Int) (yL1_3 : (List (T_parrellaw14_Act))) (k3 : (Unit) → Option ((Bool))) (t119 : Nat) (s_ : Unit) (k_ : (Unit) → Option ((Bool))) : Option ((Bool)) :=
  (stage_Stage_Owner m m2 ((yL1_3.getD t112.toNat default).f_Writes.getD t119 default).f_Key).bind fun yL4_4 =>
  if ((!(yL4_4.2 == ((mget m3 ((yL1_3.getD t112.toNat default).f_Writes.getD t119 default).f_Key).getD default))) : Bool) then
    some false
  else
    k_ ()

def parrellaw14_StageOwners_e4  (k3 : (Unit) → Option ((Bool))) (s_ : Unit) : Option ((Bool)) :=
  k3 ()

theorem parrellaw14_StageOwners_w4 (m : List (T_api_Tx × T_stage_prepared)) (m2 : List (A8 (Int) × T_api_Tx)) (m3 : List (A8 (Int) × Bool)) (t112 : Int) (yL1_3 : (List (T_parrellaw14_Act))) (k3 : (Int) → Option ((Bool)))  (hN : ((yL1_3.getD t112.toNat default).f_Writes).length < 9223372036854775807) :
    parrellaw14_StageOwners_l4 m m2 m3 t112 yL1_3 k3 big 0 = walkN (parrellaw14_StageOwners_b4 m m2 m3 t112 yL1_3 (fun s_ => k3 (IntKind.wrap .i64 (t112 + 1)))) (parrellaw14_StageOwners_e4  (fun s_ => k3 (IntKind.wrap .i64 (t112 + 1)))) ((yL1_3.getD t112.toNat default).f_Writes).length 0 () := by
  refine loopN ((yL1_3.getD t112.toNat default).f_Writes).length (fun fuel_ t_ s_ => parrellaw14_StageOwners_l4 m m2 m3 t112 yL1_3 k3 fuel_ t_) (parrellaw14_StageOwners_b4 m m2 m3 t112 yL1_3 (fun s_ => k3 (IntKind.wrap .i64 (t112 + 1)))) (parrellaw14_StageOwners_e4  (fun s_ => k3 (IntKind.wrap .i64 (t112 + 1)))) (by first | exact hN | (have := hN; simp only [List.length_nil] at this ⊢; omega)) ?_ ?_ ()
  · intro fuel_ i_ s_ hi_
    have hg_ : 0 ≤ (i_ : Int) ∧ (i_ : Int) < ((((yL1_3.getD t112.toNat default).f_Writes).length : Nat) : Int) := by omega
    show parrellaw14_StageOwners_l4 m m2 m3 t112 yL1_3 k3 (fuel_ + 1) (i_ : Int) = _
    rw [parrellaw14_StageOwners_l4, if_pos (decide_eq_true (by omega))]
    repeat rw [if_pos hg_]
    have hinc_ : IntKind.wrap .i64 ((i_ : Int) + 1) = (((i_ + 1 : Nat)) : Int) := by rw [w64 (by omega) (by omega)]; rfl
    try rw [hinc_]
    first | rfl | (unfold parrellaw14_StageOwners_b4; simp only [hinc_]) | (unfold parrellaw14_StageOwners_b4; simp only [hinc_]; rfl)
  · intro fuel_ s_
    show parrellaw14_StageOwners_l4 m m2 m3 t112 yL1_3 k3 (fuel_ + 1) ((((yL1_3.getD t112.toNat default).f_Writes).length : Nat) : Int) = _
    rw [parrellaw14_StageOwners_l4, if_neg (by rw [decide_eq_true_eq]; omega)]
    rfl

def parrellaw14_StageOwners_b3 (m : List (T_api_Tx × T_stage_prepared)) (m2 : List (A8 (Int) × T_api_Tx)) (m3 : List (A8 (Int) × Bool)) (yL1_3 : (List (T_parrellaw14_Act)))  (t112 : Nat) (s_ : Unit) (k_ : (Unit) → Option ((Bool))) : Option ((Bool)) :=
  parrellaw14_StageOwners_l4 m m2 m3 (t112 : Int) yL1_3 (fun _ => k_ ()) big 0

def parrellaw14_StageOwners_e3   (s_ : Unit) : Option ((Bool)) :=
  (parrellaw14_alive).bind fun yL3_3 =>
  some yL3_3

theorem parrellaw14_StageOwners_w3 (m : List (T_api_Tx × T_stage_prepared)) (m2 : List (A8 (Int) × T_api_Tx)) (m3 : List (A8 (Int) × Bool)) (yL1_3 : (List (T_parrellaw14_Act)))   (hN : (yL1_3).length < 9223372036854775807) :
    parrellaw14_StageOwners_l3 m m2 m3 yL1_3  big 0 = walkN (parrellaw14_StageOwners_b3 m m2 m3 yL1_3 ) (parrellaw14_StageOwners_e3  ) (yL1_3).length 0 () := by
  refine loopN (yL1_3).length (fun fuel_ t_ s_ => parrellaw14_StageOwners_l3 m m2 m3 yL1_3  fuel_ t_) (parrellaw14_StageOwners_b3 m m2 m3 yL1_3 ) (parrellaw14_StageOwners_e3  ) (by first | exact hN | (have := hN; simp only [List.length_nil] at this ⊢; omega)) ?_ ?_ ()
  · intro fuel_ i_ s_ hi_
    have hg_ : 0 ≤ (i_ : Int) ∧ (i_ : Int) < (((yL1_3).length : Nat) : Int) := by omega
    show parrellaw14_StageOwners_l3 m m2 m3 yL1_3  (fuel_ + 1) (i_ : Int) = _
    rw [parrellaw14_StageOwners_l3, if_pos (decide_eq_true (by omega))]
    repeat rw [if_pos hg_]
    have hinc_ : IntKind.wrap .i64 ((i_ : Int) + 1) = (((i_ + 1 : Nat)) : Int) := by rw [w64 (by omega) (by omega)]; rfl
    simp only [parrellaw14_StageOwners_l4_k _ _ _ (i_ : Int) _  (parrellaw14_StageOwners_l3 m m2 m3 yL1_3  fuel_) (fun _ => parrellaw14_StageOwners_l3 m m2 m3 yL1_3  fuel_ (((i_ + 1 : Nat)) : Int)) (by first | rfl | rw [hinc_])]
    try rw [hinc_]
    first | rfl | (unfold parrellaw14_StageOwners_b3; simp only [hinc_]) | (unfold parrellaw14_StageOwners_b3; simp only [hinc_]; rfl)
  · intro fuel_ s_
    show parrellaw14_StageOwners_l3 m m2 m3 yL1_3  (fuel_ + 1) (((yL1_3).length : Nat) : Int) = _
    rw [parrellaw14_StageOwners_l3, if_neg (by rw [decide_eq_true_eq]; omega)]
    rfl

def parrellaw14_StageOwners_b1 (script : List (T_parrellaw14_Act)) (m : List (T_api_Tx × T_stage_prepared)) (m2 : List (A8 (Int) × T_api_Tx)) (yL0_3 : (List (T_api_Tx)))  (t60 : Nat) (s_ : (List (A8 (Int) × Bool))) (k_ : ((List (A8 (Int) × Bool))) → Option ((Bool))) : Option ((Bool)) :=
  (stage_Stage_Writes m m2 (yL0_3.getD t60 default)).bind fun yL1_4 =>
  if ((!yL1_4.2.2) : Bool) then
    some false
  else
    if ((((yL1_4.1).length : Int) == 0) : Bool) then
      some false
    else
      parrellaw14_StageOwners_l2 script m m2 (t60 : Int) yL0_3 yL1_4 (fun _ m3_ => k_ m3_) big 0 s_

def parrellaw14_StageOwners_e1 (script : List (T_parrellaw14_Act)) (m : List (T_api_Tx × T_stage_prepared)) (m2 : List (A8 (Int) × T_api_Tx))  (s_ : (List (A8 (Int) × Bool))) : Option ((Bool)) :=
  (parrellaw14_short script).bind fun yL1_3 =>
  parrellaw14_StageOwners_l3 m m2 s_ yL1_3  big 0

theorem parrellaw14_StageOwners_w1 (script : List (T_parrellaw14_Act)) (m : List (T_api_Tx × T_stage_prepared)) (m2 : List (A8 (Int) × T_api_Tx)) (yL0_3 : (List (T_api_Tx)))  (m3 : List (A8 (Int) × Bool)) (hN : (yL0_3).length < 9223372036854775807) :
    parrellaw14_StageOwners_l1 script m m2 yL0_3  big 0 m3 = walkN (parrellaw14_StageOwners_b1 script m m2 yL0_3 ) (parrellaw14_StageOwners_e1 script m m2 ) (yL0_3).length 0 m3 := by
  refine loopN (yL0_3).length (fun fuel_ t_ s_ => parrellaw14_StageOwners_l1 script m m2 yL0_3  fuel_ t_ s_) (parrellaw14_StageOwners_b1 script m m2 yL0_3 ) (parrellaw14_StageOwners_e1 script m m2 ) (by first | exact hN | (have := hN; simp only [List.length_nil] at this ⊢; omega)) ?_ ?_ m3
  · intro fuel_ i_ s_ hi_
    have hg_ : 0 ≤ (i_ : Int) ∧ (i_ : Int) < (((yL0_3).length : Nat) : Int) := by omega
    show parrellaw14_StageOwners_l1 script m m2 yL0_3  (fuel_ + 1) (i_ : Int) s_ = _
    rw [parrellaw14_StageOwners_l1, if_pos (decide_eq_true (by omega))]
    repeat rw [if_pos hg_]
    have hinc_ : IntKind.wrap .i64 ((i_ : Int) + 1) = (((i_ + 1 : Nat)) : Int) := by rw [w64 (by omega) (by omega)]; rfl
    simp only [parrellaw14_StageOwners_l2_k _ _ _ (i_ : Int) _ _  (parrellaw14_StageOwners_l1 script m m2 yL0_3  fuel_) (fun _ m3_ => parrellaw14_StageOwners_l1 script m m2 yL0_3  fuel_ (((i_ + 1 : Nat)) : Int) m3_) (fun m3_ => by first | rfl | rw [hinc_])]
    try rw [hinc_]
    first | rfl | (unfold parrellaw14_StageOwners_b1; simp only [hinc_]) | (unfold parrellaw14_StageOwners_b1; simp only [hinc_]; rfl)
  · intro fuel_ s_
    show parrellaw14_StageOwners_l1 script m m2 yL0_3  (fuel_ + 1) (((yL0_3).length : Nat) : Int) s_ = _
    rw [parrellaw14_StageOwners_l1, if_neg (by rw [decide_eq_true_eq]; omega)]
    rfl

def parrellaw14_StageOwners_b0 (y7 : (List (T_parrellaw14_Act)))  (t37 : Nat) (s_ : (List (T_api_Tx × T_stage_prepared)) × (List (A8 (Int) × T_api_Tx))) (k_ : ((List (T_api_Tx × T_stage_prepared)) × (List (A8 (Int) × T_api_Tx))) → Option ((Bool))) : Option ((Bool)) :=
  if ((y7.getD t37 default).f_Take : Bool) then
    (stage_Stage_Take s_.1 s_.2 (y7.getD t37 default).f_Tx).bind fun yL0_5 =>
    k_ (yL0_5.2.2.1, yL0_5.2.2.2)
  else
    (stage_Stage_Put s_.1 s_.2 (y7.getD t37 default).f_Tx (y7.getD t37 default).f_Reg (y7.getD t37 default).f_Writes).bind fun yL0_5 =>
    k_ (yL0_5.2.1, yL0_5.2.2)

def parrellaw14_StageOwners_e0 (script : List (T_parrellaw14_Act))  (s_ : (List (T_api_Tx × T_stage_prepared)) × (List (A8 (Int) × T_api_Tx))) : Option ((Bool)) :=
  (stage_Stage_All s_.1 s_.2).bind fun yL0_3 =>
  parrellaw14_StageOwners_l1 script s_.1 s_.2 yL0_3  big 0 ([] : List (A8 (Int) × Bool))

theorem parrellaw14_StageOwners_w0 (script : List (T_parrellaw14_Act)) (y7 : (List (T_parrellaw14_Act)))  (m : List (T_api_Tx × T_stage_prepared)) (m2 : List (A8 (Int) × T_api_Tx)) (hN : (y7).length < 9223372036854775807) :
    parrellaw14_StageOwners_l0 script y7  big 0 m m2 = walkN (parrellaw14_StageOwners_b0 y7 ) (parrellaw14_StageOwners_e0 script ) (y7).length 0 (m, m2) := by
  refine loopN (y7).length (fun fuel_ t_ s_ => parrellaw14_StageOwners_l0 script y7  fuel_ t_ s_.1 s_.2) (parrellaw14_StageOwners_b0 y7 ) (parrellaw14_StageOwners_e0 script ) (by first | exact hN | (have := hN; simp only [List.length_nil] at this ⊢; omega)) ?_ ?_ (m, m2)
  · intro fuel_ i_ s_ hi_
    have hg_ : 0 ≤ (i_ : Int) ∧ (i_ : Int) < (((y7).length : Nat) : Int) := by omega
    show parrellaw14_StageOwners_l0 script y7  (fuel_ + 1) (i_ : Int) s_.1 s_.2 = _
    rw [parrellaw14_StageOwners_l0, if_pos (decide_eq_true (by omega))]
    repeat rw [if_pos hg_]
    have hinc_ : IntKind.wrap .i64 ((i_ : Int) + 1) = (((i_ + 1 : Nat)) : Int) := by rw [w64 (by omega) (by omega)]; rfl
    try rw [hinc_]
    first | rfl | (unfold parrellaw14_StageOwners_b0; simp only [hinc_]) | (unfold parrellaw14_StageOwners_b0; simp only [hinc_]; rfl)
  · intro fuel_ s_
    show parrellaw14_StageOwners_l0 script y7  (fuel_ + 1) (((y7).length : Nat) : Int) s_.1 s_.2 = _
    rw [parrellaw14_StageOwners_l0, if_neg (by rw [decide_eq_true_eq]; omega)]
    rfl

end
end Go.Proofs.YtfjdnnoflmpdeaaDoor.Wk
