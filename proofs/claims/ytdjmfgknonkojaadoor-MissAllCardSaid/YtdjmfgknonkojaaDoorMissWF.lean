/- Printed by tr.py: counting loops as walks over lists and over numbers. -/
import Derived.Test.YtdjmfgknonkojaaDoorMissW
import Derived.Test.YtdjmfgknonkojaaDoorCnX
namespace Go.Proofs.YtdjmfgknonkojaaDoor.Wk
open Go Go.Cn
set_option maxRecDepth 100000
set_option maxHeartbeats 4000000
set_option linter.unusedVariables false
set_option linter.unusedSimpArgs false
noncomputable section
def parrellaw20_far_b1   (a_ : T_api_Write) (s_ : (Int)) (k_ : ((Int)) → Option ((Bool))) : Option ((Bool)) :=
  k_ (IntKind.wrap .i64 (s_ + (if 10000 < ((a_.f_Item.f_Value).length : Int) then 10000 else ((a_.f_Item.f_Value).length : Int))))

def parrellaw20_far_e1 (l : List (T_parrelref20_Lock)) (x_w : List (T_api_Write))  (s_ : (Int)) : Option ((Bool)) :=
  if ((decide (30 < ((l).length : Int))) : Bool) then
    some true
  else
    if ((decide (30 < ((x_w).length : Int))) : Bool) then
      some true
    else
      some (decide (10000 < s_))

theorem parrellaw20_far_w1 (l : List (T_parrelref20_Lock)) (x_w : List (T_api_Write))  (x_n2 : Int) (hN : ((x_w.take ((if 30 < ((x_w).length : Int) then 30 else ((x_w).length : Int))).toNat)).length < 9223372036854775807) :
    parrellaw20_far_l1 l x_w  big x_n2 0 = walkL (parrellaw20_far_b1  ) (parrellaw20_far_e1 l x_w ) (x_w.take ((if 30 < ((x_w).length : Int) then 30 else ((x_w).length : Int))).toNat) x_n2 := by
  refine loopL (x_w.take ((if 30 < ((x_w).length : Int) then 30 else ((x_w).length : Int))).toNat) (fun fuel_ t_ s_ => parrellaw20_far_l1 l x_w  fuel_ s_ t_) (parrellaw20_far_b1  ) (parrellaw20_far_e1 l x_w ) (by first | exact hN | (have := hN; simp only [List.length_nil] at this ⊢; omega)) ?_ ?_ x_n2
  · intro fuel_ i_ s_ hi_
    have hg_ : 0 ≤ (i_ : Int) ∧ (i_ : Int) < ((((x_w.take ((if 30 < ((x_w).length : Int) then 30 else ((x_w).length : Int))).toNat)).length : Nat) : Int) := by omega
    show parrellaw20_far_l1 l x_w  (fuel_ + 1) s_ (i_ : Int) = _
    rw [parrellaw20_far_l1, if_pos (decide_eq_true (by omega))]
    repeat rw [if_pos hg_]
    have hinc_ : IntKind.wrap .i64 ((i_ : Int) + 1) = (((i_ + 1 : Nat)) : Int) := by rw [w64 (by omega) (by omega)]; rfl
    try rw [hinc_]
    first | rfl | (unfold parrellaw20_far_b1; simp only [hinc_]; done) | (unfold parrellaw20_far_b1; simp only [hinc_]; rfl)
  · intro fuel_ s_
    show parrellaw20_far_l1 l x_w  (fuel_ + 1) s_ ((((x_w.take ((if 30 < ((x_w).length : Int) then 30 else ((x_w).length : Int))).toNat)).length : Nat) : Int) = _
    rw [parrellaw20_far_l1, if_neg (by rw [decide_eq_true_eq]; omega)]
    rfl

def parrellaw20_far_b0   (a_ : T_parrelref20_Lock) (s_ : (Int)) (k_ : ((Int)) → Option ((Bool))) : Option ((Bool)) :=
  k_ (IntKind.wrap .i64 (s_ + ((a_.f_Got).length : Int)))

def parrellaw20_far_e0 (l : List (T_parrelref20_Lock)) (x_w : List (T_api_Write))  (s_ : (Int)) : Option ((Bool)) :=
  if 0 ≤ (0 : Int) ∧ 0 ≤ (if 30 < ((x_w).length : Int) then 30 else ((x_w).length : Int)) ∧ (if 30 < ((x_w).length : Int) then 30 else ((x_w).length : Int)) ≤ (((x_w).length : Nat) : Int) then
  parrellaw20_far_l1 l x_w  big s_ 0
  else none

theorem parrellaw20_far_w0 (l : List (T_parrelref20_Lock)) (x_w : List (T_api_Write))  (x_n : Int) (hN : ((l.take ((if 30 < ((l).length : Int) then 30 else ((l).length : Int))).toNat)).length < 9223372036854775807) :
    parrellaw20_far_l0 l x_w  big x_n 0 = walkL (parrellaw20_far_b0  ) (parrellaw20_far_e0 l x_w ) (l.take ((if 30 < ((l).length : Int) then 30 else ((l).length : Int))).toNat) x_n := by
  refine loopL (l.take ((if 30 < ((l).length : Int) then 30 else ((l).length : Int))).toNat) (fun fuel_ t_ s_ => parrellaw20_far_l0 l x_w  fuel_ s_ t_) (parrellaw20_far_b0  ) (parrellaw20_far_e0 l x_w ) (by first | exact hN | (have := hN; simp only [List.length_nil] at this ⊢; omega)) ?_ ?_ x_n
  · intro fuel_ i_ s_ hi_
    have hg_ : 0 ≤ (i_ : Int) ∧ (i_ : Int) < ((((l.take ((if 30 < ((l).length : Int) then 30 else ((l).length : Int))).toNat)).length : Nat) : Int) := by omega
    show parrellaw20_far_l0 l x_w  (fuel_ + 1) s_ (i_ : Int) = _
    rw [parrellaw20_far_l0, if_pos (decide_eq_true (by omega))]
    repeat rw [if_pos hg_]
    have hinc_ : IntKind.wrap .i64 ((i_ : Int) + 1) = (((i_ + 1 : Nat)) : Int) := by rw [w64 (by omega) (by omega)]; rfl
    try rw [hinc_]
    first | rfl | (unfold parrellaw20_far_b0; simp only [hinc_]; done) | (unfold parrellaw20_far_b0; simp only [hinc_]; rfl)
  · intro fuel_ s_
    show parrellaw20_far_l0 l x_w  (fuel_ + 1) s_ ((((l.take ((if 30 < ((l).length : Int) then 30 else ((l).length : Int))).toNat)).length : Nat) : Int) = _
    rw [parrellaw20_far_l0, if_neg (by rw [decide_eq_true_eq]; omega)]
    rfl

def slices_IndexFunc_gather_Got_gather_Got_b0 (s : List (T_gather_Got))  (t8 : Nat) (s_ : Unit) (k_ : (Unit) → Option ((Int))) : Option ((Int)) :=
  (miss_Lock_may_L1 (s.getD t8 default)).bind fun yL0_4 =>
  if (yL0_4 : Bool) then
    some (t8 : Int)
  else
    k_ ()

def slices_IndexFunc_gather_Got_gather_Got_e0   (s_ : Unit) : Option ((Int)) :=
  some (-1)

theorem slices_IndexFunc_gather_Got_gather_Got_w0 (s : List (T_gather_Got))   (hN : (s).length < 9223372036854775807) :
    slices_IndexFunc_gather_Got_gather_Got_l0 s  big 0 = walkN (slices_IndexFunc_gather_Got_gather_Got_b0 s ) (slices_IndexFunc_gather_Got_gather_Got_e0  ) (s).length 0 () := by
  refine loopN (s).length (fun fuel_ t_ s_ => slices_IndexFunc_gather_Got_gather_Got_l0 s  fuel_ t_) (slices_IndexFunc_gather_Got_gather_Got_b0 s ) (slices_IndexFunc_gather_Got_gather_Got_e0  ) (by first | exact hN | (have := hN; simp only [List.length_nil] at this ⊢; omega)) ?_ ?_ ()
  · intro fuel_ i_ s_ hi_
    have hg_ : 0 ≤ (i_ : Int) ∧ (i_ : Int) < (((s).length : Nat) : Int) := by omega
    show slices_IndexFunc_gather_Got_gather_Got_l0 s  (fuel_ + 1) (i_ : Int) = _
    rw [slices_IndexFunc_gather_Got_gather_Got_l0, if_pos (decide_eq_true (by omega))]
    repeat rw [if_pos hg_]
    have hinc_ : IntKind.wrap .i64 ((i_ : Int) + 1) = (((i_ + 1 : Nat)) : Int) := by rw [w64 (by omega) (by omega)]; rfl
    try rw [hinc_]
    first | rfl | (unfold slices_IndexFunc_gather_Got_gather_Got_b0; simp only [hinc_]; done) | (unfold slices_IndexFunc_gather_Got_gather_Got_b0; simp only [hinc_]; rfl)
  · intro fuel_ s_
    show slices_IndexFunc_gather_Got_gather_Got_l0 s  (fuel_ + 1) (((s).length : Nat) : Int) = _
    rw [slices_IndexFunc_gather_Got_gather_Got_l0, if_neg (by rw [decide_eq_true_eq]; omega)]
    rfl

def slices_IndexFunc_miss_Lock_miss_Lock_b0 (s : List (T_miss_Lock))  (t8 : Nat) (s_ : Unit) (k_ : (Unit) → Option ((Int))) : Option ((Int)) :=
  (miss_Plan_L1 (s.getD t8 default)).bind fun yL0_4 =>
  if (yL0_4 : Bool) then
    some (t8 : Int)
  else
    k_ ()

def slices_IndexFunc_miss_Lock_miss_Lock_e0   (s_ : Unit) : Option ((Int)) :=
  some (-1)

theorem slices_IndexFunc_miss_Lock_miss_Lock_w0 (s : List (T_miss_Lock))   (hN : (s).length < 9223372036854775807) :
    slices_IndexFunc_miss_Lock_miss_Lock_l0 s  big 0 = walkN (slices_IndexFunc_miss_Lock_miss_Lock_b0 s ) (slices_IndexFunc_miss_Lock_miss_Lock_e0  ) (s).length 0 () := by
  refine loopN (s).length (fun fuel_ t_ s_ => slices_IndexFunc_miss_Lock_miss_Lock_l0 s  fuel_ t_) (slices_IndexFunc_miss_Lock_miss_Lock_b0 s ) (slices_IndexFunc_miss_Lock_miss_Lock_e0  ) (by first | exact hN | (have := hN; simp only [List.length_nil] at this ⊢; omega)) ?_ ?_ ()
  · intro fuel_ i_ s_ hi_
    have hg_ : 0 ≤ (i_ : Int) ∧ (i_ : Int) < (((s).length : Nat) : Int) := by omega
    show slices_IndexFunc_miss_Lock_miss_Lock_l0 s  (fuel_ + 1) (i_ : Int) = _
    rw [slices_IndexFunc_miss_Lock_miss_Lock_l0, if_pos (decide_eq_true (by omega))]
    repeat rw [if_pos hg_]
    have hinc_ : IntKind.wrap .i64 ((i_ : Int) + 1) = (((i_ + 1 : Nat)) : Int) := by rw [w64 (by omega) (by omega)]; rfl
    try rw [hinc_]
    first | rfl | (unfold slices_IndexFunc_miss_Lock_miss_Lock_b0; simp only [hinc_]; done) | (unfold slices_IndexFunc_miss_Lock_miss_Lock_b0; simp only [hinc_]; rfl)
  · intro fuel_ s_
    show slices_IndexFunc_miss_Lock_miss_Lock_l0 s  (fuel_ + 1) (((s).length : Nat) : Int) = _
    rw [slices_IndexFunc_miss_Lock_miss_Lock_l0, if_neg (by rw [decide_eq_true_eq]; omega)]
    rfl

def votes_Of_b0 (c : T_api_Config) (set : Int)  (t10 : Nat) (s_ : (Int)) (k_ : ((Int)) → Option ((Int))) : Option ((Int)) :=
  if 0 ≤ (t10 : Int) then
  k_ (IntKind.wrap .i64 (s_ + (IntKind.wrap .i64 ((IntKind.wrap .i64 (A8.get c.f_Votes t10)) * (IntKind.wrap .i64 (IntKind.wrap .u64 ((BitVec.ofInt (IntKind.bits .u64) (Int.fdiv set (2 ^ (min (Int.toNat (t10 : Int)) (IntKind.bits .u64)))) &&& BitVec.ofInt (IntKind.bits .u64) 1).toNat : Int)))))))
  else none

def votes_Of_e0   (s_ : (Int)) : Option ((Int)) :=
  some s_

theorem votes_Of_w0 (c : T_api_Config) (set : Int)  (x_n : Int) (hN : 8 < 9223372036854775807) :
    votes_Of_l0 c set  big x_n 0 = walkN (votes_Of_b0 c set ) (votes_Of_e0  ) 8 0 x_n := by
  refine loopN 8 (fun fuel_ t_ s_ => votes_Of_l0 c set  fuel_ s_ t_) (votes_Of_b0 c set ) (votes_Of_e0  ) (by first | exact hN | (have := hN; simp only [List.length_nil] at this ⊢; omega)) ?_ ?_ x_n
  · intro fuel_ i_ s_ hi_
    have hg_ : 0 ≤ (i_ : Int) ∧ (i_ : Int) < 8 := by omega
    show votes_Of_l0 c set  (fuel_ + 1) s_ (i_ : Int) = _
    rw [votes_Of_l0, if_pos (decide_eq_true (by omega))]
    repeat rw [if_pos hg_]
    have hinc_ : IntKind.wrap .i64 ((i_ : Int) + 1) = (((i_ + 1 : Nat)) : Int) := by rw [w64 (by omega) (by omega)]; rfl
    try rw [hinc_]
    first | rfl | (unfold votes_Of_b0; simp only [hinc_]; done) | (unfold votes_Of_b0; simp only [hinc_]; rfl)
  · intro fuel_ s_
    show votes_Of_l0 c set  (fuel_ + 1) s_ ((8 : Nat) : Int) = _
    rw [votes_Of_l0, if_neg (by rw [decide_eq_true_eq]; omega)]
    rfl

def slices_Max_uint8_uint8_b0 (x : T_api_Config)  (i : Nat) (s_ : (Int)) (k_ : ((Int)) → Option ((Int))) : Option ((Int)) :=
  k_ (if (A8.get x.f_Votes i) > s_ then (A8.get x.f_Votes i) else s_)

def slices_Max_uint8_uint8_e0   (s_ : (Int)) : Option ((Int)) :=
  some s_

theorem slices_Max_uint8_uint8_ws0 (x : T_api_Config)  (m : Int) (st_ : Nat) (hst_ : st_ ≤ 8) (hN : 8 < 9223372036854775807) :
    slices_Max_uint8_uint8_l0 x  big m (st_ : Int) = walkN (slices_Max_uint8_uint8_b0 x ) (slices_Max_uint8_uint8_e0  ) (8 - st_) st_ m := by
  refine loopNs 8 st_ hst_ (fun fuel_ t_ s_ => slices_Max_uint8_uint8_l0 x  fuel_ s_ t_) (slices_Max_uint8_uint8_b0 x ) (slices_Max_uint8_uint8_e0  ) (by first | exact hN | (have := hN; simp only [List.length_nil] at this ⊢; omega)) ?_ ?_ m
  · intro fuel_ i_ s_ hi_
    have hg_ : 0 ≤ (i_ : Int) ∧ (i_ : Int) < 8 := by omega
    show slices_Max_uint8_uint8_l0 x  (fuel_ + 1) s_ (i_ : Int) = _
    rw [slices_Max_uint8_uint8_l0, if_pos (decide_eq_true (by omega))]
    repeat rw [if_pos hg_]
    have hinc_ : IntKind.wrap .i64 ((i_ : Int) + 1) = (((i_ + 1 : Nat)) : Int) := by rw [w64 (by omega) (by omega)]; rfl
    try rw [hinc_]
    first | rfl | (unfold slices_Max_uint8_uint8_b0; simp only [hinc_]; done) | (unfold slices_Max_uint8_uint8_b0; simp only [hinc_]; rfl)
  · intro fuel_ s_
    show slices_Max_uint8_uint8_l0 x  (fuel_ + 1) s_ ((8 : Nat) : Int) = _
    rw [slices_Max_uint8_uint8_l0, if_neg (by rw [decide_eq_true_eq]; omega)]
    rfl

def slices_Compare_byte_byte_b0 (s1 : A8 (Int)) (s2 : A8 (Int))  (t11 : Nat) (s_ : Unit) (k_ : (Unit) → Option ((Int))) : Option ((Int)) :=
  if ((decide (8 ≤ (t11 : Int))) : Bool) then
    some 1
  else
    (cmp_Compare_byte (A8.get s1 t11) (A8.get s2 t11)).bind fun yL0_5 =>
    if ((yL0_5 != 0) : Bool) then
      some yL0_5
    else
      k_ ()

def slices_Compare_byte_byte_e0   (s_ : Unit) : Option ((Int)) :=
  some 0

theorem slices_Compare_byte_byte_w0 (s1 : A8 (Int)) (s2 : A8 (Int))   (hN : 8 < 9223372036854775807) :
    slices_Compare_byte_byte_l0 s1 s2  big 0 = walkN (slices_Compare_byte_byte_b0 s1 s2 ) (slices_Compare_byte_byte_e0  ) 8 0 () := by
  refine loopN 8 (fun fuel_ t_ s_ => slices_Compare_byte_byte_l0 s1 s2  fuel_ t_) (slices_Compare_byte_byte_b0 s1 s2 ) (slices_Compare_byte_byte_e0  ) (by first | exact hN | (have := hN; simp only [List.length_nil] at this ⊢; omega)) ?_ ?_ ()
  · intro fuel_ i_ s_ hi_
    have hg_ : 0 ≤ (i_ : Int) ∧ (i_ : Int) < 8 := by omega
    show slices_Compare_byte_byte_l0 s1 s2  (fuel_ + 1) (i_ : Int) = _
    rw [slices_Compare_byte_byte_l0, if_pos (decide_eq_true (by omega))]
    repeat rw [if_pos hg_]
    have hinc_ : IntKind.wrap .i64 ((i_ : Int) + 1) = (((i_ + 1 : Nat)) : Int) := by rw [w64 (by omega) (by omega)]; rfl
    try rw [hinc_]
    first | rfl | (unfold slices_Compare_byte_byte_b0; simp only [hinc_]; done) | (unfold slices_Compare_byte_byte_b0; simp only [hinc_]; rfl)
  · intro fuel_ s_
    show slices_Compare_byte_byte_l0 s1 s2  (fuel_ + 1) ((8 : Nat) : Int) = _
    rw [slices_Compare_byte_byte_l0, if_neg (by rw [decide_eq_true_eq]; omega)]
    rfl

def msg_WritesMay_b0 (l : List (T_api_Write))  (t7 : Nat) (s_ : Unit) (k_ : (Unit) → Option ((Bool))) : Option ((Bool)) :=
  (msg_keyMay (l.getD t7 default).f_Key).bind fun yL0_4 =>
  if ((!yL0_4) : Bool) then
    some false
  else
    (msg_ItemMay (l.getD t7 default).f_Item).bind fun yL0_7 =>
    if ((!yL0_7) : Bool) then
      some false
    else
      if ((decide (0 < (t7 : Int))) : Bool) then
        if 0 ≤ (IntKind.wrap .i64 ((t7 : Int) - 1)) ∧ (IntKind.wrap .i64 ((t7 : Int) - 1)) < (((l).length : Nat) : Int) then
        (ids_Keys (l.getD ((IntKind.wrap .i64 ((t7 : Int) - 1))).toNat default).f_Key (l.getD t7 default).f_Key).bind fun yL0_12 =>
        if ((decide (0 ≤ yL0_12)) : Bool) then
          some false
        else
          k_ ()
        else none
      else
        k_ ()

def msg_WritesMay_e0 (l : List (T_api_Write))  (s_ : Unit) : Option ((Bool)) :=
  some (decide (((l).length : Int) ≤ 16))

theorem msg_WritesMay_w0 (l : List (T_api_Write))   (hN : (l).length < 9223372036854775807) :
    msg_WritesMay_l0 l  big 0 = walkN (msg_WritesMay_b0 l ) (msg_WritesMay_e0 l ) (l).length 0 () := by
  refine loopN (l).length (fun fuel_ t_ s_ => msg_WritesMay_l0 l  fuel_ t_) (msg_WritesMay_b0 l ) (msg_WritesMay_e0 l ) (by first | exact hN | (have := hN; simp only [List.length_nil] at this ⊢; omega)) ?_ ?_ ()
  · intro fuel_ i_ s_ hi_
    have hg_ : 0 ≤ (i_ : Int) ∧ (i_ : Int) < (((l).length : Nat) : Int) := by omega
    show msg_WritesMay_l0 l  (fuel_ + 1) (i_ : Int) = _
    rw [msg_WritesMay_l0, if_pos (decide_eq_true (by omega))]
    repeat rw [if_pos hg_]
    have hinc_ : IntKind.wrap .i64 ((i_ : Int) + 1) = (((i_ + 1 : Nat)) : Int) := by rw [w64 (by omega) (by omega)]; rfl
    try rw [hinc_]
    first | rfl | (unfold msg_WritesMay_b0; simp only [hinc_]; done) | (unfold msg_WritesMay_b0; simp only [hinc_]; rfl)
  · intro fuel_ s_
    show msg_WritesMay_l0 l  (fuel_ + 1) (((l).length : Nat) : Int) = _
    rw [msg_WritesMay_l0, if_neg (by rw [decide_eq_true_eq]; omega)]
    rfl

def miss_Lock_nodes_b0   (a_ : T_gather_Got) (s_ : (Int)) (k_ : ((Int)) → Option ((Int))) : Option ((Int)) :=
  (bits_With s_ (IntKind.wrap .i64 a_.f_Node)).bind fun yL0_4 =>
  k_ yL0_4

def miss_Lock_nodes_e0   (s_ : (Int)) : Option ((Int)) :=
  some s_

theorem miss_Lock_nodes_w0 (l : T_miss_Lock)  (set : Int) (hN : (l.f_Got).length < 9223372036854775807) :
    miss_Lock_nodes_l0 l  big set 0 = walkL (miss_Lock_nodes_b0  ) (miss_Lock_nodes_e0  ) l.f_Got set := by
  refine loopL l.f_Got (fun fuel_ t_ s_ => miss_Lock_nodes_l0 l  fuel_ s_ t_) (miss_Lock_nodes_b0  ) (miss_Lock_nodes_e0  ) (by first | exact hN | (have := hN; simp only [List.length_nil] at this ⊢; omega)) ?_ ?_ set
  · intro fuel_ i_ s_ hi_
    have hg_ : 0 ≤ (i_ : Int) ∧ (i_ : Int) < (((l.f_Got).length : Nat) : Int) := by omega
    show miss_Lock_nodes_l0 l  (fuel_ + 1) s_ (i_ : Int) = _
    rw [miss_Lock_nodes_l0, if_pos (decide_eq_true (by omega))]
    repeat rw [if_pos hg_]
    have hinc_ : IntKind.wrap .i64 ((i_ : Int) + 1) = (((i_ + 1 : Nat)) : Int) := by rw [w64 (by omega) (by omega)]; rfl
    try rw [hinc_]
    first | rfl | (unfold miss_Lock_nodes_b0; simp only [hinc_]; done) | (unfold miss_Lock_nodes_b0; simp only [hinc_]; rfl)
  · intro fuel_ s_
    show miss_Lock_nodes_l0 l  (fuel_ + 1) s_ (((l.f_Got).length : Nat) : Int) = _
    rw [miss_Lock_nodes_l0, if_neg (by rw [decide_eq_true_eq]; omega)]
    rfl

def miss_plan_take_b0 (writers : List (A8 (Int) × Int))  (a_ : T_gather_Got) (s_ : (A8 (T_api_Reg))) (k_ : ((A8 (T_api_Reg))) → Option ((Bool) × (A8 (T_api_Reg)) × (List (A8 (Int) × Int)))) : Option ((Bool) × (A8 (T_api_Reg)) × (List (A8 (Int) × Int))) :=
  if 0 ≤ a_.f_Node ∧ a_.f_Node < 8 then
  if ((!decide ((A8.get s_ (a_.f_Node).toNat) = (T_api_Reg.mk 0 0))) : Bool) then
    if ((!decide ((A8.get s_ (a_.f_Node).toNat) = a_.f_Reg)) : Bool) then
      some (false, s_, writers)
    else
      k_ (A8.set s_ a_.f_Reg (a_.f_Node).toNat)
  else
    k_ (A8.set s_ a_.f_Reg (a_.f_Node).toNat)
  else none

def miss_plan_take_e0 (writers : List (A8 (Int) × Int)) (l : T_miss_Lock)  (s_ : (A8 (T_api_Reg))) : Option ((Bool) × (A8 (T_api_Reg)) × (List (A8 (Int) × Int))) :=
  if ((l.f_Mode == 2) : Bool) then
    (miss_Lock_nodes l).bind fun yL0_4 =>
    some (true, s_, (mset writers l.f_Key (IntKind.wrap .u64 ((BitVec.ofInt (IntKind.bits .u64) ((mget writers l.f_Key).getD default) ||| BitVec.ofInt (IntKind.bits .u64) yL0_4).toNat : Int))))
  else
    some (true, s_, writers)

theorem miss_plan_take_w0 (Boot : A8 (T_api_Reg)) (writers : List (A8 (Int) × Int)) (l : T_miss_Lock)  (Boot2 : A8 (T_api_Reg)) (hN : (l.f_Got).length < 9223372036854775807) :
    miss_plan_take_l0 Boot writers l  big 0 Boot2 = walkL (miss_plan_take_b0 writers ) (miss_plan_take_e0 writers l ) l.f_Got Boot2 := by
  refine loopL l.f_Got (fun fuel_ t_ s_ => miss_plan_take_l0 Boot writers l  fuel_ t_ s_) (miss_plan_take_b0 writers ) (miss_plan_take_e0 writers l ) (by first | exact hN | (have := hN; simp only [List.length_nil] at this ⊢; omega)) ?_ ?_ Boot2
  · intro fuel_ i_ s_ hi_
    have hg_ : 0 ≤ (i_ : Int) ∧ (i_ : Int) < (((l.f_Got).length : Nat) : Int) := by omega
    show miss_plan_take_l0 Boot writers l  (fuel_ + 1) (i_ : Int) s_ = _
    rw [miss_plan_take_l0, if_pos (decide_eq_true (by omega))]
    repeat rw [if_pos hg_]
    have hinc_ : IntKind.wrap .i64 ((i_ : Int) + 1) = (((i_ + 1 : Nat)) : Int) := by rw [w64 (by omega) (by omega)]; rfl
    try rw [hinc_]
    first | rfl | (unfold miss_plan_take_b0; simp only [hinc_]; done) | (unfold miss_plan_take_b0; simp only [hinc_]; rfl)
  · intro fuel_ s_
    show miss_plan_take_l0 Boot writers l  (fuel_ + 1) (((l.f_Got).length : Nat) : Int) s_ = _
    rw [miss_plan_take_l0, if_neg (by rw [decide_eq_true_eq]; omega)]
    rfl

def slices_IndexFunc_api_Write_api_Write_b0 (s : List (T_api_Write)) (Boot : A8 (T_api_Reg)) (writers : List (A8 (Int) × Int))  (t8 : Nat) (s_ : Unit) (k_ : (Unit) → Option ((Int))) : Option ((Int)) :=
  (miss_Plan_L2 (s.getD t8 default) Boot writers).bind fun yL0_4 =>
  if (yL0_4 : Bool) then
    some (t8 : Int)
  else
    k_ ()

def slices_IndexFunc_api_Write_api_Write_e0   (s_ : Unit) : Option ((Int)) :=
  some (-1)

theorem slices_IndexFunc_api_Write_api_Write_w0 (s : List (T_api_Write)) (Boot : A8 (T_api_Reg)) (writers : List (A8 (Int) × Int))   (hN : (s).length < 9223372036854775807) :
    slices_IndexFunc_api_Write_api_Write_l0 s Boot writers  big 0 = walkN (slices_IndexFunc_api_Write_api_Write_b0 s Boot writers ) (slices_IndexFunc_api_Write_api_Write_e0  ) (s).length 0 () := by
  refine loopN (s).length (fun fuel_ t_ s_ => slices_IndexFunc_api_Write_api_Write_l0 s Boot writers  fuel_ t_) (slices_IndexFunc_api_Write_api_Write_b0 s Boot writers ) (slices_IndexFunc_api_Write_api_Write_e0  ) (by first | exact hN | (have := hN; simp only [List.length_nil] at this ⊢; omega)) ?_ ?_ ()
  · intro fuel_ i_ s_ hi_
    have hg_ : 0 ≤ (i_ : Int) ∧ (i_ : Int) < (((s).length : Nat) : Int) := by omega
    show slices_IndexFunc_api_Write_api_Write_l0 s Boot writers  (fuel_ + 1) (i_ : Int) = _
    rw [slices_IndexFunc_api_Write_api_Write_l0, if_pos (decide_eq_true (by omega))]
    repeat rw [if_pos hg_]
    have hinc_ : IntKind.wrap .i64 ((i_ : Int) + 1) = (((i_ + 1 : Nat)) : Int) := by rw [w64 (by omega) (by omega)]; rfl
    try rw [hinc_]
    first | rfl | (unfold slices_IndexFunc_api_Write_api_Write_b0; simp only [hinc_]; done) | (unfold slices_IndexFunc_api_Write_api_Write_b0; simp only [hinc_]; rfl)
  · intro fuel_ s_
    show slices_IndexFunc_api_Write_api_Write_l0 s Boot writers  (fuel_ + 1) (((s).length : Nat) : Int) = _
    rw [slices_IndexFunc_api_Write_api_Write_l0, if_neg (by rw [decide_eq_true_eq]; omega)]
    rfl

def votes_Voters_b0 (c : T_api_Config)  (t8 : Nat) (s_ : (Int)) (k_ : ((Int)) → Option ((Int))) : Option ((Int)) :=
  if ((decide (0 < (A8.get c.f_Votes t8))) : Bool) then
    if 0 ≤ (t8 : Int) then
    k_ (IntKind.wrap .u64 ((BitVec.ofInt (IntKind.bits .u64) s_ ||| BitVec.ofInt (IntKind.bits .u64) (IntKind.wrap .u64 (1 * 2 ^ (min (Int.toNat (t8 : Int)) (IntKind.bits .u64))))).toNat : Int))
    else none
  else
    k_ s_

def votes_Voters_e0   (s_ : (Int)) : Option ((Int)) :=
  some s_

theorem votes_Voters_w0 (c : T_api_Config)  (set : Int) (hN : 8 < 9223372036854775807) :
    votes_Voters_l0 c  big set 0 = walkN (votes_Voters_b0 c ) (votes_Voters_e0  ) 8 0 set := by
  refine loopN 8 (fun fuel_ t_ s_ => votes_Voters_l0 c  fuel_ s_ t_) (votes_Voters_b0 c ) (votes_Voters_e0  ) (by first | exact hN | (have := hN; simp only [List.length_nil] at this ⊢; omega)) ?_ ?_ set
  · intro fuel_ i_ s_ hi_
    have hg_ : 0 ≤ (i_ : Int) ∧ (i_ : Int) < 8 := by omega
    show votes_Voters_l0 c  (fuel_ + 1) s_ (i_ : Int) = _
    rw [votes_Voters_l0, if_pos (decide_eq_true (by omega))]
    repeat rw [if_pos hg_]
    have hinc_ : IntKind.wrap .i64 ((i_ : Int) + 1) = (((i_ + 1 : Nat)) : Int) := by rw [w64 (by omega) (by omega)]; rfl
    try rw [hinc_]
    first | rfl | (unfold votes_Voters_b0; simp only [hinc_]; done) | (unfold votes_Voters_b0; simp only [hinc_]; rfl)
  · intro fuel_ s_
    show votes_Voters_l0 c  (fuel_ + 1) s_ ((8 : Nat) : Int) = _
    rw [votes_Voters_l0, if_neg (by rw [decide_eq_true_eq]; omega)]
    rfl

def miss_Nodes_b0   (a_ : T_miss_Lock) (s_ : (Int)) (k_ : ((Int)) → Option ((Int))) : Option ((Int)) :=
  (miss_Lock_nodes a_).bind fun yL0_4 =>
  k_ (IntKind.wrap .u64 ((BitVec.ofInt (IntKind.bits .u64) s_ ||| BitVec.ofInt (IntKind.bits .u64) yL0_4).toNat : Int))

def miss_Nodes_e0   (s_ : (Int)) : Option ((Int)) :=
  some s_

theorem miss_Nodes_w0 (locks : List (T_miss_Lock))  (set : Int) (hN : (locks).length < 9223372036854775807) :
    miss_Nodes_l0 locks  big set 0 = walkL (miss_Nodes_b0  ) (miss_Nodes_e0  ) locks set := by
  refine loopL locks (fun fuel_ t_ s_ => miss_Nodes_l0 locks  fuel_ s_ t_) (miss_Nodes_b0  ) (miss_Nodes_e0  ) (by first | exact hN | (have := hN; simp only [List.length_nil] at this ⊢; omega)) ?_ ?_ set
  · intro fuel_ i_ s_ hi_
    have hg_ : 0 ≤ (i_ : Int) ∧ (i_ : Int) < (((locks).length : Nat) : Int) := by omega
    show miss_Nodes_l0 locks  (fuel_ + 1) s_ (i_ : Int) = _
    rw [miss_Nodes_l0, if_pos (decide_eq_true (by omega))]
    repeat rw [if_pos hg_]
    have hinc_ : IntKind.wrap .i64 ((i_ : Int) + 1) = (((i_ + 1 : Nat)) : Int) := by rw [w64 (by omega) (by omega)]; rfl
    try rw [hinc_]
    first | rfl | (unfold miss_Nodes_b0; simp only [hinc_]; done) | (unfold miss_Nodes_b0; simp only [hinc_]; rfl)
  · intro fuel_ s_
    show miss_Nodes_l0 locks  (fuel_ + 1) s_ (((locks).length : Nat) : Int) = _
    rw [miss_Nodes_l0, if_neg (by rw [decide_eq_true_eq]; omega)]
    rfl

def miss_plan_member_b0 (writers : List (A8 (Int) × Int)) (x_n : Int)  (a_ : T_api_Write) (s_ : (List (T_api_Write))) (k_ : ((List (T_api_Write))) → Option ((T_coord_Member))) : Option ((T_coord_Member)) :=
  (bits_Has ((mget writers a_.f_Key).getD default) x_n).bind fun yL0_4 =>
  if (yL0_4 : Bool) then
    if ((s_).length + (([a_] : List (T_api_Write))).length) * 48 ≤ 140737488351232 then
    k_ (s_ ++ ([a_] : List (T_api_Write)))
    else none
  else
    k_ s_

def miss_plan_member_e0 (Boot : A8 (T_api_Reg)) (x_n : Int)  (s_ : (List (T_api_Write))) : Option ((T_coord_Member)) :=
  some (T_coord_Member.mk (IntKind.wrap .u8 x_n) (A8.get Boot x_n.toNat) s_)

theorem miss_plan_member_w0 (Boot : A8 (T_api_Reg)) (writers : List (A8 (Int) × Int)) (x_n : Int) (writes : List (T_api_Write))  (l : List (T_api_Write)) (hN : (writes).length < 9223372036854775807) :
    miss_plan_member_l0 Boot writers x_n writes  big 0 l = walkL (miss_plan_member_b0 writers x_n ) (miss_plan_member_e0 Boot x_n ) writes l := by
  refine loopL writes (fun fuel_ t_ s_ => miss_plan_member_l0 Boot writers x_n writes  fuel_ t_ s_) (miss_plan_member_b0 writers x_n ) (miss_plan_member_e0 Boot x_n ) (by first | exact hN | (have := hN; simp only [List.length_nil] at this ⊢; omega)) ?_ ?_ l
  · intro fuel_ i_ s_ hi_
    have hg_ : 0 ≤ (i_ : Int) ∧ (i_ : Int) < (((writes).length : Nat) : Int) := by omega
    show miss_plan_member_l0 Boot writers x_n writes  (fuel_ + 1) (i_ : Int) s_ = _
    rw [miss_plan_member_l0, if_pos (decide_eq_true (by omega))]
    repeat rw [if_pos hg_]
    have hinc_ : IntKind.wrap .i64 ((i_ : Int) + 1) = (((i_ + 1 : Nat)) : Int) := by rw [w64 (by omega) (by omega)]; rfl
    try rw [hinc_]
    first | rfl | (unfold miss_plan_member_b0; simp only [hinc_]; done) | (unfold miss_plan_member_b0; simp only [hinc_]; rfl)
  · intro fuel_ s_
    show miss_plan_member_l0 Boot writers x_n writes  (fuel_ + 1) (((writes).length : Nat) : Int) s_ = _
    rw [miss_plan_member_l0, if_neg (by rw [decide_eq_true_eq]; omega)]
    rfl

def miss_Plan_b2 (writes : List (T_api_Write)) (Boot : A8 (T_api_Reg)) (m : List (A8 (Int) × Int)) (yL1_3 : (Int))  (t74 : Nat) (s_ : (List (T_coord_Member))) (k_ : ((List (T_coord_Member))) → Option ((List (T_coord_Member)) × (List (Int)) × (Int))) : Option ((List (T_coord_Member)) × (List (Int)) × (Int)) :=
  (miss_plan_member Boot m ((bitsL yL1_3).getD t74 default) writes).bind fun yL2_4 =>
  if ((s_).length + (([yL2_4] : List (T_coord_Member))).length) * 40 ≤ 140737488351232 then
  k_ (s_ ++ ([yL2_4] : List (T_coord_Member)))
  else none

def miss_Plan_e2 (l : List (Int))  (s_ : (List (T_coord_Member))) : Option ((List (T_coord_Member)) × (List (Int)) × (Int)) :=
  some (s_, l, 0)

theorem miss_Plan_w2 (writes : List (T_api_Write)) (Boot : A8 (T_api_Reg)) (m : List (A8 (Int) × Int)) (l : List (Int)) (yL1_3 : (Int))  (l2 : List (T_coord_Member)) (hN : ((bitsL yL1_3)).length < 9223372036854775807) :
    miss_Plan_l2 writes Boot m l yL1_3  big 0 l2 = walkN (miss_Plan_b2 writes Boot m yL1_3 ) (miss_Plan_e2 l ) ((bitsL yL1_3)).length 0 l2 := by
  refine loopN ((bitsL yL1_3)).length (fun fuel_ t_ s_ => miss_Plan_l2 writes Boot m l yL1_3  fuel_ t_ s_) (miss_Plan_b2 writes Boot m yL1_3 ) (miss_Plan_e2 l ) (by first | exact hN | (have := hN; simp only [List.length_nil] at this ⊢; omega)) ?_ ?_ l2
  · intro fuel_ i_ s_ hi_
    have hg_ : 0 ≤ (i_ : Int) ∧ (i_ : Int) < ((((bitsL yL1_3)).length : Nat) : Int) := by omega
    show miss_Plan_l2 writes Boot m l yL1_3  (fuel_ + 1) (i_ : Int) s_ = _
    rw [miss_Plan_l2, if_pos (decide_eq_true (by omega))]
    repeat rw [if_pos hg_]
    have hinc_ : IntKind.wrap .i64 ((i_ : Int) + 1) = (((i_ + 1 : Nat)) : Int) := by rw [w64 (by omega) (by omega)]; rfl
    try rw [hinc_]
    first | rfl | (unfold miss_Plan_b2; simp only [hinc_]; done) | (unfold miss_Plan_b2; simp only [hinc_]; rfl)
  · intro fuel_ s_
    show miss_Plan_l2 writes Boot m l yL1_3  (fuel_ + 1) ((((bitsL yL1_3)).length : Nat) : Int) s_ = _
    rw [miss_Plan_l2, if_neg (by rw [decide_eq_true_eq]; omega)]
    rfl

def miss_Plan_b1 (m : List (A8 (Int) × Int))  (a_ : T_api_Write) (s_ : (List (Int))) (k_ : ((List (Int))) → Option ((List (T_coord_Member)) × (List (Int)) × (Int))) : Option ((List (T_coord_Member)) × (List (Int)) × (Int)) :=
  (votes_Writes a_.f_Item.f_Conf ((mget m a_.f_Key).getD default)).bind fun yL1_4 =>
  if ((!yL1_4) : Bool) then
    some (([] : List (T_coord_Member)), ([] : List (Int)), 16)
  else
    (votes_Voters a_.f_Item.f_Conf).bind fun yL1_7 =>
    if ((s_).length + (([(IntKind.wrap .u64 ((BitVec.ofInt (IntKind.bits .u64) yL1_7 &&& ~~~ BitVec.ofInt (IntKind.bits .u64) ((mget m a_.f_Key).getD default)).toNat : Int))] : List (Int))).length) * 8 ≤ 140737488351232 then
    k_ (s_ ++ ([(IntKind.wrap .u64 ((BitVec.ofInt (IntKind.bits .u64) yL1_7 &&& ~~~ BitVec.ofInt (IntKind.bits .u64) ((mget m a_.f_Key).getD default)).toNat : Int))] : List (Int)))
    else none

def miss_Plan_e1 (locks : List (T_miss_Lock)) (writes : List (T_api_Write)) (Boot : A8 (T_api_Reg)) (m : List (A8 (Int) × Int))  (s_ : (List (Int))) : Option ((List (T_coord_Member)) × (List (Int)) × (Int)) :=
  (miss_Nodes locks).bind fun yL1_3 =>
  if 0 ≤ yL1_3 ∧ yL1_3 < 18446744073709551616 then
  miss_Plan_l2 writes Boot m s_ yL1_3  big 0 ([] : List (T_coord_Member))
  else none

theorem miss_Plan_w1 (locks : List (T_miss_Lock)) (writes : List (T_api_Write)) (Boot : A8 (T_api_Reg)) (m : List (A8 (Int) × Int))  (l : List (Int)) (hN : (writes).length < 9223372036854775807) :
    miss_Plan_l1 locks writes Boot m  big 0 l = walkL (miss_Plan_b1 m ) (miss_Plan_e1 locks writes Boot m ) writes l := by
  refine loopL writes (fun fuel_ t_ s_ => miss_Plan_l1 locks writes Boot m  fuel_ t_ s_) (miss_Plan_b1 m ) (miss_Plan_e1 locks writes Boot m ) (by first | exact hN | (have := hN; simp only [List.length_nil] at this ⊢; omega)) ?_ ?_ l
  · intro fuel_ i_ s_ hi_
    have hg_ : 0 ≤ (i_ : Int) ∧ (i_ : Int) < (((writes).length : Nat) : Int) := by omega
    show miss_Plan_l1 locks writes Boot m  (fuel_ + 1) (i_ : Int) s_ = _
    rw [miss_Plan_l1, if_pos (decide_eq_true (by omega))]
    repeat rw [if_pos hg_]
    have hinc_ : IntKind.wrap .i64 ((i_ : Int) + 1) = (((i_ + 1 : Nat)) : Int) := by rw [w64 (by omega) (by omega)]; rfl
    try rw [hinc_]
    first | rfl | (unfold miss_Plan_b1; simp only [hinc_]; done) | (unfold miss_Plan_b1; simp only [hinc_]; rfl)
  · intro fuel_ s_
    show miss_Plan_l1 locks writes Boot m  (fuel_ + 1) (((writes).length : Nat) : Int) s_ = _
    rw [miss_Plan_l1, if_neg (by rw [decide_eq_true_eq]; omega)]
    rfl

def miss_Plan_b0   (a_ : T_miss_Lock) (s_ : (A8 (T_api_Reg)) × (List (A8 (Int) × Int))) (k_ : ((A8 (T_api_Reg)) × (List (A8 (Int) × Int))) → Option ((List (T_coord_Member)) × (List (Int)) × (Int))) : Option ((List (T_coord_Member)) × (List (Int)) × (Int)) :=
  (miss_plan_take s_.1 s_.2 a_).bind fun yL0_4 =>
  if ((!yL0_4.1) : Bool) then
    some (([] : List (T_coord_Member)), ([] : List (Int)), 14)
  else
    k_ (yL0_4.2.1, yL0_4.2.2)

def miss_Plan_e0 (locks : List (T_miss_Lock)) (writes : List (T_api_Write))  (s_ : (A8 (T_api_Reg)) × (List (A8 (Int) × Int))) : Option ((List (T_coord_Member)) × (List (Int)) × (Int)) :=
  (slices_ContainsFunc_api_Write_api_Write writes s_.1 s_.2).bind fun yL0_3 =>
  if (yL0_3 : Bool) then
    some (([] : List (T_coord_Member)), ([] : List (Int)), 6)
  else
    miss_Plan_l1 locks writes s_.1 s_.2  big 0 ([] : List (Int))

theorem miss_Plan_w0 (locks : List (T_miss_Lock)) (writes : List (T_api_Write))  (Boot : A8 (T_api_Reg)) (m : List (A8 (Int) × Int)) (hN : (locks).length < 9223372036854775807) :
    miss_Plan_l0 locks writes  big 0 Boot m = walkL (miss_Plan_b0  ) (miss_Plan_e0 locks writes ) locks (Boot, m) := by
  refine loopL locks (fun fuel_ t_ s_ => miss_Plan_l0 locks writes  fuel_ t_ s_.1 s_.2) (miss_Plan_b0  ) (miss_Plan_e0 locks writes ) (by first | exact hN | (have := hN; simp only [List.length_nil] at this ⊢; omega)) ?_ ?_ (Boot, m)
  · intro fuel_ i_ s_ hi_
    have hg_ : 0 ≤ (i_ : Int) ∧ (i_ : Int) < (((locks).length : Nat) : Int) := by omega
    show miss_Plan_l0 locks writes  (fuel_ + 1) (i_ : Int) s_.1 s_.2 = _
    rw [miss_Plan_l0, if_pos (decide_eq_true (by omega))]
    repeat rw [if_pos hg_]
    have hinc_ : IntKind.wrap .i64 ((i_ : Int) + 1) = (((i_ + 1 : Nat)) : Int) := by rw [w64 (by omega) (by omega)]; rfl
    try rw [hinc_]
    first | rfl | (unfold miss_Plan_b0; simp only [hinc_]; done) | (unfold miss_Plan_b0; simp only [hinc_]; rfl)
  · intro fuel_ s_
    show miss_Plan_l0 locks writes  (fuel_ + 1) (((locks).length : Nat) : Int) s_.1 s_.2 = _
    rw [miss_Plan_l0, if_neg (by rw [decide_eq_true_eq]; omega)]
    rfl

theorem parrellaw20_theirs_l1_k (l : List (T_parrelref20_Lock)) (t11 : Int) (l2 : List (T_miss_Lock))  (k k' : (Int) → (List (T_miss_Lock)) → Option ((List (T_miss_Lock)))) (h : ∀ l2_, k (IntKind.wrap .i64 (t11 + 1)) l2_ = k' (IntKind.wrap .i64 (t11 + 1)) l2_) : ∀ fuel t23 l3, parrellaw20_theirs_l1 l t11 l2 k fuel t23 l3 = parrellaw20_theirs_l1 l t11 l2 k' fuel t23 l3 := by
  intro fuel
  induction fuel with
  | zero => intros; rfl
  | succ fuel ih => first | (intros; simp only [parrellaw20_theirs_l1, ih, h]; done) | (have ih_ := funext fun a0_ => funext fun a1_ => ih a0_ a1_; intros; simp only [parrellaw20_theirs_l1, ih, ih_, h])

def parrellaw20_theirs_b1  (k0 : ((List (T_miss_Lock))) → Option ((List (T_miss_Lock)))) (a_ : T_parrelref19_Got) (s_ : (List (T_gather_Got))) (k_ : ((List (T_gather_Got))) → Option ((List (T_miss_Lock)))) : Option ((List (T_miss_Lock))) :=
  if ((s_).length + (([(T_gather_Got.mk a_.f_Node a_.f_Reg a_.f_Item)] : List (T_gather_Got))).length) * 56 ≤ 140737488351232 then
  k_ (s_ ++ ([(T_gather_Got.mk a_.f_Node a_.f_Reg a_.f_Item)] : List (T_gather_Got)))
  else none

def parrellaw20_theirs_e1 (l : List (T_parrelref20_Lock)) (t11 : Int) (l2 : List (T_miss_Lock)) (k0 : ((List (T_miss_Lock))) → Option ((List (T_miss_Lock)))) (s_ : (List (T_gather_Got))) : Option ((List (T_miss_Lock))) :=
  if ((l2).length + (([(T_miss_Lock.mk (l.getD t11.toNat default).f_Key (l.getD t11.toNat default).f_Mode s_)] : List (T_miss_Lock))).length) * 40 ≤ 140737488351232 then
  k0 (l2 ++ ([(T_miss_Lock.mk (l.getD t11.toNat default).f_Key (l.getD t11.toNat default).f_Mode s_)] : List (T_miss_Lock)))
  else none

theorem parrellaw20_theirs_w1 (l : List (T_parrelref20_Lock)) (t11 : Int) (l2 : List (T_miss_Lock)) (k0 : (Int) → (List (T_miss_Lock)) → Option ((List (T_miss_Lock)))) (l3 : List (T_gather_Got)) (hN : ((l.getD t11.toNat default).f_Got).length < 9223372036854775807) :
    parrellaw20_theirs_l1 l t11 l2 k0 big 0 l3 = walkL (parrellaw20_theirs_b1  (fun s_ => k0 (IntKind.wrap .i64 (t11 + 1)) s_)) (parrellaw20_theirs_e1 l t11 l2 (fun s_ => k0 (IntKind.wrap .i64 (t11 + 1)) s_)) (l.getD t11.toNat default).f_Got l3 := by
  refine loopL (l.getD t11.toNat default).f_Got (fun fuel_ t_ s_ => parrellaw20_theirs_l1 l t11 l2 k0 fuel_ t_ s_) (parrellaw20_theirs_b1  (fun s_ => k0 (IntKind.wrap .i64 (t11 + 1)) s_)) (parrellaw20_theirs_e1 l t11 l2 (fun s_ => k0 (IntKind.wrap .i64 (t11 + 1)) s_)) (by first | exact hN | (have := hN; simp only [List.length_nil] at this ⊢; omega)) ?_ ?_ l3
  · intro fuel_ i_ s_ hi_
    have hg_ : 0 ≤ (i_ : Int) ∧ (i_ : Int) < ((((l.getD t11.toNat default).f_Got).length : Nat) : Int) := by omega
    show parrellaw20_theirs_l1 l t11 l2 k0 (fuel_ + 1) (i_ : Int) s_ = _
    rw [parrellaw20_theirs_l1, if_pos (decide_eq_true (by omega))]
    repeat rw [if_pos hg_]
    have hinc_ : IntKind.wrap .i64 ((i_ : Int) + 1) = (((i_ + 1 : Nat)) : Int) := by rw [w64 (by omega) (by omega)]; rfl
    try rw [hinc_]
    first | rfl | (unfold parrellaw20_theirs_b1; simp only [hinc_]; done) | (unfold parrellaw20_theirs_b1; simp only [hinc_]; rfl)
  · intro fuel_ s_
    show parrellaw20_theirs_l1 l t11 l2 k0 (fuel_ + 1) ((((l.getD t11.toNat default).f_Got).length : Nat) : Int) s_ = _
    rw [parrellaw20_theirs_l1, if_neg (by rw [decide_eq_true_eq]; omega)]
    rfl

def parrellaw20_theirs_b0 (l : List (T_parrelref20_Lock))  (t11 : Nat) (s_ : (List (T_miss_Lock))) (k_ : ((List (T_miss_Lock))) → Option ((List (T_miss_Lock)))) : Option ((List (T_miss_Lock))) :=
  parrellaw20_theirs_l1 l (t11 : Int) s_ (fun _ l2_ => k_ l2_) big 0 ([] : List (T_gather_Got))

def parrellaw20_theirs_e0   (s_ : (List (T_miss_Lock))) : Option ((List (T_miss_Lock))) :=
  some s_

theorem parrellaw20_theirs_w0 (l : List (T_parrelref20_Lock))  (l2 : List (T_miss_Lock)) (hN : (l).length < 9223372036854775807) :
    parrellaw20_theirs_l0 l  big 0 l2 = walkN (parrellaw20_theirs_b0 l ) (parrellaw20_theirs_e0  ) (l).length 0 l2 := by
  refine loopN (l).length (fun fuel_ t_ s_ => parrellaw20_theirs_l0 l  fuel_ t_ s_) (parrellaw20_theirs_b0 l ) (parrellaw20_theirs_e0  ) (by first | exact hN | (have := hN; simp only [List.length_nil] at this ⊢; omega)) ?_ ?_ l2
  · intro fuel_ i_ s_ hi_
    have hg_ : 0 ≤ (i_ : Int) ∧ (i_ : Int) < (((l).length : Nat) : Int) := by omega
    show parrellaw20_theirs_l0 l  (fuel_ + 1) (i_ : Int) s_ = _
    rw [parrellaw20_theirs_l0, if_pos (decide_eq_true (by omega))]
    repeat rw [if_pos hg_]
    have hinc_ : IntKind.wrap .i64 ((i_ : Int) + 1) = (((i_ + 1 : Nat)) : Int) := by rw [w64 (by omega) (by omega)]; rfl
    simp only [parrellaw20_theirs_l1_k _ (i_ : Int) _  (parrellaw20_theirs_l0 l  fuel_) (fun _ l2_ => parrellaw20_theirs_l0 l  fuel_ (((i_ + 1 : Nat)) : Int) l2_) (fun l2_ => by first | rfl | rw [hinc_])]
    try rw [hinc_]
    first | rfl | (unfold parrellaw20_theirs_b0; simp only [hinc_]; done) | (unfold parrellaw20_theirs_b0; simp only [hinc_]; rfl)
  · intro fuel_ s_
    show parrellaw20_theirs_l0 l  (fuel_ + 1) (((l).length : Nat) : Int) s_ = _
    rw [parrellaw20_theirs_l0, if_neg (by rw [decide_eq_true_eq]; omega)]
    rfl

def parrelref05_Name_b1 (x_k : A8 (Int))  (i : Nat) (s_ : Unit) (k_ : (Unit) → Option ((List UInt8) × (Bool))) : Option ((List UInt8) × (Bool)) :=
  if (((A8.get x_k i) != 0) : Bool) then
    some ([], false)
  else
    k_ ()

def parrelref05_Name_e1 (x_k : A8 (Int)) (x_n : Int)  (s_ : Unit) : Option ((List UInt8) × (Bool)) :=
  if ((x_n == 0) : Bool) then
    some ([], false)
  else
    if 0 ≤ (0 : Int) ∧ 0 ≤ x_n ∧ x_n ≤ 8 then
    some ((strI (([x_k.a0, x_k.a1, x_k.a2, x_k.a3, x_k.a4, x_k.a5, x_k.a6, x_k.a7] : List Int).take (x_n.toNat))), true)
    else none

theorem parrelref05_Name_ws1 (x_k : A8 (Int)) (x_n : Int)   (st_ : Nat) (hst_ : st_ ≤ 8) (hN : 8 < 9223372036854775807) :
    parrelref05_Name_l1 x_k x_n  big (st_ : Int) = walkN (parrelref05_Name_b1 x_k ) (parrelref05_Name_e1 x_k x_n ) (8 - st_) st_ () := by
  refine loopNs 8 st_ hst_ (fun fuel_ t_ s_ => parrelref05_Name_l1 x_k x_n  fuel_ t_) (parrelref05_Name_b1 x_k ) (parrelref05_Name_e1 x_k x_n ) (by first | exact hN | (have := hN; simp only [List.length_nil] at this ⊢; omega)) ?_ ?_ ()
  · intro fuel_ i_ s_ hi_
    have hg_ : 0 ≤ (i_ : Int) ∧ (i_ : Int) < 8 := by omega
    show parrelref05_Name_l1 x_k x_n  (fuel_ + 1) (i_ : Int) = _
    rw [parrelref05_Name_l1, if_pos (decide_eq_true (by omega))]
    repeat rw [if_pos hg_]
    have hinc_ : IntKind.wrap .i64 ((i_ : Int) + 1) = (((i_ + 1 : Nat)) : Int) := by rw [w64 (by omega) (by omega)]; rfl
    try rw [hinc_]
    first | rfl | (unfold parrelref05_Name_b1; simp only [hinc_]; done) | (unfold parrelref05_Name_b1; simp only [hinc_]; rfl)
  · intro fuel_ s_
    show parrelref05_Name_l1 x_k x_n  (fuel_ + 1) ((8 : Nat) : Int) = _
    rw [parrelref05_Name_l1, if_neg (by rw [decide_eq_true_eq]; omega)]
    rfl

def parrelref05_Name_b0 (x_k : A8 (Int))  (x_n : Nat) (s_ : Unit) (k_ : (Unit) → Option ((List UInt8) × (Bool))) : Option ((List UInt8) × (Bool)) :=
  if (((A8.get x_k x_n) != 0) : Bool) then
    k_ ()
  else
    parrelref05_Name_l1 x_k (x_n : Int)  big (x_n : Int)

def parrelref05_Name_e0 (x_k : A8 (Int))  (s_ : Unit) : Option ((List UInt8) × (Bool)) :=
  parrelref05_Name_l1 x_k ((8 : Nat) : Int)  big ((8 : Nat) : Int)

theorem parrelref05_Name_w0 (x_k : A8 (Int))   (hN : 8 < 9223372036854775807) :
    parrelref05_Name_l0 x_k  big 0 = walkN (parrelref05_Name_b0 x_k ) (parrelref05_Name_e0 x_k ) 8 0 () := by
  refine loopN 8 (fun fuel_ t_ s_ => parrelref05_Name_l0 x_k  fuel_ t_) (parrelref05_Name_b0 x_k ) (parrelref05_Name_e0 x_k ) (by first | exact hN | (have := hN; simp only [List.length_nil] at this ⊢; omega)) ?_ ?_ ()
  · intro fuel_ i_ s_ hi_
    have hg_ : 0 ≤ (i_ : Int) ∧ (i_ : Int) < 8 := by omega
    show parrelref05_Name_l0 x_k  (fuel_ + 1) (i_ : Int) = _
    rw [parrelref05_Name_l0, if_pos (decide_eq_true (by omega))]
    repeat rw [if_pos hg_]
    have hinc_ : IntKind.wrap .i64 ((i_ : Int) + 1) = (((i_ + 1 : Nat)) : Int) := by rw [w64 (by omega) (by omega)]; rfl
    try rw [hinc_]
    first | rfl | (unfold parrelref05_Name_b0; simp only [hinc_]; done) | (unfold parrelref05_Name_b0; simp only [hinc_]; rfl)
  · intro fuel_ s_
    show parrelref05_Name_l0 x_k  (fuel_ + 1) ((8 : Nat) : Int) = _
    rw [parrelref05_Name_l0, if_neg (by rw [decide_eq_true_eq]; omega)]
    rfl

theorem parrelref20_may_l1_k (locks : List (T_parrelref20_Lock)) (i : Int)  (k k' : (Int) → Option ((Bool))) (h : k (IntKind.wrap .i64 (i + 1)) = k' (IntKind.wrap .i64 (i + 1))) : ∀ fuel x_k, parrelref20_may_l1 locks i k fuel x_k = parrelref20_may_l1 locks i k' fuel x_k := by
  intro fuel
  induction fuel with
  | zero => intros; rfl
  | succ fuel ih => first | (intros; simp only [parrelref20_may_l1, ih, h]; done) | (have ih_ := funext fun a0_ => ih a0_; intros; simp only [parrelref20_may_l1, ih, ih_, h])

def parrelref20_may_b1  (k0 : (Unit) → Option ((Bool))) (a_ : T_parrelref19_Got) (s_ : Unit) (k_ : (Unit) → Option ((Bool))) : Option ((Bool)) :=
  if ((decide (8 ≤ a_.f_Node)) : Bool) then
    some false
  else
    (parrelref05_RegMay a_.f_Reg).bind fun yL1_5 =>
    if ((!yL1_5) : Bool) then
      some false
    else
      k_ ()

def parrelref20_may_e1  (k0 : (Unit) → Option ((Bool))) (s_ : Unit) : Option ((Bool)) :=
  k0 ()

theorem parrelref20_may_w1 (locks : List (T_parrelref20_Lock)) (i : Int) (k0 : (Int) → Option ((Bool)))  (hN : ((locks.getD i.toNat default).f_Got).length < 9223372036854775807) :
    parrelref20_may_l1 locks i k0 big 0 = walkL (parrelref20_may_b1  (fun s_ => k0 (IntKind.wrap .i64 (i + 1)))) (parrelref20_may_e1  (fun s_ => k0 (IntKind.wrap .i64 (i + 1)))) (locks.getD i.toNat default).f_Got () := by
  refine loopL (locks.getD i.toNat default).f_Got (fun fuel_ t_ s_ => parrelref20_may_l1 locks i k0 fuel_ t_) (parrelref20_may_b1  (fun s_ => k0 (IntKind.wrap .i64 (i + 1)))) (parrelref20_may_e1  (fun s_ => k0 (IntKind.wrap .i64 (i + 1)))) (by first | exact hN | (have := hN; simp only [List.length_nil] at this ⊢; omega)) ?_ ?_ ()
  · intro fuel_ i_ s_ hi_
    have hg_ : 0 ≤ (i_ : Int) ∧ (i_ : Int) < ((((locks.getD i.toNat default).f_Got).length : Nat) : Int) := by omega
    show parrelref20_may_l1 locks i k0 (fuel_ + 1) (i_ : Int) = _
    rw [parrelref20_may_l1, if_pos (decide_eq_true (by omega))]
    repeat rw [if_pos hg_]
    have hinc_ : IntKind.wrap .i64 ((i_ : Int) + 1) = (((i_ + 1 : Nat)) : Int) := by rw [w64 (by omega) (by omega)]; rfl
    try rw [hinc_]
    first | rfl | (unfold parrelref20_may_b1; simp only [hinc_]; done) | (unfold parrelref20_may_b1; simp only [hinc_]; rfl)
  · intro fuel_ s_
    show parrelref20_may_l1 locks i k0 (fuel_ + 1) ((((locks.getD i.toNat default).f_Got).length : Nat) : Int) = _
    rw [parrelref20_may_l1, if_neg (by rw [decide_eq_true_eq]; omega)]
    rfl

def parrelref20_may_b0 (locks : List (T_parrelref20_Lock))  (i : Nat) (s_ : Unit) (k_ : (Unit) → Option ((Bool))) : Option ((Bool)) :=
  (parrelref10_KeyMay (locks.getD i default).f_Key).bind fun yL0_4 =>
  if ((!yL0_4) : Bool) then
    some false
  else
    if ((decide ((locks.getD i default).f_Mode < 1)) : Bool) then
      some false
    else
      if ((decide (2 < (locks.getD i default).f_Mode)) : Bool) then
        some false
      else
        parrelref20_may_l1 locks (i : Int) (fun _ => k_ ()) big 0

def parrelref20_may_e0   (s_ : Unit) : Option ((Bool)) :=
  some true

theorem parrelref20_may_w0 (locks : List (T_parrelref20_Lock))   (hN : (locks).length < 9223372036854775807) :
    parrelref20_may_l0 locks  big 0 = walkN (parrelref20_may_b0 locks ) (parrelref20_may_e0  ) (locks).length 0 () := by
  refine loopN (locks).length (fun fuel_ t_ s_ => parrelref20_may_l0 locks  fuel_ t_) (parrelref20_may_b0 locks ) (parrelref20_may_e0  ) (by first | exact hN | (have := hN; simp only [List.length_nil] at this ⊢; omega)) ?_ ?_ ()
  · intro fuel_ i_ s_ hi_
    have hg_ : 0 ≤ (i_ : Int) ∧ (i_ : Int) < (((locks).length : Nat) : Int) := by omega
    show parrelref20_may_l0 locks  (fuel_ + 1) (i_ : Int) = _
    rw [parrelref20_may_l0, if_pos (decide_eq_true (by omega))]
    repeat rw [if_pos hg_]
    have hinc_ : IntKind.wrap .i64 ((i_ : Int) + 1) = (((i_ + 1 : Nat)) : Int) := by rw [w64 (by omega) (by omega)]; rfl
    simp only [parrelref20_may_l1_k _ (i_ : Int)  (parrelref20_may_l0 locks  fuel_) (fun _ => parrelref20_may_l0 locks  fuel_ (((i_ + 1 : Nat)) : Int)) (by first | rfl | rw [hinc_])]
    try rw [hinc_]
    first | rfl | (unfold parrelref20_may_b0; simp only [hinc_]; done) | (unfold parrelref20_may_b0; simp only [hinc_]; rfl)
  · intro fuel_ s_
    show parrelref20_may_l0 locks  (fuel_ + 1) (((locks).length : Nat) : Int) = _
    rw [parrelref20_may_l0, if_neg (by rw [decide_eq_true_eq]; omega)]
    rfl

def parrelref06_Total_b0 (c : T_api_Config)  (i : Nat) (s_ : (Int)) (k_ : ((Int)) → Option ((Int))) : Option ((Int)) :=
  k_ (IntKind.wrap .i64 (s_ + (IntKind.wrap .i64 (A8.get c.f_Votes i))))

def parrelref06_Total_e0   (s_ : (Int)) : Option ((Int)) :=
  some s_

theorem parrelref06_Total_w0 (c : T_api_Config)  (x_n : Int) (hN : 8 < 9223372036854775807) :
    parrelref06_Total_l0 c  big x_n 0 = walkN (parrelref06_Total_b0 c ) (parrelref06_Total_e0  ) 8 0 x_n := by
  refine loopN 8 (fun fuel_ t_ s_ => parrelref06_Total_l0 c  fuel_ s_ t_) (parrelref06_Total_b0 c ) (parrelref06_Total_e0  ) (by first | exact hN | (have := hN; simp only [List.length_nil] at this ⊢; omega)) ?_ ?_ x_n
  · intro fuel_ i_ s_ hi_
    have hg_ : 0 ≤ (i_ : Int) ∧ (i_ : Int) < 8 := by omega
    show parrelref06_Total_l0 c  (fuel_ + 1) s_ (i_ : Int) = _
    rw [parrelref06_Total_l0, if_pos (decide_eq_true (by omega))]
    repeat rw [if_pos hg_]
    have hinc_ : IntKind.wrap .i64 ((i_ : Int) + 1) = (((i_ + 1 : Nat)) : Int) := by rw [w64 (by omega) (by omega)]; rfl
    try rw [hinc_]
    first | rfl | (unfold parrelref06_Total_b0; simp only [hinc_]; done) | (unfold parrelref06_Total_b0; simp only [hinc_]; rfl)
  · intro fuel_ s_
    show parrelref06_Total_l0 c  (fuel_ + 1) s_ ((8 : Nat) : Int) = _
    rw [parrelref06_Total_l0, if_neg (by rw [decide_eq_true_eq]; omega)]
    rfl

def parrelref06_May_b0 (c : T_api_Config)  (i : Nat) (s_ : Unit) (k_ : (Unit) → Option ((Bool))) : Option ((Bool)) :=
  if ((decide (15 < (A8.get c.f_Votes i))) : Bool) then
    some false
  else
    k_ ()

def parrelref06_May_e0 (c : T_api_Config) (y2 : (Int))  (s_ : Unit) : Option ((Bool)) :=
  if ((decide (1 ≤ c.f_Epoch)) : Bool) then
    if ((decide (c.f_Epoch ≤ 2147483647)) : Bool) then
      if ((decide (1 ≤ (IntKind.wrap .i64 c.f_R))) : Bool) then
        if ((decide (1 ≤ (IntKind.wrap .i64 c.f_W))) : Bool) then
          if ((decide ((IntKind.wrap .i64 c.f_R) ≤ y2)) : Bool) then
            if ((decide ((IntKind.wrap .i64 c.f_W) ≤ y2)) : Bool) then
              if ((decide (y2 < (IntKind.wrap .i64 ((IntKind.wrap .i64 c.f_R) + (IntKind.wrap .i64 c.f_W))))) : Bool) then
                some (decide (y2 < (IntKind.wrap .i64 (2 * (IntKind.wrap .i64 c.f_W)))))
              else
                some false
            else
              some false
          else
            some false
        else
          some false
      else
        some false
    else
      some false
  else
    some false

theorem parrelref06_May_w0 (c : T_api_Config) (y2 : (Int))   (hN : 8 < 9223372036854775807) :
    parrelref06_May_l0 c y2  big 0 = walkN (parrelref06_May_b0 c ) (parrelref06_May_e0 c y2 ) 8 0 () := by
  refine loopN 8 (fun fuel_ t_ s_ => parrelref06_May_l0 c y2  fuel_ t_) (parrelref06_May_b0 c ) (parrelref06_May_e0 c y2 ) (by first | exact hN | (have := hN; simp only [List.length_nil] at this ⊢; omega)) ?_ ?_ ()
  · intro fuel_ i_ s_ hi_
    have hg_ : 0 ≤ (i_ : Int) ∧ (i_ : Int) < 8 := by omega
    show parrelref06_May_l0 c y2  (fuel_ + 1) (i_ : Int) = _
    rw [parrelref06_May_l0, if_pos (decide_eq_true (by omega))]
    repeat rw [if_pos hg_]
    have hinc_ : IntKind.wrap .i64 ((i_ : Int) + 1) = (((i_ + 1 : Nat)) : Int) := by rw [w64 (by omega) (by omega)]; rfl
    try rw [hinc_]
    first | rfl | (unfold parrelref06_May_b0; simp only [hinc_]; done) | (unfold parrelref06_May_b0; simp only [hinc_]; rfl)
  · intro fuel_ s_
    show parrelref06_May_l0 c y2  (fuel_ + 1) ((8 : Nat) : Int) = _
    rw [parrelref06_May_l0, if_neg (by rw [decide_eq_true_eq]; omega)]
    rfl

def parrelref05_first_b0 (a : List (Int)) (b : List (Int))  (i : Nat) (s_ : Unit) (k_ : (Unit) → Option ((Int))) : Option ((Int)) :=
  if 0 ≤ (i : Int) ∧ (i : Int) < (((b).length : Nat) : Int) then
  if ((decide ((a.getD i default) < (b.getD i default))) : Bool) then
    some (-1)
  else
    if ((decide ((b.getD i default) < (a.getD i default))) : Bool) then
      some 1
    else
      k_ ()
  else none

def parrelref05_first_e0   (s_ : Unit) : Option ((Int)) :=
  some 0

theorem parrelref05_first_w0 (a : List (Int)) (b : List (Int))   (hN : (a).length < 9223372036854775807) :
    parrelref05_first_l0 a b  big 0 = walkN (parrelref05_first_b0 a b ) (parrelref05_first_e0  ) (a).length 0 () := by
  refine loopN (a).length (fun fuel_ t_ s_ => parrelref05_first_l0 a b  fuel_ t_) (parrelref05_first_b0 a b ) (parrelref05_first_e0  ) (by first | exact hN | (have := hN; simp only [List.length_nil] at this ⊢; omega)) ?_ ?_ ()
  · intro fuel_ i_ s_ hi_
    have hg_ : 0 ≤ (i_ : Int) ∧ (i_ : Int) < (((a).length : Nat) : Int) := by omega
    show parrelref05_first_l0 a b  (fuel_ + 1) (i_ : Int) = _
    rw [parrelref05_first_l0, if_pos (decide_eq_true (by omega))]
    repeat rw [if_pos hg_]
    have hinc_ : IntKind.wrap .i64 ((i_ : Int) + 1) = (((i_ + 1 : Nat)) : Int) := by rw [w64 (by omega) (by omega)]; rfl
    try rw [hinc_]
    first | rfl | (unfold parrelref05_first_b0; simp only [hinc_]; done) | (unfold parrelref05_first_b0; simp only [hinc_]; rfl)
  · intro fuel_ s_
    show parrelref05_first_l0 a b  (fuel_ + 1) (((a).length : Nat) : Int) = _
    rw [parrelref05_first_l0, if_neg (by rw [decide_eq_true_eq]; omega)]
    rfl

def parrelref05_Keys_b0 (a : A8 (Int)) (b : A8 (Int))  (i : Nat) (s_ : (List (Int)) × (List (Int))) (k_ : ((List (Int)) × (List (Int))) → Option ((Int))) : Option ((Int)) :=
  if ((s_.1).length + (([(IntKind.wrap .u32 (A8.get a i))] : List (Int))).length) * 4 ≤ 140737488351232 then
  if ((s_.2).length + (([(IntKind.wrap .u32 (A8.get b i))] : List (Int))).length) * 4 ≤ 140737488351232 then
  k_ ((s_.1 ++ ([(IntKind.wrap .u32 (A8.get a i))] : List (Int))), (s_.2 ++ ([(IntKind.wrap .u32 (A8.get b i))] : List (Int))))
  else none
  else none

def parrelref05_Keys_e0   (s_ : (List (Int)) × (List (Int))) : Option ((Int)) :=
  (parrelref05_first s_.1 s_.2).bind fun yL0_3 =>
  some yL0_3

theorem parrelref05_Keys_w0 (a : A8 (Int)) (b : A8 (Int))  (l : List (Int)) (l2 : List (Int)) (hN : 8 < 9223372036854775807) :
    parrelref05_Keys_l0 a b  big 0 l l2 = walkN (parrelref05_Keys_b0 a b ) (parrelref05_Keys_e0  ) 8 0 (l, l2) := by
  refine loopN 8 (fun fuel_ t_ s_ => parrelref05_Keys_l0 a b  fuel_ t_ s_.1 s_.2) (parrelref05_Keys_b0 a b ) (parrelref05_Keys_e0  ) (by first | exact hN | (have := hN; simp only [List.length_nil] at this ⊢; omega)) ?_ ?_ (l, l2)
  · intro fuel_ i_ s_ hi_
    have hg_ : 0 ≤ (i_ : Int) ∧ (i_ : Int) < 8 := by omega
    show parrelref05_Keys_l0 a b  (fuel_ + 1) (i_ : Int) s_.1 s_.2 = _
    rw [parrelref05_Keys_l0, if_pos (decide_eq_true (by omega))]
    repeat rw [if_pos hg_]
    have hinc_ : IntKind.wrap .i64 ((i_ : Int) + 1) = (((i_ + 1 : Nat)) : Int) := by rw [w64 (by omega) (by omega)]; rfl
    try rw [hinc_]
    first | rfl | (unfold parrelref05_Keys_b0; simp only [hinc_]; done) | (unfold parrelref05_Keys_b0; simp only [hinc_]; rfl)
  · intro fuel_ s_
    show parrelref05_Keys_l0 a b  (fuel_ + 1) ((8 : Nat) : Int) s_.1 s_.2 = _
    rw [parrelref05_Keys_l0, if_neg (by rw [decide_eq_true_eq]; omega)]
    rfl

def parrelref10_WritesMay_b0 (l : List (T_api_Write))  (i : Nat) (s_ : Unit) (k_ : (Unit) → Option ((Bool))) : Option ((Bool)) :=
  (parrelref10_KeyMay (l.getD i default).f_Key).bind fun yL0_4 =>
  if ((!yL0_4) : Bool) then
    some false
  else
    (parrelref10_ItemMay (l.getD i default).f_Item).bind fun yL0_7 =>
    if ((!yL0_7) : Bool) then
      some false
    else
      if ((decide (0 < (i : Int))) : Bool) then
        if 0 ≤ (IntKind.wrap .i64 ((i : Int) - 1)) ∧ (IntKind.wrap .i64 ((i : Int) - 1)) < (((l).length : Nat) : Int) then
        (parrelref05_Keys (l.getD ((IntKind.wrap .i64 ((i : Int) - 1))).toNat default).f_Key (l.getD i default).f_Key).bind fun yL0_12 =>
        if ((decide (0 ≤ yL0_12)) : Bool) then
          some false
        else
          k_ ()
        else none
      else
        k_ ()

def parrelref10_WritesMay_e0 (l : List (T_api_Write))  (s_ : Unit) : Option ((Bool)) :=
  some (decide (((l).length : Int) ≤ 16))

theorem parrelref10_WritesMay_w0 (l : List (T_api_Write))   (hN : (l).length < 9223372036854775807) :
    parrelref10_WritesMay_l0 l  big 0 = walkN (parrelref10_WritesMay_b0 l ) (parrelref10_WritesMay_e0 l ) (l).length 0 () := by
  refine loopN (l).length (fun fuel_ t_ s_ => parrelref10_WritesMay_l0 l  fuel_ t_) (parrelref10_WritesMay_b0 l ) (parrelref10_WritesMay_e0 l ) (by first | exact hN | (have := hN; simp only [List.length_nil] at this ⊢; omega)) ?_ ?_ ()
  · intro fuel_ i_ s_ hi_
    have hg_ : 0 ≤ (i_ : Int) ∧ (i_ : Int) < (((l).length : Nat) : Int) := by omega
    show parrelref10_WritesMay_l0 l  (fuel_ + 1) (i_ : Int) = _
    rw [parrelref10_WritesMay_l0, if_pos (decide_eq_true (by omega))]
    repeat rw [if_pos hg_]
    have hinc_ : IntKind.wrap .i64 ((i_ : Int) + 1) = (((i_ + 1 : Nat)) : Int) := by rw [w64 (by omega) (by omega)]; rfl
    try rw [hinc_]
    first | rfl | (unfold parrelref10_WritesMay_b0; simp only [hinc_]; done) | (unfold parrelref10_WritesMay_b0; simp only [hinc_]; rfl)
  · intro fuel_ s_
    show parrelref10_WritesMay_l0 l  (fuel_ + 1) (((l).length : Nat) : Int) = _
    rw [parrelref10_WritesMay_l0, if_neg (by rw [decide_eq_true_eq]; omega)]
    rfl

def parrelref01_power_b0   (i : Nat) (s_ : (Int)) (k_ : ((Int)) → Option ((Int))) : Option ((Int)) :=
  k_ (IntKind.wrap .u64 (s_ * 2))

def parrelref01_power_e0   (s_ : (Int)) : Option ((Int)) :=
  some s_

theorem parrelref01_power_w0 (x_n : Int)  (p : Int) (hN : (x_n).toNat < 9223372036854775807) :
    parrelref01_power_l0 x_n  big p 0 = walkN (parrelref01_power_b0  ) (parrelref01_power_e0  ) (x_n).toNat 0 p := by
  refine loopN (x_n).toNat (fun fuel_ t_ s_ => parrelref01_power_l0 x_n  fuel_ s_ t_) (parrelref01_power_b0  ) (parrelref01_power_e0  ) (by first | exact hN | (have := hN; simp only [List.length_nil] at this ⊢; omega)) ?_ ?_ p
  · intro fuel_ i_ s_ hi_
    have hg_ : 0 ≤ (i_ : Int) ∧ (i_ : Int) < x_n := by omega
    show parrelref01_power_l0 x_n  (fuel_ + 1) s_ (i_ : Int) = _
    rw [parrelref01_power_l0, if_pos (decide_eq_true (by omega))]
    have hinc_ : IntKind.wrap .i64 ((i_ : Int) + 1) = (((i_ + 1 : Nat)) : Int) := by rw [w64 (by omega) (by omega)]; rfl
    try rw [hinc_]
    first | rfl | (unfold parrelref01_power_b0; simp only [hinc_]; done) | (unfold parrelref01_power_b0; simp only [hinc_]; rfl)
  · intro fuel_ s_
    show parrelref01_power_l0 x_n  (fuel_ + 1) s_ (((x_n).toNat : Nat) : Int) = _
    rw [parrelref01_power_l0, if_neg (by rw [decide_eq_true_eq]; omega)]
    rfl

theorem parrelref20_Nodes_l1_k (locks : List (T_parrelref20_Lock)) (i : Int)  (k k' : (Int) → (Int) → Option ((Int))) (h : ∀ set_, k set_ (IntKind.wrap .i64 (i + 1)) = k' set_ (IntKind.wrap .i64 (i + 1))) : ∀ fuel set2 x_k, parrelref20_Nodes_l1 locks i k fuel set2 x_k = parrelref20_Nodes_l1 locks i k' fuel set2 x_k := by
  intro fuel
  induction fuel with
  | zero => intros; rfl
  | succ fuel ih => first | (intros; simp only [parrelref20_Nodes_l1, ih, h]; done) | (have ih_ := funext fun a0_ => funext fun a1_ => ih a0_ a1_; intros; simp only [parrelref20_Nodes_l1, ih, ih_, h])

def parrelref20_Nodes_b1  (k0 : ((Int)) → Option ((Int))) (a_ : T_parrelref19_Got) (s_ : (Int)) (k_ : ((Int)) → Option ((Int))) : Option ((Int)) :=
  (parrelref01_With s_ (IntKind.wrap .i64 a_.f_Node)).bind fun yL1_5 =>
  k_ yL1_5

def parrelref20_Nodes_e1  (k0 : ((Int)) → Option ((Int))) (s_ : (Int)) : Option ((Int)) :=
  k0 s_

theorem parrelref20_Nodes_w1 (locks : List (T_parrelref20_Lock)) (i : Int) (k0 : (Int) → (Int) → Option ((Int))) (set2 : Int) (hN : ((locks.getD i.toNat default).f_Got).length < 9223372036854775807) (hG0_ : 0 ≤ i ∧ i < (((locks).length : Nat) : Int)) :
    parrelref20_Nodes_l1 locks i k0 big set2 0 = walkL (parrelref20_Nodes_b1  (fun s_ => k0 s_ (IntKind.wrap .i64 (i + 1)))) (parrelref20_Nodes_e1  (fun s_ => k0 s_ (IntKind.wrap .i64 (i + 1)))) (locks.getD i.toNat default).f_Got set2 := by
  refine loopL (locks.getD i.toNat default).f_Got (fun fuel_ t_ s_ => parrelref20_Nodes_l1 locks i k0 fuel_ s_ t_) (parrelref20_Nodes_b1  (fun s_ => k0 s_ (IntKind.wrap .i64 (i + 1)))) (parrelref20_Nodes_e1  (fun s_ => k0 s_ (IntKind.wrap .i64 (i + 1)))) (by first | exact hN | (have := hN; simp only [List.length_nil] at this ⊢; omega)) ?_ ?_ set2
  · intro fuel_ i_ s_ hi_
    have hg_ : 0 ≤ (i_ : Int) ∧ (i_ : Int) < ((((locks.getD i.toNat default).f_Got).length : Nat) : Int) := by omega
    show parrelref20_Nodes_l1 locks i k0 (fuel_ + 1) s_ (i_ : Int) = _
    rw [parrelref20_Nodes_l1, if_pos hG0_, if_pos (decide_eq_true (by omega))]
    repeat rw [if_pos hg_]
    have hinc_ : IntKind.wrap .i64 ((i_ : Int) + 1) = (((i_ + 1 : Nat)) : Int) := by rw [w64 (by omega) (by omega)]; rfl
    try rw [hinc_]
    first | rfl | (unfold parrelref20_Nodes_b1; simp only [hinc_]; done) | (unfold parrelref20_Nodes_b1; simp only [hinc_]; rfl)
  · intro fuel_ s_
    show parrelref20_Nodes_l1 locks i k0 (fuel_ + 1) s_ ((((locks.getD i.toNat default).f_Got).length : Nat) : Int) = _
    rw [parrelref20_Nodes_l1, if_pos hG0_, if_neg (by rw [decide_eq_true_eq]; omega)]
    rfl

def parrelref20_Nodes_b0 (locks : List (T_parrelref20_Lock))  (i : Nat) (s_ : (Int)) (k_ : ((Int)) → Option ((Int))) : Option ((Int)) :=
  parrelref20_Nodes_l1 locks (i : Int) (fun set_ _ => k_ set_) big s_ 0

def parrelref20_Nodes_e0   (s_ : (Int)) : Option ((Int)) :=
  some s_

theorem parrelref20_Nodes_w0 (locks : List (T_parrelref20_Lock))  (set : Int) (hN : (locks).length < 9223372036854775807) :
    parrelref20_Nodes_l0 locks  big set 0 = walkN (parrelref20_Nodes_b0 locks ) (parrelref20_Nodes_e0  ) (locks).length 0 set := by
  refine loopN (locks).length (fun fuel_ t_ s_ => parrelref20_Nodes_l0 locks  fuel_ s_ t_) (parrelref20_Nodes_b0 locks ) (parrelref20_Nodes_e0  ) (by first | exact hN | (have := hN; simp only [List.length_nil] at this ⊢; omega)) ?_ ?_ set
  · intro fuel_ i_ s_ hi_
    have hg_ : 0 ≤ (i_ : Int) ∧ (i_ : Int) < (((locks).length : Nat) : Int) := by omega
    show parrelref20_Nodes_l0 locks  (fuel_ + 1) s_ (i_ : Int) = _
    rw [parrelref20_Nodes_l0, if_pos (decide_eq_true (by omega))]
    have hinc_ : IntKind.wrap .i64 ((i_ : Int) + 1) = (((i_ + 1 : Nat)) : Int) := by rw [w64 (by omega) (by omega)]; rfl
    simp only [parrelref20_Nodes_l1_k _ (i_ : Int)  (parrelref20_Nodes_l0 locks  fuel_) (fun set_ _ => parrelref20_Nodes_l0 locks  fuel_ set_ (((i_ + 1 : Nat)) : Int)) (fun set_ => by first | rfl | rw [hinc_])]
    try rw [hinc_]
    first | rfl | (unfold parrelref20_Nodes_b0; simp only [hinc_]; done) | (unfold parrelref20_Nodes_b0; simp only [hinc_]; rfl)
  · intro fuel_ s_
    show parrelref20_Nodes_l0 locks  (fuel_ + 1) s_ (((locks).length : Nat) : Int) = _
    rw [parrelref20_Nodes_l0, if_neg (by rw [decide_eq_true_eq]; omega)]
    rfl

def parrelref01_List_b0 (set : Int)  (i : Nat) (s_ : (List (Int))) (k_ : ((List (Int))) → Option ((List (Int)))) : Option ((List (Int))) :=
  (parrelref01_Has set (i : Int)).bind fun yL0_3 =>
  if (yL0_3 : Bool) then
    if ((s_).length + (([(i : Int)] : List (Int))).length) * 8 ≤ 140737488351232 then
    k_ (s_ ++ ([(i : Int)] : List (Int)))
    else none
  else
    k_ s_

def parrelref01_List_e0   (s_ : (List (Int))) : Option ((List (Int))) :=
  some s_

theorem parrelref01_List_w0 (set : Int)  (l : List (Int)) (hN : 64 < 9223372036854775807) :
    parrelref01_List_l0 set  big 0 l = walkN (parrelref01_List_b0 set ) (parrelref01_List_e0  ) 64 0 l := by
  refine loopN 64 (fun fuel_ t_ s_ => parrelref01_List_l0 set  fuel_ t_ s_) (parrelref01_List_b0 set ) (parrelref01_List_e0  ) (by first | exact hN | (have := hN; simp only [List.length_nil] at this ⊢; omega)) ?_ ?_ l
  · intro fuel_ i_ s_ hi_
    have hg_ : 0 ≤ (i_ : Int) ∧ (i_ : Int) < 64 := by omega
    show parrelref01_List_l0 set  (fuel_ + 1) (i_ : Int) s_ = _
    rw [parrelref01_List_l0, if_pos (decide_eq_true (by omega))]
    have hinc_ : IntKind.wrap .i64 ((i_ : Int) + 1) = (((i_ + 1 : Nat)) : Int) := by rw [w64 (by omega) (by omega)]; rfl
    try rw [hinc_]
    first | rfl | (unfold parrelref01_List_b0; simp only [hinc_]; done) | (unfold parrelref01_List_b0; simp only [hinc_]; rfl)
  · intro fuel_ s_
    show parrelref01_List_l0 set  (fuel_ + 1) ((64 : Nat) : Int) s_ = _
    rw [parrelref01_List_l0, if_neg (by rw [decide_eq_true_eq]; omega)]
    rfl

theorem parrelref20_reg_l1_k (locks : List (T_parrelref20_Lock)) (x_n : Int) (i : Int)  (k k' : (Int) → (Int) → (Int) → Option ((T_api_Reg) × (Bool))) (h : ∀ Boot_ N_, k (IntKind.wrap .i64 (i + 1)) Boot_ N_ = k' (IntKind.wrap .i64 (i + 1)) Boot_ N_) : ∀ fuel x_k Boot2 N2, parrelref20_reg_l1 locks x_n i k fuel x_k Boot2 N2 = parrelref20_reg_l1 locks x_n i k' fuel x_k Boot2 N2 := by
  intro fuel
  induction fuel with
  | zero => intros; rfl
  | succ fuel ih => first | (intros; simp only [parrelref20_reg_l1, ih, h]; done) | (have ih_ := funext fun a0_ => funext fun a1_ => funext fun a2_ => ih a0_ a1_ a2_; intros; simp only [parrelref20_reg_l1, ih, ih_, h])

def parrelref20_reg_b1 (x_n : Int) (k0 : ((Int) × (Int)) → Option ((T_api_Reg) × (Bool))) (a_ : T_parrelref19_Got) (s_ : (Int) × (Int)) (k_ : ((Int) × (Int)) → Option ((T_api_Reg) × (Bool))) : Option ((T_api_Reg) × (Bool)) :=
  if (((IntKind.wrap .i64 a_.f_Node) != x_n) : Bool) then
    k_ (s_.1, s_.2)
  else
    if ((!decide ((T_api_Reg.mk s_.1 s_.2) = (T_api_Reg.mk 0 0))) : Bool) then
      if ((!decide ((T_api_Reg.mk s_.1 s_.2) = a_.f_Reg)) : Bool) then
        some ((T_api_Reg.mk s_.1 s_.2), false)
      else
        k_ (a_.f_Reg.f_Boot, a_.f_Reg.f_N)
    else
      k_ (a_.f_Reg.f_Boot, a_.f_Reg.f_N)

def parrelref20_reg_e1  (k0 : ((Int) × (Int)) → Option ((T_api_Reg) × (Bool))) (s_ : (Int) × (Int)) : Option ((T_api_Reg) × (Bool)) :=
  k0 (s_.1, s_.2)

theorem parrelref20_reg_w1 (locks : List (T_parrelref20_Lock)) (x_n : Int) (i : Int) (k0 : (Int) → (Int) → (Int) → Option ((T_api_Reg) × (Bool))) (Boot2 : Int) (N2 : Int) (hN : ((locks.getD i.toNat default).f_Got).length < 9223372036854775807) (hG0_ : 0 ≤ i ∧ i < (((locks).length : Nat) : Int)) :
    parrelref20_reg_l1 locks x_n i k0 big 0 Boot2 N2 = walkL (parrelref20_reg_b1 x_n (fun s_ => k0 (IntKind.wrap .i64 (i + 1)) s_.1 s_.2)) (parrelref20_reg_e1  (fun s_ => k0 (IntKind.wrap .i64 (i + 1)) s_.1 s_.2)) (locks.getD i.toNat default).f_Got (Boot2, N2) := by
  refine loopL (locks.getD i.toNat default).f_Got (fun fuel_ t_ s_ => parrelref20_reg_l1 locks x_n i k0 fuel_ t_ s_.1 s_.2) (parrelref20_reg_b1 x_n (fun s_ => k0 (IntKind.wrap .i64 (i + 1)) s_.1 s_.2)) (parrelref20_reg_e1  (fun s_ => k0 (IntKind.wrap .i64 (i + 1)) s_.1 s_.2)) (by first | exact hN | (have := hN; simp only [List.length_nil] at this ⊢; omega)) ?_ ?_ (Boot2, N2)
  · intro fuel_ i_ s_ hi_
    have hg_ : 0 ≤ (i_ : Int) ∧ (i_ : Int) < ((((locks.getD i.toNat default).f_Got).length : Nat) : Int) := by omega
    show parrelref20_reg_l1 locks x_n i k0 (fuel_ + 1) (i_ : Int) s_.1 s_.2 = _
    rw [parrelref20_reg_l1, if_pos hG0_, if_pos (decide_eq_true (by omega))]
    repeat rw [if_pos hg_]
    have hinc_ : IntKind.wrap .i64 ((i_ : Int) + 1) = (((i_ + 1 : Nat)) : Int) := by rw [w64 (by omega) (by omega)]; rfl
    try rw [hinc_]
    first | rfl | (unfold parrelref20_reg_b1; simp only [hinc_]; done) | (unfold parrelref20_reg_b1; simp only [hinc_]; rfl)
  · intro fuel_ s_
    show parrelref20_reg_l1 locks x_n i k0 (fuel_ + 1) ((((locks.getD i.toNat default).f_Got).length : Nat) : Int) s_.1 s_.2 = _
    rw [parrelref20_reg_l1, if_pos hG0_, if_neg (by rw [decide_eq_true_eq]; omega)]
    rfl

def parrelref20_reg_b0 (locks : List (T_parrelref20_Lock)) (x_n : Int)  (i : Nat) (s_ : (Int) × (Int)) (k_ : ((Int) × (Int)) → Option ((T_api_Reg) × (Bool))) : Option ((T_api_Reg) × (Bool)) :=
  parrelref20_reg_l1 locks x_n (i : Int) (fun _ Boot_ N_ => k_ (Boot_, N_)) big 0 s_.1 s_.2

def parrelref20_reg_e0   (s_ : (Int) × (Int)) : Option ((T_api_Reg) × (Bool)) :=
  some ((T_api_Reg.mk s_.1 s_.2), true)

theorem parrelref20_reg_w0 (locks : List (T_parrelref20_Lock)) (x_n : Int)  (Boot : Int) (N : Int) (hN : (locks).length < 9223372036854775807) :
    parrelref20_reg_l0 locks x_n  big 0 Boot N = walkN (parrelref20_reg_b0 locks x_n ) (parrelref20_reg_e0  ) (locks).length 0 (Boot, N) := by
  refine loopN (locks).length (fun fuel_ t_ s_ => parrelref20_reg_l0 locks x_n  fuel_ t_ s_.1 s_.2) (parrelref20_reg_b0 locks x_n ) (parrelref20_reg_e0  ) (by first | exact hN | (have := hN; simp only [List.length_nil] at this ⊢; omega)) ?_ ?_ (Boot, N)
  · intro fuel_ i_ s_ hi_
    have hg_ : 0 ≤ (i_ : Int) ∧ (i_ : Int) < (((locks).length : Nat) : Int) := by omega
    show parrelref20_reg_l0 locks x_n  (fuel_ + 1) (i_ : Int) s_.1 s_.2 = _
    rw [parrelref20_reg_l0, if_pos (decide_eq_true (by omega))]
    have hinc_ : IntKind.wrap .i64 ((i_ : Int) + 1) = (((i_ + 1 : Nat)) : Int) := by rw [w64 (by omega) (by omega)]; rfl
    simp only [parrelref20_reg_l1_k _ _ (i_ : Int)  (parrelref20_reg_l0 locks x_n  fuel_) (fun _ Boot_ N_ => parrelref20_reg_l0 locks x_n  fuel_ (((i_ + 1 : Nat)) : Int) Boot_ N_) (fun Boot_ N_ => by first | rfl | rw [hinc_])]
    try rw [hinc_]
    first | rfl | (unfold parrelref20_reg_b0; simp only [hinc_]; done) | (unfold parrelref20_reg_b0; simp only [hinc_]; rfl)
  · intro fuel_ s_
    show parrelref20_reg_l0 locks x_n  (fuel_ + 1) (((locks).length : Nat) : Int) s_.1 s_.2 = _
    rw [parrelref20_reg_l0, if_neg (by rw [decide_eq_true_eq]; omega)]
    rfl

def parrelref20_of_b0 (x_k : A8 (Int))  (a_ : T_parrelref20_Lock) (s_ : (List (T_parrelref20_Lock))) (k_ : ((List (T_parrelref20_Lock))) → Option ((Int))) : Option ((Int)) :=
  if ((decide (a_.f_Key = x_k)) : Bool) then
    if ((a_.f_Mode == 2) : Bool) then
      if ((s_).length + (([a_] : List (T_parrelref20_Lock))).length) * 40 ≤ 140737488351232 then
      k_ (s_ ++ ([a_] : List (T_parrelref20_Lock)))
      else none
    else
      k_ s_
  else
    k_ s_

def parrelref20_of_e0   (s_ : (List (T_parrelref20_Lock))) : Option ((Int)) :=
  (parrelref20_Nodes s_).bind fun yL0_3 =>
  some yL0_3

theorem parrelref20_of_w0 (locks : List (T_parrelref20_Lock)) (x_k : A8 (Int))  (l : List (T_parrelref20_Lock)) (hN : (locks).length < 9223372036854775807) :
    parrelref20_of_l0 locks x_k  big 0 l = walkL (parrelref20_of_b0 x_k ) (parrelref20_of_e0  ) locks l := by
  refine loopL locks (fun fuel_ t_ s_ => parrelref20_of_l0 locks x_k  fuel_ t_ s_) (parrelref20_of_b0 x_k ) (parrelref20_of_e0  ) (by first | exact hN | (have := hN; simp only [List.length_nil] at this ⊢; omega)) ?_ ?_ l
  · intro fuel_ i_ s_ hi_
    have hg_ : 0 ≤ (i_ : Int) ∧ (i_ : Int) < (((locks).length : Nat) : Int) := by omega
    show parrelref20_of_l0 locks x_k  (fuel_ + 1) (i_ : Int) s_ = _
    rw [parrelref20_of_l0, if_pos (decide_eq_true (by omega))]
    repeat rw [if_pos hg_]
    have hinc_ : IntKind.wrap .i64 ((i_ : Int) + 1) = (((i_ + 1 : Nat)) : Int) := by rw [w64 (by omega) (by omega)]; rfl
    try rw [hinc_]
    first | rfl | (unfold parrelref20_of_b0; simp only [hinc_]; done) | (unfold parrelref20_of_b0; simp only [hinc_]; rfl)
  · intro fuel_ s_
    show parrelref20_of_l0 locks x_k  (fuel_ + 1) (((locks).length : Nat) : Int) s_ = _
    rw [parrelref20_of_l0, if_neg (by rw [decide_eq_true_eq]; omega)]
    rfl

def parrelref06_Of_b0 (c : T_api_Config) (set : Int)  (i : Nat) (s_ : (Int)) (k_ : ((Int)) → Option ((Int))) : Option ((Int)) :=
  (parrelref01_Has set (i : Int)).bind fun yL0_3 =>
  if (yL0_3 : Bool) then
    k_ (IntKind.wrap .i64 (s_ + (IntKind.wrap .i64 (A8.get c.f_Votes i))))
  else
    k_ s_

def parrelref06_Of_e0   (s_ : (Int)) : Option ((Int)) :=
  some s_

theorem parrelref06_Of_w0 (c : T_api_Config) (set : Int)  (x_n : Int) (hN : 8 < 9223372036854775807) :
    parrelref06_Of_l0 c set  big x_n 0 = walkN (parrelref06_Of_b0 c set ) (parrelref06_Of_e0  ) 8 0 x_n := by
  refine loopN 8 (fun fuel_ t_ s_ => parrelref06_Of_l0 c set  fuel_ s_ t_) (parrelref06_Of_b0 c set ) (parrelref06_Of_e0  ) (by first | exact hN | (have := hN; simp only [List.length_nil] at this ⊢; omega)) ?_ ?_ x_n
  · intro fuel_ i_ s_ hi_
    have hg_ : 0 ≤ (i_ : Int) ∧ (i_ : Int) < 8 := by omega
    show parrelref06_Of_l0 c set  (fuel_ + 1) s_ (i_ : Int) = _
    rw [parrelref06_Of_l0, if_pos (decide_eq_true (by omega))]
    repeat rw [if_pos hg_]
    have hinc_ : IntKind.wrap .i64 ((i_ : Int) + 1) = (((i_ + 1 : Nat)) : Int) := by rw [w64 (by omega) (by omega)]; rfl
    try rw [hinc_]
    first | rfl | (unfold parrelref06_Of_b0; simp only [hinc_]; done) | (unfold parrelref06_Of_b0; simp only [hinc_]; rfl)
  · intro fuel_ s_
    show parrelref06_Of_l0 c set  (fuel_ + 1) s_ ((8 : Nat) : Int) = _
    rw [parrelref06_Of_l0, if_neg (by rw [decide_eq_true_eq]; omega)]
    rfl

theorem parrelref20_Plan_l1_k (locks : List (T_parrelref20_Lock)) (writes : List (T_api_Write)) (i : Int) (l : List (T_parrelref18_Member)) (y10 : (List (Int))) (yL0_4 : (T_api_Reg) × (Bool))  (k k' : (Int) → (List (T_parrelref18_Member)) → Option ((List (T_parrelref18_Member)) × (List (Int)) × (Int))) (h : ∀ l_, k (IntKind.wrap .i64 (i + 1)) l_ = k' (IntKind.wrap .i64 (i + 1)) l_) : ∀ fuel x_k l2, parrelref20_Plan_l1 locks writes i l y10 yL0_4 k fuel x_k l2 = parrelref20_Plan_l1 locks writes i l y10 yL0_4 k' fuel x_k l2 := by
  intro fuel
  induction fuel with
  | zero => intros; rfl
  | succ fuel ih => first | (intros; simp only [parrelref20_Plan_l1, ih, h]; done) | (have ih_ := funext fun a0_ => funext fun a1_ => ih a0_ a1_; intros; simp only [parrelref20_Plan_l1, ih, ih_, h])

def parrelref20_Plan_b1 (locks : List (T_parrelref20_Lock)) (i : Int) (y10 : (List (Int))) (k0 : ((List (T_parrelref18_Member))) → Option ((List (T_parrelref18_Member)) × (List (Int)) × (Int))) (a_ : T_api_Write) (s_ : (List (T_api_Write))) (k_ : ((List (T_api_Write))) → Option ((List (T_parrelref18_Member)) × (List (Int)) × (Int))) : Option ((List (T_parrelref18_Member)) × (List (Int)) × (Int)) :=
  (parrelref20_of locks a_.f_Key).bind fun yL1_4 =>
  if 0 ≤ i ∧ i < (((y10).length : Nat) : Int) then
  (parrelref01_Has yL1_4 (y10.getD i.toNat default)).bind fun yL1_7 =>
  if (yL1_7 : Bool) then
    if ((s_).length + (([a_] : List (T_api_Write))).length) * 48 ≤ 140737488351232 then
    k_ (s_ ++ ([a_] : List (T_api_Write)))
    else none
  else
    k_ s_
  else none

def parrelref20_Plan_e1 (i : Int) (l : List (T_parrelref18_Member)) (y10 : (List (Int))) (yL0_4 : (T_api_Reg) × (Bool)) (k0 : ((List (T_parrelref18_Member))) → Option ((List (T_parrelref18_Member)) × (List (Int)) × (Int))) (s_ : (List (T_api_Write))) : Option ((List (T_parrelref18_Member)) × (List (Int)) × (Int)) :=
  if ((l).length + (([(T_parrelref18_Member.mk (IntKind.wrap .u8 (y10.getD i.toNat default)) yL0_4.1 s_ 0)] : List (T_parrelref18_Member))).length) * 48 ≤ 140737488351232 then
  k0 (l ++ ([(T_parrelref18_Member.mk (IntKind.wrap .u8 (y10.getD i.toNat default)) yL0_4.1 s_ 0)] : List (T_parrelref18_Member)))
  else none

theorem parrelref20_Plan_w1 (locks : List (T_parrelref20_Lock)) (writes : List (T_api_Write)) (i : Int) (l : List (T_parrelref18_Member)) (y10 : (List (Int))) (yL0_4 : (T_api_Reg) × (Bool)) (k0 : (Int) → (List (T_parrelref18_Member)) → Option ((List (T_parrelref18_Member)) × (List (Int)) × (Int))) (l2 : List (T_api_Write)) (hN : (writes).length < 9223372036854775807) :
    parrelref20_Plan_l1 locks writes i l y10 yL0_4 k0 big 0 l2 = walkL (parrelref20_Plan_b1 locks i y10 (fun s_ => k0 (IntKind.wrap .i64 (i + 1)) s_)) (parrelref20_Plan_e1 i l y10 yL0_4 (fun s_ => k0 (IntKind.wrap .i64 (i + 1)) s_)) writes l2 := by
  refine loopL writes (fun fuel_ t_ s_ => parrelref20_Plan_l1 locks writes i l y10 yL0_4 k0 fuel_ t_ s_) (parrelref20_Plan_b1 locks i y10 (fun s_ => k0 (IntKind.wrap .i64 (i + 1)) s_)) (parrelref20_Plan_e1 i l y10 yL0_4 (fun s_ => k0 (IntKind.wrap .i64 (i + 1)) s_)) (by first | exact hN | (have := hN; simp only [List.length_nil] at this ⊢; omega)) ?_ ?_ l2
  · intro fuel_ i_ s_ hi_
    have hg_ : 0 ≤ (i_ : Int) ∧ (i_ : Int) < (((writes).length : Nat) : Int) := by omega
    show parrelref20_Plan_l1 locks writes i l y10 yL0_4 k0 (fuel_ + 1) (i_ : Int) s_ = _
    rw [parrelref20_Plan_l1, if_pos (decide_eq_true (by omega))]
    repeat rw [if_pos hg_]
    have hinc_ : IntKind.wrap .i64 ((i_ : Int) + 1) = (((i_ + 1 : Nat)) : Int) := by rw [w64 (by omega) (by omega)]; rfl
    try rw [hinc_]
    first | rfl | (unfold parrelref20_Plan_b1; simp only [hinc_]; done) | (unfold parrelref20_Plan_b1; simp only [hinc_]; rfl)
  · intro fuel_ s_
    show parrelref20_Plan_l1 locks writes i l y10 yL0_4 k0 (fuel_ + 1) (((writes).length : Nat) : Int) s_ = _
    rw [parrelref20_Plan_l1, if_neg (by rw [decide_eq_true_eq]; omega)]
    rfl

theorem parrelref20_Plan_l4_k (locks : List (T_parrelref20_Lock)) (writes : List (T_api_Write)) (l : List (T_parrelref18_Member)) (x_k3 : Int) (l3 : List (Int)) (yL3_4 : (Int))  (k k' : (Int) → (List (Int)) → Option ((List (T_parrelref18_Member)) × (List (Int)) × (Int))) (h : ∀ l3_, k (IntKind.wrap .i64 (x_k3 + 1)) l3_ = k' (IntKind.wrap .i64 (x_k3 + 1)) l3_) : ∀ fuel left x_n, parrelref20_Plan_l4 locks writes l x_k3 l3 yL3_4 k fuel left x_n = parrelref20_Plan_l4 locks writes l x_k3 l3 yL3_4 k' fuel left x_n := by
  intro fuel
  induction fuel with
  | zero => intros; rfl
  | succ fuel ih => first | (intros; simp only [parrelref20_Plan_l4, ih, h]; done) | (have ih_ := funext fun a0_ => funext fun a1_ => ih a0_ a1_; intros; simp only [parrelref20_Plan_l4, ih, ih_, h])

def parrelref20_Plan_b4 (writes : List (T_api_Write)) (x_k3 : Int) (yL3_4 : (Int)) (k3 : ((List (Int))) → Option ((List (T_parrelref18_Member)) × (List (Int)) × (Int))) (x_n : Nat) (s_ : (Int)) (k_ : ((Int)) → Option ((List (T_parrelref18_Member)) × (List (Int)) × (Int))) : Option ((List (T_parrelref18_Member)) × (List (Int)) × (Int)) :=
  if ((decide (0 < (A8.get (writes.getD x_k3.toNat default).f_Item.f_Conf.f_Votes x_n))) : Bool) then
    (parrelref01_Has yL3_4 (x_n : Int)).bind fun yL4_5 =>
    if ((!yL4_5) : Bool) then
      (parrelref01_With s_ (x_n : Int)).bind fun yL4_8 =>
      k_ yL4_8
    else
      k_ s_
  else
    k_ s_

def parrelref20_Plan_e4 (l3 : List (Int)) (k3 : ((List (Int))) → Option ((List (T_parrelref18_Member)) × (List (Int)) × (Int))) (s_ : (Int)) : Option ((List (T_parrelref18_Member)) × (List (Int)) × (Int)) :=
  if ((l3).length + (([s_] : List (Int))).length) * 8 ≤ 140737488351232 then
  k3 (l3 ++ ([s_] : List (Int)))
  else none

theorem parrelref20_Plan_w4 (locks : List (T_parrelref20_Lock)) (writes : List (T_api_Write)) (l : List (T_parrelref18_Member)) (x_k3 : Int) (l3 : List (Int)) (yL3_4 : (Int)) (k3 : (Int) → (List (Int)) → Option ((List (T_parrelref18_Member)) × (List (Int)) × (Int))) (left : Int) (hN : 8 < 9223372036854775807) :
    parrelref20_Plan_l4 locks writes l x_k3 l3 yL3_4 k3 big left 0 = walkN (parrelref20_Plan_b4 writes x_k3 yL3_4 (fun s_ => k3 (IntKind.wrap .i64 (x_k3 + 1)) s_)) (parrelref20_Plan_e4 l3 (fun s_ => k3 (IntKind.wrap .i64 (x_k3 + 1)) s_)) 8 0 left := by
  refine loopN 8 (fun fuel_ t_ s_ => parrelref20_Plan_l4 locks writes l x_k3 l3 yL3_4 k3 fuel_ s_ t_) (parrelref20_Plan_b4 writes x_k3 yL3_4 (fun s_ => k3 (IntKind.wrap .i64 (x_k3 + 1)) s_)) (parrelref20_Plan_e4 l3 (fun s_ => k3 (IntKind.wrap .i64 (x_k3 + 1)) s_)) (by first | exact hN | (have := hN; simp only [List.length_nil] at this ⊢; omega)) ?_ ?_ left
  · intro fuel_ i_ s_ hi_
    have hg_ : 0 ≤ (i_ : Int) ∧ (i_ : Int) < 8 := by omega
    show parrelref20_Plan_l4 locks writes l x_k3 l3 yL3_4 k3 (fuel_ + 1) s_ (i_ : Int) = _
    rw [parrelref20_Plan_l4, if_pos (decide_eq_true (by omega))]
    repeat rw [if_pos hg_]
    have hinc_ : IntKind.wrap .i64 ((i_ : Int) + 1) = (((i_ + 1 : Nat)) : Int) := by rw [w64 (by omega) (by omega)]; rfl
    try rw [hinc_]
    first | rfl | (unfold parrelref20_Plan_b4; simp only [hinc_]; done) | (unfold parrelref20_Plan_b4; simp only [hinc_]; rfl)
  · intro fuel_ s_
    show parrelref20_Plan_l4 locks writes l x_k3 l3 yL3_4 k3 (fuel_ + 1) s_ ((8 : Nat) : Int) = _
    rw [parrelref20_Plan_l4, if_neg (by rw [decide_eq_true_eq]; omega)]
    rfl

def parrelref20_Plan_b3 (locks : List (T_parrelref20_Lock)) (writes : List (T_api_Write)) (l : List (T_parrelref18_Member))  (x_k3 : Nat) (s_ : (List (Int))) (k_ : ((List (Int))) → Option ((List (T_parrelref18_Member)) × (List (Int)) × (Int))) : Option ((List (T_parrelref18_Member)) × (List (Int)) × (Int)) :=
  (parrelref20_of locks (writes.getD x_k3 default).f_Key).bind fun yL3_4 =>
  (parrelref06_Of (writes.getD x_k3 default).f_Item.f_Conf yL3_4).bind fun yL3_6 =>
  if ((decide (yL3_6 < (IntKind.wrap .i64 (writes.getD x_k3 default).f_Item.f_Conf.f_W))) : Bool) then
    some (([] : List (T_parrelref18_Member)), ([] : List (Int)), 16)
  else
    parrelref20_Plan_l4 locks writes l (x_k3 : Int) s_ yL3_4 (fun _ l3_ => k_ l3_) big 0 0

def parrelref20_Plan_e3 (l : List (T_parrelref18_Member))  (s_ : (List (Int))) : Option ((List (T_parrelref18_Member)) × (List (Int)) × (Int)) :=
  some (l, s_, 0)

theorem parrelref20_Plan_w3 (locks : List (T_parrelref20_Lock)) (writes : List (T_api_Write)) (l : List (T_parrelref18_Member))  (l3 : List (Int)) (hN : (writes).length < 9223372036854775807) :
    parrelref20_Plan_l3 locks writes l  big 0 l3 = walkN (parrelref20_Plan_b3 locks writes l ) (parrelref20_Plan_e3 l ) (writes).length 0 l3 := by
  refine loopN (writes).length (fun fuel_ t_ s_ => parrelref20_Plan_l3 locks writes l  fuel_ t_ s_) (parrelref20_Plan_b3 locks writes l ) (parrelref20_Plan_e3 l ) (by first | exact hN | (have := hN; simp only [List.length_nil] at this ⊢; omega)) ?_ ?_ l3
  · intro fuel_ i_ s_ hi_
    have hg_ : 0 ≤ (i_ : Int) ∧ (i_ : Int) < (((writes).length : Nat) : Int) := by omega
    show parrelref20_Plan_l3 locks writes l  (fuel_ + 1) (i_ : Int) s_ = _
    rw [parrelref20_Plan_l3, if_pos (decide_eq_true (by omega))]
    repeat rw [if_pos hg_]
    have hinc_ : IntKind.wrap .i64 ((i_ : Int) + 1) = (((i_ + 1 : Nat)) : Int) := by rw [w64 (by omega) (by omega)]; rfl
    simp only [parrelref20_Plan_l4_k _ _ _ (i_ : Int) _ _  (parrelref20_Plan_l3 locks writes l  fuel_) (fun _ l3_ => parrelref20_Plan_l3 locks writes l  fuel_ (((i_ + 1 : Nat)) : Int) l3_) (fun l3_ => by first | rfl | rw [hinc_])]
    try rw [hinc_]
    first | rfl | (unfold parrelref20_Plan_b3; simp only [hinc_]; done) | (unfold parrelref20_Plan_b3; simp only [hinc_]; rfl)
  · intro fuel_ s_
    show parrelref20_Plan_l3 locks writes l  (fuel_ + 1) (((writes).length : Nat) : Int) s_ = _
    rw [parrelref20_Plan_l3, if_neg (by rw [decide_eq_true_eq]; omega)]
    rfl

def parrelref20_Plan_b2 (locks : List (T_parrelref20_Lock))  (a_ : T_api_Write) (s_ : Unit) (k_ : (Unit) → Option ((List (T_parrelref18_Member)) × (List (Int)) × (Int))) : Option ((List (T_parrelref18_Member)) × (List (Int)) × (Int)) :=
  (parrelref20_of locks a_.f_Key).bind fun yL2_4 =>
  if ((yL2_4 == 0) : Bool) then
    some (([] : List (T_parrelref18_Member)), ([] : List (Int)), 6)
  else
    k_ ()

def parrelref20_Plan_e2 (locks : List (T_parrelref20_Lock)) (writes : List (T_api_Write)) (l : List (T_parrelref18_Member))  (s_ : Unit) : Option ((List (T_parrelref18_Member)) × (List (Int)) × (Int)) :=
  parrelref20_Plan_l3 locks writes l  big 0 ([] : List (Int))

theorem parrelref20_Plan_w2 (locks : List (T_parrelref20_Lock)) (writes : List (T_api_Write)) (l : List (T_parrelref18_Member))   (hN : (writes).length < 9223372036854775807) :
    parrelref20_Plan_l2 locks writes l  big 0 = walkL (parrelref20_Plan_b2 locks ) (parrelref20_Plan_e2 locks writes l ) writes () := by
  refine loopL writes (fun fuel_ t_ s_ => parrelref20_Plan_l2 locks writes l  fuel_ t_) (parrelref20_Plan_b2 locks ) (parrelref20_Plan_e2 locks writes l ) (by first | exact hN | (have := hN; simp only [List.length_nil] at this ⊢; omega)) ?_ ?_ ()
  · intro fuel_ i_ s_ hi_
    have hg_ : 0 ≤ (i_ : Int) ∧ (i_ : Int) < (((writes).length : Nat) : Int) := by omega
    show parrelref20_Plan_l2 locks writes l  (fuel_ + 1) (i_ : Int) = _
    rw [parrelref20_Plan_l2, if_pos (decide_eq_true (by omega))]
    repeat rw [if_pos hg_]
    have hinc_ : IntKind.wrap .i64 ((i_ : Int) + 1) = (((i_ + 1 : Nat)) : Int) := by rw [w64 (by omega) (by omega)]; rfl
    try rw [hinc_]
    first | rfl | (unfold parrelref20_Plan_b2; simp only [hinc_]; done) | (unfold parrelref20_Plan_b2; simp only [hinc_]; rfl)
  · intro fuel_ s_
    show parrelref20_Plan_l2 locks writes l  (fuel_ + 1) (((writes).length : Nat) : Int) = _
    rw [parrelref20_Plan_l2, if_neg (by rw [decide_eq_true_eq]; omega)]
    rfl

def parrelref20_Plan_b0 (locks : List (T_parrelref20_Lock)) (writes : List (T_api_Write)) (y10 : (List (Int)))  (i : Nat) (s_ : (List (T_parrelref18_Member))) (k_ : ((List (T_parrelref18_Member))) → Option ((List (T_parrelref18_Member)) × (List (Int)) × (Int))) : Option ((List (T_parrelref18_Member)) × (List (Int)) × (Int)) :=
  (parrelref20_reg locks (y10.getD i default)).bind fun yL0_4 =>
  if ((!yL0_4.2) : Bool) then
    some (([] : List (T_parrelref18_Member)), ([] : List (Int)), 14)
  else
    parrelref20_Plan_l1 locks writes (i : Int) s_ y10 yL0_4 (fun _ l_ => k_ l_) big 0 ([] : List (T_api_Write))

def parrelref20_Plan_e0 (locks : List (T_parrelref20_Lock)) (writes : List (T_api_Write))  (s_ : (List (T_parrelref18_Member))) : Option ((List (T_parrelref18_Member)) × (List (Int)) × (Int)) :=
  parrelref20_Plan_l2 locks writes s_  big 0

theorem parrelref20_Plan_w0 (locks : List (T_parrelref20_Lock)) (writes : List (T_api_Write)) (y10 : (List (Int)))  (l : List (T_parrelref18_Member)) (hN : (y10).length < 9223372036854775807) :
    parrelref20_Plan_l0 locks writes y10  big 0 l = walkN (parrelref20_Plan_b0 locks writes y10 ) (parrelref20_Plan_e0 locks writes ) (y10).length 0 l := by
  refine loopN (y10).length (fun fuel_ t_ s_ => parrelref20_Plan_l0 locks writes y10  fuel_ t_ s_) (parrelref20_Plan_b0 locks writes y10 ) (parrelref20_Plan_e0 locks writes ) (by first | exact hN | (have := hN; simp only [List.length_nil] at this ⊢; omega)) ?_ ?_ l
  · intro fuel_ i_ s_ hi_
    have hg_ : 0 ≤ (i_ : Int) ∧ (i_ : Int) < (((y10).length : Nat) : Int) := by omega
    show parrelref20_Plan_l0 locks writes y10  (fuel_ + 1) (i_ : Int) s_ = _
    rw [parrelref20_Plan_l0, if_pos (decide_eq_true (by omega))]
    repeat rw [if_pos hg_]
    have hinc_ : IntKind.wrap .i64 ((i_ : Int) + 1) = (((i_ + 1 : Nat)) : Int) := by rw [w64 (by omega) (by omega)]; rfl
    simp only [parrelref20_Plan_l1_k _ _ (i_ : Int) _ _ _  (parrelref20_Plan_l0 locks writes y10  fuel_) (fun _ l_ => parrelref20_Plan_l0 locks writes y10  fuel_ (((i_ + 1 : Nat)) : Int) l_) (fun l_ => by first | rfl | rw [hinc_])]
    try rw [hinc_]
    first | rfl | (unfold parrelref20_Plan_b0; simp only [hinc_]; done) | (unfold parrelref20_Plan_b0; simp only [hinc_]; rfl)
  · intro fuel_ s_
    show parrelref20_Plan_l0 locks writes y10  (fuel_ + 1) (((y10).length : Nat) : Int) s_ = _
    rw [parrelref20_Plan_l0, if_neg (by rw [decide_eq_true_eq]; omega)]
    rfl

def parrelref10_SameWrites_b0 (a : List (T_api_Write)) (b : List (T_api_Write))  (i : Nat) (s_ : Unit) (k_ : (Unit) → Option ((Bool))) : Option ((Bool)) :=
  if 0 ≤ (i : Int) ∧ (i : Int) < (((b).length : Nat) : Int) then
  if ((!decide ((a.getD i default) = (b.getD i default))) : Bool) then
    some false
  else
    k_ ()
  else none

def parrelref10_SameWrites_e0   (s_ : Unit) : Option ((Bool)) :=
  some true

theorem parrelref10_SameWrites_w0 (a : List (T_api_Write)) (b : List (T_api_Write))   (hN : (a).length < 9223372036854775807) :
    parrelref10_SameWrites_l0 a b  big 0 = walkN (parrelref10_SameWrites_b0 a b ) (parrelref10_SameWrites_e0  ) (a).length 0 () := by
  refine loopN (a).length (fun fuel_ t_ s_ => parrelref10_SameWrites_l0 a b  fuel_ t_) (parrelref10_SameWrites_b0 a b ) (parrelref10_SameWrites_e0  ) (by first | exact hN | (have := hN; simp only [List.length_nil] at this ⊢; omega)) ?_ ?_ ()
  · intro fuel_ i_ s_ hi_
    have hg_ : 0 ≤ (i_ : Int) ∧ (i_ : Int) < (((a).length : Nat) : Int) := by omega
    show parrelref10_SameWrites_l0 a b  (fuel_ + 1) (i_ : Int) = _
    rw [parrelref10_SameWrites_l0, if_pos (decide_eq_true (by omega))]
    repeat rw [if_pos hg_]
    have hinc_ : IntKind.wrap .i64 ((i_ : Int) + 1) = (((i_ + 1 : Nat)) : Int) := by rw [w64 (by omega) (by omega)]; rfl
    try rw [hinc_]
    first | rfl | (unfold parrelref10_SameWrites_b0; simp only [hinc_]; done) | (unfold parrelref10_SameWrites_b0; simp only [hinc_]; rfl)
  · intro fuel_ s_
    show parrelref10_SameWrites_l0 a b  (fuel_ + 1) (((a).length : Nat) : Int) = _
    rw [parrelref10_SameWrites_l0, if_neg (by rw [decide_eq_true_eq]; omega)]
    rfl

def parrellaw20_members_b0 (a : List (T_coord_Member)) (b : List (T_parrelref18_Member))  (t13 : Nat) (s_ : Unit) (k_ : (Unit) → Option ((Bool))) : Option ((Bool)) :=
  if 0 ≤ (t13 : Int) ∧ (t13 : Int) < (((b).length : Nat) : Int) then
  if (((a.getD t13 default).f_Node != (b.getD t13 default).f_Node) : Bool) then
    some false
  else
    if ((!decide ((a.getD t13 default).f_Reg = (b.getD t13 default).f_Reg)) : Bool) then
      some false
    else
      (parrelref10_SameWrites (a.getD t13 default).f_Writes (b.getD t13 default).f_Writes).bind fun yL0_7 =>
      if ((!yL0_7) : Bool) then
        some false
      else
        k_ ()
  else none

def parrellaw20_members_e0   (s_ : Unit) : Option ((Bool)) :=
  some true

theorem parrellaw20_members_w0 (a : List (T_coord_Member)) (b : List (T_parrelref18_Member))   (hN : (a).length < 9223372036854775807) :
    parrellaw20_members_l0 a b  big 0 = walkN (parrellaw20_members_b0 a b ) (parrellaw20_members_e0  ) (a).length 0 () := by
  refine loopN (a).length (fun fuel_ t_ s_ => parrellaw20_members_l0 a b  fuel_ t_) (parrellaw20_members_b0 a b ) (parrellaw20_members_e0  ) (by first | exact hN | (have := hN; simp only [List.length_nil] at this ⊢; omega)) ?_ ?_ ()
  · intro fuel_ i_ s_ hi_
    have hg_ : 0 ≤ (i_ : Int) ∧ (i_ : Int) < (((a).length : Nat) : Int) := by omega
    show parrellaw20_members_l0 a b  (fuel_ + 1) (i_ : Int) = _
    rw [parrellaw20_members_l0, if_pos (decide_eq_true (by omega))]
    repeat rw [if_pos hg_]
    have hinc_ : IntKind.wrap .i64 ((i_ : Int) + 1) = (((i_ + 1 : Nat)) : Int) := by rw [w64 (by omega) (by omega)]; rfl
    try rw [hinc_]
    first | rfl | (unfold parrellaw20_members_b0; simp only [hinc_]; done) | (unfold parrellaw20_members_b0; simp only [hinc_]; rfl)
  · intro fuel_ s_
    show parrellaw20_members_l0 a b  (fuel_ + 1) (((a).length : Nat) : Int) = _
    rw [parrellaw20_members_l0, if_neg (by rw [decide_eq_true_eq]; omega)]
    rfl

def parrellaw20_sets_b0 (a : List (Int)) (b : List (Int))  (t13 : Nat) (s_ : Unit) (k_ : (Unit) → Option ((Bool))) : Option ((Bool)) :=
  if 0 ≤ (t13 : Int) ∧ (t13 : Int) < (((b).length : Nat) : Int) then
  if (((a.getD t13 default) != (b.getD t13 default)) : Bool) then
    some false
  else
    k_ ()
  else none

def parrellaw20_sets_e0   (s_ : Unit) : Option ((Bool)) :=
  some true

theorem parrellaw20_sets_w0 (a : List (Int)) (b : List (Int))   (hN : (a).length < 9223372036854775807) :
    parrellaw20_sets_l0 a b  big 0 = walkN (parrellaw20_sets_b0 a b ) (parrellaw20_sets_e0  ) (a).length 0 () := by
  refine loopN (a).length (fun fuel_ t_ s_ => parrellaw20_sets_l0 a b  fuel_ t_) (parrellaw20_sets_b0 a b ) (parrellaw20_sets_e0  ) (by first | exact hN | (have := hN; simp only [List.length_nil] at this ⊢; omega)) ?_ ?_ ()
  · intro fuel_ i_ s_ hi_
    have hg_ : 0 ≤ (i_ : Int) ∧ (i_ : Int) < (((a).length : Nat) : Int) := by omega
    show parrellaw20_sets_l0 a b  (fuel_ + 1) (i_ : Int) = _
    rw [parrellaw20_sets_l0, if_pos (decide_eq_true (by omega))]
    repeat rw [if_pos hg_]
    have hinc_ : IntKind.wrap .i64 ((i_ : Int) + 1) = (((i_ + 1 : Nat)) : Int) := by rw [w64 (by omega) (by omega)]; rfl
    try rw [hinc_]
    first | rfl | (unfold parrellaw20_sets_b0; simp only [hinc_]; done) | (unfold parrellaw20_sets_b0; simp only [hinc_]; rfl)
  · intro fuel_ s_
    show parrellaw20_sets_l0 a b  (fuel_ + 1) (((a).length : Nat) : Int) = _
    rw [parrellaw20_sets_l0, if_neg (by rw [decide_eq_true_eq]; omega)]
    rfl

theorem parrellaw20_MissAll_l2_k (l : List (T_parrelref20_Lock)) (x_w : List (T_api_Write)) (t49 : Int) (t56 : Int) (y7 : (List (T_coord_Member)) × (List (Int)) × (Int))  (k k' : (Int) → (Int) → Option ((Bool))) (h : ∀ nodes_, k nodes_ (IntKind.wrap .i64 (t56 + 1)) = k' nodes_ (IntKind.wrap .i64 (t56 + 1))) : ∀ fuel nodes2 t63, parrellaw20_MissAll_l2 l x_w t49 t56 y7 k fuel nodes2 t63 = parrellaw20_MissAll_l2 l x_w t49 t56 y7 k' fuel nodes2 t63 := by
  intro fuel
  induction fuel with
  | zero => intros; rfl
  | succ fuel ih => first | (intros; simp only [parrellaw20_MissAll_l2, ih, h]; done) | (have ih_ := funext fun a0_ => funext fun a1_ => ih a0_ a1_; intros; simp only [parrellaw20_MissAll_l2, ih, ih_, h])

def parrellaw20_MissAll_b2 (x_w : List (T_api_Write)) (t49 : Int) (t56 : Int) (y7 : (List (T_coord_Member)) × (List (Int)) × (Int)) (k1 : ((Int)) → Option ((Bool))) (t63 : Nat) (s_ : (Int)) (k_ : ((Int)) → Option ((Bool))) : Option ((Bool)) :=
  if ((decide (((y7.1.getD t56.toNat default).f_Writes.getD t63 default).f_Key = (x_w.getD t49.toNat default).f_Key)) : Bool) then
    if ((!decide (((y7.1.getD t56.toNat default).f_Writes.getD t63 default) = (x_w.getD t49.toNat default))) : Bool) then
      some false
    else
      if 0 ≤ (Int.tmod (y7.1.getD t56.toNat default).f_Node 64) then
      k_ (IntKind.wrap .u64 ((BitVec.ofInt (IntKind.bits .u64) s_ ||| BitVec.ofInt (IntKind.bits .u64) (IntKind.wrap .u64 (1 * 2 ^ (min (Int.toNat (Int.tmod (y7.1.getD t56.toNat default).f_Node 64)) (IntKind.bits .u64))))).toNat : Int))
      else none
  else
    k_ s_

def parrellaw20_MissAll_e2  (k1 : ((Int)) → Option ((Bool))) (s_ : (Int)) : Option ((Bool)) :=
  k1 s_

theorem parrellaw20_MissAll_w2 (l : List (T_parrelref20_Lock)) (x_w : List (T_api_Write)) (t49 : Int) (t56 : Int) (y7 : (List (T_coord_Member)) × (List (Int)) × (Int)) (k1 : (Int) → (Int) → Option ((Bool))) (nodes2 : Int) (hN : ((y7.1.getD t56.toNat default).f_Writes).length < 9223372036854775807) :
    parrellaw20_MissAll_l2 l x_w t49 t56 y7 k1 big nodes2 0 = walkN (parrellaw20_MissAll_b2 x_w t49 t56 y7 (fun s_ => k1 s_ (IntKind.wrap .i64 (t56 + 1)))) (parrellaw20_MissAll_e2  (fun s_ => k1 s_ (IntKind.wrap .i64 (t56 + 1)))) ((y7.1.getD t56.toNat default).f_Writes).length 0 nodes2 := by
  refine loopN ((y7.1.getD t56.toNat default).f_Writes).length (fun fuel_ t_ s_ => parrellaw20_MissAll_l2 l x_w t49 t56 y7 k1 fuel_ s_ t_) (parrellaw20_MissAll_b2 x_w t49 t56 y7 (fun s_ => k1 s_ (IntKind.wrap .i64 (t56 + 1)))) (parrellaw20_MissAll_e2  (fun s_ => k1 s_ (IntKind.wrap .i64 (t56 + 1)))) (by first | exact hN | (have := hN; simp only [List.length_nil] at this ⊢; omega)) ?_ ?_ nodes2
  · intro fuel_ i_ s_ hi_
    have hg_ : 0 ≤ (i_ : Int) ∧ (i_ : Int) < ((((y7.1.getD t56.toNat default).f_Writes).length : Nat) : Int) := by omega
    show parrellaw20_MissAll_l2 l x_w t49 t56 y7 k1 (fuel_ + 1) s_ (i_ : Int) = _
    rw [parrellaw20_MissAll_l2, if_pos (decide_eq_true (by omega))]
    repeat rw [if_pos hg_]
    have hinc_ : IntKind.wrap .i64 ((i_ : Int) + 1) = (((i_ + 1 : Nat)) : Int) := by rw [w64 (by omega) (by omega)]; rfl
    try rw [hinc_]
    first | rfl | (unfold parrellaw20_MissAll_b2; simp only [hinc_]; done) | (unfold parrellaw20_MissAll_b2; simp only [hinc_]; rfl)
  · intro fuel_ s_
    show parrellaw20_MissAll_l2 l x_w t49 t56 y7 k1 (fuel_ + 1) s_ ((((y7.1.getD t56.toNat default).f_Writes).length : Nat) : Int) = _
    rw [parrellaw20_MissAll_l2, if_neg (by rw [decide_eq_true_eq]; omega)]
    rfl

theorem parrellaw20_MissAll_l1_k (l : List (T_parrelref20_Lock)) (x_w : List (T_api_Write)) (t49 : Int) (y7 : (List (T_coord_Member)) × (List (Int)) × (Int))  (k k' : (Int) → Option ((Bool))) (h : k (IntKind.wrap .i64 (t49 + 1)) = k' (IntKind.wrap .i64 (t49 + 1))) : ∀ fuel nodes t56, parrellaw20_MissAll_l1 l x_w t49 y7 k fuel nodes t56 = parrellaw20_MissAll_l1 l x_w t49 y7 k' fuel nodes t56 := by
  intro fuel
  induction fuel with
  | zero => intros; rfl
  | succ fuel ih => first | (intros; simp only [parrellaw20_MissAll_l1, ih, h]; done) | (have ih_ := funext fun a0_ => funext fun a1_ => ih a0_ a1_; intros; simp only [parrellaw20_MissAll_l1, ih, ih_, h])

def parrellaw20_MissAll_b1 (l : List (T_parrelref20_Lock)) (x_w : List (T_api_Write)) (t49 : Int) (y7 : (List (T_coord_Member)) × (List (Int)) × (Int)) (k0 : (Unit) → Option ((Bool))) (t56 : Nat) (s_ : (Int)) (k_ : ((Int)) → Option ((Bool))) : Option ((Bool)) :=
  parrellaw20_MissAll_l2 l x_w t49 (t56 : Int) y7 (fun nodes_ _ => k_ nodes_) big s_ 0

def parrellaw20_MissAll_e1 (x_w : List (T_api_Write)) (t49 : Int) (y7 : (List (T_coord_Member)) × (List (Int)) × (Int)) (k0 : (Unit) → Option ((Bool))) (s_ : (Int)) : Option ((Bool)) :=
  (votes_Voters (x_w.getD t49.toNat default).f_Item.f_Conf).bind fun yL1_3 =>
  (votes_Writes (x_w.getD t49.toNat default).f_Item.f_Conf s_).bind fun yL1_5 =>
  if ((!yL1_5) : Bool) then
    some false
  else
    if 0 ≤ t49 ∧ t49 < (((y7.2.1).length : Nat) : Int) then
    if (((IntKind.wrap .u64 ((BitVec.ofInt (IntKind.bits .u64) (y7.2.1.getD t49.toNat default) &&& BitVec.ofInt (IntKind.bits .u64) s_).toNat : Int)) != 0) : Bool) then
      some false
    else
      if (((IntKind.wrap .u64 ((BitVec.ofInt (IntKind.bits .u64) (IntKind.wrap .u64 ((BitVec.ofInt (IntKind.bits .u64) (y7.2.1.getD t49.toNat default) ||| BitVec.ofInt (IntKind.bits .u64) s_).toNat : Int)) &&& BitVec.ofInt (IntKind.bits .u64) yL1_3).toNat : Int)) != yL1_3) : Bool) then
        some false
      else
        if (((IntKind.wrap .u64 ((BitVec.ofInt (IntKind.bits .u64) (y7.2.1.getD t49.toNat default) &&& ~~~ BitVec.ofInt (IntKind.bits .u64) yL1_3).toNat : Int)) != 0) : Bool) then
          some false
        else
          k0 ()
    else none

theorem parrellaw20_MissAll_w1 (l : List (T_parrelref20_Lock)) (x_w : List (T_api_Write)) (t49 : Int) (y7 : (List (T_coord_Member)) × (List (Int)) × (Int)) (k0 : (Int) → Option ((Bool))) (nodes : Int) (hN : (y7.1).length < 9223372036854775807) :
    parrellaw20_MissAll_l1 l x_w t49 y7 k0 big nodes 0 = walkN (parrellaw20_MissAll_b1 l x_w t49 y7 (fun s_ => k0 (IntKind.wrap .i64 (t49 + 1)))) (parrellaw20_MissAll_e1 x_w t49 y7 (fun s_ => k0 (IntKind.wrap .i64 (t49 + 1)))) (y7.1).length 0 nodes := by
  refine loopN (y7.1).length (fun fuel_ t_ s_ => parrellaw20_MissAll_l1 l x_w t49 y7 k0 fuel_ s_ t_) (parrellaw20_MissAll_b1 l x_w t49 y7 (fun s_ => k0 (IntKind.wrap .i64 (t49 + 1)))) (parrellaw20_MissAll_e1 x_w t49 y7 (fun s_ => k0 (IntKind.wrap .i64 (t49 + 1)))) (by first | exact hN | (have := hN; simp only [List.length_nil] at this ⊢; omega)) ?_ ?_ nodes
  · intro fuel_ i_ s_ hi_
    have hg_ : 0 ≤ (i_ : Int) ∧ (i_ : Int) < (((y7.1).length : Nat) : Int) := by omega
    show parrellaw20_MissAll_l1 l x_w t49 y7 k0 (fuel_ + 1) s_ (i_ : Int) = _
    rw [parrellaw20_MissAll_l1, if_pos (decide_eq_true (by omega))]
    repeat rw [if_pos hg_]
    have hinc_ : IntKind.wrap .i64 ((i_ : Int) + 1) = (((i_ + 1 : Nat)) : Int) := by rw [w64 (by omega) (by omega)]; rfl
    simp only [parrellaw20_MissAll_l2_k _ _ _ (i_ : Int) _  (parrellaw20_MissAll_l1 l x_w t49 y7 k0 fuel_) (fun nodes_ _ => parrellaw20_MissAll_l1 l x_w t49 y7 k0 fuel_ nodes_ (((i_ + 1 : Nat)) : Int)) (fun nodes_ => by first | rfl | rw [hinc_])]
    try rw [hinc_]
    first | rfl | (unfold parrellaw20_MissAll_b1; simp only [hinc_]; done) | (unfold parrellaw20_MissAll_b1; simp only [hinc_]; rfl)
  · intro fuel_ s_
    show parrellaw20_MissAll_l1 l x_w t49 y7 k0 (fuel_ + 1) s_ (((y7.1).length : Nat) : Int) = _
    rw [parrellaw20_MissAll_l1, if_neg (by rw [decide_eq_true_eq]; omega)]
    rfl

def parrellaw20_MissAll_b3 (x_w : List (T_api_Write)) (y7 : (List (T_coord_Member)) × (List (Int)) × (Int))  (t126 : Nat) (s_ : (Int)) (k_ : ((Int)) → Option ((Bool))) : Option ((Bool)) :=
  if 0 ≤ (Int.tmod (y7.1.getD t126 default).f_Node 64) then
  if ((decide (0 < (t126 : Int))) : Bool) then
    if 0 ≤ (IntKind.wrap .i64 ((t126 : Int) - 1)) ∧ (IntKind.wrap .i64 ((t126 : Int) - 1)) < (((y7.1).length : Nat) : Int) then
    if ((decide ((y7.1.getD t126 default).f_Node ≤ (y7.1.getD ((IntKind.wrap .i64 ((t126 : Int) - 1))).toNat default).f_Node)) : Bool) then
      some false
    else
      if ((decide (((x_w).length : Int) < (((y7.1.getD t126 default).f_Writes).length : Int))) : Bool) then
        some false
      else
        k_ (IntKind.wrap .u64 ((BitVec.ofInt (IntKind.bits .u64) s_ ||| BitVec.ofInt (IntKind.bits .u64) (IntKind.wrap .u64 (1 * 2 ^ (min (Int.toNat (Int.tmod (y7.1.getD t126 default).f_Node 64)) (IntKind.bits .u64))))).toNat : Int))
    else none
  else
    if ((decide (((x_w).length : Int) < (((y7.1.getD t126 default).f_Writes).length : Int))) : Bool) then
      some false
    else
      k_ (IntKind.wrap .u64 ((BitVec.ofInt (IntKind.bits .u64) s_ ||| BitVec.ofInt (IntKind.bits .u64) (IntKind.wrap .u64 (1 * 2 ^ (min (Int.toNat (Int.tmod (y7.1.getD t126 default).f_Node 64)) (IntKind.bits .u64))))).toNat : Int))
  else none

def parrellaw20_MissAll_e3 (l : List (T_parrelref20_Lock))  (s_ : (Int)) : Option ((Bool)) :=
  (parrellaw20_theirs l).bind fun yL3_3 =>
  (miss_Nodes yL3_3).bind fun yL3_5 =>
  if ((s_ == yL3_5) : Bool) then
    (parrellaw20_alive).bind fun yL3_8 =>
    some yL3_8
  else
    some false

theorem parrellaw20_MissAll_w3 (l : List (T_parrelref20_Lock)) (x_w : List (T_api_Write)) (y7 : (List (T_coord_Member)) × (List (Int)) × (Int))  (set : Int) (hN : (y7.1).length < 9223372036854775807) :
    parrellaw20_MissAll_l3 l x_w y7  big set 0 = walkN (parrellaw20_MissAll_b3 x_w y7 ) (parrellaw20_MissAll_e3 l ) (y7.1).length 0 set := by
  refine loopN (y7.1).length (fun fuel_ t_ s_ => parrellaw20_MissAll_l3 l x_w y7  fuel_ s_ t_) (parrellaw20_MissAll_b3 x_w y7 ) (parrellaw20_MissAll_e3 l ) (by first | exact hN | (have := hN; simp only [List.length_nil] at this ⊢; omega)) ?_ ?_ set
  · intro fuel_ i_ s_ hi_
    have hg_ : 0 ≤ (i_ : Int) ∧ (i_ : Int) < (((y7.1).length : Nat) : Int) := by omega
    show parrellaw20_MissAll_l3 l x_w y7  (fuel_ + 1) s_ (i_ : Int) = _
    rw [parrellaw20_MissAll_l3, if_pos (decide_eq_true (by omega))]
    repeat rw [if_pos hg_]
    have hinc_ : IntKind.wrap .i64 ((i_ : Int) + 1) = (((i_ + 1 : Nat)) : Int) := by rw [w64 (by omega) (by omega)]; rfl
    try rw [hinc_]
    first | rfl | (unfold parrellaw20_MissAll_b3; simp only [hinc_]; done) | (unfold parrellaw20_MissAll_b3; simp only [hinc_]; rfl)
  · intro fuel_ s_
    show parrellaw20_MissAll_l3 l x_w y7  (fuel_ + 1) s_ (((y7.1).length : Nat) : Int) = _
    rw [parrellaw20_MissAll_l3, if_neg (by rw [decide_eq_true_eq]; omega)]
    rfl

def parrellaw20_MissAll_b0 (l : List (T_parrelref20_Lock)) (x_w : List (T_api_Write)) (y7 : (List (T_coord_Member)) × (List (Int)) × (Int))  (t49 : Nat) (s_ : Unit) (k_ : (Unit) → Option ((Bool))) : Option ((Bool)) :=
  parrellaw20_MissAll_l1 l x_w (t49 : Int) y7 (fun _ => k_ ()) big 0 0

def parrellaw20_MissAll_e0 (l : List (T_parrelref20_Lock)) (x_w : List (T_api_Write)) (y7 : (List (T_coord_Member)) × (List (Int)) × (Int))  (s_ : Unit) : Option ((Bool)) :=
  parrellaw20_MissAll_l3 l x_w y7  big 0 0

theorem parrellaw20_MissAll_w0 (l : List (T_parrelref20_Lock)) (x_w : List (T_api_Write)) (y7 : (List (T_coord_Member)) × (List (Int)) × (Int))   (hN : (x_w).length < 9223372036854775807) :
    parrellaw20_MissAll_l0 l x_w y7  big 0 = walkN (parrellaw20_MissAll_b0 l x_w y7 ) (parrellaw20_MissAll_e0 l x_w y7 ) (x_w).length 0 () := by
  refine loopN (x_w).length (fun fuel_ t_ s_ => parrellaw20_MissAll_l0 l x_w y7  fuel_ t_) (parrellaw20_MissAll_b0 l x_w y7 ) (parrellaw20_MissAll_e0 l x_w y7 ) (by first | exact hN | (have := hN; simp only [List.length_nil] at this ⊢; omega)) ?_ ?_ ()
  · intro fuel_ i_ s_ hi_
    have hg_ : 0 ≤ (i_ : Int) ∧ (i_ : Int) < (((x_w).length : Nat) : Int) := by omega
    show parrellaw20_MissAll_l0 l x_w y7  (fuel_ + 1) (i_ : Int) = _
    rw [parrellaw20_MissAll_l0, if_pos (decide_eq_true (by omega))]
    repeat rw [if_pos hg_]
    have hinc_ : IntKind.wrap .i64 ((i_ : Int) + 1) = (((i_ + 1 : Nat)) : Int) := by rw [w64 (by omega) (by omega)]; rfl
    simp only [parrellaw20_MissAll_l1_k _ _ (i_ : Int) _  (parrellaw20_MissAll_l0 l x_w y7  fuel_) (fun _ => parrellaw20_MissAll_l0 l x_w y7  fuel_ (((i_ + 1 : Nat)) : Int)) (by first | rfl | rw [hinc_])]
    try rw [hinc_]
    first | rfl | (unfold parrellaw20_MissAll_b0; simp only [hinc_]; done) | (unfold parrellaw20_MissAll_b0; simp only [hinc_]; rfl)
  · intro fuel_ s_
    show parrellaw20_MissAll_l0 l x_w y7  (fuel_ + 1) (((x_w).length : Nat) : Int) = _
    rw [parrellaw20_MissAll_l0, if_neg (by rw [decide_eq_true_eq]; omega)]
    rfl

end
end Go.Proofs.YtdjmfgknonkojaaDoor.Wk
