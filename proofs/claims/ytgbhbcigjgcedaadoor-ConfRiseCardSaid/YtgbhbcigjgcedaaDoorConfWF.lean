/- Printed by tr.py: counting loops as walks over lists and over numbers. -/
import Derived.Test.YtgbhbcigjgcedaaDoorConfW
import Derived.Test.YtgbhbcigjgcedaaDoorCnX
namespace Go.Proofs.YtgbhbcigjgcedaaDoor.Wk
open Go Go.Cn
set_option maxRecDepth 100000
set_option maxHeartbeats 4000000
set_option linter.unusedVariables false
set_option linter.unusedSimpArgs false
noncomputable section
def parrellaw21_far_b0   (a_ : T_api_Write) (s_ : (Int)) (k_ : ((Int)) → Option ((Bool))) : Option ((Bool)) :=
  k_ (IntKind.wrap .i64 (s_ + (if 10000 < ((a_.f_Item.f_Value).length : Int) then 10000 else ((a_.f_Item.f_Value).length : Int))))

def parrellaw21_far_e0 (l : List (T_api_Write))  (s_ : (Int)) : Option ((Bool)) :=
  if ((decide (20000 < s_)) : Bool) then
    some true
  else
    some (decide (100 < ((l).length : Int)))

theorem parrellaw21_far_w0 (l : List (T_api_Write))  (x_n : Int) (hN : ((l.take ((if 100 < ((l).length : Int) then 100 else ((l).length : Int))).toNat)).length < 9223372036854775807) :
    parrellaw21_far_l0 l  big x_n 0 = walkL (parrellaw21_far_b0  ) (parrellaw21_far_e0 l ) (l.take ((if 100 < ((l).length : Int) then 100 else ((l).length : Int))).toNat) x_n := by
  refine loopL (l.take ((if 100 < ((l).length : Int) then 100 else ((l).length : Int))).toNat) (fun fuel_ t_ s_ => parrellaw21_far_l0 l  fuel_ s_ t_) (parrellaw21_far_b0  ) (parrellaw21_far_e0 l ) (by first | exact hN | (have := hN; simp only [List.length_nil] at this ⊢; omega)) ?_ ?_ x_n
  · intro fuel_ i_ s_ hi_
    have hg_ : 0 ≤ (i_ : Int) ∧ (i_ : Int) < ((((l.take ((if 100 < ((l).length : Int) then 100 else ((l).length : Int))).toNat)).length : Nat) : Int) := by omega
    show parrellaw21_far_l0 l  (fuel_ + 1) s_ (i_ : Int) = _
    rw [parrellaw21_far_l0, if_pos (decide_eq_true (by omega))]
    repeat rw [if_pos hg_]
    have hinc_ : IntKind.wrap .i64 ((i_ : Int) + 1) = (((i_ + 1 : Nat)) : Int) := by rw [w64 (by omega) (by omega)]; rfl
    try rw [hinc_]
    first | rfl | (unfold parrellaw21_far_b0; simp only [hinc_]) | (unfold parrellaw21_far_b0; simp only [hinc_]; rfl)
  · intro fuel_ s_
    show parrellaw21_far_l0 l  (fuel_ + 1) s_ ((((l.take ((if 100 < ((l).length : Int) then 100 else ((l).length : Int))).toNat)).length : Nat) : Int) = _
    rw [parrellaw21_far_l0, if_neg (by rw [decide_eq_true_eq]; omega)]
    rfl

def votes_Of_b0 (c : T_api_Config) (set : Int)  (t10 : Nat) (s_ : (Int)) (k_ : ((Int)) → Option ((Int))) : Option ((Int)) :=
  if 0 ≤ (t10 : Int) then
  k_ (IntKind.wrap .i64 (s_ + (IntKind.wrap .i64 ((IntKind.wrap .i64 (A8.get c.f_Votes t10)) * (IntKind.wrap .i64 (IntKind.wrap .u64 ((BitVec.ofInt (IntKind.bits .u64) (Int.fdiv set (2 ^ (min (Int.toNat (t10 : Int)) (IntKind.bits .u64)))) &&& BitVec.ofInt (IntKind.bits .u64) 1).toNat : Int)))))))
  else none

def votes_Of_e0   (s_ : (Int)) : Option ((Int)) :=
  some s_

theorem votes_Of_w0 (c : T_api_Config) (set : Int)  (x_n : Int) (hN : 8 < 9223372036854775807) :
    votes_Of_l0 c set  big x_n 0 = walkN (votes_Of_b0 c set ) (votes_Of_e0  ) 8 0 x_n := by
  refine loopN 8 (fun fuel_ t_ s_ => votes_Of_l0 c set  fuel_ s_ t_) (votes_Of_b0 c set ) (votes_Of_e0  ) (by first | exact hN | (have := hN; simp only [List.length_nil] at this ⊢; omega)) ?_ ?_ x_n
  · intro fuel_ i_ s_ hi_
    have hg_ : 0 ≤ (i_ : Int) ∧ (i_ : Int) < 8 := by omega
    show votes_Of_l0 c set  (fuel_ + 1) s_ (i_ : Int) = _
    rw [votes_Of_l0, if_pos (decide_eq_true (by omega))]
    repeat rw [if_pos hg_]
    have hinc_ : IntKind.wrap .i64 ((i_ : Int) + 1) = (((i_ + 1 : Nat)) : Int) := by rw [w64 (by omega) (by omega)]; rfl
    try rw [hinc_]
    first | rfl | (unfold votes_Of_b0; simp only [hinc_]) | (unfold votes_Of_b0; simp only [hinc_]; rfl)
  · intro fuel_ s_
    show votes_Of_l0 c set  (fuel_ + 1) s_ ((8 : Nat) : Int) = _
    rw [votes_Of_l0, if_neg (by rw [decide_eq_true_eq]; omega)]
    rfl

def slices_Max_uint8_uint8_b0 (x : T_api_Config)  (i : Nat) (s_ : (Int)) (k_ : ((Int)) → Option ((Int))) : Option ((Int)) :=
  k_ (if (A8.get x.f_Votes i) > s_ then (A8.get x.f_Votes i) else s_)

def slices_Max_uint8_uint8_e0   (s_ : (Int)) : Option ((Int)) :=
  some s_

theorem slices_Max_uint8_uint8_w0 (x : T_api_Config)  (m : Int) (hN : 8 < 9223372036854775807) :
    slices_Max_uint8_uint8_l0 x  big m 0 = walkN (slices_Max_uint8_uint8_b0 x ) (slices_Max_uint8_uint8_e0  ) 8 0 m := by
  refine loopN 8 (fun fuel_ t_ s_ => slices_Max_uint8_uint8_l0 x  fuel_ s_ t_) (slices_Max_uint8_uint8_b0 x ) (slices_Max_uint8_uint8_e0  ) (by first | exact hN | (have := hN; simp only [List.length_nil] at this ⊢; omega)) ?_ ?_ m
  · intro fuel_ i_ s_ hi_
    have hg_ : 0 ≤ (i_ : Int) ∧ (i_ : Int) < 8 := by omega
    show slices_Max_uint8_uint8_l0 x  (fuel_ + 1) s_ (i_ : Int) = _
    rw [slices_Max_uint8_uint8_l0, if_pos (decide_eq_true (by omega))]
    repeat rw [if_pos hg_]
    have hinc_ : IntKind.wrap .i64 ((i_ : Int) + 1) = (((i_ + 1 : Nat)) : Int) := by rw [w64 (by omega) (by omega)]; rfl
    try rw [hinc_]
    first | rfl | (unfold slices_Max_uint8_uint8_b0; simp only [hinc_]) | (unfold slices_Max_uint8_uint8_b0; simp only [hinc_]; rfl)
  · intro fuel_ s_
    show slices_Max_uint8_uint8_l0 x  (fuel_ + 1) s_ ((8 : Nat) : Int) = _
    rw [slices_Max_uint8_uint8_l0, if_neg (by rw [decide_eq_true_eq]; omega)]
    rfl

def conf_New_b0   (a_ : T_api_Write) (s_ : (List (A8 (Int) × T_api_Config))) (k_ : ((List (A8 (Int) × T_api_Config))) → Option (Bool × (Unit) × ((List (A8 (Int) × T_api_Config))))) : Option (Bool × (Unit) × ((List (A8 (Int) × T_api_Config)))) :=
  (ids_Name a_.f_Key).bind fun yL0_4 =>
  if ((!yL0_4.2) : Bool) then
    some (true, (), default)
  else
    if (((mget s_ a_.f_Key).isSome) : Bool) then
      some (true, (), default)
    else
      (msg_ItemMay a_.f_Item).bind fun yL0_8 =>
      if ((!yL0_8) : Bool) then
        some (true, (), default)
      else
        k_ (mset s_ a_.f_Key a_.f_Item.f_Conf)

def conf_New_e0   (s_ : (List (A8 (Int) × T_api_Config))) : Option (Bool × (Unit) × ((List (A8 (Int) × T_api_Config)))) :=
  some (false, default, s_)

theorem conf_New_w0 (first : List (T_api_Write))  (m : List (A8 (Int) × T_api_Config)) (hN : (first).length < 9223372036854775807) :
    conf_New_l0 first  big 0 m = walkL (conf_New_b0  ) (conf_New_e0  ) first m := by
  refine loopL first (fun fuel_ t_ s_ => conf_New_l0 first  fuel_ t_ s_) (conf_New_b0  ) (conf_New_e0  ) (by first | exact hN | (have := hN; simp only [List.length_nil] at this ⊢; omega)) ?_ ?_ m
  · intro fuel_ i_ s_ hi_
    have hg_ : 0 ≤ (i_ : Int) ∧ (i_ : Int) < (((first).length : Nat) : Int) := by omega
    show conf_New_l0 first  (fuel_ + 1) (i_ : Int) s_ = _
    rw [conf_New_l0, if_pos (decide_eq_true (by omega))]
    repeat rw [if_pos hg_]
    have hinc_ : IntKind.wrap .i64 ((i_ : Int) + 1) = (((i_ + 1 : Nat)) : Int) := by rw [w64 (by omega) (by omega)]; rfl
    try rw [hinc_]
    first | rfl | (unfold conf_New_b0; simp only [hinc_]) | (unfold conf_New_b0; simp only [hinc_]; rfl)
  · intro fuel_ s_
    show conf_New_l0 first  (fuel_ + 1) (((first).length : Nat) : Int) s_ = _
    rw [conf_New_l0, if_neg (by rw [decide_eq_true_eq]; omega)]
    rfl

def slices_Compare_byte_byte_b0 (s1 : A8 (Int)) (s2 : A8 (Int))  (t11 : Nat) (s_ : Unit) (k_ : (Unit) → Option ((Int))) : Option ((Int)) :=
  if ((decide (8 ≤ (t11 : Int))) : Bool) then
    some 1
  else
    (cmp_Compare_byte (A8.get s1 t11) (A8.get s2 t11)).bind fun yL0_5 =>
    if ((yL0_5 != 0) : Bool) then
      some yL0_5
    else
      k_ ()

def slices_Compare_byte_byte_e0   (s_ : Unit) : Option ((Int)) :=
  some 0

theorem slices_Compare_byte_byte_w0 (s1 : A8 (Int)) (s2 : A8 (Int))   (hN : 8 < 9223372036854775807) :
    slices_Compare_byte_byte_l0 s1 s2  big 0 = walkN (slices_Compare_byte_byte_b0 s1 s2 ) (slices_Compare_byte_byte_e0  ) 8 0 () := by
  refine loopN 8 (fun fuel_ t_ s_ => slices_Compare_byte_byte_l0 s1 s2  fuel_ t_) (slices_Compare_byte_byte_b0 s1 s2 ) (slices_Compare_byte_byte_e0  ) (by first | exact hN | (have := hN; simp only [List.length_nil] at this ⊢; omega)) ?_ ?_ ()
  · intro fuel_ i_ s_ hi_
    have hg_ : 0 ≤ (i_ : Int) ∧ (i_ : Int) < 8 := by omega
    show slices_Compare_byte_byte_l0 s1 s2  (fuel_ + 1) (i_ : Int) = _
    rw [slices_Compare_byte_byte_l0, if_pos (decide_eq_true (by omega))]
    repeat rw [if_pos hg_]
    have hinc_ : IntKind.wrap .i64 ((i_ : Int) + 1) = (((i_ + 1 : Nat)) : Int) := by rw [w64 (by omega) (by omega)]; rfl
    try rw [hinc_]
    first | rfl | (unfold slices_Compare_byte_byte_b0; simp only [hinc_]) | (unfold slices_Compare_byte_byte_b0; simp only [hinc_]; rfl)
  · intro fuel_ s_
    show slices_Compare_byte_byte_l0 s1 s2  (fuel_ + 1) ((8 : Nat) : Int) = _
    rw [slices_Compare_byte_byte_l0, if_neg (by rw [decide_eq_true_eq]; omega)]
    rfl

def parrellaw21_ConfRise_b0 (y8 : (List (T_parrellaw21_Act)))  (t32 : Nat) (s_ : (List (A8 (Int) × T_api_Config))) (k_ : ((List (A8 (Int) × T_api_Config))) → Option ((Bool))) : Option ((Bool)) :=
  (conf_Book_Of s_ (y8.getD t32 default).f_Key).bind fun yL0_4 =>
  (conf_Book_Learn s_ (y8.getD t32 default).f_Key (y8.getD t32 default).f_Conf).bind fun yL0_6 =>
  (conf_Book_Of yL0_6.2 (y8.getD t32 default).f_Key).bind fun yL0_8 =>
  if ((!(yL0_4.2 == yL0_8.2)) : Bool) then
    some false
  else
    if ((decide (yL0_8.1.f_Epoch < yL0_4.1.f_Epoch)) : Bool) then
      some false
    else
      if (yL0_4.2 : Bool) then
        (votes_May yL0_8.1).bind fun yL0_13 =>
        if ((!yL0_13) : Bool) then
          some false
        else
          if ((yL0_6.1 == 0) : Bool) then
            if ((!decide (yL0_8.1 = (y8.getD t32 default).f_Conf)) : Bool) then
              some false
            else
              if ((yL0_6.1 != 0) : Bool) then
                if ((!decide (yL0_8.1 = yL0_4.1)) : Bool) then
                  some false
                else
                  k_ yL0_6.2
              else
                k_ yL0_6.2
          else
            if ((yL0_6.1 != 0) : Bool) then
              if ((!decide (yL0_8.1 = yL0_4.1)) : Bool) then
                some false
              else
                k_ yL0_6.2
            else
              k_ yL0_6.2
      else
        if ((yL0_6.1 == 0) : Bool) then
          if ((!decide (yL0_8.1 = (y8.getD t32 default).f_Conf)) : Bool) then
            some false
          else
            if ((yL0_6.1 != 0) : Bool) then
              if ((!decide (yL0_8.1 = yL0_4.1)) : Bool) then
                some false
              else
                k_ yL0_6.2
            else
              k_ yL0_6.2
        else
          if ((yL0_6.1 != 0) : Bool) then
            if ((!decide (yL0_8.1 = yL0_4.1)) : Bool) then
              some false
            else
              k_ yL0_6.2
          else
            k_ yL0_6.2

def parrellaw21_ConfRise_e0   (s_ : (List (A8 (Int) × T_api_Config))) : Option ((Bool)) :=
  (parrellaw21_alive).bind fun yL0_3 =>
  some yL0_3

theorem parrellaw21_ConfRise_w0 (y8 : (List (T_parrellaw21_Act)))  (m : List (A8 (Int) × T_api_Config)) (hN : (y8).length < 9223372036854775807) :
    parrellaw21_ConfRise_l0 y8  big 0 m = walkN (parrellaw21_ConfRise_b0 y8 ) (parrellaw21_ConfRise_e0  ) (y8).length 0 m := by
  refine loopN (y8).length (fun fuel_ t_ s_ => parrellaw21_ConfRise_l0 y8  fuel_ t_ s_) (parrellaw21_ConfRise_b0 y8 ) (parrellaw21_ConfRise_e0  ) (by first | exact hN | (have := hN; simp only [List.length_nil] at this ⊢; omega)) ?_ ?_ m
  · intro fuel_ i_ s_ hi_
    have hg_ : 0 ≤ (i_ : Int) ∧ (i_ : Int) < (((y8).length : Nat) : Int) := by omega
    show parrellaw21_ConfRise_l0 y8  (fuel_ + 1) (i_ : Int) s_ = _
    rw [parrellaw21_ConfRise_l0, if_pos (decide_eq_true (by omega))]
    repeat rw [if_pos hg_]
    have hinc_ : IntKind.wrap .i64 ((i_ : Int) + 1) = (((i_ + 1 : Nat)) : Int) := by rw [w64 (by omega) (by omega)]; rfl
    try rw [hinc_]
    first | rfl | (unfold parrellaw21_ConfRise_b0; simp only [hinc_]) | (unfold parrellaw21_ConfRise_b0; simp only [hinc_]; rfl)
  · intro fuel_ s_
    show parrellaw21_ConfRise_l0 y8  (fuel_ + 1) (((y8).length : Nat) : Int) s_ = _
    rw [parrellaw21_ConfRise_l0, if_neg (by rw [decide_eq_true_eq]; omega)]
    rfl

def parrellaw21_ConfLast_b0   (a_ : Int) (s_ : (Int) × (List (A8 (Int) × T_api_Config))) (k_ : ((Int) × (List (A8 (Int) × T_api_Config))) → Option ((Bool))) : Option ((Bool)) :=
  (parrellaw21_one (IntKind.wrap .u32 ((IntKind.wrap .u32 a_) + 1))).bind fun yL0_4 =>
  (conf_Book_Learn s_.2 (A8.mk 97 0 0 0 0 0 0 0) yL0_4).bind fun yL0_6 =>
  if ((!((yL0_6.1 == 0) == (decide (s_.1 ≤ (IntKind.wrap .u32 ((IntKind.wrap .u32 a_) + 1)))))) : Bool) then
    some false
  else
    k_ ((if (IntKind.wrap .u32 ((IntKind.wrap .u32 a_) + 1)) > s_.1 then (IntKind.wrap .u32 ((IntKind.wrap .u32 a_) + 1)) else s_.1), yL0_6.2)

def parrellaw21_ConfLast_e0   (s_ : (Int) × (List (A8 (Int) × T_api_Config))) : Option ((Bool)) :=
  (conf_Book_Of s_.2 (A8.mk 97 0 0 0 0 0 0 0)).bind fun yL0_3 =>
  if (yL0_3.2 : Bool) then
    (parrellaw21_one s_.1).bind fun yL0_6 =>
    if ((decide (yL0_3.1 = yL0_6)) : Bool) then
      (parrellaw21_alive).bind fun yL0_9 =>
      some yL0_9
    else
      some false
  else
    some false

theorem parrellaw21_ConfLast_w0 (epochs : List (Int))  (top : Int) (m : List (A8 (Int) × T_api_Config)) (hN : (epochs).length < 9223372036854775807) :
    parrellaw21_ConfLast_l0 epochs  big top 0 m = walkL (parrellaw21_ConfLast_b0  ) (parrellaw21_ConfLast_e0  ) epochs (top, m) := by
  refine loopL epochs (fun fuel_ t_ s_ => parrellaw21_ConfLast_l0 epochs  fuel_ s_.1 t_ s_.2) (parrellaw21_ConfLast_b0  ) (parrellaw21_ConfLast_e0  ) (by first | exact hN | (have := hN; simp only [List.length_nil] at this ⊢; omega)) ?_ ?_ (top, m)
  · intro fuel_ i_ s_ hi_
    have hg_ : 0 ≤ (i_ : Int) ∧ (i_ : Int) < (((epochs).length : Nat) : Int) := by omega
    show parrellaw21_ConfLast_l0 epochs  (fuel_ + 1) s_.1 (i_ : Int) s_.2 = _
    rw [parrellaw21_ConfLast_l0, if_pos (decide_eq_true (by omega))]
    repeat rw [if_pos hg_]
    have hinc_ : IntKind.wrap .i64 ((i_ : Int) + 1) = (((i_ + 1 : Nat)) : Int) := by rw [w64 (by omega) (by omega)]; rfl
    try rw [hinc_]
    first | rfl | (unfold parrellaw21_ConfLast_b0; simp only [hinc_]) | (unfold parrellaw21_ConfLast_b0; simp only [hinc_]; rfl)
  · intro fuel_ s_
    show parrellaw21_ConfLast_l0 epochs  (fuel_ + 1) s_.1 (((epochs).length : Nat) : Int) s_.2 = _
    rw [parrellaw21_ConfLast_l0, if_neg (by rw [decide_eq_true_eq]; omega)]
    rfl

def parrelref06_Total_b0 (c : T_api_Config)  (i : Nat) (s_ : (Int)) (k_ : ((Int)) → Option ((Int))) : Option ((Int)) :=
  k_ (IntKind.wrap .i64 (s_ + (IntKind.wrap .i64 (A8.get c.f_Votes i))))

def parrelref06_Total_e0   (s_ : (Int)) : Option ((Int)) :=
  some s_

theorem parrelref06_Total_w0 (c : T_api_Config)  (x_n : Int) (hN : 8 < 9223372036854775807) :
    parrelref06_Total_l0 c  big x_n 0 = walkN (parrelref06_Total_b0 c ) (parrelref06_Total_e0  ) 8 0 x_n := by
  refine loopN 8 (fun fuel_ t_ s_ => parrelref06_Total_l0 c  fuel_ s_ t_) (parrelref06_Total_b0 c ) (parrelref06_Total_e0  ) (by first | exact hN | (have := hN; simp only [List.length_nil] at this ⊢; omega)) ?_ ?_ x_n
  · intro fuel_ i_ s_ hi_
    have hg_ : 0 ≤ (i_ : Int) ∧ (i_ : Int) < 8 := by omega
    show parrelref06_Total_l0 c  (fuel_ + 1) s_ (i_ : Int) = _
    rw [parrelref06_Total_l0, if_pos (decide_eq_true (by omega))]
    repeat rw [if_pos hg_]
    have hinc_ : IntKind.wrap .i64 ((i_ : Int) + 1) = (((i_ + 1 : Nat)) : Int) := by rw [w64 (by omega) (by omega)]; rfl
    try rw [hinc_]
    first | rfl | (unfold parrelref06_Total_b0; simp only [hinc_]) | (unfold parrelref06_Total_b0; simp only [hinc_]; rfl)
  · intro fuel_ s_
    show parrelref06_Total_l0 c  (fuel_ + 1) s_ ((8 : Nat) : Int) = _
    rw [parrelref06_Total_l0, if_neg (by rw [decide_eq_true_eq]; omega)]
    rfl

def parrelref06_May_b0 (c : T_api_Config)  (i : Nat) (s_ : Unit) (k_ : (Unit) → Option ((Bool))) : Option ((Bool)) :=
  if ((decide (15 < (A8.get c.f_Votes i))) : Bool) then
    some false
  else
    k_ ()

def parrelref06_May_e0 (c : T_api_Config) (y2 : (Int))  (s_ : Unit) : Option ((Bool)) :=
  if ((decide (1 ≤ c.f_Epoch)) : Bool) then
    if ((decide (c.f_Epoch ≤ 2147483647)) : Bool) then
      if ((decide (1 ≤ (IntKind.wrap .i64 c.f_R))) : Bool) then
        if ((decide (1 ≤ (IntKind.wrap .i64 c.f_W))) : Bool) then
          if ((decide ((IntKind.wrap .i64 c.f_R) ≤ y2)) : Bool) then
            if ((decide ((IntKind.wrap .i64 c.f_W) ≤ y2)) : Bool) then
              if ((decide (y2 < (IntKind.wrap .i64 ((IntKind.wrap .i64 c.f_R) + (IntKind.wrap .i64 c.f_W))))) : Bool) then
                some (decide (y2 < (IntKind.wrap .i64 (2 * (IntKind.wrap .i64 c.f_W)))))
              else
                some false
            else
              some false
          else
            some false
        else
          some false
      else
        some false
    else
      some false
  else
    some false

theorem parrelref06_May_w0 (c : T_api_Config) (y2 : (Int))   (hN : 8 < 9223372036854775807) :
    parrelref06_May_l0 c y2  big 0 = walkN (parrelref06_May_b0 c ) (parrelref06_May_e0 c y2 ) 8 0 () := by
  refine loopN 8 (fun fuel_ t_ s_ => parrelref06_May_l0 c y2  fuel_ t_) (parrelref06_May_b0 c ) (parrelref06_May_e0 c y2 ) (by first | exact hN | (have := hN; simp only [List.length_nil] at this ⊢; omega)) ?_ ?_ ()
  · intro fuel_ i_ s_ hi_
    have hg_ : 0 ≤ (i_ : Int) ∧ (i_ : Int) < 8 := by omega
    show parrelref06_May_l0 c y2  (fuel_ + 1) (i_ : Int) = _
    rw [parrelref06_May_l0, if_pos (decide_eq_true (by omega))]
    repeat rw [if_pos hg_]
    have hinc_ : IntKind.wrap .i64 ((i_ : Int) + 1) = (((i_ + 1 : Nat)) : Int) := by rw [w64 (by omega) (by omega)]; rfl
    try rw [hinc_]
    first | rfl | (unfold parrelref06_May_b0; simp only [hinc_]) | (unfold parrelref06_May_b0; simp only [hinc_]; rfl)
  · intro fuel_ s_
    show parrelref06_May_l0 c y2  (fuel_ + 1) ((8 : Nat) : Int) = _
    rw [parrelref06_May_l0, if_neg (by rw [decide_eq_true_eq]; omega)]
    rfl

end
end Go.Proofs.YtgbhbcigjgcedaaDoor.Wk
