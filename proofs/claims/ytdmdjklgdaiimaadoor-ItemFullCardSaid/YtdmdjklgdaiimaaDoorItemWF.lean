/- Printed by tr.py: counting loops as walks over lists and over numbers. -/
import Derived.Test.YtdmdjklgdaiimaaDoorItemW
import Derived.Test.YtdmdjklgdaiimaaDoorCnX
namespace Go.Proofs.YtdmdjklgdaiimaaDoor.Wk
open Go Go.Cn
set_option maxRecDepth 100000
set_option maxHeartbeats 4000000
set_option linter.unusedVariables false
set_option linter.unusedSimpArgs false
noncomputable section
def parrellaw13_long_b0 (y2 : (List (T_api_Write)))  (t9 : Nat) (s_ : (Int)) (k_ : ((Int)) → Option ((Bool))) : Option ((Bool)) :=
  k_ (IntKind.wrap .i64 (s_ + (if 65536 < (((y2.getD t9 default).f_Item.f_Value).length : Int) then 65536 else (((y2.getD t9 default).f_Item.f_Value).length : Int))))

def parrellaw13_long_e0   (s_ : (Int)) : Option ((Bool)) :=
  some (decide (65536 < s_))

theorem parrellaw13_long_w0 (y2 : (List (T_api_Write)))  (x_n : Int) (hN : (y2).length < 9223372036854775807) :
    parrellaw13_long_l0 y2  big x_n 0 = walkN (parrellaw13_long_b0 y2 ) (parrellaw13_long_e0  ) (y2).length 0 x_n := by
  refine loopN (y2).length (fun fuel_ t_ s_ => parrellaw13_long_l0 y2  fuel_ s_ t_) (parrellaw13_long_b0 y2 ) (parrellaw13_long_e0  ) (by first | exact hN | (have := hN; simp only [List.length_nil] at this ⊢; omega)) ?_ ?_ x_n
  · intro fuel_ i_ s_ hi_
    have hg_ : 0 ≤ (i_ : Int) ∧ (i_ : Int) < (((y2).length : Nat) : Int) := by omega
    show parrellaw13_long_l0 y2  (fuel_ + 1) s_ (i_ : Int) = _
    rw [parrellaw13_long_l0, if_pos (decide_eq_true (by omega))]
    repeat rw [if_pos hg_]
    have hinc_ : IntKind.wrap .i64 ((i_ : Int) + 1) = (((i_ + 1 : Nat)) : Int) := by rw [w64 (by omega) (by omega)]; rfl
    try rw [hinc_]
    first | rfl | (unfold parrellaw13_long_b0; simp only [hinc_]) | (unfold parrellaw13_long_b0; simp only [hinc_]; rfl)
  · intro fuel_ s_
    show parrellaw13_long_l0 y2  (fuel_ + 1) s_ (((y2).length : Nat) : Int) = _
    rw [parrellaw13_long_l0, if_neg (by rw [decide_eq_true_eq]; omega)]
    rfl

def votes_Of_b0 (c : T_api_Config) (set : Int)  (t10 : Nat) (s_ : (Int)) (k_ : ((Int)) → Option ((Int))) : Option ((Int)) :=
  if 0 ≤ (t10 : Int) then
  k_ (IntKind.wrap .i64 (s_ + (IntKind.wrap .i64 ((IntKind.wrap .i64 (A8.get c.f_Votes t10)) * (IntKind.wrap .i64 (IntKind.wrap .u64 ((BitVec.ofInt (IntKind.bits .u64) (Int.fdiv set (2 ^ (min (Int.toNat (t10 : Int)) (IntKind.bits .u64)))) &&& BitVec.ofInt (IntKind.bits .u64) 1).toNat : Int)))))))
  else none

def votes_Of_e0   (s_ : (Int)) : Option ((Int)) :=
  some s_

theorem votes_Of_w0 (c : T_api_Config) (set : Int)  (x_n : Int) (hN : 8 < 9223372036854775807) :
    votes_Of_l0 c set  big x_n 0 = walkN (votes_Of_b0 c set ) (votes_Of_e0  ) 8 0 x_n := by
  refine loopN 8 (fun fuel_ t_ s_ => votes_Of_l0 c set  fuel_ s_ t_) (votes_Of_b0 c set ) (votes_Of_e0  ) (by first | exact hN | (have := hN; simp only [List.length_nil] at this ⊢; omega)) ?_ ?_ x_n
  · intro fuel_ i_ s_ hi_
    have hg_ : 0 ≤ (i_ : Int) ∧ (i_ : Int) < 8 := by omega
    show votes_Of_l0 c set  (fuel_ + 1) s_ (i_ : Int) = _
    rw [votes_Of_l0, if_pos (decide_eq_true (by omega))]
    repeat rw [if_pos hg_]
    have hinc_ : IntKind.wrap .i64 ((i_ : Int) + 1) = (((i_ + 1 : Nat)) : Int) := by rw [w64 (by omega) (by omega)]; rfl
    try rw [hinc_]
    first | rfl | (unfold votes_Of_b0; simp only [hinc_]) | (unfold votes_Of_b0; simp only [hinc_]; rfl)
  · intro fuel_ s_
    show votes_Of_l0 c set  (fuel_ + 1) s_ ((8 : Nat) : Int) = _
    rw [votes_Of_l0, if_neg (by rw [decide_eq_true_eq]; omega)]
    rfl

def slices_Max_uint8_uint8_b0 (x : T_api_Config)  (i : Nat) (s_ : (Int)) (k_ : ((Int)) → Option ((Int))) : Option ((Int)) :=
  k_ (if (A8.get x.f_Votes i) > s_ then (A8.get x.f_Votes i) else s_)

def slices_Max_uint8_uint8_e0   (s_ : (Int)) : Option ((Int)) :=
  some s_

theorem slices_Max_uint8_uint8_w0 (x : T_api_Config)  (m : Int) (hN : 8 < 9223372036854775807) :
    slices_Max_uint8_uint8_l0 x  big m 0 = walkN (slices_Max_uint8_uint8_b0 x ) (slices_Max_uint8_uint8_e0  ) 8 0 m := by
  refine loopN 8 (fun fuel_ t_ s_ => slices_Max_uint8_uint8_l0 x  fuel_ s_ t_) (slices_Max_uint8_uint8_b0 x ) (slices_Max_uint8_uint8_e0  ) (by first | exact hN | (have := hN; simp only [List.length_nil] at this ⊢; omega)) ?_ ?_ m
  · intro fuel_ i_ s_ hi_
    have hg_ : 0 ≤ (i_ : Int) ∧ (i_ : Int) < 8 := by omega
    show slices_Max_uint8_uint8_l0 x  (fuel_ + 1) s_ (i_ : Int) = _
    rw [slices_Max_uint8_uint8_l0, if_pos (decide_eq_true (by omega))]
    repeat rw [if_pos hg_]
    have hinc_ : IntKind.wrap .i64 ((i_ : Int) + 1) = (((i_ + 1 : Nat)) : Int) := by rw [w64 (by omega) (by omega)]; rfl
    try rw [hinc_]
    first | rfl | (unfold slices_Max_uint8_uint8_b0; simp only [hinc_]) | (unfold slices_Max_uint8_uint8_b0; simp only [hinc_]; rfl)
  · intro fuel_ s_
    show slices_Max_uint8_uint8_l0 x  (fuel_ + 1) s_ ((8 : Nat) : Int) = _
    rw [slices_Max_uint8_uint8_l0, if_neg (by rw [decide_eq_true_eq]; omega)]
    rfl

def slices_Compare_byte_byte_b0 (s1 : A8 (Int)) (s2 : A8 (Int))  (t11 : Nat) (s_ : Unit) (k_ : (Unit) → Option ((Int))) : Option ((Int)) :=
  if ((decide (8 ≤ (t11 : Int))) : Bool) then
    some 1
  else
    (cmp_Compare_byte (A8.get s1 t11) (A8.get s2 t11)).bind fun yL0_5 =>
    if ((yL0_5 != 0) : Bool) then
      some yL0_5
    else
      k_ ()

def slices_Compare_byte_byte_e0   (s_ : Unit) : Option ((Int)) :=
  some 0

theorem slices_Compare_byte_byte_w0 (s1 : A8 (Int)) (s2 : A8 (Int))   (hN : 8 < 9223372036854775807) :
    slices_Compare_byte_byte_l0 s1 s2  big 0 = walkN (slices_Compare_byte_byte_b0 s1 s2 ) (slices_Compare_byte_byte_e0  ) 8 0 () := by
  refine loopN 8 (fun fuel_ t_ s_ => slices_Compare_byte_byte_l0 s1 s2  fuel_ t_) (slices_Compare_byte_byte_b0 s1 s2 ) (slices_Compare_byte_byte_e0  ) (by first | exact hN | (have := hN; simp only [List.length_nil] at this ⊢; omega)) ?_ ?_ ()
  · intro fuel_ i_ s_ hi_
    have hg_ : 0 ≤ (i_ : Int) ∧ (i_ : Int) < 8 := by omega
    show slices_Compare_byte_byte_l0 s1 s2  (fuel_ + 1) (i_ : Int) = _
    rw [slices_Compare_byte_byte_l0, if_pos (decide_eq_true (by omega))]
    repeat rw [if_pos hg_]
    have hinc_ : IntKind.wrap .i64 ((i_ : Int) + 1) = (((i_ + 1 : Nat)) : Int) := by rw [w64 (by omega) (by omega)]; rfl
    try rw [hinc_]
    first | rfl | (unfold slices_Compare_byte_byte_b0; simp only [hinc_]) | (unfold slices_Compare_byte_byte_b0; simp only [hinc_]; rfl)
  · intro fuel_ s_
    show slices_Compare_byte_byte_l0 s1 s2  (fuel_ + 1) ((8 : Nat) : Int) = _
    rw [slices_Compare_byte_byte_l0, if_neg (by rw [decide_eq_true_eq]; omega)]
    rfl

def item_Table_All_b0 (m : List (A8 (Int) × T_api_Item))  (a_ : A8 (Int)) (s_ : (List (T_api_Write))) (k_ : ((List (T_api_Write))) → Option ((List (T_api_Write)))) : Option ((List (T_api_Write))) :=
  if ((s_).length + ([(T_api_Write.mk a_ ((mget m a_).getD default))]).length) * 48 ≤ 140737488351232 then
  k_ (s_ ++ [(T_api_Write.mk a_ ((mget m a_).getD default))])
  else none

def item_Table_All_e0   (s_ : (List (T_api_Write))) : Option ((List (T_api_Write))) :=
  some s_

theorem item_Table_All_w0 (m : List (A8 (Int) × T_api_Item)) (y5 : List (A8 (Int)))  (l : List (T_api_Write)) (hN : (y5).length < 9223372036854775807) :
    item_Table_All_l0 m y5  big 0 l = walkL (item_Table_All_b0 m ) (item_Table_All_e0  ) y5 l := by
  refine loopL y5 (fun fuel_ t_ s_ => item_Table_All_l0 m y5  fuel_ t_ s_) (item_Table_All_b0 m ) (item_Table_All_e0  ) (by first | exact hN | (have := hN; simp only [List.length_nil] at this ⊢; omega)) ?_ ?_ l
  · intro fuel_ i_ s_ hi_
    have hg_ : 0 ≤ (i_ : Int) ∧ (i_ : Int) < (((y5).length : Nat) : Int) := by omega
    show item_Table_All_l0 m y5  (fuel_ + 1) (i_ : Int) s_ = _
    rw [item_Table_All_l0, if_pos (decide_eq_true (by omega))]
    repeat rw [if_pos hg_]
    have hinc_ : IntKind.wrap .i64 ((i_ : Int) + 1) = (((i_ + 1 : Nat)) : Int) := by rw [w64 (by omega) (by omega)]; rfl
    try rw [hinc_]
    first | rfl | (unfold item_Table_All_b0; simp only [hinc_]) | (unfold item_Table_All_b0; simp only [hinc_]; rfl)
  · intro fuel_ s_
    show item_Table_All_l0 m y5  (fuel_ + 1) (((y5).length : Nat) : Int) s_ = _
    rw [item_Table_All_l0, if_neg (by rw [decide_eq_true_eq]; omega)]
    rfl

def parrelref05_Name_b1 (x_k : A8 (Int))  (i : Nat) (s_ : Unit) (k_ : (Unit) → Option ((List UInt8) × (Bool))) : Option ((List UInt8) × (Bool)) :=
  if (((A8.get x_k i) != 0) : Bool) then
    some ([], false)
  else
    k_ ()

def parrelref05_Name_e1 (x_k : A8 (Int)) (x_n : Int)  (s_ : Unit) : Option ((List UInt8) × (Bool)) :=
  if ((x_n == 0) : Bool) then
    some ([], false)
  else
    if 0 ≤ (0 : Int) ∧ 0 ≤ x_n ∧ x_n ≤ 8 then
    some ((strI (([x_k.a0, x_k.a1, x_k.a2, x_k.a3, x_k.a4, x_k.a5, x_k.a6, x_k.a7] : List Int).take (x_n.toNat))), true)
    else none

theorem parrelref05_Name_w1 (x_k : A8 (Int)) (x_n : Int)   (hN : 8 < 9223372036854775807) :
    parrelref05_Name_l1 x_k x_n  big 0 = walkN (parrelref05_Name_b1 x_k ) (parrelref05_Name_e1 x_k x_n ) 8 0 () := by
  refine loopN 8 (fun fuel_ t_ s_ => parrelref05_Name_l1 x_k x_n  fuel_ t_) (parrelref05_Name_b1 x_k ) (parrelref05_Name_e1 x_k x_n ) (by first | exact hN | (have := hN; simp only [List.length_nil] at this ⊢; omega)) ?_ ?_ ()
  · intro fuel_ i_ s_ hi_
    have hg_ : 0 ≤ (i_ : Int) ∧ (i_ : Int) < 8 := by omega
    show parrelref05_Name_l1 x_k x_n  (fuel_ + 1) (i_ : Int) = _
    rw [parrelref05_Name_l1, if_pos (decide_eq_true (by omega))]
    repeat rw [if_pos hg_]
    have hinc_ : IntKind.wrap .i64 ((i_ : Int) + 1) = (((i_ + 1 : Nat)) : Int) := by rw [w64 (by omega) (by omega)]; rfl
    try rw [hinc_]
    first | rfl | (unfold parrelref05_Name_b1; simp only [hinc_]) | (unfold parrelref05_Name_b1; simp only [hinc_]; rfl)
  · intro fuel_ s_
    show parrelref05_Name_l1 x_k x_n  (fuel_ + 1) ((8 : Nat) : Int) = _
    rw [parrelref05_Name_l1, if_neg (by rw [decide_eq_true_eq]; omega)]
    rfl

def parrelref05_Name_b0 (x_k : A8 (Int))  (x_n : Nat) (s_ : Unit) (k_ : (Unit) → Option ((List UInt8) × (Bool))) : Option ((List UInt8) × (Bool)) :=
  if (((A8.get x_k x_n) != 0) : Bool) then
    k_ ()
  else
    parrelref05_Name_l1 x_k (x_n : Int)  big (x_n : Int)

def parrelref05_Name_e0 (x_k : A8 (Int))  (s_ : Unit) : Option ((List UInt8) × (Bool)) :=
  parrelref05_Name_l1 x_k ((8 : Nat) : Int)  big ((8 : Nat) : Int)

theorem parrelref05_Name_w0 (x_k : A8 (Int))   (hN : 8 < 9223372036854775807) :
    parrelref05_Name_l0 x_k  big 0 = walkN (parrelref05_Name_b0 x_k ) (parrelref05_Name_e0 x_k ) 8 0 () := by
  refine loopN 8 (fun fuel_ t_ s_ => parrelref05_Name_l0 x_k  fuel_ t_) (parrelref05_Name_b0 x_k ) (parrelref05_Name_e0 x_k ) (by first | exact hN | (have := hN; simp only [List.length_nil] at this ⊢; omega)) ?_ ?_ ()
  · intro fuel_ i_ s_ hi_
    have hg_ : 0 ≤ (i_ : Int) ∧ (i_ : Int) < 8 := by omega
    show parrelref05_Name_l0 x_k  (fuel_ + 1) (i_ : Int) = _
    rw [parrelref05_Name_l0, if_pos (decide_eq_true (by omega))]
    repeat rw [if_pos hg_]
    have hinc_ : IntKind.wrap .i64 ((i_ : Int) + 1) = (((i_ + 1 : Nat)) : Int) := by rw [w64 (by omega) (by omega)]; rfl
    try rw [hinc_]
    first | rfl | (unfold parrelref05_Name_b0; simp only [hinc_]) | (unfold parrelref05_Name_b0; simp only [hinc_]; rfl)
  · intro fuel_ s_
    show parrelref05_Name_l0 x_k  (fuel_ + 1) ((8 : Nat) : Int) = _
    rw [parrelref05_Name_l0, if_neg (by rw [decide_eq_true_eq]; omega)]
    rfl

def parrelref06_Total_b0 (c : T_api_Config)  (i : Nat) (s_ : (Int)) (k_ : ((Int)) → Option ((Int))) : Option ((Int)) :=
  k_ (IntKind.wrap .i64 (s_ + (IntKind.wrap .i64 (A8.get c.f_Votes i))))

def parrelref06_Total_e0   (s_ : (Int)) : Option ((Int)) :=
  some s_

theorem parrelref06_Total_w0 (c : T_api_Config)  (x_n : Int) (hN : 8 < 9223372036854775807) :
    parrelref06_Total_l0 c  big x_n 0 = walkN (parrelref06_Total_b0 c ) (parrelref06_Total_e0  ) 8 0 x_n := by
  refine loopN 8 (fun fuel_ t_ s_ => parrelref06_Total_l0 c  fuel_ s_ t_) (parrelref06_Total_b0 c ) (parrelref06_Total_e0  ) (by first | exact hN | (have := hN; simp only [List.length_nil] at this ⊢; omega)) ?_ ?_ x_n
  · intro fuel_ i_ s_ hi_
    have hg_ : 0 ≤ (i_ : Int) ∧ (i_ : Int) < 8 := by omega
    show parrelref06_Total_l0 c  (fuel_ + 1) s_ (i_ : Int) = _
    rw [parrelref06_Total_l0, if_pos (decide_eq_true (by omega))]
    repeat rw [if_pos hg_]
    have hinc_ : IntKind.wrap .i64 ((i_ : Int) + 1) = (((i_ + 1 : Nat)) : Int) := by rw [w64 (by omega) (by omega)]; rfl
    try rw [hinc_]
    first | rfl | (unfold parrelref06_Total_b0; simp only [hinc_]) | (unfold parrelref06_Total_b0; simp only [hinc_]; rfl)
  · intro fuel_ s_
    show parrelref06_Total_l0 c  (fuel_ + 1) s_ ((8 : Nat) : Int) = _
    rw [parrelref06_Total_l0, if_neg (by rw [decide_eq_true_eq]; omega)]
    rfl

def parrelref06_May_b0 (c : T_api_Config)  (i : Nat) (s_ : Unit) (k_ : (Unit) → Option ((Bool))) : Option ((Bool)) :=
  if ((decide (15 < (A8.get c.f_Votes i))) : Bool) then
    some false
  else
    k_ ()

def parrelref06_May_e0 (c : T_api_Config) (y2 : (Int))  (s_ : Unit) : Option ((Bool)) :=
  if ((decide (1 ≤ c.f_Epoch)) : Bool) then
    if ((decide (c.f_Epoch ≤ 2147483647)) : Bool) then
      if ((decide (1 ≤ (IntKind.wrap .i64 c.f_R))) : Bool) then
        if ((decide (1 ≤ (IntKind.wrap .i64 c.f_W))) : Bool) then
          if ((decide ((IntKind.wrap .i64 c.f_R) ≤ y2)) : Bool) then
            if ((decide ((IntKind.wrap .i64 c.f_W) ≤ y2)) : Bool) then
              if ((decide (y2 < (IntKind.wrap .i64 ((IntKind.wrap .i64 c.f_R) + (IntKind.wrap .i64 c.f_W))))) : Bool) then
                some (decide (y2 < (IntKind.wrap .i64 (2 * (IntKind.wrap .i64 c.f_W)))))
              else
                some false
            else
              some false
          else
            some false
        else
          some false
      else
        some false
    else
      some false
  else
    some false

theorem parrelref06_May_w0 (c : T_api_Config) (y2 : (Int))   (hN : 8 < 9223372036854775807) :
    parrelref06_May_l0 c y2  big 0 = walkN (parrelref06_May_b0 c ) (parrelref06_May_e0 c y2 ) 8 0 () := by
  refine loopN 8 (fun fuel_ t_ s_ => parrelref06_May_l0 c y2  fuel_ t_) (parrelref06_May_b0 c ) (parrelref06_May_e0 c y2 ) (by first | exact hN | (have := hN; simp only [List.length_nil] at this ⊢; omega)) ?_ ?_ ()
  · intro fuel_ i_ s_ hi_
    have hg_ : 0 ≤ (i_ : Int) ∧ (i_ : Int) < 8 := by omega
    show parrelref06_May_l0 c y2  (fuel_ + 1) (i_ : Int) = _
    rw [parrelref06_May_l0, if_pos (decide_eq_true (by omega))]
    repeat rw [if_pos hg_]
    have hinc_ : IntKind.wrap .i64 ((i_ : Int) + 1) = (((i_ + 1 : Nat)) : Int) := by rw [w64 (by omega) (by omega)]; rfl
    try rw [hinc_]
    first | rfl | (unfold parrelref06_May_b0; simp only [hinc_]) | (unfold parrelref06_May_b0; simp only [hinc_]; rfl)
  · intro fuel_ s_
    show parrelref06_May_l0 c y2  (fuel_ + 1) ((8 : Nat) : Int) = _
    rw [parrelref06_May_l0, if_neg (by rw [decide_eq_true_eq]; omega)]
    rfl

def parrelref05_first_b0 (a : List (Int)) (b : List (Int))  (i : Nat) (s_ : Unit) (k_ : (Unit) → Option ((Int))) : Option ((Int)) :=
  if 0 ≤ (i : Int) ∧ (i : Int) < (((b).length : Nat) : Int) then
  if ((decide ((a.getD i default) < (b.getD i default))) : Bool) then
    some (-1)
  else
    if ((decide ((b.getD i default) < (a.getD i default))) : Bool) then
      some 1
    else
      k_ ()
  else none

def parrelref05_first_e0   (s_ : Unit) : Option ((Int)) :=
  some 0

theorem parrelref05_first_w0 (a : List (Int)) (b : List (Int))   (hN : (a).length < 9223372036854775807) :
    parrelref05_first_l0 a b  big 0 = walkN (parrelref05_first_b0 a b ) (parrelref05_first_e0  ) (a).length 0 () := by
  refine loopN (a).length (fun fuel_ t_ s_ => parrelref05_first_l0 a b  fuel_ t_) (parrelref05_first_b0 a b ) (parrelref05_first_e0  ) (by first | exact hN | (have := hN; simp only [List.length_nil] at this ⊢; omega)) ?_ ?_ ()
  · intro fuel_ i_ s_ hi_
    have hg_ : 0 ≤ (i_ : Int) ∧ (i_ : Int) < (((a).length : Nat) : Int) := by omega
    show parrelref05_first_l0 a b  (fuel_ + 1) (i_ : Int) = _
    rw [parrelref05_first_l0, if_pos (decide_eq_true (by omega))]
    repeat rw [if_pos hg_]
    have hinc_ : IntKind.wrap .i64 ((i_ : Int) + 1) = (((i_ + 1 : Nat)) : Int) := by rw [w64 (by omega) (by omega)]; rfl
    try rw [hinc_]
    first | rfl | (unfold parrelref05_first_b0; simp only [hinc_]) | (unfold parrelref05_first_b0; simp only [hinc_]; rfl)
  · intro fuel_ s_
    show parrelref05_first_l0 a b  (fuel_ + 1) (((a).length : Nat) : Int) = _
    rw [parrelref05_first_l0, if_neg (by rw [decide_eq_true_eq]; omega)]
    rfl

def parrelref05_Keys_b0 (a : A8 (Int)) (b : A8 (Int))  (i : Nat) (s_ : (List (Int)) × (List (Int))) (k_ : ((List (Int)) × (List (Int))) → Option ((Int))) : Option ((Int)) :=
  if ((s_.1).length + ([(IntKind.wrap .u32 (A8.get a i))]).length) * 4 ≤ 140737488351232 then
  if ((s_.2).length + ([(IntKind.wrap .u32 (A8.get b i))]).length) * 4 ≤ 140737488351232 then
  k_ ((s_.1 ++ [(IntKind.wrap .u32 (A8.get a i))]), (s_.2 ++ [(IntKind.wrap .u32 (A8.get b i))]))
  else none
  else none

def parrelref05_Keys_e0   (s_ : (List (Int)) × (List (Int))) : Option ((Int)) :=
  (parrelref05_first s_.1 s_.2).bind fun yL0_3 =>
  some yL0_3

theorem parrelref05_Keys_w0 (a : A8 (Int)) (b : A8 (Int))  (l : List (Int)) (l2 : List (Int)) (hN : 8 < 9223372036854775807) :
    parrelref05_Keys_l0 a b  big 0 l l2 = walkN (parrelref05_Keys_b0 a b ) (parrelref05_Keys_e0  ) 8 0 (l, l2) := by
  refine loopN 8 (fun fuel_ t_ s_ => parrelref05_Keys_l0 a b  fuel_ t_ s_.1 s_.2) (parrelref05_Keys_b0 a b ) (parrelref05_Keys_e0  ) (by first | exact hN | (have := hN; simp only [List.length_nil] at this ⊢; omega)) ?_ ?_ (l, l2)
  · intro fuel_ i_ s_ hi_
    have hg_ : 0 ≤ (i_ : Int) ∧ (i_ : Int) < 8 := by omega
    show parrelref05_Keys_l0 a b  (fuel_ + 1) (i_ : Int) s_.1 s_.2 = _
    rw [parrelref05_Keys_l0, if_pos (decide_eq_true (by omega))]
    repeat rw [if_pos hg_]
    have hinc_ : IntKind.wrap .i64 ((i_ : Int) + 1) = (((i_ + 1 : Nat)) : Int) := by rw [w64 (by omega) (by omega)]; rfl
    try rw [hinc_]
    first | rfl | (unfold parrelref05_Keys_b0; simp only [hinc_]) | (unfold parrelref05_Keys_b0; simp only [hinc_]; rfl)
  · intro fuel_ s_
    show parrelref05_Keys_l0 a b  (fuel_ + 1) ((8 : Nat) : Int) s_.1 s_.2 = _
    rw [parrelref05_Keys_l0, if_neg (by rw [decide_eq_true_eq]; omega)]
    rfl

def parrelref13_Table_place_b0 (t : T_parrelref13_Table) (x_k : A8 (Int))  (i : Nat) (s_ : Unit) (k_ : (Unit) → Option ((Int) × (Bool))) : Option ((Int) × (Bool)) :=
  (parrelref05_Keys (t.f_L.getD i default).f_Key x_k).bind fun yL0_4 =>
  if ((decide (yL0_4 < 0)) : Bool) then
    k_ ()
  else
    if ((decide ((i : Int) < ((t.f_L).length : Int))) : Bool) then
      some ((i : Int), (decide ((t.f_L.getD i default).f_Key = x_k)))
    else
      some ((i : Int), false)

def parrelref13_Table_place_e0 (t : T_parrelref13_Table) (x_k : A8 (Int))  (s_ : Unit) : Option ((Int) × (Bool)) :=
  if ((decide ((((t.f_L).length : Nat) : Int) < ((t.f_L).length : Int))) : Bool) then
    if 0 ≤ (((t.f_L).length : Nat) : Int) ∧ (((t.f_L).length : Nat) : Int) < (((t.f_L).length : Nat) : Int) then
    some ((((t.f_L).length : Nat) : Int), (decide ((t.f_L.getD (((t.f_L).length : Nat) : Int).toNat default).f_Key = x_k)))
    else none
  else
    some ((((t.f_L).length : Nat) : Int), false)

theorem parrelref13_Table_place_w0 (t : T_parrelref13_Table) (x_k : A8 (Int))   (hN : (t.f_L).length < 9223372036854775807) :
    parrelref13_Table_place_l0 t x_k  big 0 = walkN (parrelref13_Table_place_b0 t x_k ) (parrelref13_Table_place_e0 t x_k ) (t.f_L).length 0 () := by
  refine loopN (t.f_L).length (fun fuel_ t_ s_ => parrelref13_Table_place_l0 t x_k  fuel_ t_) (parrelref13_Table_place_b0 t x_k ) (parrelref13_Table_place_e0 t x_k ) (by first | exact hN | (have := hN; simp only [List.length_nil] at this ⊢; omega)) ?_ ?_ ()
  · intro fuel_ i_ s_ hi_
    have hg_ : 0 ≤ (i_ : Int) ∧ (i_ : Int) < (((t.f_L).length : Nat) : Int) := by omega
    show parrelref13_Table_place_l0 t x_k  (fuel_ + 1) (i_ : Int) = _
    rw [parrelref13_Table_place_l0, if_pos (decide_eq_true (by omega))]
    repeat rw [if_pos hg_]
    have hinc_ : IntKind.wrap .i64 ((i_ : Int) + 1) = (((i_ + 1 : Nat)) : Int) := by rw [w64 (by omega) (by omega)]; rfl
    try rw [hinc_]
    first | rfl | (unfold parrelref13_Table_place_b0; simp only [hinc_]) | (unfold parrelref13_Table_place_b0; simp only [hinc_]; rfl)
  · intro fuel_ s_
    show parrelref13_Table_place_l0 t x_k  (fuel_ + 1) (((t.f_L).length : Nat) : Int) = _
    rw [parrelref13_Table_place_l0, if_neg (by rw [decide_eq_true_eq]; omega)]
    rfl

def parrelref10_SameWrites_b0 (a : List (T_api_Write)) (b : List (T_api_Write))  (i : Nat) (s_ : Unit) (k_ : (Unit) → Option ((Bool))) : Option ((Bool)) :=
  if 0 ≤ (i : Int) ∧ (i : Int) < (((b).length : Nat) : Int) then
  if ((!decide ((a.getD i default) = (b.getD i default))) : Bool) then
    some false
  else
    k_ ()
  else none

def parrelref10_SameWrites_e0   (s_ : Unit) : Option ((Bool)) :=
  some true

theorem parrelref10_SameWrites_w0 (a : List (T_api_Write)) (b : List (T_api_Write))   (hN : (a).length < 9223372036854775807) :
    parrelref10_SameWrites_l0 a b  big 0 = walkN (parrelref10_SameWrites_b0 a b ) (parrelref10_SameWrites_e0  ) (a).length 0 () := by
  refine loopN (a).length (fun fuel_ t_ s_ => parrelref10_SameWrites_l0 a b  fuel_ t_) (parrelref10_SameWrites_b0 a b ) (parrelref10_SameWrites_e0  ) (by first | exact hN | (have := hN; simp only [List.length_nil] at this ⊢; omega)) ?_ ?_ ()
  · intro fuel_ i_ s_ hi_
    have hg_ : 0 ≤ (i_ : Int) ∧ (i_ : Int) < (((a).length : Nat) : Int) := by omega
    show parrelref10_SameWrites_l0 a b  (fuel_ + 1) (i_ : Int) = _
    rw [parrelref10_SameWrites_l0, if_pos (decide_eq_true (by omega))]
    repeat rw [if_pos hg_]
    have hinc_ : IntKind.wrap .i64 ((i_ : Int) + 1) = (((i_ + 1 : Nat)) : Int) := by rw [w64 (by omega) (by omega)]; rfl
    try rw [hinc_]
    first | rfl | (unfold parrelref10_SameWrites_b0; simp only [hinc_]) | (unfold parrelref10_SameWrites_b0; simp only [hinc_]; rfl)
  · intro fuel_ s_
    show parrelref10_SameWrites_l0 a b  (fuel_ + 1) (((a).length : Nat) : Int) = _
    rw [parrelref10_SameWrites_l0, if_neg (by rw [decide_eq_true_eq]; omega)]
    rfl

def parrellaw13_ItemPlays_b0 (y7 : (List (T_api_Write)))  (t26 : Nat) (s_ : (List (T_api_Write)) × (List (A8 (Int) × T_api_Item))) (k_ : ((List (T_api_Write)) × (List (A8 (Int) × T_api_Item))) → Option ((Bool))) : Option ((Bool)) :=
  (item_Table_Install s_.2 (y7.getD t26 default).f_Key (y7.getD t26 default).f_Item).bind fun yL0_4 =>
  (parrelref13_Table_Install (T_parrelref13_Table.mk s_.1) (y7.getD t26 default).f_Key (y7.getD t26 default).f_Item).bind fun yL0_6 =>
  if ((yL0_4.1 != yL0_6.1) : Bool) then
    some false
  else
    (item_Table_All yL0_4.2).bind fun yL0_9 =>
    (parrelref10_SameWrites yL0_9 yL0_6.2).bind fun yL0_11 =>
    if ((!yL0_11) : Bool) then
      some false
    else
      (item_Table_Len yL0_4.2).bind fun yL0_14 =>
      if ((yL0_14 != ((yL0_6.2).length : Int)) : Bool) then
        some false
      else
        (item_Table_Get yL0_4.2 (y7.getD t26 default).f_Key).bind fun yL0_17 =>
        (parrelref13_Table_Get (T_parrelref13_Table.mk yL0_6.2) (y7.getD t26 default).f_Key).bind fun yL0_19 =>
        if ((!decide (yL0_17.1 = yL0_19.1)) : Bool) then
          some false
        else
          if ((!(yL0_17.2 == yL0_19.2)) : Bool) then
            some false
          else
            k_ ((T_parrelref13_Table.mk yL0_6.2).f_L, yL0_4.2)

def parrellaw13_ItemPlays_e0   (s_ : (List (T_api_Write)) × (List (A8 (Int) × T_api_Item))) : Option ((Bool)) :=
  (parrellaw13_alive).bind fun yL0_3 =>
  some yL0_3

theorem parrellaw13_ItemPlays_w0 (y7 : (List (T_api_Write)))  (L : List (T_api_Write)) (m : List (A8 (Int) × T_api_Item)) (hN : (y7).length < 9223372036854775807) :
    parrellaw13_ItemPlays_l0 y7  big 0 L m = walkN (parrellaw13_ItemPlays_b0 y7 ) (parrellaw13_ItemPlays_e0  ) (y7).length 0 (L, m) := by
  refine loopN (y7).length (fun fuel_ t_ s_ => parrellaw13_ItemPlays_l0 y7  fuel_ t_ s_.1 s_.2) (parrellaw13_ItemPlays_b0 y7 ) (parrellaw13_ItemPlays_e0  ) (by first | exact hN | (have := hN; simp only [List.length_nil] at this ⊢; omega)) ?_ ?_ (L, m)
  · intro fuel_ i_ s_ hi_
    have hg_ : 0 ≤ (i_ : Int) ∧ (i_ : Int) < (((y7).length : Nat) : Int) := by omega
    show parrellaw13_ItemPlays_l0 y7  (fuel_ + 1) (i_ : Int) s_.1 s_.2 = _
    rw [parrellaw13_ItemPlays_l0, if_pos (decide_eq_true (by omega))]
    repeat rw [if_pos hg_]
    have hinc_ : IntKind.wrap .i64 ((i_ : Int) + 1) = (((i_ + 1 : Nat)) : Int) := by rw [w64 (by omega) (by omega)]; rfl
    try rw [hinc_]
    first | rfl | (unfold parrellaw13_ItemPlays_b0; simp only [hinc_]) | (unfold parrellaw13_ItemPlays_b0; simp only [hinc_]; rfl)
  · intro fuel_ s_
    show parrellaw13_ItemPlays_l0 y7  (fuel_ + 1) (((y7).length : Nat) : Int) s_.1 s_.2 = _
    rw [parrellaw13_ItemPlays_l0, if_neg (by rw [decide_eq_true_eq]; omega)]
    rfl

theorem parrellaw13_ItemRise_l1_k (t30 : Int) (y7 : (List (T_api_Write))) (yL0_4 : (List (T_api_Write))) (yL0_6 : (Int) × (List (A8 (Int) × T_api_Item)))  (k k' : (Int) → (List (A8 (Int) × T_api_Item)) → Option ((Bool))) (h : ∀ m_, k (IntKind.wrap .i64 (t30 + 1)) m_ = k' (IntKind.wrap .i64 (t30 + 1)) m_) : ∀ fuel t52, parrellaw13_ItemRise_l1 t30 y7 yL0_4 yL0_6 k fuel t52 = parrellaw13_ItemRise_l1 t30 y7 yL0_4 yL0_6 k' fuel t52 := by
  intro fuel
  induction fuel with
  | zero => intros; rfl
  | succ fuel ih => intros; simp only [parrellaw13_ItemRise_l1, ih, h]

def parrellaw13_ItemRise_b1 (t30 : Int) (y7 : (List (T_api_Write))) (yL0_4 : (List (T_api_Write))) (yL0_6 : (Int) × (List (A8 (Int) × T_api_Item))) (k0 : ((List (A8 (Int) × T_api_Item))) → Option ((Bool))) (t52 : Nat) (s_ : Unit) (k_ : (Unit) → Option ((Bool))) : Option ((Bool)) :=
  (item_Table_Get yL0_6.2 (yL0_4.getD t52 default).f_Key).bind fun yL1_4 =>
  if ((!yL1_4.2) : Bool) then
    some false
  else
    if ((decide (yL1_4.1.f_Version < (yL0_4.getD t52 default).f_Item.f_Version)) : Bool) then
      some false
    else
      if ((!decide ((yL0_4.getD t52 default).f_Key = (y7.getD t30.toNat default).f_Key)) : Bool) then
        if ((!decide (yL1_4.1 = (yL0_4.getD t52 default).f_Item)) : Bool) then
          some false
        else
          k_ ()
      else
        k_ ()

def parrellaw13_ItemRise_e1 (t30 : Int) (y7 : (List (T_api_Write))) (yL0_6 : (Int) × (List (A8 (Int) × T_api_Item))) (k0 : ((List (A8 (Int) × T_api_Item))) → Option ((Bool))) (s_ : Unit) : Option ((Bool)) :=
  (item_Table_Get yL0_6.2 (y7.getD t30.toNat default).f_Key).bind fun yL1_3 =>
  if ((!yL1_3.2) : Bool) then
    some false
  else
    if ((!decide (yL1_3.1 = (y7.getD t30.toNat default).f_Item)) : Bool) then
      some false
    else
      k0 yL0_6.2

theorem parrellaw13_ItemRise_w1 (t30 : Int) (y7 : (List (T_api_Write))) (yL0_4 : (List (T_api_Write))) (yL0_6 : (Int) × (List (A8 (Int) × T_api_Item))) (k0 : (Int) → (List (A8 (Int) × T_api_Item)) → Option ((Bool)))  (hN : (yL0_4).length < 9223372036854775807) :
    parrellaw13_ItemRise_l1 t30 y7 yL0_4 yL0_6 k0 big 0 = walkN (parrellaw13_ItemRise_b1 t30 y7 yL0_4 yL0_6 (fun s_ => k0 (IntKind.wrap .i64 (t30 + 1)) s_)) (parrellaw13_ItemRise_e1 t30 y7 yL0_6 (fun s_ => k0 (IntKind.wrap .i64 (t30 + 1)) s_)) (yL0_4).length 0 () := by
  refine loopN (yL0_4).length (fun fuel_ t_ s_ => parrellaw13_ItemRise_l1 t30 y7 yL0_4 yL0_6 k0 fuel_ t_) (parrellaw13_ItemRise_b1 t30 y7 yL0_4 yL0_6 (fun s_ => k0 (IntKind.wrap .i64 (t30 + 1)) s_)) (parrellaw13_ItemRise_e1 t30 y7 yL0_6 (fun s_ => k0 (IntKind.wrap .i64 (t30 + 1)) s_)) (by first | exact hN | (have := hN; simp only [List.length_nil] at this ⊢; omega)) ?_ ?_ ()
  · intro fuel_ i_ s_ hi_
    have hg_ : 0 ≤ (i_ : Int) ∧ (i_ : Int) < (((yL0_4).length : Nat) : Int) := by omega
    show parrellaw13_ItemRise_l1 t30 y7 yL0_4 yL0_6 k0 (fuel_ + 1) (i_ : Int) = _
    rw [parrellaw13_ItemRise_l1, if_pos (decide_eq_true (by omega))]
    repeat rw [if_pos hg_]
    have hinc_ : IntKind.wrap .i64 ((i_ : Int) + 1) = (((i_ + 1 : Nat)) : Int) := by rw [w64 (by omega) (by omega)]; rfl
    try rw [hinc_]
    first | rfl | (unfold parrellaw13_ItemRise_b1; simp only [hinc_]) | (unfold parrellaw13_ItemRise_b1; simp only [hinc_]; rfl)
  · intro fuel_ s_
    show parrellaw13_ItemRise_l1 t30 y7 yL0_4 yL0_6 k0 (fuel_ + 1) (((yL0_4).length : Nat) : Int) = _
    rw [parrellaw13_ItemRise_l1, if_neg (by rw [decide_eq_true_eq]; omega)]
    rfl

def parrellaw13_ItemRise_b0 (y7 : (List (T_api_Write)))  (t30 : Nat) (s_ : (List (A8 (Int) × T_api_Item))) (k_ : ((List (A8 (Int) × T_api_Item))) → Option ((Bool))) : Option ((Bool)) :=
  (item_Table_All s_).bind fun yL0_4 =>
  (item_Table_Install s_ (y7.getD t30 default).f_Key (y7.getD t30 default).f_Item).bind fun yL0_6 =>
  (item_Table_All yL0_6.2).bind fun yL0_8 =>
  if ((yL0_6.1 != 0) : Bool) then
    (parrelref10_SameWrites yL0_4 yL0_8).bind fun yL0_11 =>
    if ((!yL0_11) : Bool) then
      some false
    else
      k_ yL0_6.2
  else
    parrellaw13_ItemRise_l1 (t30 : Int) y7 yL0_4 yL0_6 (fun _ m_ => k_ m_) big 0

def parrellaw13_ItemRise_e0   (s_ : (List (A8 (Int) × T_api_Item))) : Option ((Bool)) :=
  (parrellaw13_alive).bind fun yL0_3 =>
  some yL0_3

theorem parrellaw13_ItemRise_w0 (y7 : (List (T_api_Write)))  (m : List (A8 (Int) × T_api_Item)) (hN : (y7).length < 9223372036854775807) :
    parrellaw13_ItemRise_l0 y7  big 0 m = walkN (parrellaw13_ItemRise_b0 y7 ) (parrellaw13_ItemRise_e0  ) (y7).length 0 m := by
  refine loopN (y7).length (fun fuel_ t_ s_ => parrellaw13_ItemRise_l0 y7  fuel_ t_ s_) (parrellaw13_ItemRise_b0 y7 ) (parrellaw13_ItemRise_e0  ) (by first | exact hN | (have := hN; simp only [List.length_nil] at this ⊢; omega)) ?_ ?_ m
  · intro fuel_ i_ s_ hi_
    have hg_ : 0 ≤ (i_ : Int) ∧ (i_ : Int) < (((y7).length : Nat) : Int) := by omega
    show parrellaw13_ItemRise_l0 y7  (fuel_ + 1) (i_ : Int) s_ = _
    rw [parrellaw13_ItemRise_l0, if_pos (decide_eq_true (by omega))]
    repeat rw [if_pos hg_]
    have hinc_ : IntKind.wrap .i64 ((i_ : Int) + 1) = (((i_ + 1 : Nat)) : Int) := by rw [w64 (by omega) (by omega)]; rfl
    simp only [parrellaw13_ItemRise_l1_k (i_ : Int) _ _ _  (parrellaw13_ItemRise_l0 y7  fuel_) (fun _ m_ => parrellaw13_ItemRise_l0 y7  fuel_ (((i_ + 1 : Nat)) : Int) m_) (fun m_ => by first | rfl | rw [hinc_])]
    try rw [hinc_]
    first | rfl | (unfold parrellaw13_ItemRise_b0; simp only [hinc_]) | (unfold parrellaw13_ItemRise_b0; simp only [hinc_]; rfl)
  · intro fuel_ s_
    show parrellaw13_ItemRise_l0 y7  (fuel_ + 1) (((y7).length : Nat) : Int) s_ = _
    rw [parrellaw13_ItemRise_l0, if_neg (by rw [decide_eq_true_eq]; omega)]
    rfl

def parrellaw13_ItemLast_b0 (versions : List (Int)) (x_k : A8 (Int))  (t47 : Nat) (s_ : (Int) × (List (A8 (Int) × T_api_Item)) × (List (A8 (Int) × T_api_Item))) (k_ : ((Int) × (List (A8 (Int) × T_api_Item)) × (List (A8 (Int) × T_api_Item))) → Option ((Bool))) : Option ((Bool)) :=
  if 0 ≤ (IntKind.wrap .i64 ((IntKind.wrap .i64 (((versions).length : Int) - 1)) - (t47 : Int))) ∧ (IntKind.wrap .i64 ((IntKind.wrap .i64 (((versions).length : Int) - 1)) - (t47 : Int))) < (((versions).length : Nat) : Int) then
  (parrellaw13_one (IntKind.wrap .u32 (versions.getD t47 default)) (strI [(versions.getD t47 default)])).bind fun yL0_5 =>
  (item_Table_Install s_.2.1 x_k yL0_5).bind fun yL0_7 =>
  (parrellaw13_one (IntKind.wrap .u32 (versions.getD ((IntKind.wrap .i64 ((IntKind.wrap .i64 (((versions).length : Int) - 1)) - (t47 : Int)))).toNat default)) (strI [(IntKind.wrap .u8 (IntKind.wrap .u32 (versions.getD ((IntKind.wrap .i64 ((IntKind.wrap .i64 (((versions).length : Int) - 1)) - (t47 : Int)))).toNat default)))])).bind fun yL0_9 =>
  (item_Table_Install s_.2.2 x_k yL0_9).bind fun yL0_11 =>
  k_ ((if (IntKind.wrap .u32 (versions.getD t47 default)) > s_.1 then (IntKind.wrap .u32 (versions.getD t47 default)) else s_.1), yL0_7.2, yL0_11.2)
  else none

def parrellaw13_ItemLast_e0 (versions : List (Int)) (x_k : A8 (Int))  (s_ : (Int) × (List (A8 (Int) × T_api_Item)) × (List (A8 (Int) × T_api_Item))) : Option ((Bool)) :=
  (item_Table_Get s_.2.1 x_k).bind fun yL0_3 =>
  (item_Table_Get s_.2.2 x_k).bind fun yL0_5 =>
  if ((!yL0_3.2) : Bool) then
    some false
  else
    if ((!(yL0_5.2 == (decide (0 < ((versions).length : Int))))) : Bool) then
      some false
    else
      if ((yL0_3.1.f_Version != s_.1) : Bool) then
        some false
      else
        if ((!yL0_5.2) : Bool) then
          (parrellaw13_alive).bind fun yL0_11 =>
          some yL0_11
        else
          if ((yL0_5.1.f_Version == s_.1) : Bool) then
            if ((s_.1 == 0) : Bool) then
              (parrellaw13_alive).bind fun yL0_13 =>
              some yL0_13
            else
              if ((decide (yL0_3.1 = yL0_5.1)) : Bool) then
                (parrellaw13_alive).bind fun yL0_14 =>
                some yL0_14
              else
                some false
          else
            some false

theorem parrellaw13_ItemLast_w0 (versions : List (Int)) (x_k : A8 (Int))  (top : Int) (m : List (A8 (Int) × T_api_Item)) (m2 : List (A8 (Int) × T_api_Item)) (hN : (versions).length < 9223372036854775807) :
    parrellaw13_ItemLast_l0 versions x_k  big top 0 m m2 = walkN (parrellaw13_ItemLast_b0 versions x_k ) (parrellaw13_ItemLast_e0 versions x_k ) (versions).length 0 (top, m, m2) := by
  refine loopN (versions).length (fun fuel_ t_ s_ => parrellaw13_ItemLast_l0 versions x_k  fuel_ s_.1 t_ s_.2.1 s_.2.2) (parrellaw13_ItemLast_b0 versions x_k ) (parrellaw13_ItemLast_e0 versions x_k ) (by first | exact hN | (have := hN; simp only [List.length_nil] at this ⊢; omega)) ?_ ?_ (top, m, m2)
  · intro fuel_ i_ s_ hi_
    have hg_ : 0 ≤ (i_ : Int) ∧ (i_ : Int) < (((versions).length : Nat) : Int) := by omega
    show parrellaw13_ItemLast_l0 versions x_k  (fuel_ + 1) s_.1 (i_ : Int) s_.2.1 s_.2.2 = _
    rw [parrellaw13_ItemLast_l0, if_pos (decide_eq_true (by omega))]
    repeat rw [if_pos hg_]
    have hinc_ : IntKind.wrap .i64 ((i_ : Int) + 1) = (((i_ + 1 : Nat)) : Int) := by rw [w64 (by omega) (by omega)]; rfl
    try rw [hinc_]
    first | rfl | (unfold parrellaw13_ItemLast_b0; simp only [hinc_]) | (unfold parrellaw13_ItemLast_b0; simp only [hinc_]; rfl)
  · intro fuel_ s_
    show parrellaw13_ItemLast_l0 versions x_k  (fuel_ + 1) s_.1 (((versions).length : Nat) : Int) s_.2.1 s_.2.2 = _
    rw [parrellaw13_ItemLast_l0, if_neg (by rw [decide_eq_true_eq]; omega)]
    rfl

def parrellaw13_ItemFull_b0   (t32 : Nat) (s_ : (List (A8 (Int) × T_api_Item))) (k_ : ((List (A8 (Int) × T_api_Item))) → Option ((Bool))) : Option ((Bool)) :=
  (parrellaw13_one 1 ([])).bind fun yL0_3 =>
  (item_Table_Install s_ (A8.mk 107 (IntKind.wrap .u8 (IntKind.wrap .i64 ((t32 : Int) + 1))) 0 0 0 0 0 0) yL0_3).bind fun yL0_5 =>
  if ((!((yL0_5.1 == 0) == (decide ((t32 : Int) < 64)))) : Bool) then
    some false
  else
    if ((yL0_5.1 != 0) : Bool) then
      if ((yL0_5.1 != 5) : Bool) then
        some false
      else
        k_ yL0_5.2
    else
      k_ yL0_5.2

def parrellaw13_ItemFull_e0 (many : Int) (x_w : T_api_Write)  (s_ : (List (A8 (Int) × T_api_Item))) : Option ((Bool)) :=
  if ((decide (0 < (Int.tmod (IntKind.wrap .i64 many) 80))) : Bool) then
    (parrellaw13_one 2 ([])).bind fun yL0_4 =>
    (item_Table_Install s_ (A8.mk 107 1 0 0 0 0 0 0) yL0_4).bind fun yL0_6 =>
    if ((yL0_6.1 != 0) : Bool) then
      some false
    else
      (item_Table_Len yL0_6.2).bind fun yL0_9 =>
      if ((yL0_9 != (if 64 < (Int.tmod (IntKind.wrap .i64 many) 80) then 64 else (Int.tmod (IntKind.wrap .i64 many) 80))) : Bool) then
        some false
      else
        (item_Table_Get_2 x_w.f_Key).bind fun yL0_12 =>
        (item_Table_Install_2 x_w.f_Key x_w.f_Item).bind fun yL0_14 =>
        if ((!decide (yL0_12 = (T_api_Item.mk 0 [] (T_api_Config.mk 0 0 0 (A8.mk 0 0 0 0 0 0 0 0))))) : Bool) then
          some false
        else
          (item_Table_All_2).bind fun yL0_17 =>
          if ((((yL0_17).length : Int) != 0) : Bool) then
            some false
          else
            (item_Table_Len_2).bind fun yL0_20 =>
            if ((yL0_20 != 0) : Bool) then
              some false
            else
              (item_Table_Merge yL0_6.2).bind fun yL0_23 =>
              (item_Table_Get_3 x_w.f_Key).bind fun yL0_25 =>
              (item_Table_Install_3 x_w.f_Key x_w.f_Item).bind fun yL0_27 =>
              if ((!decide (yL0_25 = (T_api_Item.mk 0 [] (T_api_Config.mk 0 0 0 (A8.mk 0 0 0 0 0 0 0 0))))) : Bool) then
                some false
              else
                (item_Table_All_3).bind fun yL0_30 =>
                if ((((yL0_30).length : Int) != 0) : Bool) then
                  some false
                else
                  (item_Table_Len_3).bind fun yL0_33 =>
                  if ((yL0_33 != 0) : Bool) then
                    some false
                  else
                    (item_Table_Merge_2 yL0_6.2).bind fun yL0_36 =>
                    (parrellaw13_alive).bind fun yL0_38 =>
                    some yL0_38
  else
    (item_Table_Len s_).bind fun yL0_4 =>
    if ((yL0_4 != (if 64 < (Int.tmod (IntKind.wrap .i64 many) 80) then 64 else (Int.tmod (IntKind.wrap .i64 many) 80))) : Bool) then
      some false
    else
      (item_Table_Get_2 x_w.f_Key).bind fun yL0_7 =>
      (item_Table_Install_2 x_w.f_Key x_w.f_Item).bind fun yL0_9 =>
      if ((!decide (yL0_7 = (T_api_Item.mk 0 [] (T_api_Config.mk 0 0 0 (A8.mk 0 0 0 0 0 0 0 0))))) : Bool) then
        some false
      else
        (item_Table_All_2).bind fun yL0_12 =>
        if ((((yL0_12).length : Int) != 0) : Bool) then
          some false
        else
          (item_Table_Len_2).bind fun yL0_15 =>
          if ((yL0_15 != 0) : Bool) then
            some false
          else
            (item_Table_Merge s_).bind fun yL0_18 =>
            (item_Table_Get_3 x_w.f_Key).bind fun yL0_20 =>
            (item_Table_Install_3 x_w.f_Key x_w.f_Item).bind fun yL0_22 =>
            if ((!decide (yL0_20 = (T_api_Item.mk 0 [] (T_api_Config.mk 0 0 0 (A8.mk 0 0 0 0 0 0 0 0))))) : Bool) then
              some false
            else
              (item_Table_All_3).bind fun yL0_25 =>
              if ((((yL0_25).length : Int) != 0) : Bool) then
                some false
              else
                (item_Table_Len_3).bind fun yL0_28 =>
                if ((yL0_28 != 0) : Bool) then
                  some false
                else
                  (item_Table_Merge_2 s_).bind fun yL0_31 =>
                  (parrellaw13_alive).bind fun yL0_33 =>
                  some yL0_33

theorem parrellaw13_ItemFull_w0 (many : Int) (x_w : T_api_Write)  (m : List (A8 (Int) × T_api_Item)) (hN : ((Int.tmod (IntKind.wrap .i64 many) 80)).toNat < 9223372036854775807) :
    parrellaw13_ItemFull_l0 many x_w  big 0 m = walkN (parrellaw13_ItemFull_b0  ) (parrellaw13_ItemFull_e0 many x_w ) ((Int.tmod (IntKind.wrap .i64 many) 80)).toNat 0 m := by
  refine loopN ((Int.tmod (IntKind.wrap .i64 many) 80)).toNat (fun fuel_ t_ s_ => parrellaw13_ItemFull_l0 many x_w  fuel_ t_ s_) (parrellaw13_ItemFull_b0  ) (parrellaw13_ItemFull_e0 many x_w ) (by first | exact hN | (have := hN; simp only [List.length_nil] at this ⊢; omega)) ?_ ?_ m
  · intro fuel_ i_ s_ hi_
    have hg_ : 0 ≤ (i_ : Int) ∧ (i_ : Int) < (Int.tmod (IntKind.wrap .i64 many) 80) := by omega
    show parrellaw13_ItemFull_l0 many x_w  (fuel_ + 1) (i_ : Int) s_ = _
    rw [parrellaw13_ItemFull_l0, if_pos (decide_eq_true (by omega))]
    have hinc_ : IntKind.wrap .i64 ((i_ : Int) + 1) = (((i_ + 1 : Nat)) : Int) := by rw [w64 (by omega) (by omega)]; rfl
    try rw [hinc_]
    first | rfl | (unfold parrellaw13_ItemFull_b0; simp only [hinc_]) | (unfold parrellaw13_ItemFull_b0; simp only [hinc_]; rfl)
  · intro fuel_ s_
    show parrellaw13_ItemFull_l0 many x_w  (fuel_ + 1) ((((Int.tmod (IntKind.wrap .i64 many) 80)).toNat : Nat) : Int) s_ = _
    rw [parrellaw13_ItemFull_l0, if_neg (by rw [decide_eq_true_eq]; omega)]
    rfl

def item_Newest_b0   (a_ : T_api_Item) (s_ : (Int) × (List UInt8) × (T_api_Config)) (k_ : ((Int) × (List UInt8) × (T_api_Config)) → Option ((T_api_Item) × (Bool))) : Option ((T_api_Item) × (Bool)) :=
  if ((decide (s_.1 < a_.f_Version)) : Bool) then
    k_ (a_.f_Version, a_.f_Value, a_.f_Conf)
  else
    k_ (s_.1, s_.2.1, s_.2.2)

def item_Newest_e0   (s_ : (Int) × (List UInt8) × (T_api_Config)) : Option ((T_api_Item) × (Bool)) :=
  some ((T_api_Item.mk s_.1 s_.2.1 s_.2.2), true)

theorem item_Newest_w0 (l : List (T_api_Item))  (Version : Int) (Value : List UInt8) (Epoch : T_api_Config) (hN : ((l.drop 1)).length < 9223372036854775807) :
    item_Newest_l0 l  big 0 Version Value Epoch = walkL (item_Newest_b0  ) (item_Newest_e0  ) (l.drop 1) (Version, Value, Epoch) := by
  refine loopL (l.drop 1) (fun fuel_ t_ s_ => item_Newest_l0 l  fuel_ t_ s_.1 s_.2.1 s_.2.2) (item_Newest_b0  ) (item_Newest_e0  ) (by first | exact hN | (have := hN; simp only [List.length_nil] at this ⊢; omega)) ?_ ?_ (Version, Value, Epoch)
  · intro fuel_ i_ s_ hi_
    have hg_ : 0 ≤ (i_ : Int) ∧ (i_ : Int) < ((((l.drop 1)).length : Nat) : Int) := by omega
    show item_Newest_l0 l  (fuel_ + 1) (i_ : Int) s_.1 s_.2.1 s_.2.2 = _
    rw [item_Newest_l0, if_pos (decide_eq_true (by omega))]
    repeat rw [if_pos hg_]
    have hinc_ : IntKind.wrap .i64 ((i_ : Int) + 1) = (((i_ + 1 : Nat)) : Int) := by rw [w64 (by omega) (by omega)]; rfl
    try rw [hinc_]
    first | rfl | (unfold item_Newest_b0; simp only [hinc_]) | (unfold item_Newest_b0; simp only [hinc_]; rfl)
  · intro fuel_ s_
    show item_Newest_l0 l  (fuel_ + 1) ((((l.drop 1)).length : Nat) : Int) s_.1 s_.2.1 s_.2.2 = _
    rw [item_Newest_l0, if_neg (by rw [decide_eq_true_eq]; omega)]
    rfl

def parrelref13_Newest_b0   (a_ : T_api_Item) (s_ : (Int) × (List UInt8) × (T_api_Config)) (k_ : ((Int) × (List UInt8) × (T_api_Config)) → Option ((T_api_Item) × (Bool))) : Option ((T_api_Item) × (Bool)) :=
  if ((decide (s_.1 < a_.f_Version)) : Bool) then
    k_ (a_.f_Version, a_.f_Value, a_.f_Conf)
  else
    k_ (s_.1, s_.2.1, s_.2.2)

def parrelref13_Newest_e0   (s_ : (Int) × (List UInt8) × (T_api_Config)) : Option ((T_api_Item) × (Bool)) :=
  some ((T_api_Item.mk s_.1 s_.2.1 s_.2.2), true)

theorem parrelref13_Newest_w0 (l : List (T_api_Item))  (Version : Int) (Value : List UInt8) (Epoch : T_api_Config) (hN : (l).length < 9223372036854775807) :
    parrelref13_Newest_l0 l  big 0 Version Value Epoch = walkL (parrelref13_Newest_b0  ) (parrelref13_Newest_e0  ) l (Version, Value, Epoch) := by
  refine loopL l (fun fuel_ t_ s_ => parrelref13_Newest_l0 l  fuel_ t_ s_.1 s_.2.1 s_.2.2) (parrelref13_Newest_b0  ) (parrelref13_Newest_e0  ) (by first | exact hN | (have := hN; simp only [List.length_nil] at this ⊢; omega)) ?_ ?_ (Version, Value, Epoch)
  · intro fuel_ i_ s_ hi_
    have hg_ : 0 ≤ (i_ : Int) ∧ (i_ : Int) < (((l).length : Nat) : Int) := by omega
    show parrelref13_Newest_l0 l  (fuel_ + 1) (i_ : Int) s_.1 s_.2.1 s_.2.2 = _
    rw [parrelref13_Newest_l0, if_pos (decide_eq_true (by omega))]
    repeat rw [if_pos hg_]
    have hinc_ : IntKind.wrap .i64 ((i_ : Int) + 1) = (((i_ + 1 : Nat)) : Int) := by rw [w64 (by omega) (by omega)]; rfl
    try rw [hinc_]
    first | rfl | (unfold parrelref13_Newest_b0; simp only [hinc_]) | (unfold parrelref13_Newest_b0; simp only [hinc_]; rfl)
  · intro fuel_ s_
    show parrelref13_Newest_l0 l  (fuel_ + 1) (((l).length : Nat) : Int) s_.1 s_.2.1 s_.2.2 = _
    rw [parrelref13_Newest_l0, if_neg (by rw [decide_eq_true_eq]; omega)]
    rfl

def item_Table_Merge_3_b0 (y4 : (List (T_api_Write)))  (t14 : Nat) (s_ : (List (A8 (Int) × T_api_Item))) (k_ : ((List (A8 (Int) × T_api_Item))) → Option ((Int) × (List (A8 (Int) × T_api_Item)))) : Option ((Int) × (List (A8 (Int) × T_api_Item))) :=
  (item_Table_Install s_ (y4.getD t14 default).f_Key (y4.getD t14 default).f_Item).bind fun yL0_4 =>
  if ((yL0_4.1 != 0) : Bool) then
    if ((yL0_4.1 != 13) : Bool) then
      some (yL0_4.1, yL0_4.2)
    else
      k_ yL0_4.2
  else
    k_ yL0_4.2

def item_Table_Merge_3_e0   (s_ : (List (A8 (Int) × T_api_Item))) : Option ((Int) × (List (A8 (Int) × T_api_Item))) :=
  some (0, s_)

theorem item_Table_Merge_3_w0 (m : List (A8 (Int) × T_api_Item)) (m2 : List (A8 (Int) × T_api_Item)) (y4 : (List (T_api_Write)))  (m3 : List (A8 (Int) × T_api_Item)) (hN : (y4).length < 9223372036854775807) :
    item_Table_Merge_3_l0 m m2 y4  big 0 m3 = walkN (item_Table_Merge_3_b0 y4 ) (item_Table_Merge_3_e0  ) (y4).length 0 m3 := by
  refine loopN (y4).length (fun fuel_ t_ s_ => item_Table_Merge_3_l0 m m2 y4  fuel_ t_ s_) (item_Table_Merge_3_b0 y4 ) (item_Table_Merge_3_e0  ) (by first | exact hN | (have := hN; simp only [List.length_nil] at this ⊢; omega)) ?_ ?_ m3
  · intro fuel_ i_ s_ hi_
    have hg_ : 0 ≤ (i_ : Int) ∧ (i_ : Int) < (((y4).length : Nat) : Int) := by omega
    show item_Table_Merge_3_l0 m m2 y4  (fuel_ + 1) (i_ : Int) s_ = _
    rw [item_Table_Merge_3_l0, if_pos (decide_eq_true (by omega))]
    repeat rw [if_pos hg_]
    have hinc_ : IntKind.wrap .i64 ((i_ : Int) + 1) = (((i_ + 1 : Nat)) : Int) := by rw [w64 (by omega) (by omega)]; rfl
    try rw [hinc_]
    first | rfl | (unfold item_Table_Merge_3_b0; simp only [hinc_]) | (unfold item_Table_Merge_3_b0; simp only [hinc_]; rfl)
  · intro fuel_ s_
    show item_Table_Merge_3_l0 m m2 y4  (fuel_ + 1) (((y4).length : Nat) : Int) s_ = _
    rw [item_Table_Merge_3_l0, if_neg (by rw [decide_eq_true_eq]; omega)]
    rfl

def parrelref13_Table_Merge_b0   (a_ : T_api_Write) (s_ : (List (T_api_Write))) (k_ : ((List (T_api_Write))) → Option ((Int) × (List (T_api_Write)))) : Option ((Int) × (List (T_api_Write))) :=
  (parrelref13_Table_Install (T_parrelref13_Table.mk s_) a_.f_Key a_.f_Item).bind fun yL0_4 =>
  if ((yL0_4.1 != 0) : Bool) then
    if ((yL0_4.1 != 13) : Bool) then
      some (yL0_4.1, yL0_4.2)
    else
      k_ yL0_4.2
  else
    k_ yL0_4.2

def parrelref13_Table_Merge_e0   (s_ : (List (T_api_Write))) : Option ((Int) × (List (T_api_Write))) :=
  some (0, s_)

theorem parrelref13_Table_Merge_w0 (t : T_parrelref13_Table) (o : T_parrelref13_Table)  (L : List (T_api_Write)) (hN : (o.f_L).length < 9223372036854775807) :
    parrelref13_Table_Merge_l0 t o  big 0 L = walkL (parrelref13_Table_Merge_b0  ) (parrelref13_Table_Merge_e0  ) o.f_L L := by
  refine loopL o.f_L (fun fuel_ t_ s_ => parrelref13_Table_Merge_l0 t o  fuel_ t_ s_) (parrelref13_Table_Merge_b0  ) (parrelref13_Table_Merge_e0  ) (by first | exact hN | (have := hN; simp only [List.length_nil] at this ⊢; omega)) ?_ ?_ L
  · intro fuel_ i_ s_ hi_
    have hg_ : 0 ≤ (i_ : Int) ∧ (i_ : Int) < (((o.f_L).length : Nat) : Int) := by omega
    show parrelref13_Table_Merge_l0 t o  (fuel_ + 1) (i_ : Int) s_ = _
    rw [parrelref13_Table_Merge_l0, if_pos (decide_eq_true (by omega))]
    repeat rw [if_pos hg_]
    have hinc_ : IntKind.wrap .i64 ((i_ : Int) + 1) = (((i_ + 1 : Nat)) : Int) := by rw [w64 (by omega) (by omega)]; rfl
    try rw [hinc_]
    first | rfl | (unfold parrelref13_Table_Merge_b0; simp only [hinc_]) | (unfold parrelref13_Table_Merge_b0; simp only [hinc_]; rfl)
  · intro fuel_ s_
    show parrelref13_Table_Merge_l0 t o  (fuel_ + 1) (((o.f_L).length : Nat) : Int) s_ = _
    rw [parrelref13_Table_Merge_l0, if_neg (by rw [decide_eq_true_eq]; omega)]
    rfl

def item_Table_Merge_4_b0 (y4 : (List (T_api_Write)))  (t14 : Nat) (s_ : (List (A8 (Int) × T_api_Item))) (k_ : ((List (A8 (Int) × T_api_Item))) → Option ((Int) × (List (A8 (Int) × T_api_Item)))) : Option ((Int) × (List (A8 (Int) × T_api_Item))) :=
  (item_Table_Install s_ (y4.getD t14 default).f_Key (y4.getD t14 default).f_Item).bind fun yL0_4 =>
  if ((yL0_4.1 != 0) : Bool) then
    if ((yL0_4.1 != 13) : Bool) then
      some (yL0_4.1, yL0_4.2)
    else
      k_ yL0_4.2
  else
    k_ yL0_4.2

def item_Table_Merge_4_e0   (s_ : (List (A8 (Int) × T_api_Item))) : Option ((Int) × (List (A8 (Int) × T_api_Item))) :=
  some (0, s_)

theorem item_Table_Merge_4_w0 (m : List (A8 (Int) × T_api_Item)) (y4 : (List (T_api_Write)))  (m2 : List (A8 (Int) × T_api_Item)) (hN : (y4).length < 9223372036854775807) :
    item_Table_Merge_4_l0 m y4  big 0 m2 = walkN (item_Table_Merge_4_b0 y4 ) (item_Table_Merge_4_e0  ) (y4).length 0 m2 := by
  refine loopN (y4).length (fun fuel_ t_ s_ => item_Table_Merge_4_l0 m y4  fuel_ t_ s_) (item_Table_Merge_4_b0 y4 ) (item_Table_Merge_4_e0  ) (by first | exact hN | (have := hN; simp only [List.length_nil] at this ⊢; omega)) ?_ ?_ m2
  · intro fuel_ i_ s_ hi_
    have hg_ : 0 ≤ (i_ : Int) ∧ (i_ : Int) < (((y4).length : Nat) : Int) := by omega
    show item_Table_Merge_4_l0 m y4  (fuel_ + 1) (i_ : Int) s_ = _
    rw [item_Table_Merge_4_l0, if_pos (decide_eq_true (by omega))]
    repeat rw [if_pos hg_]
    have hinc_ : IntKind.wrap .i64 ((i_ : Int) + 1) = (((i_ + 1 : Nat)) : Int) := by rw [w64 (by omega) (by omega)]; rfl
    try rw [hinc_]
    first | rfl | (unfold item_Table_Merge_4_b0; simp only [hinc_]) | (unfold item_Table_Merge_4_b0; simp only [hinc_]; rfl)
  · intro fuel_ s_
    show item_Table_Merge_4_l0 m y4  (fuel_ + 1) (((y4).length : Nat) : Int) s_ = _
    rw [item_Table_Merge_4_l0, if_neg (by rw [decide_eq_true_eq]; omega)]
    rfl

def parrellaw13_ItemMerges_b1 (yL0_3 : (List (T_api_Write)))  (t66 : Nat) (s_ : (List (T_api_Write)) × (List (A8 (Int) × T_api_Item))) (k_ : ((List (T_api_Write)) × (List (A8 (Int) × T_api_Item))) → Option ((Bool))) : Option ((Bool)) :=
  (item_Table_Install s_.2 (yL0_3.getD t66 default).f_Key (yL0_3.getD t66 default).f_Item).bind fun yL1_4 =>
  (parrelref13_Table_Install (T_parrelref13_Table.mk s_.1) (yL0_3.getD t66 default).f_Key (yL0_3.getD t66 default).f_Item).bind fun yL1_6 =>
  k_ (yL1_6.2, yL1_4.2)

def parrellaw13_ItemMerges_e1 (L : List (T_api_Write)) (l : List (T_api_Item)) (m : List (A8 (Int) × T_api_Item))  (s_ : (List (T_api_Write)) × (List (A8 (Int) × T_api_Item))) : Option ((Bool)) :=
  (item_Newest l).bind fun yL1_3 =>
  (parrelref13_Newest l).bind fun yL1_5 =>
  if ((!decide (yL1_3.1 = yL1_5.1)) : Bool) then
    some false
  else
    if ((!(yL1_3.2 == yL1_5.2)) : Bool) then
      some false
    else
      (item_Table_Merge_3 m s_.2).bind fun yL1_9 =>
      (parrelref13_Table_Merge (T_parrelref13_Table.mk L) (T_parrelref13_Table.mk s_.1)).bind fun yL1_11 =>
      if ((yL1_9.1 != yL1_11.1) : Bool) then
        some false
      else
        (item_Table_All yL1_9.2).bind fun yL1_14 =>
        (parrelref10_SameWrites yL1_14 yL1_11.2).bind fun yL1_16 =>
        if ((!yL1_16) : Bool) then
          some false
        else
          (item_Table_All s_.2).bind fun yL1_19 =>
          (parrelref10_SameWrites yL1_19 (T_parrelref13_Table.mk s_.1).f_L).bind fun yL1_21 =>
          if ((!yL1_21) : Bool) then
            some false
          else
            (item_Table_Merge_4 yL1_9.2).bind fun yL1_24 =>
            if ((yL1_24.1 == 0) : Bool) then
              (item_Table_All yL1_24.2).bind fun yL1_27 =>
              (parrelref10_SameWrites yL1_27 yL1_11.2).bind fun yL1_29 =>
              if (yL1_29 : Bool) then
                (parrellaw13_alive).bind fun yL1_32 =>
                some yL1_32
              else
                some false
            else
              some false

theorem parrellaw13_ItemMerges_w1 (L : List (T_api_Write)) (l : List (T_api_Item)) (m : List (A8 (Int) × T_api_Item)) (yL0_3 : (List (T_api_Write)))  (L3 : List (T_api_Write)) (m2 : List (A8 (Int) × T_api_Item)) (hN : (yL0_3).length < 9223372036854775807) :
    parrellaw13_ItemMerges_l1 L l m yL0_3  big 0 L3 m2 = walkN (parrellaw13_ItemMerges_b1 yL0_3 ) (parrellaw13_ItemMerges_e1 L l m ) (yL0_3).length 0 (L3, m2) := by
  refine loopN (yL0_3).length (fun fuel_ t_ s_ => parrellaw13_ItemMerges_l1 L l m yL0_3  fuel_ t_ s_.1 s_.2) (parrellaw13_ItemMerges_b1 yL0_3 ) (parrellaw13_ItemMerges_e1 L l m ) (by first | exact hN | (have := hN; simp only [List.length_nil] at this ⊢; omega)) ?_ ?_ (L3, m2)
  · intro fuel_ i_ s_ hi_
    have hg_ : 0 ≤ (i_ : Int) ∧ (i_ : Int) < (((yL0_3).length : Nat) : Int) := by omega
    show parrellaw13_ItemMerges_l1 L l m yL0_3  (fuel_ + 1) (i_ : Int) s_.1 s_.2 = _
    rw [parrellaw13_ItemMerges_l1, if_pos (decide_eq_true (by omega))]
    repeat rw [if_pos hg_]
    have hinc_ : IntKind.wrap .i64 ((i_ : Int) + 1) = (((i_ + 1 : Nat)) : Int) := by rw [w64 (by omega) (by omega)]; rfl
    try rw [hinc_]
    first | rfl | (unfold parrellaw13_ItemMerges_b1; simp only [hinc_]) | (unfold parrellaw13_ItemMerges_b1; simp only [hinc_]; rfl)
  · intro fuel_ s_
    show parrellaw13_ItemMerges_l1 L l m yL0_3  (fuel_ + 1) (((yL0_3).length : Nat) : Int) s_.1 s_.2 = _
    rw [parrellaw13_ItemMerges_l1, if_neg (by rw [decide_eq_true_eq]; omega)]
    rfl

def parrellaw13_ItemMerges_b0 (y12 : (List (T_api_Write)))  (t42 : Nat) (s_ : (List (T_api_Write)) × (List (T_api_Write)) × (List (T_api_Item)) × (List (A8 (Int) × T_api_Item))) (k_ : ((List (T_api_Write)) × (List (T_api_Write)) × (List (T_api_Item)) × (List (A8 (Int) × T_api_Item))) → Option ((Bool))) : Option ((Bool)) :=
  (item_Table_Install s_.2.2.2 (y12.getD t42 default).f_Key (y12.getD t42 default).f_Item).bind fun yL0_4 =>
  (parrelref13_Table_Install (T_parrelref13_Table.mk s_.1) (y12.getD t42 default).f_Key (y12.getD t42 default).f_Item).bind fun yL0_6 =>
  if ((s_.2.2.1).length + ([(y12.getD t42 default).f_Item]).length) * 40 ≤ 140737488351232 then
  k_ (yL0_6.2, s_.2.1, (s_.2.2.1 ++ [(y12.getD t42 default).f_Item]), yL0_4.2)
  else none

def parrellaw13_ItemMerges_e0 (b : List (T_api_Write)) (y4 : (List (A8 (Int) × T_api_Item)))  (s_ : (List (T_api_Write)) × (List (T_api_Write)) × (List (T_api_Item)) × (List (A8 (Int) × T_api_Item))) : Option ((Bool)) :=
  (parrellaw13_short b).bind fun yL0_3 =>
  parrellaw13_ItemMerges_l1 s_.1 s_.2.2.1 s_.2.2.2 yL0_3  big 0 s_.2.1 y4

theorem parrellaw13_ItemMerges_w0 (b : List (T_api_Write)) (y4 : (List (A8 (Int) × T_api_Item))) (y12 : (List (T_api_Write)))  (L : List (T_api_Write)) (L2 : List (T_api_Write)) (l : List (T_api_Item)) (m : List (A8 (Int) × T_api_Item)) (hN : (y12).length < 9223372036854775807) :
    parrellaw13_ItemMerges_l0 b y4 y12  big 0 L L2 l m = walkN (parrellaw13_ItemMerges_b0 y12 ) (parrellaw13_ItemMerges_e0 b y4 ) (y12).length 0 (L, L2, l, m) := by
  refine loopN (y12).length (fun fuel_ t_ s_ => parrellaw13_ItemMerges_l0 b y4 y12  fuel_ t_ s_.1 s_.2.1 s_.2.2.1 s_.2.2.2) (parrellaw13_ItemMerges_b0 y12 ) (parrellaw13_ItemMerges_e0 b y4 ) (by first | exact hN | (have := hN; simp only [List.length_nil] at this ⊢; omega)) ?_ ?_ (L, L2, l, m)
  · intro fuel_ i_ s_ hi_
    have hg_ : 0 ≤ (i_ : Int) ∧ (i_ : Int) < (((y12).length : Nat) : Int) := by omega
    show parrellaw13_ItemMerges_l0 b y4 y12  (fuel_ + 1) (i_ : Int) s_.1 s_.2.1 s_.2.2.1 s_.2.2.2 = _
    rw [parrellaw13_ItemMerges_l0, if_pos (decide_eq_true (by omega))]
    repeat rw [if_pos hg_]
    have hinc_ : IntKind.wrap .i64 ((i_ : Int) + 1) = (((i_ + 1 : Nat)) : Int) := by rw [w64 (by omega) (by omega)]; rfl
    try rw [hinc_]
    first | rfl | (unfold parrellaw13_ItemMerges_b0; simp only [hinc_]) | (unfold parrellaw13_ItemMerges_b0; simp only [hinc_]; rfl)
  · intro fuel_ s_
    show parrellaw13_ItemMerges_l0 b y4 y12  (fuel_ + 1) (((y12).length : Nat) : Int) s_.1 s_.2.1 s_.2.2.1 s_.2.2.2 = _
    rw [parrellaw13_ItemMerges_l0, if_neg (by rw [decide_eq_true_eq]; omega)]
    rfl

end
end Go.Proofs.YtdmdjklgdaiimaaDoor.Wk
