/- Printed by tr.py: counting loops as walks over lists and over numbers. -/
import Derived.Test.YtgbhbcigjgcedaaDoorConfW
import Derived.Test.YtgbhbcigjgcedaaDoorCnX
namespace Go.Proofs.YtgbhbcigjgcedaaDoor.Wk
open Go Go.Cn
set_option maxRecDepth 100000
set_option maxHeartbeats 4000000
set_option linter.unusedVariables false
set_option linter.unusedSimpArgs false
noncomputable section
def parrellaw21_far_b0   (a_ : T_api_Write) (s_ : (Int)) (k_ : ((Int)) → Option ((Bool))) : Option ((Bool)) :=
  k_ (IntKind.wrap .i64 (s_ + (if 10000 < ((a_.f_Item.f_Value).length : Int) then 10000 else ((a_.f_Item.f_Value).length : Int))))

def parrellaw21_far_e0 (l : List (T_api_Write))  (s_ : (Int)) : Option ((Bool)) :=
  if ((decide (20000 < s_)) : Bool) then
    some true
  else
    some (decide (100 < ((l).length : Int)))

theorem parrellaw21_far_w0 (l : List (T_api_Write))  (x_n : Int) (hN : ((l.take ((if 100 < ((l).length : Int) then 100 else ((l).length : Int))).toNat)).length < 9223372036854775807) :
    parrellaw21_far_l0 l  big x_n 0 = walkL (parrellaw21_far_b0  ) (parrellaw21_far_e0 l ) (l.take ((if 100 < ((l).length : Int) then 100 else ((l).length : Int))).toNat) x_n := by
  refine loopL (l.take ((if 100 < ((l).length : Int) then 100 else ((l).length : Int))).toNat) (fun fuel_ t_ s_ => parrellaw21_far_l0 l  fuel_ s_ t_) (parrellaw21_far_b0  ) (parrellaw21_far_e0 l ) (by first | exact hN | (have := hN; simp only [List.length_nil] at this ⊢; omega)) ?_ ?_ x_n
  · intro fuel_ i_ s_ hi_
    have hg_ : 0 ≤ (i_ : Int) ∧ (i_ : Int) < ((((l.take ((if 100 < ((l).length : Int) then 100 else ((l).length : Int))).toNat)).length : Nat) : Int) := by omega
    show parrellaw21_far_l0 l  (fuel_ + 1) s_ (i_ : Int) = _
    rw [parrellaw21_far_l0, if_pos (decide_eq_true (by omega))]
    repeat rw [if_pos hg_]
    have hinc_ : IntKind.wrap .i64 ((i_ : Int) + 1) = (((i_ + 1 : Nat)) : Int) := by rw [w64 (by omega) (by omega)]; rfl
    try rw [hinc_]
    first | rfl | (unfold parrellaw21_far_b0; simp only [hinc_]; done) | (unfold parrellaw21_far_b0; simp only [hinc_]; rfl)
  · intro fuel_ s_
    show parrellaw21_far_l0 l  (fuel_ + 1) s_ ((((l.take ((if 100 < ((l).length : Int) then 100 else ((l).length : Int))).toNat)).length : Nat) : Int) = _
    rw [parrellaw21_far_l0, if_neg (by rw [decide_eq_true_eq]; omega)]
    rfl

def votes_Of_b0 (c : T_api_Config) (set : Int)  (t10 : Nat) (s_ : (Int)) (k_ : ((Int)) → Option ((Int))) : Option ((Int)) :=
  if 0 ≤ (t10 : Int) then
  k_ (IntKind.wrap .i64 (s_ + (IntKind.wrap .i64 ((IntKind.wrap .i64 (A8.get c.f_Votes t10)) * (IntKind.wrap .i64 (IntKind.wrap .u64 ((BitVec.ofInt (IntKind.bits .u64) (Int.fdiv set (2 ^ (min (Int.toNat (t10 : Int)) (IntKind.bits .u64)))) &&& BitVec.ofInt (IntKind.bits .u64) 1).toNat : Int)))))))
  else none

def votes_Of_e0   (s_ : (Int)) : Option ((Int)) :=
  some s_

theorem votes_Of_w0 (c : T_api_Config) (set : Int)  (x_n : Int) (hN : 8 < 9223372036854775807) :
    votes_Of_l0 c set  big x_n 0 = walkN (votes_Of_b0 c set ) (votes_Of_e0  ) 8 0 x_n := by
  refine loopN 8 (fun fuel_ t_ s_ => votes_Of_l0 c set  fuel_ s_ t_) (votes_Of_b0 c set ) (votes_Of_e0  ) (by first | exact hN | (have := hN; simp only [List.length_nil] at this ⊢; omega)) ?_ ?_ x_n
  · intro fuel_ i_ s_ hi_
    have hg_ : 0 ≤ (i_ : Int) ∧ (i_ : Int) < 8 := by omega
    show votes_Of_l0 c set  (fuel_ + 1) s_ (i_ : Int) = _
    rw [votes_Of_l0, if_pos (decide_eq_true (by omega))]
    repeat rw [if_pos hg_]
    have hinc_ : IntKind.wrap .i64 ((i_ : Int) + 1) = (((i_ + 1 : Nat)) : Int) := by rw [w64 (by omega) (by omega)]; rfl
    try rw [hinc_]
    first | rfl | (unfold votes_Of_b0; simp only [hinc_]; done) | (unfold votes_Of_b0; simp only [hinc_]; rfl)
  · intro fuel_ s_
    show votes_Of_l0 c set  (fuel_ + 1) s_ ((8 : Nat) : Int) = _
    rw [votes_Of_l0, if_neg (by rw [decide_eq_true_eq]; omega)]
    rfl

def slices_Max_uint8_uint8_b0 (x : T_api_Config)  (i : Nat) (s_ : (Int)) (k_ : ((Int)) → Option ((Int))) : Option ((Int)) :=
  k_ (if (A8.get x.f_Votes i) > s_ then (A8.get x.f_Votes i) else s_)

def slices_Max_uint8_uint8_e0   (s_ : (Int)) : Option ((Int)) :=
  some s_

theorem slices_Max_uint8_uint8_ws0 (x : T_api_Config)  (m : Int) (st_ : Nat) (hst_ : st_ ≤ 8) (hN : 8 < 9223372036854775807) :
    slices_Max_uint8_uint8_l0 x  big m (st_ : Int) = walkN (slices_Max_uint8_uint8_b0 x ) (slices_Max_uint8_uint8_e0  ) (8 - st_) st_ m := by
  refine loopNs 8 st_ hst_ (fun fuel_ t_ s_ => slices_Max_uint8_uint8_l0 x  fuel_ s_ t_) (slices_Max_uint8_uint8_b0 x ) (slices_Max_uint8_uint8_e0  ) (by first | exact hN | (have := hN; simp only [List.length_nil] at this ⊢; omega)) ?_ ?_ m
  · intro fuel_ i_ s_ hi_
    have hg_ : 0 ≤ (i_ : Int) ∧ (i_ : Int) < 8 := by omega
    show slices_Max_uint8_uint8_l0 x  (fuel_ + 1) s_ (i_ : Int) = _
    rw [slices_Max_uint8_uint8_l0, if_pos (decide_eq_true (by omega))]
    repeat rw [if_pos hg_]
    have hinc_ : IntKind.wrap .i64 ((i_ : Int) + 1) = (((i_ + 1 : Nat)) : Int) := by rw [w64 (by omega) (by omega)]; rfl
    try rw [hinc_]
    first | rfl | (unfold slices_Max_uint8_uint8_b0; simp only [hinc_]; done) | (unfold slices_Max_uint8_uint8_b0; simp only [hinc_]; rfl)
  · intro fuel_ s_
    show slices_Max_uint8_uint8_l0 x  (fuel_ + 1) s_ ((8 : Nat) : Int) = _
    rw [slices_Max_uint8_uint8_l0, if_neg (by rw [decide_eq_true_eq]; omega)]
    rfl

def conf_New_b0   (a_ : T_api_Write) (s_ : (List (A8 (Int) × T_api_Config))) (k_ : ((List (A8 (Int) × T_api_Config))) → Option (Bool × (Unit) × ((List (A8 (Int) × T_api_Config))))) : Option (Bool × (Unit) × ((List (A8 (Int) × T_api_Config)))) :=
  (ids_Name a_.f_Key).bind fun yL0_4 =>
  if ((!yL0_4.2) : Bool) then
    some (true, (), default)
  else
    if (((mget s_ a_.f_Key).isSome) : Bool) then
      some (true, (), default)
    else
      (msg_ItemMay a_.f_Item).bind fun yL0_8 =>
      if ((!yL0_8) : Bool) then
        some (true, (), default)
      else
        k_ (mset s_ a_.f_Key a_.f_Item.f_Conf)

def conf_New_e0   (s_ : (List (A8 (Int) × T_api_Config))) : Option (Bool × (Unit) × ((List (A8 (Int) × T_api_Config)))) :=
  some (false, default, s_)

theorem conf_New_w0 (first : List (T_api_Write))  (m : List (A8 (Int) × T_api_Config)) (hN : (first).length < 9223372036854775807) :
    conf_New_l0 first  big 0 m = walkL (conf_New_b0  ) (conf_New_e0  ) first m := by
  refine loopL first (fun fuel_ t_ s_ => conf_New_l0 first  fuel_ t_ s_) (conf_New_b0  ) (conf_New_e0  ) (by first | exact hN | (have := hN; simp only [List.length_nil] at this ⊢; omega)) ?_ ?_ m
  · intro fuel_ i_ s_ hi_
    have hg_ : 0 ≤ (i_ : Int) ∧ (i_ : Int) < (((first).length : Nat) : Int) := by omega
    show conf_New_l0 first  (fuel_ + 1) (i_ : Int) s_ = _
    rw [conf_New_l0, if_pos (decide_eq_true (by omega))]
    repeat rw [if_pos hg_]
    have hinc_ : IntKind.wrap .i64 ((i_ : Int) + 1) = (((i_ + 1 : Nat)) : Int) := by rw [w64 (by omega) (by omega)]; rfl
    try rw [hinc_]
    first | rfl | (unfold conf_New_b0; simp only [hinc_]; done) | (unfold conf_New_b0; simp only [hinc_]; rfl)
  · intro fuel_ s_
    show conf_New_l0 first  (fuel_ + 1) (((first).length : Nat) : Int) s_ = _
    rw [conf_New_l0, if_neg (by rw [decide_eq_true_eq]; omega)]
    rfl

def slices_Compare_byte_byte_b0 (s1 : A8 (Int)) (s2 : A8 (Int))  (t11 : Nat) (s_ : Unit) (k_ : (Unit) → Option ((Int))) : Option ((Int)) :=
  if ((decide (8 ≤ (t11 : Int))) : Bool) then
    some 1
  else
    (cmp_Compare_byte (A8.get s1 t11) (A8.get s2 t11)).bind fun yL0_5 =>
    if ((yL0_5 != 0) : Bool) then
      some yL0_5
    else
      k_ ()

def slices_Compare_byte_byte_e0   (s_ : Unit) : Option ((Int)) :=
  some 0

theorem slices_Compare_byte_byte_w0 (s1 : A8 (Int)) (s2 : A8 (Int))   (hN : 8 < 9223372036854775807) :
    slices_Compare_byte_byte_l0 s1 s2  big 0 = walkN (slices_Compare_byte_byte_b0 s1 s2 ) (slices_Compare_byte_byte_e0  ) 8 0 () := by
  refine loopN 8 (fun fuel_ t_ s_ => slices_Compare_byte_byte_l0 s1 s2  fuel_ t_) (slices_Compare_byte_byte_b0 s1 s2 ) (slices_Compare_byte_byte_e0  ) (by first | exact hN | (have := hN; simp only [List.length_nil] at this ⊢; omega)) ?_ ?_ ()
  · intro fuel_ i_ s_ hi_
    have hg_ : 0 ≤ (i_ : Int) ∧ (i_ : Int) < 8 := by omega
    show slices_Compare_byte_byte_l0 s1 s2  (fuel_ + 1) (i_ : Int) = _
    rw [slices_Compare_byte_byte_l0, if_pos (decide_eq_true (by omega))]
    repeat rw [if_pos hg_]
    have hinc_ : IntKind.wrap .i64 ((i_ : Int) + 1) = (((i_ + 1 : Nat)) : Int) := by rw [w64 (by omega) (by omega)]; rfl
    try rw [hinc_]
    first | rfl | (unfold slices_Compare_byte_byte_b0; simp only [hinc_]; done) | (unfold slices_Compare_byte_byte_b0; simp only [hinc_]; rfl)
  · intro fuel_ s_
    show slices_Compare_byte_byte_l0 s1 s2  (fuel_ + 1) ((8 : Nat) : Int) = _
    rw [slices_Compare_byte_byte_l0, if_neg (by rw [decide_eq_true_eq]; omega)]
    rfl

def parrelref05_Name_b1 (x_k : A8 (Int))  (i : Nat) (s_ : Unit) (k_ : (Unit) → Option ((List UInt8) × (Bool))) : Option ((List UInt8) × (Bool)) :=
  if (((A8.get x_k i) != 0) : Bool) then
    some ([], false)
  else
    k_ ()

def parrelref05_Name_e1 (x_k : A8 (Int)) (x_n : Int)  (s_ : Unit) : Option ((List UInt8) × (Bool)) :=
  if ((x_n == 0) : Bool) then
    some ([], false)
  else
    if 0 ≤ (0 : Int) ∧ 0 ≤ x_n ∧ x_n ≤ 8 then
    some ((strI (([x_k.a0, x_k.a1, x_k.a2, x_k.a3, x_k.a4, x_k.a5, x_k.a6, x_k.a7] : List Int).take (x_n.toNat))), true)
    else none

theorem parrelref05_Name_ws1 (x_k : A8 (Int)) (x_n : Int)   (st_ : Nat) (hst_ : st_ ≤ 8) (hN : 8 < 9223372036854775807) :
    parrelref05_Name_l1 x_k x_n  big (st_ : Int) = walkN (parrelref05_Name_b1 x_k ) (parrelref05_Name_e1 x_k x_n ) (8 - st_) st_ () := by
  refine loopNs 8 st_ hst_ (fun fuel_ t_ s_ => parrelref05_Name_l1 x_k x_n  fuel_ t_) (parrelref05_Name_b1 x_k ) (parrelref05_Name_e1 x_k x_n ) (by first | exact hN | (have := hN; simp only [List.length_nil] at this ⊢; omega)) ?_ ?_ ()
  · intro fuel_ i_ s_ hi_
    have hg_ : 0 ≤ (i_ : Int) ∧ (i_ : Int) < 8 := by omega
    show parrelref05_Name_l1 x_k x_n  (fuel_ + 1) (i_ : Int) = _
    rw [parrelref05_Name_l1, if_pos (decide_eq_true (by omega))]
    repeat rw [if_pos hg_]
    have hinc_ : IntKind.wrap .i64 ((i_ : Int) + 1) = (((i_ + 1 : Nat)) : Int) := by rw [w64 (by omega) (by omega)]; rfl
    try rw [hinc_]
    first | rfl | (unfold parrelref05_Name_b1; simp only [hinc_]; done) | (unfold parrelref05_Name_b1; simp only [hinc_]; rfl)
  · intro fuel_ s_
    show parrelref05_Name_l1 x_k x_n  (fuel_ + 1) ((8 : Nat) : Int) = _
    rw [parrelref05_Name_l1, if_neg (by rw [decide_eq_true_eq]; omega)]
    rfl

def parrelref05_Name_b0 (x_k : A8 (Int))  (x_n : Nat) (s_ : Unit) (k_ : (Unit) → Option ((List UInt8) × (Bool))) : Option ((List UInt8) × (Bool)) :=
  if (((A8.get x_k x_n) != 0) : Bool) then
    k_ ()
  else
    parrelref05_Name_l1 x_k (x_n : Int)  big (x_n : Int)

def parrelref05_Name_e0 (x_k : A8 (Int))  (s_ : Unit) : Option ((List UInt8) × (Bool)) :=
  parrelref05_Name_l1 x_k ((8 : Nat) : Int)  big ((8 : Nat) : Int)

theorem parrelref05_Name_w0 (x_k : A8 (Int))   (hN : 8 < 9223372036854775807) :
    parrelref05_Name_l0 x_k  big 0 = walkN (parrelref05_Name_b0 x_k ) (parrelref05_Name_e0 x_k ) 8 0 () := by
  refine loopN 8 (fun fuel_ t_ s_ => parrelref05_Name_l0 x_k  fuel_ t_) (parrelref05_Name_b0 x_k ) (parrelref05_Name_e0 x_k ) (by first | exact hN | (have := hN; simp only [List.length_nil] at this ⊢; omega)) ?_ ?_ ()
  · intro fuel_ i_ s_ hi_
    have hg_ : 0 ≤ (i_ : Int) ∧ (i_ : Int) < 8 := by omega
    show parrelref05_Name_l0 x_k  (fuel_ + 1) (i_ : Int) = _
    rw [parrelref05_Name_l0, if_pos (decide_eq_true (by omega))]
    repeat rw [if_pos hg_]
    have hinc_ : IntKind.wrap .i64 ((i_ : Int) + 1) = (((i_ + 1 : Nat)) : Int) := by rw [w64 (by omega) (by omega)]; rfl
    try rw [hinc_]
    first | rfl | (unfold parrelref05_Name_b0; simp only [hinc_]; done) | (unfold parrelref05_Name_b0; simp only [hinc_]; rfl)
  · intro fuel_ s_
    show parrelref05_Name_l0 x_k  (fuel_ + 1) ((8 : Nat) : Int) = _
    rw [parrelref05_Name_l0, if_neg (by rw [decide_eq_true_eq]; omega)]
    rfl

def parrelref06_Total_b0 (c : T_api_Config)  (i : Nat) (s_ : (Int)) (k_ : ((Int)) → Option ((Int))) : Option ((Int)) :=
  k_ (IntKind.wrap .i64 (s_ + (IntKind.wrap .i64 (A8.get c.f_Votes i))))

def parrelref06_Total_e0   (s_ : (Int)) : Option ((Int)) :=
  some s_

theorem parrelref06_Total_w0 (c : T_api_Config)  (x_n : Int) (hN : 8 < 9223372036854775807) :
    parrelref06_Total_l0 c  big x_n 0 = walkN (parrelref06_Total_b0 c ) (parrelref06_Total_e0  ) 8 0 x_n := by
  refine loopN 8 (fun fuel_ t_ s_ => parrelref06_Total_l0 c  fuel_ s_ t_) (parrelref06_Total_b0 c ) (parrelref06_Total_e0  ) (by first | exact hN | (have := hN; simp only [List.length_nil] at this ⊢; omega)) ?_ ?_ x_n
  · intro fuel_ i_ s_ hi_
    have hg_ : 0 ≤ (i_ : Int) ∧ (i_ : Int) < 8 := by omega
    show parrelref06_Total_l0 c  (fuel_ + 1) s_ (i_ : Int) = _
    rw [parrelref06_Total_l0, if_pos (decide_eq_true (by omega))]
    repeat rw [if_pos hg_]
    have hinc_ : IntKind.wrap .i64 ((i_ : Int) + 1) = (((i_ + 1 : Nat)) : Int) := by rw [w64 (by omega) (by omega)]; rfl
    try rw [hinc_]
    first | rfl | (unfold parrelref06_Total_b0; simp only [hinc_]; done) | (unfold parrelref06_Total_b0; simp only [hinc_]; rfl)
  · intro fuel_ s_
    show parrelref06_Total_l0 c  (fuel_ + 1) s_ ((8 : Nat) : Int) = _
    rw [parrelref06_Total_l0, if_neg (by rw [decide_eq_true_eq]; omega)]
    rfl

def parrelref06_May_b0 (c : T_api_Config)  (i : Nat) (s_ : Unit) (k_ : (Unit) → Option ((Bool))) : Option ((Bool)) :=
  if ((decide (15 < (A8.get c.f_Votes i))) : Bool) then
    some false
  else
    k_ ()

def parrelref06_May_e0 (c : T_api_Config) (y2 : (Int))  (s_ : Unit) : Option ((Bool)) :=
  if ((decide (1 ≤ c.f_Epoch)) : Bool) then
    if ((decide (c.f_Epoch ≤ 2147483647)) : Bool) then
      if ((decide (1 ≤ (IntKind.wrap .i64 c.f_R))) : Bool) then
        if ((decide (1 ≤ (IntKind.wrap .i64 c.f_W))) : Bool) then
          if ((decide ((IntKind.wrap .i64 c.f_R) ≤ y2)) : Bool) then
            if ((decide ((IntKind.wrap .i64 c.f_W) ≤ y2)) : Bool) then
              if ((decide (y2 < (IntKind.wrap .i64 ((IntKind.wrap .i64 c.f_R) + (IntKind.wrap .i64 c.f_W))))) : Bool) then
                some (decide (y2 < (IntKind.wrap .i64 (2 * (IntKind.wrap .i64 c.f_W)))))
              else
                some false
            else
              some false
          else
            some false
        else
          some false
      else
        some false
    else
      some false
  else
    some false

theorem parrelref06_May_w0 (c : T_api_Config) (y2 : (Int))   (hN : 8 < 9223372036854775807) :
    parrelref06_May_l0 c y2  big 0 = walkN (parrelref06_May_b0 c ) (parrelref06_May_e0 c y2 ) 8 0 () := by
  refine loopN 8 (fun fuel_ t_ s_ => parrelref06_May_l0 c y2  fuel_ t_) (parrelref06_May_b0 c ) (parrelref06_May_e0 c y2 ) (by first | exact hN | (have := hN; simp only [List.length_nil] at this ⊢; omega)) ?_ ?_ ()
  · intro fuel_ i_ s_ hi_
    have hg_ : 0 ≤ (i_ : Int) ∧ (i_ : Int) < 8 := by omega
    show parrelref06_May_l0 c y2  (fuel_ + 1) (i_ : Int) = _
    rw [parrelref06_May_l0, if_pos (decide_eq_true (by omega))]
    repeat rw [if_pos hg_]
    have hinc_ : IntKind.wrap .i64 ((i_ : Int) + 1) = (((i_ + 1 : Nat)) : Int) := by rw [w64 (by omega) (by omega)]; rfl
    try rw [hinc_]
    first | rfl | (unfold parrelref06_May_b0; simp only [hinc_]; done) | (unfold parrelref06_May_b0; simp only [hinc_]; rfl)
  · intro fuel_ s_
    show parrelref06_May_l0 c y2  (fuel_ + 1) ((8 : Nat) : Int) = _
    rw [parrelref06_May_l0, if_neg (by rw [decide_eq_true_eq]; omega)]
    rfl

def parrelref21_Book_find_b0 (b : T_parrelref21_Book) (x_k : A8 (Int))  (i : Nat) (s_ : Unit) (k_ : (Unit) → Option ((Int))) : Option ((Int)) :=
  if ((decide ((b.f_L.getD i default).f_Key = x_k)) : Bool) then
    some (i : Int)
  else
    k_ ()

def parrelref21_Book_find_e0   (s_ : Unit) : Option ((Int)) :=
  some (-1)

theorem parrelref21_Book_find_w0 (b : T_parrelref21_Book) (x_k : A8 (Int))   (hN : (b.f_L).length < 9223372036854775807) :
    parrelref21_Book_find_l0 b x_k  big 0 = walkN (parrelref21_Book_find_b0 b x_k ) (parrelref21_Book_find_e0  ) (b.f_L).length 0 () := by
  refine loopN (b.f_L).length (fun fuel_ t_ s_ => parrelref21_Book_find_l0 b x_k  fuel_ t_) (parrelref21_Book_find_b0 b x_k ) (parrelref21_Book_find_e0  ) (by first | exact hN | (have := hN; simp only [List.length_nil] at this ⊢; omega)) ?_ ?_ ()
  · intro fuel_ i_ s_ hi_
    have hg_ : 0 ≤ (i_ : Int) ∧ (i_ : Int) < (((b.f_L).length : Nat) : Int) := by omega
    show parrelref21_Book_find_l0 b x_k  (fuel_ + 1) (i_ : Int) = _
    rw [parrelref21_Book_find_l0, if_pos (decide_eq_true (by omega))]
    repeat rw [if_pos hg_]
    have hinc_ : IntKind.wrap .i64 ((i_ : Int) + 1) = (((i_ + 1 : Nat)) : Int) := by rw [w64 (by omega) (by omega)]; rfl
    try rw [hinc_]
    first | rfl | (unfold parrelref21_Book_find_b0; simp only [hinc_]; done) | (unfold parrelref21_Book_find_b0; simp only [hinc_]; rfl)
  · intro fuel_ s_
    show parrelref21_Book_find_l0 b x_k  (fuel_ + 1) (((b.f_L).length : Nat) : Int) = _
    rw [parrelref21_Book_find_l0, if_neg (by rw [decide_eq_true_eq]; omega)]
    rfl

def parrelref05_first_b0 (a : List (Int)) (b : List (Int))  (i : Nat) (s_ : Unit) (k_ : (Unit) → Option ((Int))) : Option ((Int)) :=
  if 0 ≤ (i : Int) ∧ (i : Int) < (((b).length : Nat) : Int) then
  if ((decide ((a.getD i default) < (b.getD i default))) : Bool) then
    some (-1)
  else
    if ((decide ((b.getD i default) < (a.getD i default))) : Bool) then
      some 1
    else
      k_ ()
  else none

def parrelref05_first_e0   (s_ : Unit) : Option ((Int)) :=
  some 0

theorem parrelref05_first_w0 (a : List (Int)) (b : List (Int))   (hN : (a).length < 9223372036854775807) :
    parrelref05_first_l0 a b  big 0 = walkN (parrelref05_first_b0 a b ) (parrelref05_first_e0  ) (a).length 0 () := by
  refine loopN (a).length (fun fuel_ t_ s_ => parrelref05_first_l0 a b  fuel_ t_) (parrelref05_first_b0 a b ) (parrelref05_first_e0  ) (by first | exact hN | (have := hN; simp only [List.length_nil] at this ⊢; omega)) ?_ ?_ ()
  · intro fuel_ i_ s_ hi_
    have hg_ : 0 ≤ (i_ : Int) ∧ (i_ : Int) < (((a).length : Nat) : Int) := by omega
    show parrelref05_first_l0 a b  (fuel_ + 1) (i_ : Int) = _
    rw [parrelref05_first_l0, if_pos (decide_eq_true (by omega))]
    repeat rw [if_pos hg_]
    have hinc_ : IntKind.wrap .i64 ((i_ : Int) + 1) = (((i_ + 1 : Nat)) : Int) := by rw [w64 (by omega) (by omega)]; rfl
    try rw [hinc_]
    first | rfl | (unfold parrelref05_first_b0; simp only [hinc_]; done) | (unfold parrelref05_first_b0; simp only [hinc_]; rfl)
  · intro fuel_ s_
    show parrelref05_first_l0 a b  (fuel_ + 1) (((a).length : Nat) : Int) = _
    rw [parrelref05_first_l0, if_neg (by rw [decide_eq_true_eq]; omega)]
    rfl

def parrelref05_Keys_b0 (a : A8 (Int)) (b : A8 (Int))  (i : Nat) (s_ : (List (Int)) × (List (Int))) (k_ : ((List (Int)) × (List (Int))) → Option ((Int))) : Option ((Int)) :=
  if ((s_.1).length + (([(IntKind.wrap .u32 (A8.get a i))] : List (Int))).length) * 4 ≤ 140737488351232 then
  if ((s_.2).length + (([(IntKind.wrap .u32 (A8.get b i))] : List (Int))).length) * 4 ≤ 140737488351232 then
  k_ ((s_.1 ++ ([(IntKind.wrap .u32 (A8.get a i))] : List (Int))), (s_.2 ++ ([(IntKind.wrap .u32 (A8.get b i))] : List (Int))))
  else none
  else none

def parrelref05_Keys_e0   (s_ : (List (Int)) × (List (Int))) : Option ((Int)) :=
  (parrelref05_first s_.1 s_.2).bind fun yL0_3 =>
  some yL0_3

theorem parrelref05_Keys_w0 (a : A8 (Int)) (b : A8 (Int))  (l : List (Int)) (l2 : List (Int)) (hN : 8 < 9223372036854775807) :
    parrelref05_Keys_l0 a b  big 0 l l2 = walkN (parrelref05_Keys_b0 a b ) (parrelref05_Keys_e0  ) 8 0 (l, l2) := by
  refine loopN 8 (fun fuel_ t_ s_ => parrelref05_Keys_l0 a b  fuel_ t_ s_.1 s_.2) (parrelref05_Keys_b0 a b ) (parrelref05_Keys_e0  ) (by first | exact hN | (have := hN; simp only [List.length_nil] at this ⊢; omega)) ?_ ?_ (l, l2)
  · intro fuel_ i_ s_ hi_
    have hg_ : 0 ≤ (i_ : Int) ∧ (i_ : Int) < 8 := by omega
    show parrelref05_Keys_l0 a b  (fuel_ + 1) (i_ : Int) s_.1 s_.2 = _
    rw [parrelref05_Keys_l0, if_pos (decide_eq_true (by omega))]
    repeat rw [if_pos hg_]
    have hinc_ : IntKind.wrap .i64 ((i_ : Int) + 1) = (((i_ + 1 : Nat)) : Int) := by rw [w64 (by omega) (by omega)]; rfl
    try rw [hinc_]
    first | rfl | (unfold parrelref05_Keys_b0; simp only [hinc_]; done) | (unfold parrelref05_Keys_b0; simp only [hinc_]; rfl)
  · intro fuel_ s_
    show parrelref05_Keys_l0 a b  (fuel_ + 1) ((8 : Nat) : Int) s_.1 s_.2 = _
    rw [parrelref05_Keys_l0, if_neg (by rw [decide_eq_true_eq]; omega)]
    rfl

theorem parrelref21_New_l1_k (first : List (T_api_Write)) (i : Int) (L : List (T_parrelref21_Known))  (k k' : (Int) → (List (T_parrelref21_Known)) → Option ((T_parrelref21_Book) × (Int))) (h : ∀ L_, k (IntKind.wrap .i64 (i + 1)) L_ = k' (IntKind.wrap .i64 (i + 1)) L_) : ∀ fuel x_k, parrelref21_New_l1 first i L k fuel x_k = parrelref21_New_l1 first i L k' fuel x_k := by
  intro fuel
  induction fuel with
  | zero => intros; rfl
  | succ fuel ih => intros; simp only [parrelref21_New_l1, ih, h]

def parrelref21_New_b1 (first : List (T_api_Write)) (i : Int) (L : List (T_parrelref21_Known)) (k0 : ((List (T_parrelref21_Known))) → Option ((T_parrelref21_Book) × (Int))) (x_k : Nat) (s_ : Unit) (k_ : (Unit) → Option ((T_parrelref21_Book) × (Int))) : Option ((T_parrelref21_Book) × (Int)) :=
  (parrelref05_Keys ((T_parrelref21_Book.mk L).f_L.getD x_k default).f_Key (first.getD i.toNat default).f_Key).bind fun yL1_4 =>
  if ((decide (yL1_4 < 0)) : Bool) then
    k_ ()
  else
    if 0 ≤ (0 : Int) ∧ 0 ≤ (x_k : Int) ∧ (x_k : Int) ≤ ((((T_parrelref21_Book.mk L).f_L).length : Nat) : Int) then
    if (0 + (((T_parrelref21_Book.mk L).f_L.take x_k)).length) * 24 ≤ 140737488351232 then
    if ((((T_parrelref21_Book.mk L).f_L.take x_k)).length + (([(T_parrelref21_Known.mk (first.getD i.toNat default).f_Key (first.getD i.toNat default).f_Item.f_Conf)] : List (T_parrelref21_Known))).length) * 24 ≤ 140737488351232 then
    if 0 ≤ (x_k : Int) ∧ (x_k : Int) ≤ ((((T_parrelref21_Book.mk L).f_L).length : Nat) : Int) ∧ ((((T_parrelref21_Book.mk L).f_L).length : Nat) : Int) ≤ ((((T_parrelref21_Book.mk L).f_L).length : Nat) : Int) then
    if (((((T_parrelref21_Book.mk L).f_L.take x_k) ++ ([(T_parrelref21_Known.mk (first.getD i.toNat default).f_Key (first.getD i.toNat default).f_Item.f_Conf)] : List (T_parrelref21_Known)))).length + (((T_parrelref21_Book.mk L).f_L.drop x_k)).length) * 24 ≤ 140737488351232 then
    k0 ((((T_parrelref21_Book.mk L).f_L.take x_k) ++ ([(T_parrelref21_Known.mk (first.getD i.toNat default).f_Key (first.getD i.toNat default).f_Item.f_Conf)] : List (T_parrelref21_Known))) ++ ((T_parrelref21_Book.mk L).f_L.drop x_k))
    else none
    else none
    else none
    else none
    else none

def parrelref21_New_e1 (first : List (T_api_Write)) (i : Int) (L : List (T_parrelref21_Known)) (k0 : ((List (T_parrelref21_Known))) → Option ((T_parrelref21_Book) × (Int))) (s_ : Unit) : Option ((T_parrelref21_Book) × (Int)) :=
  if 0 ≤ (0 : Int) ∧ 0 ≤ ((((T_parrelref21_Book.mk L).f_L).length : Nat) : Int) ∧ ((((T_parrelref21_Book.mk L).f_L).length : Nat) : Int) ≤ ((((T_parrelref21_Book.mk L).f_L).length : Nat) : Int) then
  if (0 + (((T_parrelref21_Book.mk L).f_L.take ((((T_parrelref21_Book.mk L).f_L).length : Nat) : Int).toNat)).length) * 24 ≤ 140737488351232 then
  if ((((T_parrelref21_Book.mk L).f_L.take ((((T_parrelref21_Book.mk L).f_L).length : Nat) : Int).toNat)).length + (([(T_parrelref21_Known.mk (first.getD i.toNat default).f_Key (first.getD i.toNat default).f_Item.f_Conf)] : List (T_parrelref21_Known))).length) * 24 ≤ 140737488351232 then
  if 0 ≤ ((((T_parrelref21_Book.mk L).f_L).length : Nat) : Int) ∧ ((((T_parrelref21_Book.mk L).f_L).length : Nat) : Int) ≤ ((((T_parrelref21_Book.mk L).f_L).length : Nat) : Int) ∧ ((((T_parrelref21_Book.mk L).f_L).length : Nat) : Int) ≤ ((((T_parrelref21_Book.mk L).f_L).length : Nat) : Int) then
  if (((((T_parrelref21_Book.mk L).f_L.take ((((T_parrelref21_Book.mk L).f_L).length : Nat) : Int).toNat) ++ ([(T_parrelref21_Known.mk (first.getD i.toNat default).f_Key (first.getD i.toNat default).f_Item.f_Conf)] : List (T_parrelref21_Known)))).length + (((T_parrelref21_Book.mk L).f_L.drop ((((T_parrelref21_Book.mk L).f_L).length : Nat) : Int).toNat)).length) * 24 ≤ 140737488351232 then
  k0 ((((T_parrelref21_Book.mk L).f_L.take ((((T_parrelref21_Book.mk L).f_L).length : Nat) : Int).toNat) ++ ([(T_parrelref21_Known.mk (first.getD i.toNat default).f_Key (first.getD i.toNat default).f_Item.f_Conf)] : List (T_parrelref21_Known))) ++ ((T_parrelref21_Book.mk L).f_L.drop ((((T_parrelref21_Book.mk L).f_L).length : Nat) : Int).toNat))
  else none
  else none
  else none
  else none
  else none

theorem parrelref21_New_w1 (first : List (T_api_Write)) (i : Int) (L : List (T_parrelref21_Known)) (k0 : (Int) → (List (T_parrelref21_Known)) → Option ((T_parrelref21_Book) × (Int)))  (hN : ((T_parrelref21_Book.mk L).f_L).length < 9223372036854775807) :
    parrelref21_New_l1 first i L k0 big 0 = walkN (parrelref21_New_b1 first i L (fun s_ => k0 (IntKind.wrap .i64 (i + 1)) s_)) (parrelref21_New_e1 first i L (fun s_ => k0 (IntKind.wrap .i64 (i + 1)) s_)) ((T_parrelref21_Book.mk L).f_L).length 0 () := by
  refine loopN ((T_parrelref21_Book.mk L).f_L).length (fun fuel_ t_ s_ => parrelref21_New_l1 first i L k0 fuel_ t_) (parrelref21_New_b1 first i L (fun s_ => k0 (IntKind.wrap .i64 (i + 1)) s_)) (parrelref21_New_e1 first i L (fun s_ => k0 (IntKind.wrap .i64 (i + 1)) s_)) (by first | exact hN | (have := hN; simp only [List.length_nil] at this ⊢; omega)) ?_ ?_ ()
  · intro fuel_ i_ s_ hi_
    have hg_ : 0 ≤ (i_ : Int) ∧ (i_ : Int) < ((((T_parrelref21_Book.mk L).f_L).length : Nat) : Int) := by omega
    show parrelref21_New_l1 first i L k0 (fuel_ + 1) (i_ : Int) = _
    rw [parrelref21_New_l1, if_pos (decide_eq_true (by omega))]
    repeat rw [if_pos hg_]
    have hinc_ : IntKind.wrap .i64 ((i_ : Int) + 1) = (((i_ + 1 : Nat)) : Int) := by rw [w64 (by omega) (by omega)]; rfl
    try rw [hinc_]
    first | rfl | (unfold parrelref21_New_b1; simp only [hinc_]; done) | (unfold parrelref21_New_b1; simp only [hinc_]; rfl)
  · intro fuel_ s_
    show parrelref21_New_l1 first i L k0 (fuel_ + 1) ((((T_parrelref21_Book.mk L).f_L).length : Nat) : Int) = _
    rw [parrelref21_New_l1, if_neg (by rw [decide_eq_true_eq]; omega)]
    rfl

def parrelref21_New_b0 (first : List (T_api_Write))  (i : Nat) (s_ : (List (T_parrelref21_Known))) (k_ : ((List (T_parrelref21_Known))) → Option ((T_parrelref21_Book) × (Int))) : Option ((T_parrelref21_Book) × (Int)) :=
  (parrelref10_KeyMay (first.getD i default).f_Key).bind fun yL0_4 =>
  if ((!yL0_4) : Bool) then
    some ((T_parrelref21_Book.mk ([] : List (T_parrelref21_Known))), 1)
  else
    (parrelref10_ItemMay (first.getD i default).f_Item).bind fun yL0_7 =>
    if ((!yL0_7) : Bool) then
      some ((T_parrelref21_Book.mk ([] : List (T_parrelref21_Known))), 1)
    else
      (parrelref21_Book_find (T_parrelref21_Book.mk s_) (first.getD i default).f_Key).bind fun yL0_10 =>
      if ((decide (0 ≤ yL0_10)) : Bool) then
        some ((T_parrelref21_Book.mk ([] : List (T_parrelref21_Known))), 1)
      else
        parrelref21_New_l1 first (i : Int) s_ (fun _ L_ => k_ L_) big 0

def parrelref21_New_e0   (s_ : (List (T_parrelref21_Known))) : Option ((T_parrelref21_Book) × (Int)) :=
  some ((T_parrelref21_Book.mk s_), 0)

theorem parrelref21_New_w0 (first : List (T_api_Write))  (L : List (T_parrelref21_Known)) (hN : (first).length < 9223372036854775807) :
    parrelref21_New_l0 first  big 0 L = walkN (parrelref21_New_b0 first ) (parrelref21_New_e0  ) (first).length 0 L := by
  refine loopN (first).length (fun fuel_ t_ s_ => parrelref21_New_l0 first  fuel_ t_ s_) (parrelref21_New_b0 first ) (parrelref21_New_e0  ) (by first | exact hN | (have := hN; simp only [List.length_nil] at this ⊢; omega)) ?_ ?_ L
  · intro fuel_ i_ s_ hi_
    have hg_ : 0 ≤ (i_ : Int) ∧ (i_ : Int) < (((first).length : Nat) : Int) := by omega
    show parrelref21_New_l0 first  (fuel_ + 1) (i_ : Int) s_ = _
    rw [parrelref21_New_l0, if_pos (decide_eq_true (by omega))]
    repeat rw [if_pos hg_]
    have hinc_ : IntKind.wrap .i64 ((i_ : Int) + 1) = (((i_ + 1 : Nat)) : Int) := by rw [w64 (by omega) (by omega)]; rfl
    simp only [parrelref21_New_l1_k _ (i_ : Int) _  (parrelref21_New_l0 first  fuel_) (fun _ L_ => parrelref21_New_l0 first  fuel_ (((i_ + 1 : Nat)) : Int) L_) (fun L_ => by first | rfl | rw [hinc_])]
    try rw [hinc_]
    first | rfl | (unfold parrelref21_New_b0; simp only [hinc_]; done) | (unfold parrelref21_New_b0; simp only [hinc_]; rfl)
  · intro fuel_ s_
    show parrelref21_New_l0 first  (fuel_ + 1) (((first).length : Nat) : Int) s_ = _
    rw [parrelref21_New_l0, if_neg (by rw [decide_eq_true_eq]; omega)]
    rfl

def parrelref06_Make_b0 (votes : List (Int))  (i : Nat) (s_ : (A8 (Int))) (k_ : ((A8 (Int))) → Option ((T_api_Config) × (Int))) : Option ((T_api_Config) × (Int)) :=
  if 0 ≤ (i : Int) ∧ (i : Int) < 8 then
  k_ (A8.set s_ (votes.getD i default) i)
  else none

def parrelref06_Make_e0 (epoch : Int) (x_r : Int) (x_w : Int)  (s_ : (A8 (Int))) : Option ((T_api_Config) × (Int)) :=
  (parrelref06_May (T_api_Config.mk epoch x_r x_w s_)).bind fun yL0_3 =>
  if ((!yL0_3) : Bool) then
    some ((T_api_Config.mk 0 0 0 (A8.mk 0 0 0 0 0 0 0 0)), 16)
  else
    some ((T_api_Config.mk epoch x_r x_w s_), 0)

theorem parrelref06_Make_w0 (epoch : Int) (x_r : Int) (x_w : Int) (votes : List (Int))  (Votes : A8 (Int)) (hN : (votes).length < 9223372036854775807) :
    parrelref06_Make_l0 epoch x_r x_w votes  big 0 Votes = walkN (parrelref06_Make_b0 votes ) (parrelref06_Make_e0 epoch x_r x_w ) (votes).length 0 Votes := by
  refine loopN (votes).length (fun fuel_ t_ s_ => parrelref06_Make_l0 epoch x_r x_w votes  fuel_ t_ s_) (parrelref06_Make_b0 votes ) (parrelref06_Make_e0 epoch x_r x_w ) (by first | exact hN | (have := hN; simp only [List.length_nil] at this ⊢; omega)) ?_ ?_ Votes
  · intro fuel_ i_ s_ hi_
    have hg_ : 0 ≤ (i_ : Int) ∧ (i_ : Int) < (((votes).length : Nat) : Int) := by omega
    show parrelref06_Make_l0 epoch x_r x_w votes  (fuel_ + 1) (i_ : Int) s_ = _
    rw [parrelref06_Make_l0, if_pos (decide_eq_true (by omega))]
    repeat rw [if_pos hg_]
    have hinc_ : IntKind.wrap .i64 ((i_ : Int) + 1) = (((i_ + 1 : Nat)) : Int) := by rw [w64 (by omega) (by omega)]; rfl
    try rw [hinc_]
    first | rfl | (unfold parrelref06_Make_b0; simp only [hinc_]; done) | (unfold parrelref06_Make_b0; simp only [hinc_]; rfl)
  · intro fuel_ s_
    show parrelref06_Make_l0 epoch x_r x_w votes  (fuel_ + 1) (((votes).length : Nat) : Int) s_ = _
    rw [parrelref06_Make_l0, if_neg (by rw [decide_eq_true_eq]; omega)]
    rfl

def parrelref21_Book_Keys_b0   (a_ : T_parrelref21_Known) (s_ : (List (A8 (Int)))) (k_ : ((List (A8 (Int)))) → Option ((List (A8 (Int))))) : Option ((List (A8 (Int)))) :=
  if ((s_).length + (([a_.f_Key] : List (A8 (Int)))).length) * 8 ≤ 140737488351232 then
  k_ (s_ ++ ([a_.f_Key] : List (A8 (Int))))
  else none

def parrelref21_Book_Keys_e0   (s_ : (List (A8 (Int)))) : Option ((List (A8 (Int)))) :=
  some s_

theorem parrelref21_Book_Keys_w0 (b : T_parrelref21_Book)  (l : List (A8 (Int))) (hN : (b.f_L).length < 9223372036854775807) :
    parrelref21_Book_Keys_l0 b  big 0 l = walkL (parrelref21_Book_Keys_b0  ) (parrelref21_Book_Keys_e0  ) b.f_L l := by
  refine loopL b.f_L (fun fuel_ t_ s_ => parrelref21_Book_Keys_l0 b  fuel_ t_ s_) (parrelref21_Book_Keys_b0  ) (parrelref21_Book_Keys_e0  ) (by first | exact hN | (have := hN; simp only [List.length_nil] at this ⊢; omega)) ?_ ?_ l
  · intro fuel_ i_ s_ hi_
    have hg_ : 0 ≤ (i_ : Int) ∧ (i_ : Int) < (((b.f_L).length : Nat) : Int) := by omega
    show parrelref21_Book_Keys_l0 b  (fuel_ + 1) (i_ : Int) s_ = _
    rw [parrelref21_Book_Keys_l0, if_pos (decide_eq_true (by omega))]
    repeat rw [if_pos hg_]
    have hinc_ : IntKind.wrap .i64 ((i_ : Int) + 1) = (((i_ + 1 : Nat)) : Int) := by rw [w64 (by omega) (by omega)]; rfl
    try rw [hinc_]
    first | rfl | (unfold parrelref21_Book_Keys_b0; simp only [hinc_]; done) | (unfold parrelref21_Book_Keys_b0; simp only [hinc_]; rfl)
  · intro fuel_ s_
    show parrelref21_Book_Keys_l0 b  (fuel_ + 1) (((b.f_L).length : Nat) : Int) s_ = _
    rw [parrelref21_Book_Keys_l0, if_neg (by rw [decide_eq_true_eq]; omega)]
    rfl

def parrellaw21_keys_b0 (a : List (A8 (Int))) (b : List (A8 (Int)))  (t13 : Nat) (s_ : Unit) (k_ : (Unit) → Option ((Bool))) : Option ((Bool)) :=
  if 0 ≤ (t13 : Int) ∧ (t13 : Int) < (((b).length : Nat) : Int) then
  if ((!decide ((a.getD t13 default) = (b.getD t13 default))) : Bool) then
    some false
  else
    k_ ()
  else none

def parrellaw21_keys_e0   (s_ : Unit) : Option ((Bool)) :=
  some true

theorem parrellaw21_keys_w0 (a : List (A8 (Int))) (b : List (A8 (Int)))   (hN : (a).length < 9223372036854775807) :
    parrellaw21_keys_l0 a b  big 0 = walkN (parrellaw21_keys_b0 a b ) (parrellaw21_keys_e0  ) (a).length 0 () := by
  refine loopN (a).length (fun fuel_ t_ s_ => parrellaw21_keys_l0 a b  fuel_ t_) (parrellaw21_keys_b0 a b ) (parrellaw21_keys_e0  ) (by first | exact hN | (have := hN; simp only [List.length_nil] at this ⊢; omega)) ?_ ?_ ()
  · intro fuel_ i_ s_ hi_
    have hg_ : 0 ≤ (i_ : Int) ∧ (i_ : Int) < (((a).length : Nat) : Int) := by omega
    show parrellaw21_keys_l0 a b  (fuel_ + 1) (i_ : Int) = _
    rw [parrellaw21_keys_l0, if_pos (decide_eq_true (by omega))]
    repeat rw [if_pos hg_]
    have hinc_ : IntKind.wrap .i64 ((i_ : Int) + 1) = (((i_ + 1 : Nat)) : Int) := by rw [w64 (by omega) (by omega)]; rfl
    try rw [hinc_]
    first | rfl | (unfold parrellaw21_keys_b0; simp only [hinc_]; done) | (unfold parrellaw21_keys_b0; simp only [hinc_]; rfl)
  · intro fuel_ s_
    show parrellaw21_keys_l0 a b  (fuel_ + 1) (((a).length : Nat) : Int) = _
    rw [parrellaw21_keys_l0, if_neg (by rw [decide_eq_true_eq]; omega)]
    rfl

def parrellaw21_ConfPlays_b0 (y13 : (List (T_parrellaw21_Act)))  (t49 : Nat) (s_ : (List (T_parrelref21_Known)) × (List (A8 (Int) × T_api_Config))) (k_ : ((List (T_parrelref21_Known)) × (List (A8 (Int) × T_api_Config))) → Option ((Bool))) : Option ((Bool)) :=
  if ((y13.getD t49 default).f_Next : Bool) then
    if (8 + (([1] : List (Int))).length) * 1 ≤ 140737488351232 then
    if 8 < 8 + (([1] : List (Int))).length then
    if 0 ≤ (0 : Int) ∧ 0 ≤ (Int.tmod (y13.getD t49 default).f_Many 10) ∧ (Int.tmod (y13.getD t49 default).f_Many 10) ≤ ((((([(y13.getD t49 default).f_Conf.f_Votes.a0, (y13.getD t49 default).f_Conf.f_Votes.a1, (y13.getD t49 default).f_Conf.f_Votes.a2, (y13.getD t49 default).f_Conf.f_Votes.a3, (y13.getD t49 default).f_Conf.f_Votes.a4, (y13.getD t49 default).f_Conf.f_Votes.a5, (y13.getD t49 default).f_Conf.f_Votes.a6, (y13.getD t49 default).f_Conf.f_Votes.a7] : List (Int)) ++ ([1] : List (Int)))).length : Nat) : Int) then
    (conf_Book_Next s_.2 (y13.getD t49 default).f_Key (y13.getD t49 default).f_Conf.f_R (y13.getD t49 default).f_Conf.f_W ((([(y13.getD t49 default).f_Conf.f_Votes.a0, (y13.getD t49 default).f_Conf.f_Votes.a1, (y13.getD t49 default).f_Conf.f_Votes.a2, (y13.getD t49 default).f_Conf.f_Votes.a3, (y13.getD t49 default).f_Conf.f_Votes.a4, (y13.getD t49 default).f_Conf.f_Votes.a5, (y13.getD t49 default).f_Conf.f_Votes.a6, (y13.getD t49 default).f_Conf.f_Votes.a7] : List (Int)) ++ ([1] : List (Int))).take ((Int.tmod (y13.getD t49 default).f_Many 10)).toNat)).bind fun yL0_8 =>
    (parrelref21_Book_Next (T_parrelref21_Book.mk s_.1) (y13.getD t49 default).f_Key (y13.getD t49 default).f_Conf.f_R (y13.getD t49 default).f_Conf.f_W ((([(y13.getD t49 default).f_Conf.f_Votes.a0, (y13.getD t49 default).f_Conf.f_Votes.a1, (y13.getD t49 default).f_Conf.f_Votes.a2, (y13.getD t49 default).f_Conf.f_Votes.a3, (y13.getD t49 default).f_Conf.f_Votes.a4, (y13.getD t49 default).f_Conf.f_Votes.a5, (y13.getD t49 default).f_Conf.f_Votes.a6, (y13.getD t49 default).f_Conf.f_Votes.a7] : List (Int)) ++ ([1] : List (Int))).take ((Int.tmod (y13.getD t49 default).f_Many 10)).toNat)).bind fun yL0_10 =>
    if ((!decide (yL0_8.1 = yL0_10.1)) : Bool) then
      some false
    else
      if ((yL0_8.2 != yL0_10.2) : Bool) then
        some false
      else
        (conf_Book_Of s_.2 (y13.getD t49 default).f_Key).bind fun yL0_14 =>
        (parrelref21_Book_Of (T_parrelref21_Book.mk s_.1) (y13.getD t49 default).f_Key).bind fun yL0_16 =>
        if ((!decide (yL0_14.1 = yL0_16.1)) : Bool) then
          some false
        else
          if ((!(yL0_14.2 == yL0_16.2)) : Bool) then
            some false
          else
            (conf_Book_Keys s_.2).bind fun yL0_20 =>
            (parrelref21_Book_Keys (T_parrelref21_Book.mk s_.1)).bind fun yL0_22 =>
            (parrellaw21_keys yL0_20 yL0_22).bind fun yL0_24 =>
            if ((!yL0_24) : Bool) then
              some false
            else
              k_ ((T_parrelref21_Book.mk s_.1).f_L, s_.2)
    else none
    else none
    else none
  else
    (conf_Book_Learn s_.2 (y13.getD t49 default).f_Key (y13.getD t49 default).f_Conf).bind fun yL0_5 =>
    (parrelref21_Book_Learn (T_parrelref21_Book.mk s_.1) (y13.getD t49 default).f_Key (y13.getD t49 default).f_Conf).bind fun yL0_7 =>
    if ((yL0_5.1 != yL0_7.1) : Bool) then
      some false
    else
      (conf_Book_Of yL0_5.2 (y13.getD t49 default).f_Key).bind fun yL0_10 =>
      (parrelref21_Book_Of (T_parrelref21_Book.mk yL0_7.2) (y13.getD t49 default).f_Key).bind fun yL0_12 =>
      if ((!decide (yL0_10.1 = yL0_12.1)) : Bool) then
        some false
      else
        if ((!(yL0_10.2 == yL0_12.2)) : Bool) then
          some false
        else
          (conf_Book_Keys yL0_5.2).bind fun yL0_16 =>
          (parrelref21_Book_Keys (T_parrelref21_Book.mk yL0_7.2)).bind fun yL0_18 =>
          (parrellaw21_keys yL0_16 yL0_18).bind fun yL0_20 =>
          if ((!yL0_20) : Bool) then
            some false
          else
            k_ ((T_parrelref21_Book.mk yL0_7.2).f_L, yL0_5.2)

def parrellaw21_ConfPlays_e0   (s_ : (List (T_parrelref21_Known)) × (List (A8 (Int) × T_api_Config))) : Option ((Bool)) :=
  (parrellaw21_alive).bind fun yL0_3 =>
  some yL0_3

theorem parrellaw21_ConfPlays_w0 (y13 : (List (T_parrellaw21_Act)))  (L : List (T_parrelref21_Known)) (m : List (A8 (Int) × T_api_Config)) (hN : (y13).length < 9223372036854775807) :
    parrellaw21_ConfPlays_l0 y13  big 0 L m = walkN (parrellaw21_ConfPlays_b0 y13 ) (parrellaw21_ConfPlays_e0  ) (y13).length 0 (L, m) := by
  refine loopN (y13).length (fun fuel_ t_ s_ => parrellaw21_ConfPlays_l0 y13  fuel_ t_ s_.1 s_.2) (parrellaw21_ConfPlays_b0 y13 ) (parrellaw21_ConfPlays_e0  ) (by first | exact hN | (have := hN; simp only [List.length_nil] at this ⊢; omega)) ?_ ?_ (L, m)
  · intro fuel_ i_ s_ hi_
    have hg_ : 0 ≤ (i_ : Int) ∧ (i_ : Int) < (((y13).length : Nat) : Int) := by omega
    show parrellaw21_ConfPlays_l0 y13  (fuel_ + 1) (i_ : Int) s_.1 s_.2 = _
    rw [parrellaw21_ConfPlays_l0, if_pos (decide_eq_true (by omega))]
    repeat rw [if_pos hg_]
    have hinc_ : IntKind.wrap .i64 ((i_ : Int) + 1) = (((i_ + 1 : Nat)) : Int) := by rw [w64 (by omega) (by omega)]; rfl
    try rw [hinc_]
    first | rfl | (unfold parrellaw21_ConfPlays_b0; simp only [hinc_]; done) | (unfold parrellaw21_ConfPlays_b0; simp only [hinc_]; rfl)
  · intro fuel_ s_
    show parrellaw21_ConfPlays_l0 y13  (fuel_ + 1) (((y13).length : Nat) : Int) s_.1 s_.2 = _
    rw [parrellaw21_ConfPlays_l0, if_neg (by rw [decide_eq_true_eq]; omega)]
    rfl

end
end Go.Proofs.YtgbhbcigjgcedaaDoor.Wk
