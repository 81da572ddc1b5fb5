/- Printed by tr.py: counting loops as walks over lists and over numbers. -/
import Derived.Test.YtffmmflapagkhaaDoorGathW
import Derived.Test.YtffmmflapagkhaaDoorCnX
namespace Go.Proofs.YtffmmflapagkhaaDoor.Wk
open Go Go.Cn
set_option maxRecDepth 100000
set_option maxHeartbeats 4000000
set_option linter.unusedVariables false
set_option linter.unusedSimpArgs false
noncomputable section
def votes_Of_b0 (c : T_api_Config) (set : Int)  (t10 : Nat) (s_ : (Int)) (k_ : ((Int)) → Option ((Int))) : Option ((Int)) :=
  if 0 ≤ (t10 : Int) then
  k_ (IntKind.wrap .i64 (s_ + (IntKind.wrap .i64 ((IntKind.wrap .i64 (A8.get c.f_Votes t10)) * (IntKind.wrap .i64 (IntKind.wrap .u64 ((BitVec.ofInt (IntKind.bits .u64) (Int.fdiv set (2 ^ (min (Int.toNat (t10 : Int)) (IntKind.bits .u64)))) &&& BitVec.ofInt (IntKind.bits .u64) 1).toNat : Int)))))))
  else none

def votes_Of_e0   (s_ : (Int)) : Option ((Int)) :=
  some s_

theorem votes_Of_w0 (c : T_api_Config) (set : Int)  (x_n : Int) (hN : 8 < 9223372036854775807) :
    votes_Of_l0 c set  big x_n 0 = walkN (votes_Of_b0 c set ) (votes_Of_e0  ) 8 0 x_n := by
  refine loopN 8 (fun fuel_ t_ s_ => votes_Of_l0 c set  fuel_ s_ t_) (votes_Of_b0 c set ) (votes_Of_e0  ) (by first | exact hN | (have := hN; simp only [List.length_nil] at this ⊢; omega)) ?_ ?_ x_n
  · intro fuel_ i_ s_ hi_
    have hg_ : 0 ≤ (i_ : Int) ∧ (i_ : Int) < 8 := by omega
    show votes_Of_l0 c set  (fuel_ + 1) s_ (i_ : Int) = _
    rw [votes_Of_l0, if_pos (decide_eq_true (by omega))]
    repeat rw [if_pos hg_]
    have hinc_ : IntKind.wrap .i64 ((i_ : Int) + 1) = (((i_ + 1 : Nat)) : Int) := by rw [w64 (by omega) (by omega)]; rfl
    try rw [hinc_]
    first | rfl | (unfold votes_Of_b0; simp only [hinc_]; done) | (unfold votes_Of_b0; simp only [hinc_]; rfl)
  · intro fuel_ s_
    show votes_Of_l0 c set  (fuel_ + 1) s_ ((8 : Nat) : Int) = _
    rw [votes_Of_l0, if_neg (by rw [decide_eq_true_eq]; omega)]
    rfl

def slices_Max_uint8_uint8_b0 (x : T_api_Config)  (i : Nat) (s_ : (Int)) (k_ : ((Int)) → Option ((Int))) : Option ((Int)) :=
  k_ (if (A8.get x.f_Votes i) > s_ then (A8.get x.f_Votes i) else s_)

def slices_Max_uint8_uint8_e0   (s_ : (Int)) : Option ((Int)) :=
  some s_

theorem slices_Max_uint8_uint8_ws0 (x : T_api_Config)  (m : Int) (st_ : Nat) (hst_ : st_ ≤ 8) (hN : 8 < 9223372036854775807) :
    slices_Max_uint8_uint8_l0 x  big m (st_ : Int) = walkN (slices_Max_uint8_uint8_b0 x ) (slices_Max_uint8_uint8_e0  ) (8 - st_) st_ m := by
  refine loopNs 8 st_ hst_ (fun fuel_ t_ s_ => slices_Max_uint8_uint8_l0 x  fuel_ s_ t_) (slices_Max_uint8_uint8_b0 x ) (slices_Max_uint8_uint8_e0  ) (by first | exact hN | (have := hN; simp only [List.length_nil] at this ⊢; omega)) ?_ ?_ m
  · intro fuel_ i_ s_ hi_
    have hg_ : 0 ≤ (i_ : Int) ∧ (i_ : Int) < 8 := by omega
    show slices_Max_uint8_uint8_l0 x  (fuel_ + 1) s_ (i_ : Int) = _
    rw [slices_Max_uint8_uint8_l0, if_pos (decide_eq_true (by omega))]
    repeat rw [if_pos hg_]
    have hinc_ : IntKind.wrap .i64 ((i_ : Int) + 1) = (((i_ + 1 : Nat)) : Int) := by rw [w64 (by omega) (by omega)]; rfl
    try rw [hinc_]
    first | rfl | (unfold slices_Max_uint8_uint8_b0; simp only [hinc_]; done) | (unfold slices_Max_uint8_uint8_b0; simp only [hinc_]; rfl)
  · intro fuel_ s_
    show slices_Max_uint8_uint8_l0 x  (fuel_ + 1) s_ ((8 : Nat) : Int) = _
    rw [slices_Max_uint8_uint8_l0, if_neg (by rw [decide_eq_true_eq]; omega)]
    rfl

def slices_IndexFunc_api_Config_api_Config_b0 (s : List (T_api_Config))  (t8 : Nat) (s_ : Unit) (k_ : (Unit) → Option ((Int))) : Option ((Int)) :=
  (gather_may_L1 (s.getD t8 default)).bind fun yL0_4 =>
  if (yL0_4 : Bool) then
    some (t8 : Int)
  else
    k_ ()

def slices_IndexFunc_api_Config_api_Config_e0   (s_ : Unit) : Option ((Int)) :=
  some (-1)

theorem slices_IndexFunc_api_Config_api_Config_w0 (s : List (T_api_Config))   (hN : (s).length < 9223372036854775807) :
    slices_IndexFunc_api_Config_api_Config_l0 s  big 0 = walkN (slices_IndexFunc_api_Config_api_Config_b0 s ) (slices_IndexFunc_api_Config_api_Config_e0  ) (s).length 0 () := by
  refine loopN (s).length (fun fuel_ t_ s_ => slices_IndexFunc_api_Config_api_Config_l0 s  fuel_ t_) (slices_IndexFunc_api_Config_api_Config_b0 s ) (slices_IndexFunc_api_Config_api_Config_e0  ) (by first | exact hN | (have := hN; simp only [List.length_nil] at this ⊢; omega)) ?_ ?_ ()
  · intro fuel_ i_ s_ hi_
    have hg_ : 0 ≤ (i_ : Int) ∧ (i_ : Int) < (((s).length : Nat) : Int) := by omega
    show slices_IndexFunc_api_Config_api_Config_l0 s  (fuel_ + 1) (i_ : Int) = _
    rw [slices_IndexFunc_api_Config_api_Config_l0, if_pos (decide_eq_true (by omega))]
    repeat rw [if_pos hg_]
    have hinc_ : IntKind.wrap .i64 ((i_ : Int) + 1) = (((i_ + 1 : Nat)) : Int) := by rw [w64 (by omega) (by omega)]; rfl
    try rw [hinc_]
    first | rfl | (unfold slices_IndexFunc_api_Config_api_Config_b0; simp only [hinc_]; done) | (unfold slices_IndexFunc_api_Config_api_Config_b0; simp only [hinc_]; rfl)
  · intro fuel_ s_
    show slices_IndexFunc_api_Config_api_Config_l0 s  (fuel_ + 1) (((s).length : Nat) : Int) = _
    rw [slices_IndexFunc_api_Config_api_Config_l0, if_neg (by rw [decide_eq_true_eq]; omega)]
    rfl

def slices_IndexFunc_api_Config_api_Config_2_b0 (s : List (T_api_Config)) (x : T_gather_Gather)  (t8 : Nat) (s_ : Unit) (k_ : (Unit) → Option ((Int))) : Option ((Int)) :=
  (gather_Gather_Enough_L1 (s.getD t8 default) x).bind fun yL0_4 =>
  if (yL0_4 : Bool) then
    some (t8 : Int)
  else
    k_ ()

def slices_IndexFunc_api_Config_api_Config_2_e0   (s_ : Unit) : Option ((Int)) :=
  some (-1)

theorem slices_IndexFunc_api_Config_api_Config_2_w0 (s : List (T_api_Config)) (x : T_gather_Gather)   (hN : (s).length < 9223372036854775807) :
    slices_IndexFunc_api_Config_api_Config_2_l0 s x  big 0 = walkN (slices_IndexFunc_api_Config_api_Config_2_b0 s x ) (slices_IndexFunc_api_Config_api_Config_2_e0  ) (s).length 0 () := by
  refine loopN (s).length (fun fuel_ t_ s_ => slices_IndexFunc_api_Config_api_Config_2_l0 s x  fuel_ t_) (slices_IndexFunc_api_Config_api_Config_2_b0 s x ) (slices_IndexFunc_api_Config_api_Config_2_e0  ) (by first | exact hN | (have := hN; simp only [List.length_nil] at this ⊢; omega)) ?_ ?_ ()
  · intro fuel_ i_ s_ hi_
    have hg_ : 0 ≤ (i_ : Int) ∧ (i_ : Int) < (((s).length : Nat) : Int) := by omega
    show slices_IndexFunc_api_Config_api_Config_2_l0 s x  (fuel_ + 1) (i_ : Int) = _
    rw [slices_IndexFunc_api_Config_api_Config_2_l0, if_pos (decide_eq_true (by omega))]
    repeat rw [if_pos hg_]
    have hinc_ : IntKind.wrap .i64 ((i_ : Int) + 1) = (((i_ + 1 : Nat)) : Int) := by rw [w64 (by omega) (by omega)]; rfl
    try rw [hinc_]
    first | rfl | (unfold slices_IndexFunc_api_Config_api_Config_2_b0; simp only [hinc_]; done) | (unfold slices_IndexFunc_api_Config_api_Config_2_b0; simp only [hinc_]; rfl)
  · intro fuel_ s_
    show slices_IndexFunc_api_Config_api_Config_2_l0 s x  (fuel_ + 1) (((s).length : Nat) : Int) = _
    rw [slices_IndexFunc_api_Config_api_Config_2_l0, if_neg (by rw [decide_eq_true_eq]; omega)]
    rfl

def gather_Gather_All_b0 (g : T_gather_Gather)  (t15 : Nat) (s_ : (List (T_gather_Got))) (k_ : ((List (T_gather_Got))) → Option (Bool × (Unit) × ((List (T_gather_Got))))) : Option (Bool × (Unit) × ((List (T_gather_Got)))) :=
  if 0 ≤ ((bitsL g.f_nodes).getD t15 default) ∧ ((bitsL g.f_nodes).getD t15 default) < 8 then
  if ((s_).length + (([(A8.get g.f_grants (((bitsL g.f_nodes).getD t15 default)).toNat)] : List (T_gather_Got))).length) * 56 ≤ 140737488351232 then
  k_ (s_ ++ ([(A8.get g.f_grants (((bitsL g.f_nodes).getD t15 default)).toNat)] : List (T_gather_Got)))
  else none
  else none

def gather_Gather_All_e0   (s_ : (List (T_gather_Got))) : Option (Bool × (Unit) × ((List (T_gather_Got)))) :=
  some (false, default, s_)

theorem gather_Gather_All_w0 (g : T_gather_Gather)  (l : List (T_gather_Got)) (hN : ((bitsL g.f_nodes)).length < 9223372036854775807) :
    gather_Gather_All_l0 g  big 0 l = walkN (gather_Gather_All_b0 g ) (gather_Gather_All_e0  ) ((bitsL g.f_nodes)).length 0 l := by
  refine loopN ((bitsL g.f_nodes)).length (fun fuel_ t_ s_ => gather_Gather_All_l0 g  fuel_ t_ s_) (gather_Gather_All_b0 g ) (gather_Gather_All_e0  ) (by first | exact hN | (have := hN; simp only [List.length_nil] at this ⊢; omega)) ?_ ?_ l
  · intro fuel_ i_ s_ hi_
    have hg_ : 0 ≤ (i_ : Int) ∧ (i_ : Int) < ((((bitsL g.f_nodes)).length : Nat) : Int) := by omega
    show gather_Gather_All_l0 g  (fuel_ + 1) (i_ : Int) s_ = _
    rw [gather_Gather_All_l0, if_pos (decide_eq_true (by omega))]
    repeat rw [if_pos hg_]
    have hinc_ : IntKind.wrap .i64 ((i_ : Int) + 1) = (((i_ + 1 : Nat)) : Int) := by rw [w64 (by omega) (by omega)]; rfl
    try rw [hinc_]
    first | rfl | (unfold gather_Gather_All_b0; simp only [hinc_]; done) | (unfold gather_Gather_All_b0; simp only [hinc_]; rfl)
  · intro fuel_ s_
    show gather_Gather_All_l0 g  (fuel_ + 1) ((((bitsL g.f_nodes)).length : Nat) : Int) s_ = _
    rw [gather_Gather_All_l0, if_neg (by rw [decide_eq_true_eq]; omega)]
    rfl

def item_Newest_b0   (a_ : T_api_Item) (s_ : (Int) × (List UInt8) × (T_api_Config)) (k_ : ((Int) × (List UInt8) × (T_api_Config)) → Option ((T_api_Item) × (Bool))) : Option ((T_api_Item) × (Bool)) :=
  if ((decide (s_.1 < a_.f_Version)) : Bool) then
    k_ (a_.f_Version, a_.f_Value, a_.f_Conf)
  else
    k_ (s_.1, s_.2.1, s_.2.2)

def item_Newest_e0   (s_ : (Int) × (List UInt8) × (T_api_Config)) : Option ((T_api_Item) × (Bool)) :=
  some ((T_api_Item.mk s_.1 s_.2.1 s_.2.2), true)

theorem item_Newest_w0 (l : List (T_api_Item))  (Version : Int) (Value : List UInt8) (Epoch : T_api_Config) (hN : ((l.drop 1)).length < 9223372036854775807) :
    item_Newest_l0 l  big 0 Version Value Epoch = walkL (item_Newest_b0  ) (item_Newest_e0  ) (l.drop 1) (Version, Value, Epoch) := by
  refine loopL (l.drop 1) (fun fuel_ t_ s_ => item_Newest_l0 l  fuel_ t_ s_.1 s_.2.1 s_.2.2) (item_Newest_b0  ) (item_Newest_e0  ) (by first | exact hN | (have := hN; simp only [List.length_nil] at this ⊢; omega)) ?_ ?_ (Version, Value, Epoch)
  · intro fuel_ i_ s_ hi_
    have hg_ : 0 ≤ (i_ : Int) ∧ (i_ : Int) < ((((l.drop 1)).length : Nat) : Int) := by omega
    show item_Newest_l0 l  (fuel_ + 1) (i_ : Int) s_.1 s_.2.1 s_.2.2 = _
    rw [item_Newest_l0, if_pos (decide_eq_true (by omega))]
    repeat rw [if_pos hg_]
    have hinc_ : IntKind.wrap .i64 ((i_ : Int) + 1) = (((i_ + 1 : Nat)) : Int) := by rw [w64 (by omega) (by omega)]; rfl
    try rw [hinc_]
    first | rfl | (unfold item_Newest_b0; simp only [hinc_]; done) | (unfold item_Newest_b0; simp only [hinc_]; rfl)
  · intro fuel_ s_
    show item_Newest_l0 l  (fuel_ + 1) ((((l.drop 1)).length : Nat) : Int) s_.1 s_.2.1 s_.2.2 = _
    rw [item_Newest_l0, if_neg (by rw [decide_eq_true_eq]; omega)]
    rfl

def votes_Voters_b0 (c : T_api_Config)  (t8 : Nat) (s_ : (Int)) (k_ : ((Int)) → Option ((Int))) : Option ((Int)) :=
  if ((decide (0 < (A8.get c.f_Votes t8))) : Bool) then
    if 0 ≤ (t8 : Int) then
    k_ (IntKind.wrap .u64 ((BitVec.ofInt (IntKind.bits .u64) s_ ||| BitVec.ofInt (IntKind.bits .u64) (IntKind.wrap .u64 (1 * 2 ^ (min (Int.toNat (t8 : Int)) (IntKind.bits .u64))))).toNat : Int))
    else none
  else
    k_ s_

def votes_Voters_e0   (s_ : (Int)) : Option ((Int)) :=
  some s_

theorem votes_Voters_w0 (c : T_api_Config)  (set : Int) (hN : 8 < 9223372036854775807) :
    votes_Voters_l0 c  big set 0 = walkN (votes_Voters_b0 c ) (votes_Voters_e0  ) 8 0 set := by
  refine loopN 8 (fun fuel_ t_ s_ => votes_Voters_l0 c  fuel_ s_ t_) (votes_Voters_b0 c ) (votes_Voters_e0  ) (by first | exact hN | (have := hN; simp only [List.length_nil] at this ⊢; omega)) ?_ ?_ set
  · intro fuel_ i_ s_ hi_
    have hg_ : 0 ≤ (i_ : Int) ∧ (i_ : Int) < 8 := by omega
    show votes_Voters_l0 c  (fuel_ + 1) s_ (i_ : Int) = _
    rw [votes_Voters_l0, if_pos (decide_eq_true (by omega))]
    repeat rw [if_pos hg_]
    have hinc_ : IntKind.wrap .i64 ((i_ : Int) + 1) = (((i_ + 1 : Nat)) : Int) := by rw [w64 (by omega) (by omega)]; rfl
    try rw [hinc_]
    first | rfl | (unfold votes_Voters_b0; simp only [hinc_]; done) | (unfold votes_Voters_b0; simp only [hinc_]; rfl)
  · intro fuel_ s_
    show votes_Voters_l0 c  (fuel_ + 1) s_ ((8 : Nat) : Int) = _
    rw [votes_Voters_l0, if_neg (by rw [decide_eq_true_eq]; omega)]
    rfl

def gather_Gather_Ask_b1 (g : T_gather_Gather) (set : Int)  (t39 : Nat) (s_ : (List (Int))) (k_ : ((List (Int))) → Option ((List (Int)))) : Option ((List (Int))) :=
  if ((s_).length + (([(IntKind.wrap .u8 ((bitsL (IntKind.wrap .u64 ((BitVec.ofInt (IntKind.bits .u64) set &&& ~~~ BitVec.ofInt (IntKind.bits .u64) g.f_nodes).toNat : Int))).getD t39 default))] : List (Int))).length) * 1 ≤ 140737488351232 then
  k_ (s_ ++ ([(IntKind.wrap .u8 ((bitsL (IntKind.wrap .u64 ((BitVec.ofInt (IntKind.bits .u64) set &&& ~~~ BitVec.ofInt (IntKind.bits .u64) g.f_nodes).toNat : Int))).getD t39 default))] : List (Int)))
  else none

def gather_Gather_Ask_e1   (s_ : (List (Int))) : Option ((List (Int))) :=
  some s_

theorem gather_Gather_Ask_w1 (g : T_gather_Gather) (set : Int)  (l : List (Int)) (hN : ((bitsL (IntKind.wrap .u64 ((BitVec.ofInt (IntKind.bits .u64) set &&& ~~~ BitVec.ofInt (IntKind.bits .u64) g.f_nodes).toNat : Int)))).length < 9223372036854775807) :
    gather_Gather_Ask_l1 g set  big 0 l = walkN (gather_Gather_Ask_b1 g set ) (gather_Gather_Ask_e1  ) ((bitsL (IntKind.wrap .u64 ((BitVec.ofInt (IntKind.bits .u64) set &&& ~~~ BitVec.ofInt (IntKind.bits .u64) g.f_nodes).toNat : Int)))).length 0 l := by
  refine loopN ((bitsL (IntKind.wrap .u64 ((BitVec.ofInt (IntKind.bits .u64) set &&& ~~~ BitVec.ofInt (IntKind.bits .u64) g.f_nodes).toNat : Int)))).length (fun fuel_ t_ s_ => gather_Gather_Ask_l1 g set  fuel_ t_ s_) (gather_Gather_Ask_b1 g set ) (gather_Gather_Ask_e1  ) (by first | exact hN | (have := hN; simp only [List.length_nil] at this ⊢; omega)) ?_ ?_ l
  · intro fuel_ i_ s_ hi_
    have hg_ : 0 ≤ (i_ : Int) ∧ (i_ : Int) < ((((bitsL (IntKind.wrap .u64 ((BitVec.ofInt (IntKind.bits .u64) set &&& ~~~ BitVec.ofInt (IntKind.bits .u64) g.f_nodes).toNat : Int)))).length : Nat) : Int) := by omega
    show gather_Gather_Ask_l1 g set  (fuel_ + 1) (i_ : Int) s_ = _
    rw [gather_Gather_Ask_l1, if_pos (decide_eq_true (by omega))]
    repeat rw [if_pos hg_]
    have hinc_ : IntKind.wrap .i64 ((i_ : Int) + 1) = (((i_ + 1 : Nat)) : Int) := by rw [w64 (by omega) (by omega)]; rfl
    try rw [hinc_]
    first | rfl | (unfold gather_Gather_Ask_b1; simp only [hinc_]; done) | (unfold gather_Gather_Ask_b1; simp only [hinc_]; rfl)
  · intro fuel_ s_
    show gather_Gather_Ask_l1 g set  (fuel_ + 1) ((((bitsL (IntKind.wrap .u64 ((BitVec.ofInt (IntKind.bits .u64) set &&& ~~~ BitVec.ofInt (IntKind.bits .u64) g.f_nodes).toNat : Int)))).length : Nat) : Int) s_ = _
    rw [gather_Gather_Ask_l1, if_neg (by rw [decide_eq_true_eq]; omega)]
    rfl

def gather_Gather_Ask_b0   (a_ : T_api_Config) (s_ : (Int)) (k_ : ((Int)) → Option ((List (Int)))) : Option ((List (Int))) :=
  (votes_Voters a_).bind fun yL0_4 =>
  k_ (IntKind.wrap .u64 ((BitVec.ofInt (IntKind.bits .u64) s_ ||| BitVec.ofInt (IntKind.bits .u64) yL0_4).toNat : Int))

def gather_Gather_Ask_e0 (g : T_gather_Gather)  (s_ : (Int)) : Option ((List (Int))) :=
  if 0 ≤ (IntKind.wrap .u64 ((BitVec.ofInt (IntKind.bits .u64) s_ &&& ~~~ BitVec.ofInt (IntKind.bits .u64) g.f_nodes).toNat : Int)) ∧ (IntKind.wrap .u64 ((BitVec.ofInt (IntKind.bits .u64) s_ &&& ~~~ BitVec.ofInt (IntKind.bits .u64) g.f_nodes).toNat : Int)) < 18446744073709551616 then
  gather_Gather_Ask_l1 g s_  big 0 ([] : List (Int))
  else none

theorem gather_Gather_Ask_w0 (g : T_gather_Gather)  (set : Int) (hN : (g.f_more).length < 9223372036854775807) :
    gather_Gather_Ask_l0 g  big set 0 = walkL (gather_Gather_Ask_b0  ) (gather_Gather_Ask_e0 g ) g.f_more set := by
  refine loopL g.f_more (fun fuel_ t_ s_ => gather_Gather_Ask_l0 g  fuel_ s_ t_) (gather_Gather_Ask_b0  ) (gather_Gather_Ask_e0 g ) (by first | exact hN | (have := hN; simp only [List.length_nil] at this ⊢; omega)) ?_ ?_ set
  · intro fuel_ i_ s_ hi_
    have hg_ : 0 ≤ (i_ : Int) ∧ (i_ : Int) < (((g.f_more).length : Nat) : Int) := by omega
    show gather_Gather_Ask_l0 g  (fuel_ + 1) s_ (i_ : Int) = _
    rw [gather_Gather_Ask_l0, if_pos (decide_eq_true (by omega))]
    repeat rw [if_pos hg_]
    have hinc_ : IntKind.wrap .i64 ((i_ : Int) + 1) = (((i_ + 1 : Nat)) : Int) := by rw [w64 (by omega) (by omega)]; rfl
    try rw [hinc_]
    first | rfl | (unfold gather_Gather_Ask_b0; simp only [hinc_]; done) | (unfold gather_Gather_Ask_b0; simp only [hinc_]; rfl)
  · intro fuel_ s_
    show gather_Gather_Ask_l0 g  (fuel_ + 1) s_ (((g.f_more).length : Nat) : Int) = _
    rw [gather_Gather_Ask_l0, if_neg (by rw [decide_eq_true_eq]; omega)]
    rfl

def gather_Gather_Newest_2_b0   (t10 : Nat) (s_ : (List (T_api_Item))) (k_ : ((List (T_api_Item))) → Option ((T_api_Item) × (Bool))) : Option ((T_api_Item) × (Bool)) :=
  if ((s_).length + (([(([] : List (T_gather_Got)).getD t10 default).f_Item] : List (T_api_Item))).length) * 40 ≤ 140737488351232 then
  k_ (s_ ++ ([(([] : List (T_gather_Got)).getD t10 default).f_Item] : List (T_api_Item)))
  else none

def gather_Gather_Newest_2_e0   (s_ : (List (T_api_Item))) : Option ((T_api_Item) × (Bool)) :=
  (item_Newest s_).bind fun yL0_3 =>
  some (yL0_3.1, yL0_3.2)

theorem gather_Gather_Newest_2_w0   (l : List (T_api_Item)) (hN : (([] : List (T_gather_Got))).length < 9223372036854775807) :
    gather_Gather_Newest_2_l0   big 0 l = walkN (gather_Gather_Newest_2_b0  ) (gather_Gather_Newest_2_e0  ) (([] : List (T_gather_Got))).length 0 l := by
  refine loopN (([] : List (T_gather_Got))).length (fun fuel_ t_ s_ => gather_Gather_Newest_2_l0   fuel_ t_ s_) (gather_Gather_Newest_2_b0  ) (gather_Gather_Newest_2_e0  ) (by first | exact hN | (have := hN; simp only [List.length_nil] at this ⊢; omega)) ?_ ?_ l
  · intro fuel_ i_ s_ hi_
    have hg_ : 0 ≤ (i_ : Int) ∧ (i_ : Int) < (((([] : List (T_gather_Got))).length : Nat) : Int) := by omega
    show gather_Gather_Newest_2_l0   (fuel_ + 1) (i_ : Int) s_ = _
    rw [gather_Gather_Newest_2_l0, if_pos (decide_eq_true (by omega))]
    repeat rw [if_pos hg_]
    have hinc_ : IntKind.wrap .i64 ((i_ : Int) + 1) = (((i_ + 1 : Nat)) : Int) := by rw [w64 (by omega) (by omega)]; rfl
    try rw [hinc_]
    first | rfl | (unfold gather_Gather_Newest_2_b0; simp only [hinc_]; done) | (unfold gather_Gather_Newest_2_b0; simp only [hinc_]; rfl)
  · intro fuel_ s_
    show gather_Gather_Newest_2_l0   (fuel_ + 1) (((([] : List (T_gather_Got))).length : Nat) : Int) s_ = _
    rw [gather_Gather_Newest_2_l0, if_neg (by rw [decide_eq_true_eq]; omega)]
    rfl

end
end Go.Proofs.YtffmmflapagkhaaDoor.Wk
