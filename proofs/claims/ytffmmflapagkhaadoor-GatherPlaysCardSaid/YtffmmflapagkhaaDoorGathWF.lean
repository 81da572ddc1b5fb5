/- Printed by tr.py: counting loops as walks over lists and over numbers. -/
import Derived.Test.YtffmmflapagkhaaDoorGathW
import Derived.Test.YtffmmflapagkhaaDoorCnX
namespace Go.Proofs.YtffmmflapagkhaaDoor.Wk
open Go Go.Cn
set_option maxRecDepth 100000
set_option maxHeartbeats 4000000
set_option linter.unusedVariables false
set_option linter.unusedSimpArgs false
noncomputable section
def parrellaw19_far_b0 (y2 : (List (T_parrelref19_Got)))  (t9 : Nat) (s_ : (Int)) (k_ : ((Int)) → Option ((Bool))) : Option ((Bool)) :=
  k_ (IntKind.wrap .i64 (s_ + (if 10000 < (((y2.getD t9 default).f_Item.f_Value).length : Int) then 10000 else (((y2.getD t9 default).f_Item.f_Value).length : Int))))

def parrellaw19_far_e0   (s_ : (Int)) : Option ((Bool)) :=
  some (decide (20000 < s_))

theorem parrellaw19_far_w0 (y2 : (List (T_parrelref19_Got)))  (x_n : Int) (hN : (y2).length < 9223372036854775807) :
    parrellaw19_far_l0 y2  big x_n 0 = walkN (parrellaw19_far_b0 y2 ) (parrellaw19_far_e0  ) (y2).length 0 x_n := by
  refine loopN (y2).length (fun fuel_ t_ s_ => parrellaw19_far_l0 y2  fuel_ s_ t_) (parrellaw19_far_b0 y2 ) (parrellaw19_far_e0  ) (by first | exact hN | (have := hN; simp only [List.length_nil] at this ⊢; omega)) ?_ ?_ x_n
  · intro fuel_ i_ s_ hi_
    have hg_ : 0 ≤ (i_ : Int) ∧ (i_ : Int) < (((y2).length : Nat) : Int) := by omega
    show parrellaw19_far_l0 y2  (fuel_ + 1) s_ (i_ : Int) = _
    rw [parrellaw19_far_l0, if_pos (decide_eq_true (by omega))]
    repeat rw [if_pos hg_]
    have hinc_ : IntKind.wrap .i64 ((i_ : Int) + 1) = (((i_ + 1 : Nat)) : Int) := by rw [w64 (by omega) (by omega)]; rfl
    try rw [hinc_]
    first | rfl | (unfold parrellaw19_far_b0; simp only [hinc_]; done) | (unfold parrellaw19_far_b0; simp only [hinc_]; rfl)
  · intro fuel_ s_
    show parrellaw19_far_l0 y2  (fuel_ + 1) s_ (((y2).length : Nat) : Int) = _
    rw [parrellaw19_far_l0, if_neg (by rw [decide_eq_true_eq]; omega)]
    rfl

def votes_Of_b0 (c : T_api_Config) (set : Int)  (t10 : Nat) (s_ : (Int)) (k_ : ((Int)) → Option ((Int))) : Option ((Int)) :=
  if 0 ≤ (t10 : Int) then
  k_ (IntKind.wrap .i64 (s_ + (IntKind.wrap .i64 ((IntKind.wrap .i64 (A8.get c.f_Votes t10)) * (IntKind.wrap .i64 (IntKind.wrap .u64 ((BitVec.ofInt (IntKind.bits .u64) (Int.fdiv set (2 ^ (min (Int.toNat (t10 : Int)) (IntKind.bits .u64)))) &&& BitVec.ofInt (IntKind.bits .u64) 1).toNat : Int)))))))
  else none

def votes_Of_e0   (s_ : (Int)) : Option ((Int)) :=
  some s_

theorem votes_Of_w0 (c : T_api_Config) (set : Int)  (x_n : Int) (hN : 8 < 9223372036854775807) :
    votes_Of_l0 c set  big x_n 0 = walkN (votes_Of_b0 c set ) (votes_Of_e0  ) 8 0 x_n := by
  refine loopN 8 (fun fuel_ t_ s_ => votes_Of_l0 c set  fuel_ s_ t_) (votes_Of_b0 c set ) (votes_Of_e0  ) (by first | exact hN | (have := hN; simp only [List.length_nil] at this ⊢; omega)) ?_ ?_ x_n
  · intro fuel_ i_ s_ hi_
    have hg_ : 0 ≤ (i_ : Int) ∧ (i_ : Int) < 8 := by omega
    show votes_Of_l0 c set  (fuel_ + 1) s_ (i_ : Int) = _
    rw [votes_Of_l0, if_pos (decide_eq_true (by omega))]
    repeat rw [if_pos hg_]
    have hinc_ : IntKind.wrap .i64 ((i_ : Int) + 1) = (((i_ + 1 : Nat)) : Int) := by rw [w64 (by omega) (by omega)]; rfl
    try rw [hinc_]
    first | rfl | (unfold votes_Of_b0; simp only [hinc_]; done) | (unfold votes_Of_b0; simp only [hinc_]; rfl)
  · intro fuel_ s_
    show votes_Of_l0 c set  (fuel_ + 1) s_ ((8 : Nat) : Int) = _
    rw [votes_Of_l0, if_neg (by rw [decide_eq_true_eq]; omega)]
    rfl

def slices_Max_uint8_uint8_b0 (x : T_api_Config)  (i : Nat) (s_ : (Int)) (k_ : ((Int)) → Option ((Int))) : Option ((Int)) :=
  k_ (if (A8.get x.f_Votes i) > s_ then (A8.get x.f_Votes i) else s_)

def slices_Max_uint8_uint8_e0   (s_ : (Int)) : Option ((Int)) :=
  some s_

theorem slices_Max_uint8_uint8_ws0 (x : T_api_Config)  (m : Int) (st_ : Nat) (hst_ : st_ ≤ 8) (hN : 8 < 9223372036854775807) :
    slices_Max_uint8_uint8_l0 x  big m (st_ : Int) = walkN (slices_Max_uint8_uint8_b0 x ) (slices_Max_uint8_uint8_e0  ) (8 - st_) st_ m := by
  refine loopNs 8 st_ hst_ (fun fuel_ t_ s_ => slices_Max_uint8_uint8_l0 x  fuel_ s_ t_) (slices_Max_uint8_uint8_b0 x ) (slices_Max_uint8_uint8_e0  ) (by first | exact hN | (have := hN; simp only [List.length_nil] at this ⊢; omega)) ?_ ?_ m
  · intro fuel_ i_ s_ hi_
    have hg_ : 0 ≤ (i_ : Int) ∧ (i_ : Int) < 8 := by omega
    show slices_Max_uint8_uint8_l0 x  (fuel_ + 1) s_ (i_ : Int) = _
    rw [slices_Max_uint8_uint8_l0, if_pos (decide_eq_true (by omega))]
    repeat rw [if_pos hg_]
    have hinc_ : IntKind.wrap .i64 ((i_ : Int) + 1) = (((i_ + 1 : Nat)) : Int) := by rw [w64 (by omega) (by omega)]; rfl
    try rw [hinc_]
    first | rfl | (unfold slices_Max_uint8_uint8_b0; simp only [hinc_]; done) | (unfold slices_Max_uint8_uint8_b0; simp only [hinc_]; rfl)
  · intro fuel_ s_
    show slices_Max_uint8_uint8_l0 x  (fuel_ + 1) s_ ((8 : Nat) : Int) = _
    rw [slices_Max_uint8_uint8_l0, if_neg (by rw [decide_eq_true_eq]; omega)]
    rfl

def slices_IndexFunc_api_Config_api_Config_b0 (s : List (T_api_Config))  (t8 : Nat) (s_ : Unit) (k_ : (Unit) → Option ((Int))) : Option ((Int)) :=
  (gather_may_L1 (s.getD t8 default)).bind fun yL0_4 =>
  if (yL0_4 : Bool) then
    some (t8 : Int)
  else
    k_ ()

def slices_IndexFunc_api_Config_api_Config_e0   (s_ : Unit) : Option ((Int)) :=
  some (-1)

theorem slices_IndexFunc_api_Config_api_Config_w0 (s : List (T_api_Config))   (hN : (s).length < 9223372036854775807) :
    slices_IndexFunc_api_Config_api_Config_l0 s  big 0 = walkN (slices_IndexFunc_api_Config_api_Config_b0 s ) (slices_IndexFunc_api_Config_api_Config_e0  ) (s).length 0 () := by
  refine loopN (s).length (fun fuel_ t_ s_ => slices_IndexFunc_api_Config_api_Config_l0 s  fuel_ t_) (slices_IndexFunc_api_Config_api_Config_b0 s ) (slices_IndexFunc_api_Config_api_Config_e0  ) (by first | exact hN | (have := hN; simp only [List.length_nil] at this ⊢; omega)) ?_ ?_ ()
  · intro fuel_ i_ s_ hi_
    have hg_ : 0 ≤ (i_ : Int) ∧ (i_ : Int) < (((s).length : Nat) : Int) := by omega
    show slices_IndexFunc_api_Config_api_Config_l0 s  (fuel_ + 1) (i_ : Int) = _
    rw [slices_IndexFunc_api_Config_api_Config_l0, if_pos (decide_eq_true (by omega))]
    repeat rw [if_pos hg_]
    have hinc_ : IntKind.wrap .i64 ((i_ : Int) + 1) = (((i_ + 1 : Nat)) : Int) := by rw [w64 (by omega) (by omega)]; rfl
    try rw [hinc_]
    first | rfl | (unfold slices_IndexFunc_api_Config_api_Config_b0; simp only [hinc_]; done) | (unfold slices_IndexFunc_api_Config_api_Config_b0; simp only [hinc_]; rfl)
  · intro fuel_ s_
    show slices_IndexFunc_api_Config_api_Config_l0 s  (fuel_ + 1) (((s).length : Nat) : Int) = _
    rw [slices_IndexFunc_api_Config_api_Config_l0, if_neg (by rw [decide_eq_true_eq]; omega)]
    rfl

def slices_IndexFunc_api_Config_api_Config_2_b0 (s : List (T_api_Config)) (x : T_gather_Gather)  (t8 : Nat) (s_ : Unit) (k_ : (Unit) → Option ((Int))) : Option ((Int)) :=
  (gather_Gather_Enough_L1 (s.getD t8 default) x).bind fun yL0_4 =>
  if (yL0_4 : Bool) then
    some (t8 : Int)
  else
    k_ ()

def slices_IndexFunc_api_Config_api_Config_2_e0   (s_ : Unit) : Option ((Int)) :=
  some (-1)

theorem slices_IndexFunc_api_Config_api_Config_2_w0 (s : List (T_api_Config)) (x : T_gather_Gather)   (hN : (s).length < 9223372036854775807) :
    slices_IndexFunc_api_Config_api_Config_2_l0 s x  big 0 = walkN (slices_IndexFunc_api_Config_api_Config_2_b0 s x ) (slices_IndexFunc_api_Config_api_Config_2_e0  ) (s).length 0 () := by
  refine loopN (s).length (fun fuel_ t_ s_ => slices_IndexFunc_api_Config_api_Config_2_l0 s x  fuel_ t_) (slices_IndexFunc_api_Config_api_Config_2_b0 s x ) (slices_IndexFunc_api_Config_api_Config_2_e0  ) (by first | exact hN | (have := hN; simp only [List.length_nil] at this ⊢; omega)) ?_ ?_ ()
  · intro fuel_ i_ s_ hi_
    have hg_ : 0 ≤ (i_ : Int) ∧ (i_ : Int) < (((s).length : Nat) : Int) := by omega
    show slices_IndexFunc_api_Config_api_Config_2_l0 s x  (fuel_ + 1) (i_ : Int) = _
    rw [slices_IndexFunc_api_Config_api_Config_2_l0, if_pos (decide_eq_true (by omega))]
    repeat rw [if_pos hg_]
    have hinc_ : IntKind.wrap .i64 ((i_ : Int) + 1) = (((i_ + 1 : Nat)) : Int) := by rw [w64 (by omega) (by omega)]; rfl
    try rw [hinc_]
    first | rfl | (unfold slices_IndexFunc_api_Config_api_Config_2_b0; simp only [hinc_]; done) | (unfold slices_IndexFunc_api_Config_api_Config_2_b0; simp only [hinc_]; rfl)
  · intro fuel_ s_
    show slices_IndexFunc_api_Config_api_Config_2_l0 s x  (fuel_ + 1) (((s).length : Nat) : Int) = _
    rw [slices_IndexFunc_api_Config_api_Config_2_l0, if_neg (by rw [decide_eq_true_eq]; omega)]
    rfl

def gather_Gather_All_b0 (g : T_gather_Gather)  (t15 : Nat) (s_ : (List (T_gather_Got))) (k_ : ((List (T_gather_Got))) → Option ((List (T_gather_Got)))) : Option ((List (T_gather_Got))) :=
  if 0 ≤ ((bitsL g.f_nodes).getD t15 default) ∧ ((bitsL g.f_nodes).getD t15 default) < 8 then
  if ((s_).length + (([(A8.get g.f_grants (((bitsL g.f_nodes).getD t15 default)).toNat)] : List (T_gather_Got))).length) * 56 ≤ 140737488351232 then
  k_ (s_ ++ ([(A8.get g.f_grants (((bitsL g.f_nodes).getD t15 default)).toNat)] : List (T_gather_Got)))
  else none
  else none

def gather_Gather_All_e0   (s_ : (List (T_gather_Got))) : Option ((List (T_gather_Got))) :=
  some s_

theorem gather_Gather_All_w0 (g : T_gather_Gather)  (l : List (T_gather_Got)) (hN : ((bitsL g.f_nodes)).length < 9223372036854775807) :
    gather_Gather_All_l0 g  big 0 l = walkN (gather_Gather_All_b0 g ) (gather_Gather_All_e0  ) ((bitsL g.f_nodes)).length 0 l := by
  refine loopN ((bitsL g.f_nodes)).length (fun fuel_ t_ s_ => gather_Gather_All_l0 g  fuel_ t_ s_) (gather_Gather_All_b0 g ) (gather_Gather_All_e0  ) (by first | exact hN | (have := hN; simp only [List.length_nil] at this ⊢; omega)) ?_ ?_ l
  · intro fuel_ i_ s_ hi_
    have hg_ : 0 ≤ (i_ : Int) ∧ (i_ : Int) < ((((bitsL g.f_nodes)).length : Nat) : Int) := by omega
    show gather_Gather_All_l0 g  (fuel_ + 1) (i_ : Int) s_ = _
    rw [gather_Gather_All_l0, if_pos (decide_eq_true (by omega))]
    repeat rw [if_pos hg_]
    have hinc_ : IntKind.wrap .i64 ((i_ : Int) + 1) = (((i_ + 1 : Nat)) : Int) := by rw [w64 (by omega) (by omega)]; rfl
    try rw [hinc_]
    first | rfl | (unfold gather_Gather_All_b0; simp only [hinc_]; done) | (unfold gather_Gather_All_b0; simp only [hinc_]; rfl)
  · intro fuel_ s_
    show gather_Gather_All_l0 g  (fuel_ + 1) ((((bitsL g.f_nodes)).length : Nat) : Int) s_ = _
    rw [gather_Gather_All_l0, if_neg (by rw [decide_eq_true_eq]; omega)]
    rfl

def item_Newest_b0   (a_ : T_api_Item) (s_ : (Int) × (List UInt8) × (T_api_Config)) (k_ : ((Int) × (List UInt8) × (T_api_Config)) → Option ((T_api_Item) × (Bool))) : Option ((T_api_Item) × (Bool)) :=
  if ((decide (s_.1 < a_.f_Version)) : Bool) then
    k_ (a_.f_Version, a_.f_Value, a_.f_Conf)
  else
    k_ (s_.1, s_.2.1, s_.2.2)

def item_Newest_e0   (s_ : (Int) × (List UInt8) × (T_api_Config)) : Option ((T_api_Item) × (Bool)) :=
  some ((T_api_Item.mk s_.1 s_.2.1 s_.2.2), true)

theorem item_Newest_w0 (l : List (T_api_Item))  (Version : Int) (Value : List UInt8) (Epoch : T_api_Config) (hN : ((l.drop 1)).length < 9223372036854775807) :
    item_Newest_l0 l  big 0 Version Value Epoch = walkL (item_Newest_b0  ) (item_Newest_e0  ) (l.drop 1) (Version, Value, Epoch) := by
  refine loopL (l.drop 1) (fun fuel_ t_ s_ => item_Newest_l0 l  fuel_ t_ s_.1 s_.2.1 s_.2.2) (item_Newest_b0  ) (item_Newest_e0  ) (by first | exact hN | (have := hN; simp only [List.length_nil] at this ⊢; omega)) ?_ ?_ (Version, Value, Epoch)
  · intro fuel_ i_ s_ hi_
    have hg_ : 0 ≤ (i_ : Int) ∧ (i_ : Int) < ((((l.drop 1)).length : Nat) : Int) := by omega
    show item_Newest_l0 l  (fuel_ + 1) (i_ : Int) s_.1 s_.2.1 s_.2.2 = _
    rw [item_Newest_l0, if_pos (decide_eq_true (by omega))]
    repeat rw [if_pos hg_]
    have hinc_ : IntKind.wrap .i64 ((i_ : Int) + 1) = (((i_ + 1 : Nat)) : Int) := by rw [w64 (by omega) (by omega)]; rfl
    try rw [hinc_]
    first | rfl | (unfold item_Newest_b0; simp only [hinc_]; done) | (unfold item_Newest_b0; simp only [hinc_]; rfl)
  · intro fuel_ s_
    show item_Newest_l0 l  (fuel_ + 1) ((((l.drop 1)).length : Nat) : Int) s_.1 s_.2.1 s_.2.2 = _
    rw [item_Newest_l0, if_neg (by rw [decide_eq_true_eq]; omega)]
    rfl

def gather_Gather_Newest_b0 (y2 : (List (T_gather_Got)))  (t10 : Nat) (s_ : (List (T_api_Item))) (k_ : ((List (T_api_Item))) → Option ((T_api_Item) × (Bool))) : Option ((T_api_Item) × (Bool)) :=
  if ((s_).length + (([(y2.getD t10 default).f_Item] : List (T_api_Item))).length) * 40 ≤ 140737488351232 then
  k_ (s_ ++ ([(y2.getD t10 default).f_Item] : List (T_api_Item)))
  else none

def gather_Gather_Newest_e0   (s_ : (List (T_api_Item))) : Option ((T_api_Item) × (Bool)) :=
  (item_Newest s_).bind fun yL0_3 =>
  some (yL0_3.1, yL0_3.2)

theorem gather_Gather_Newest_w0 (g : T_gather_Gather) (y2 : (List (T_gather_Got)))  (l : List (T_api_Item)) (hN : (y2).length < 9223372036854775807) :
    gather_Gather_Newest_l0 g y2  big 0 l = walkN (gather_Gather_Newest_b0 y2 ) (gather_Gather_Newest_e0  ) (y2).length 0 l := by
  refine loopN (y2).length (fun fuel_ t_ s_ => gather_Gather_Newest_l0 g y2  fuel_ t_ s_) (gather_Gather_Newest_b0 y2 ) (gather_Gather_Newest_e0  ) (by first | exact hN | (have := hN; simp only [List.length_nil] at this ⊢; omega)) ?_ ?_ l
  · intro fuel_ i_ s_ hi_
    have hg_ : 0 ≤ (i_ : Int) ∧ (i_ : Int) < (((y2).length : Nat) : Int) := by omega
    show gather_Gather_Newest_l0 g y2  (fuel_ + 1) (i_ : Int) s_ = _
    rw [gather_Gather_Newest_l0, if_pos (decide_eq_true (by omega))]
    repeat rw [if_pos hg_]
    have hinc_ : IntKind.wrap .i64 ((i_ : Int) + 1) = (((i_ + 1 : Nat)) : Int) := by rw [w64 (by omega) (by omega)]; rfl
    try rw [hinc_]
    first | rfl | (unfold gather_Gather_Newest_b0; simp only [hinc_]; done) | (unfold gather_Gather_Newest_b0; simp only [hinc_]; rfl)
  · intro fuel_ s_
    show gather_Gather_Newest_l0 g y2  (fuel_ + 1) (((y2).length : Nat) : Int) s_ = _
    rw [gather_Gather_Newest_l0, if_neg (by rw [decide_eq_true_eq]; omega)]
    rfl

def votes_Voters_b0 (c : T_api_Config)  (t8 : Nat) (s_ : (Int)) (k_ : ((Int)) → Option ((Int))) : Option ((Int)) :=
  if ((decide (0 < (A8.get c.f_Votes t8))) : Bool) then
    if 0 ≤ (t8 : Int) then
    k_ (IntKind.wrap .u64 ((BitVec.ofInt (IntKind.bits .u64) s_ ||| BitVec.ofInt (IntKind.bits .u64) (IntKind.wrap .u64 (1 * 2 ^ (min (Int.toNat (t8 : Int)) (IntKind.bits .u64))))).toNat : Int))
    else none
  else
    k_ s_

def votes_Voters_e0   (s_ : (Int)) : Option ((Int)) :=
  some s_

theorem votes_Voters_w0 (c : T_api_Config)  (set : Int) (hN : 8 < 9223372036854775807) :
    votes_Voters_l0 c  big set 0 = walkN (votes_Voters_b0 c ) (votes_Voters_e0  ) 8 0 set := by
  refine loopN 8 (fun fuel_ t_ s_ => votes_Voters_l0 c  fuel_ s_ t_) (votes_Voters_b0 c ) (votes_Voters_e0  ) (by first | exact hN | (have := hN; simp only [List.length_nil] at this ⊢; omega)) ?_ ?_ set
  · intro fuel_ i_ s_ hi_
    have hg_ : 0 ≤ (i_ : Int) ∧ (i_ : Int) < 8 := by omega
    show votes_Voters_l0 c  (fuel_ + 1) s_ (i_ : Int) = _
    rw [votes_Voters_l0, if_pos (decide_eq_true (by omega))]
    repeat rw [if_pos hg_]
    have hinc_ : IntKind.wrap .i64 ((i_ : Int) + 1) = (((i_ + 1 : Nat)) : Int) := by rw [w64 (by omega) (by omega)]; rfl
    try rw [hinc_]
    first | rfl | (unfold votes_Voters_b0; simp only [hinc_]; done) | (unfold votes_Voters_b0; simp only [hinc_]; rfl)
  · intro fuel_ s_
    show votes_Voters_l0 c  (fuel_ + 1) s_ ((8 : Nat) : Int) = _
    rw [votes_Voters_l0, if_neg (by rw [decide_eq_true_eq]; omega)]
    rfl

def gather_Gather_Ask_b1 (g : T_gather_Gather) (set : Int)  (t39 : Nat) (s_ : (List (Int))) (k_ : ((List (Int))) → Option ((List (Int)))) : Option ((List (Int))) :=
  if ((s_).length + (([(IntKind.wrap .u8 ((bitsL (IntKind.wrap .u64 ((BitVec.ofInt (IntKind.bits .u64) set &&& ~~~ BitVec.ofInt (IntKind.bits .u64) g.f_nodes).toNat : Int))).getD t39 default))] : List (Int))).length) * 1 ≤ 140737488351232 then
  k_ (s_ ++ ([(IntKind.wrap .u8 ((bitsL (IntKind.wrap .u64 ((BitVec.ofInt (IntKind.bits .u64) set &&& ~~~ BitVec.ofInt (IntKind.bits .u64) g.f_nodes).toNat : Int))).getD t39 default))] : List (Int)))
  else none

def gather_Gather_Ask_e1   (s_ : (List (Int))) : Option ((List (Int))) :=
  some s_

theorem gather_Gather_Ask_w1 (g : T_gather_Gather) (set : Int)  (l : List (Int)) (hN : ((bitsL (IntKind.wrap .u64 ((BitVec.ofInt (IntKind.bits .u64) set &&& ~~~ BitVec.ofInt (IntKind.bits .u64) g.f_nodes).toNat : Int)))).length < 9223372036854775807) :
    gather_Gather_Ask_l1 g set  big 0 l = walkN (gather_Gather_Ask_b1 g set ) (gather_Gather_Ask_e1  ) ((bitsL (IntKind.wrap .u64 ((BitVec.ofInt (IntKind.bits .u64) set &&& ~~~ BitVec.ofInt (IntKind.bits .u64) g.f_nodes).toNat : Int)))).length 0 l := by
  refine loopN ((bitsL (IntKind.wrap .u64 ((BitVec.ofInt (IntKind.bits .u64) set &&& ~~~ BitVec.ofInt (IntKind.bits .u64) g.f_nodes).toNat : Int)))).length (fun fuel_ t_ s_ => gather_Gather_Ask_l1 g set  fuel_ t_ s_) (gather_Gather_Ask_b1 g set ) (gather_Gather_Ask_e1  ) (by first | exact hN | (have := hN; simp only [List.length_nil] at this ⊢; omega)) ?_ ?_ l
  · intro fuel_ i_ s_ hi_
    have hg_ : 0 ≤ (i_ : Int) ∧ (i_ : Int) < ((((bitsL (IntKind.wrap .u64 ((BitVec.ofInt (IntKind.bits .u64) set &&& ~~~ BitVec.ofInt (IntKind.bits .u64) g.f_nodes).toNat : Int)))).length : Nat) : Int) := by omega
    show gather_Gather_Ask_l1 g set  (fuel_ + 1) (i_ : Int) s_ = _
    rw [gather_Gather_Ask_l1, if_pos (decide_eq_true (by omega))]
    repeat rw [if_pos hg_]
    have hinc_ : IntKind.wrap .i64 ((i_ : Int) + 1) = (((i_ + 1 : Nat)) : Int) := by rw [w64 (by omega) (by omega)]; rfl
    try rw [hinc_]
    first | rfl | (unfold gather_Gather_Ask_b1; simp only [hinc_]; done) | (unfold gather_Gather_Ask_b1; simp only [hinc_]; rfl)
  · intro fuel_ s_
    show gather_Gather_Ask_l1 g set  (fuel_ + 1) ((((bitsL (IntKind.wrap .u64 ((BitVec.ofInt (IntKind.bits .u64) set &&& ~~~ BitVec.ofInt (IntKind.bits .u64) g.f_nodes).toNat : Int)))).length : Nat) : Int) s_ = _
    rw [gather_Gather_Ask_l1, if_neg (by rw [decide_eq_true_eq]; omega)]
    rfl

def gather_Gather_Ask_b0   (a_ : T_api_Config) (s_ : (Int)) (k_ : ((Int)) → Option ((List (Int)))) : Option ((List (Int))) :=
  (votes_Voters a_).bind fun yL0_4 =>
  k_ (IntKind.wrap .u64 ((BitVec.ofInt (IntKind.bits .u64) s_ ||| BitVec.ofInt (IntKind.bits .u64) yL0_4).toNat : Int))

def gather_Gather_Ask_e0 (g : T_gather_Gather)  (s_ : (Int)) : Option ((List (Int))) :=
  if 0 ≤ (IntKind.wrap .u64 ((BitVec.ofInt (IntKind.bits .u64) s_ &&& ~~~ BitVec.ofInt (IntKind.bits .u64) g.f_nodes).toNat : Int)) ∧ (IntKind.wrap .u64 ((BitVec.ofInt (IntKind.bits .u64) s_ &&& ~~~ BitVec.ofInt (IntKind.bits .u64) g.f_nodes).toNat : Int)) < 18446744073709551616 then
  gather_Gather_Ask_l1 g s_  big 0 ([] : List (Int))
  else none

theorem gather_Gather_Ask_w0 (g : T_gather_Gather)  (set : Int) (hN : (g.f_more).length < 9223372036854775807) :
    gather_Gather_Ask_l0 g  big set 0 = walkL (gather_Gather_Ask_b0  ) (gather_Gather_Ask_e0 g ) g.f_more set := by
  refine loopL g.f_more (fun fuel_ t_ s_ => gather_Gather_Ask_l0 g  fuel_ s_ t_) (gather_Gather_Ask_b0  ) (gather_Gather_Ask_e0 g ) (by first | exact hN | (have := hN; simp only [List.length_nil] at this ⊢; omega)) ?_ ?_ set
  · intro fuel_ i_ s_ hi_
    have hg_ : 0 ≤ (i_ : Int) ∧ (i_ : Int) < (((g.f_more).length : Nat) : Int) := by omega
    show gather_Gather_Ask_l0 g  (fuel_ + 1) s_ (i_ : Int) = _
    rw [gather_Gather_Ask_l0, if_pos (decide_eq_true (by omega))]
    repeat rw [if_pos hg_]
    have hinc_ : IntKind.wrap .i64 ((i_ : Int) + 1) = (((i_ + 1 : Nat)) : Int) := by rw [w64 (by omega) (by omega)]; rfl
    try rw [hinc_]
    first | rfl | (unfold gather_Gather_Ask_b0; simp only [hinc_]; done) | (unfold gather_Gather_Ask_b0; simp only [hinc_]; rfl)
  · intro fuel_ s_
    show gather_Gather_Ask_l0 g  (fuel_ + 1) s_ (((g.f_more).length : Nat) : Int) = _
    rw [gather_Gather_Ask_l0, if_neg (by rw [decide_eq_true_eq]; omega)]
    rfl

def parrelref05_Name_b1 (x_k : A8 (Int))  (i : Nat) (s_ : Unit) (k_ : (Unit) → Option ((List UInt8) × (Bool))) : Option ((List UInt8) × (Bool)) :=
  if (((A8.get x_k i) != 0) : Bool) then
    some ([], false)
  else
    k_ ()

def parrelref05_Name_e1 (x_k : A8 (Int)) (x_n : Int)  (s_ : Unit) : Option ((List UInt8) × (Bool)) :=
  if ((x_n == 0) : Bool) then
    some ([], false)
  else
    if 0 ≤ (0 : Int) ∧ 0 ≤ x_n ∧ x_n ≤ 8 then
    some ((strI (([x_k.a0, x_k.a1, x_k.a2, x_k.a3, x_k.a4, x_k.a5, x_k.a6, x_k.a7] : List Int).take (x_n.toNat))), true)
    else none

theorem parrelref05_Name_ws1 (x_k : A8 (Int)) (x_n : Int)   (st_ : Nat) (hst_ : st_ ≤ 8) (hN : 8 < 9223372036854775807) :
    parrelref05_Name_l1 x_k x_n  big (st_ : Int) = walkN (parrelref05_Name_b1 x_k ) (parrelref05_Name_e1 x_k x_n ) (8 - st_) st_ () := by
  refine loopNs 8 st_ hst_ (fun fuel_ t_ s_ => parrelref05_Name_l1 x_k x_n  fuel_ t_) (parrelref05_Name_b1 x_k ) (parrelref05_Name_e1 x_k x_n ) (by first | exact hN | (have := hN; simp only [List.length_nil] at this ⊢; omega)) ?_ ?_ ()
  · intro fuel_ i_ s_ hi_
    have hg_ : 0 ≤ (i_ : Int) ∧ (i_ : Int) < 8 := by omega
    show parrelref05_Name_l1 x_k x_n  (fuel_ + 1) (i_ : Int) = _
    rw [parrelref05_Name_l1, if_pos (decide_eq_true (by omega))]
    repeat rw [if_pos hg_]
    have hinc_ : IntKind.wrap .i64 ((i_ : Int) + 1) = (((i_ + 1 : Nat)) : Int) := by rw [w64 (by omega) (by omega)]; rfl
    try rw [hinc_]
    first | rfl | (unfold parrelref05_Name_b1; simp only [hinc_]; done) | (unfold parrelref05_Name_b1; simp only [hinc_]; rfl)
  · intro fuel_ s_
    show parrelref05_Name_l1 x_k x_n  (fuel_ + 1) ((8 : Nat) : Int) = _
    rw [parrelref05_Name_l1, if_neg (by rw [decide_eq_true_eq]; omega)]
    rfl

def parrelref05_Name_b0 (x_k : A8 (Int))  (x_n : Nat) (s_ : Unit) (k_ : (Unit) → Option ((List UInt8) × (Bool))) : Option ((List UInt8) × (Bool)) :=
  if (((A8.get x_k x_n) != 0) : Bool) then
    k_ ()
  else
    parrelref05_Name_l1 x_k (x_n : Int)  big (x_n : Int)

def parrelref05_Name_e0 (x_k : A8 (Int))  (s_ : Unit) : Option ((List UInt8) × (Bool)) :=
  parrelref05_Name_l1 x_k ((8 : Nat) : Int)  big ((8 : Nat) : Int)

theorem parrelref05_Name_w0 (x_k : A8 (Int))   (hN : 8 < 9223372036854775807) :
    parrelref05_Name_l0 x_k  big 0 = walkN (parrelref05_Name_b0 x_k ) (parrelref05_Name_e0 x_k ) 8 0 () := by
  refine loopN 8 (fun fuel_ t_ s_ => parrelref05_Name_l0 x_k  fuel_ t_) (parrelref05_Name_b0 x_k ) (parrelref05_Name_e0 x_k ) (by first | exact hN | (have := hN; simp only [List.length_nil] at this ⊢; omega)) ?_ ?_ ()
  · intro fuel_ i_ s_ hi_
    have hg_ : 0 ≤ (i_ : Int) ∧ (i_ : Int) < 8 := by omega
    show parrelref05_Name_l0 x_k  (fuel_ + 1) (i_ : Int) = _
    rw [parrelref05_Name_l0, if_pos (decide_eq_true (by omega))]
    repeat rw [if_pos hg_]
    have hinc_ : IntKind.wrap .i64 ((i_ : Int) + 1) = (((i_ + 1 : Nat)) : Int) := by rw [w64 (by omega) (by omega)]; rfl
    try rw [hinc_]
    first | rfl | (unfold parrelref05_Name_b0; simp only [hinc_]; done) | (unfold parrelref05_Name_b0; simp only [hinc_]; rfl)
  · intro fuel_ s_
    show parrelref05_Name_l0 x_k  (fuel_ + 1) ((8 : Nat) : Int) = _
    rw [parrelref05_Name_l0, if_neg (by rw [decide_eq_true_eq]; omega)]
    rfl

def parrelref06_Total_b0 (c : T_api_Config)  (i : Nat) (s_ : (Int)) (k_ : ((Int)) → Option ((Int))) : Option ((Int)) :=
  k_ (IntKind.wrap .i64 (s_ + (IntKind.wrap .i64 (A8.get c.f_Votes i))))

def parrelref06_Total_e0   (s_ : (Int)) : Option ((Int)) :=
  some s_

theorem parrelref06_Total_w0 (c : T_api_Config)  (x_n : Int) (hN : 8 < 9223372036854775807) :
    parrelref06_Total_l0 c  big x_n 0 = walkN (parrelref06_Total_b0 c ) (parrelref06_Total_e0  ) 8 0 x_n := by
  refine loopN 8 (fun fuel_ t_ s_ => parrelref06_Total_l0 c  fuel_ s_ t_) (parrelref06_Total_b0 c ) (parrelref06_Total_e0  ) (by first | exact hN | (have := hN; simp only [List.length_nil] at this ⊢; omega)) ?_ ?_ x_n
  · intro fuel_ i_ s_ hi_
    have hg_ : 0 ≤ (i_ : Int) ∧ (i_ : Int) < 8 := by omega
    show parrelref06_Total_l0 c  (fuel_ + 1) s_ (i_ : Int) = _
    rw [parrelref06_Total_l0, if_pos (decide_eq_true (by omega))]
    repeat rw [if_pos hg_]
    have hinc_ : IntKind.wrap .i64 ((i_ : Int) + 1) = (((i_ + 1 : Nat)) : Int) := by rw [w64 (by omega) (by omega)]; rfl
    try rw [hinc_]
    first | rfl | (unfold parrelref06_Total_b0; simp only [hinc_]; done) | (unfold parrelref06_Total_b0; simp only [hinc_]; rfl)
  · intro fuel_ s_
    show parrelref06_Total_l0 c  (fuel_ + 1) s_ ((8 : Nat) : Int) = _
    rw [parrelref06_Total_l0, if_neg (by rw [decide_eq_true_eq]; omega)]
    rfl

def parrelref06_May_b0 (c : T_api_Config)  (i : Nat) (s_ : Unit) (k_ : (Unit) → Option ((Bool))) : Option ((Bool)) :=
  if ((decide (15 < (A8.get c.f_Votes i))) : Bool) then
    some false
  else
    k_ ()

def parrelref06_May_e0 (c : T_api_Config) (y2 : (Int))  (s_ : Unit) : Option ((Bool)) :=
  if ((decide (1 ≤ c.f_Epoch)) : Bool) then
    if ((decide (c.f_Epoch ≤ 2147483647)) : Bool) then
      if ((decide (1 ≤ (IntKind.wrap .i64 c.f_R))) : Bool) then
        if ((decide (1 ≤ (IntKind.wrap .i64 c.f_W))) : Bool) then
          if ((decide ((IntKind.wrap .i64 c.f_R) ≤ y2)) : Bool) then
            if ((decide ((IntKind.wrap .i64 c.f_W) ≤ y2)) : Bool) then
              if ((decide (y2 < (IntKind.wrap .i64 ((IntKind.wrap .i64 c.f_R) + (IntKind.wrap .i64 c.f_W))))) : Bool) then
                some (decide (y2 < (IntKind.wrap .i64 (2 * (IntKind.wrap .i64 c.f_W)))))
              else
                some false
            else
              some false
          else
            some false
        else
          some false
      else
        some false
    else
      some false
  else
    some false

theorem parrelref06_May_w0 (c : T_api_Config) (y2 : (Int))   (hN : 8 < 9223372036854775807) :
    parrelref06_May_l0 c y2  big 0 = walkN (parrelref06_May_b0 c ) (parrelref06_May_e0 c y2 ) 8 0 () := by
  refine loopN 8 (fun fuel_ t_ s_ => parrelref06_May_l0 c y2  fuel_ t_) (parrelref06_May_b0 c ) (parrelref06_May_e0 c y2 ) (by first | exact hN | (have := hN; simp only [List.length_nil] at this ⊢; omega)) ?_ ?_ ()
  · intro fuel_ i_ s_ hi_
    have hg_ : 0 ≤ (i_ : Int) ∧ (i_ : Int) < 8 := by omega
    show parrelref06_May_l0 c y2  (fuel_ + 1) (i_ : Int) = _
    rw [parrelref06_May_l0, if_pos (decide_eq_true (by omega))]
    repeat rw [if_pos hg_]
    have hinc_ : IntKind.wrap .i64 ((i_ : Int) + 1) = (((i_ + 1 : Nat)) : Int) := by rw [w64 (by omega) (by omega)]; rfl
    try rw [hinc_]
    first | rfl | (unfold parrelref06_May_b0; simp only [hinc_]; done) | (unfold parrelref06_May_b0; simp only [hinc_]; rfl)
  · intro fuel_ s_
    show parrelref06_May_l0 c y2  (fuel_ + 1) ((8 : Nat) : Int) = _
    rw [parrelref06_May_l0, if_neg (by rw [decide_eq_true_eq]; omega)]
    rfl

def parrelref19_New_b0   (a_ : T_api_Config) (s_ : Unit) (k_ : (Unit) → Option ((T_parrelref19_Gather) × (Int))) : Option ((T_parrelref19_Gather) × (Int)) :=
  (parrelref06_May a_).bind fun yL0_4 =>
  if ((!yL0_4) : Bool) then
    some ((T_parrelref19_Gather.mk 0 (T_api_Config.mk 0 0 0 (A8.mk 0 0 0 0 0 0 0 0)) ([] : List (T_api_Config)) ([] : List (T_parrelref19_Got))), 1)
  else
    k_ ()

def parrelref19_New_e0 (mode : Int) (c : T_api_Config) (more : List (T_api_Config))  (s_ : Unit) : Option ((T_parrelref19_Gather) × (Int)) :=
  if (0 + (more).length) * 16 ≤ 140737488351232 then
  some ((T_parrelref19_Gather.mk mode c more ([] : List (T_parrelref19_Got))), 0)
  else none

theorem parrelref19_New_w0 (mode : Int) (c : T_api_Config) (more : List (T_api_Config))   (hN : (more).length < 9223372036854775807) :
    parrelref19_New_l0 mode c more  big 0 = walkL (parrelref19_New_b0  ) (parrelref19_New_e0 mode c more ) more () := by
  refine loopL more (fun fuel_ t_ s_ => parrelref19_New_l0 mode c more  fuel_ t_) (parrelref19_New_b0  ) (parrelref19_New_e0 mode c more ) (by first | exact hN | (have := hN; simp only [List.length_nil] at this ⊢; omega)) ?_ ?_ ()
  · intro fuel_ i_ s_ hi_
    have hg_ : 0 ≤ (i_ : Int) ∧ (i_ : Int) < (((more).length : Nat) : Int) := by omega
    show parrelref19_New_l0 mode c more  (fuel_ + 1) (i_ : Int) = _
    rw [parrelref19_New_l0, if_pos (decide_eq_true (by omega))]
    repeat rw [if_pos hg_]
    have hinc_ : IntKind.wrap .i64 ((i_ : Int) + 1) = (((i_ + 1 : Nat)) : Int) := by rw [w64 (by omega) (by omega)]; rfl
    try rw [hinc_]
    first | rfl | (unfold parrelref19_New_b0; simp only [hinc_]; done) | (unfold parrelref19_New_b0; simp only [hinc_]; rfl)
  · intro fuel_ s_
    show parrelref19_New_l0 mode c more  (fuel_ + 1) (((more).length : Nat) : Int) = _
    rw [parrelref19_New_l0, if_neg (by rw [decide_eq_true_eq]; omega)]
    rfl

def parrelref19_Gather_Grant_b0 (g : T_parrelref19_Gather) (x : T_parrelref19_Got)  (i : Nat) (s_ : Unit) (k_ : (Unit) → Option ((Int) × (Int) × (T_api_Config) × (List (T_api_Config)) × (List (T_parrelref19_Got)))) : Option ((Int) × (Int) × (T_api_Config) × (List (T_api_Config)) × (List (T_parrelref19_Got))) :=
  if ((decide ((g.f_L.getD i default).f_Node < x.f_Node)) : Bool) then
    k_ ()
  else
    if ((decide ((i : Int) < ((g.f_L).length : Int))) : Bool) then
      if (((g.f_L.getD i default).f_Node == x.f_Node) : Bool) then
        if ((decide ((g.f_L.getD i default).f_Reg = x.f_Reg)) : Bool) then
          some (7, g.f_Mode, g.f_Conf, g.f_More, g.f_L)
        else
          some (14, g.f_Mode, g.f_Conf, g.f_More, g.f_L)
      else
        if 0 ≤ (0 : Int) ∧ 0 ≤ (i : Int) ∧ (i : Int) ≤ (((g.f_L).length : Nat) : Int) then
        if (0 + ((g.f_L.take i)).length) * 56 ≤ 140737488351232 then
        if (((g.f_L.take i)).length + (([x] : List (T_parrelref19_Got))).length) * 56 ≤ 140737488351232 then
        if 0 ≤ (i : Int) ∧ (i : Int) ≤ (((g.f_L).length : Nat) : Int) ∧ (((g.f_L).length : Nat) : Int) ≤ (((g.f_L).length : Nat) : Int) then
        if ((((g.f_L.take i) ++ ([x] : List (T_parrelref19_Got)))).length + ((g.f_L.drop i)).length) * 56 ≤ 140737488351232 then
        if ((decide (g.f_Conf.f_Epoch < x.f_Item.f_Conf.f_Epoch)) : Bool) then
          some (0, g.f_Mode, x.f_Item.f_Conf, g.f_More, (((g.f_L.take i) ++ ([x] : List (T_parrelref19_Got))) ++ (g.f_L.drop i)))
        else
          some (0, g.f_Mode, g.f_Conf, g.f_More, (((g.f_L.take i) ++ ([x] : List (T_parrelref19_Got))) ++ (g.f_L.drop i)))
        else none
        else none
        else none
        else none
        else none
    else
      if 0 ≤ (0 : Int) ∧ 0 ≤ (i : Int) ∧ (i : Int) ≤ (((g.f_L).length : Nat) : Int) then
      if (0 + ((g.f_L.take i)).length) * 56 ≤ 140737488351232 then
      if (((g.f_L.take i)).length + (([x] : List (T_parrelref19_Got))).length) * 56 ≤ 140737488351232 then
      if 0 ≤ (i : Int) ∧ (i : Int) ≤ (((g.f_L).length : Nat) : Int) ∧ (((g.f_L).length : Nat) : Int) ≤ (((g.f_L).length : Nat) : Int) then
      if ((((g.f_L.take i) ++ ([x] : List (T_parrelref19_Got)))).length + ((g.f_L.drop i)).length) * 56 ≤ 140737488351232 then
      if ((decide (g.f_Conf.f_Epoch < x.f_Item.f_Conf.f_Epoch)) : Bool) then
        some (0, g.f_Mode, x.f_Item.f_Conf, g.f_More, (((g.f_L.take i) ++ ([x] : List (T_parrelref19_Got))) ++ (g.f_L.drop i)))
      else
        some (0, g.f_Mode, g.f_Conf, g.f_More, (((g.f_L.take i) ++ ([x] : List (T_parrelref19_Got))) ++ (g.f_L.drop i)))
      else none
      else none
      else none
      else none
      else none

def parrelref19_Gather_Grant_e0 (g : T_parrelref19_Gather) (x : T_parrelref19_Got)  (s_ : Unit) : Option ((Int) × (Int) × (T_api_Config) × (List (T_api_Config)) × (List (T_parrelref19_Got))) :=
  if ((decide ((((g.f_L).length : Nat) : Int) < ((g.f_L).length : Int))) : Bool) then
    if 0 ≤ (((g.f_L).length : Nat) : Int) ∧ (((g.f_L).length : Nat) : Int) < (((g.f_L).length : Nat) : Int) then
    if (((g.f_L.getD (((g.f_L).length : Nat) : Int).toNat default).f_Node == x.f_Node) : Bool) then
      if ((decide ((g.f_L.getD (((g.f_L).length : Nat) : Int).toNat default).f_Reg = x.f_Reg)) : Bool) then
        some (7, g.f_Mode, g.f_Conf, g.f_More, g.f_L)
      else
        some (14, g.f_Mode, g.f_Conf, g.f_More, g.f_L)
    else
      if 0 ≤ (0 : Int) ∧ 0 ≤ (((g.f_L).length : Nat) : Int) ∧ (((g.f_L).length : Nat) : Int) ≤ (((g.f_L).length : Nat) : Int) then
      if (0 + ((g.f_L.take (((g.f_L).length : Nat) : Int).toNat)).length) * 56 ≤ 140737488351232 then
      if (((g.f_L.take (((g.f_L).length : Nat) : Int).toNat)).length + (([x] : List (T_parrelref19_Got))).length) * 56 ≤ 140737488351232 then
      if 0 ≤ (((g.f_L).length : Nat) : Int) ∧ (((g.f_L).length : Nat) : Int) ≤ (((g.f_L).length : Nat) : Int) ∧ (((g.f_L).length : Nat) : Int) ≤ (((g.f_L).length : Nat) : Int) then
      if ((((g.f_L.take (((g.f_L).length : Nat) : Int).toNat) ++ ([x] : List (T_parrelref19_Got)))).length + ((g.f_L.drop (((g.f_L).length : Nat) : Int).toNat)).length) * 56 ≤ 140737488351232 then
      if ((decide (g.f_Conf.f_Epoch < x.f_Item.f_Conf.f_Epoch)) : Bool) then
        some (0, g.f_Mode, x.f_Item.f_Conf, g.f_More, (((g.f_L.take (((g.f_L).length : Nat) : Int).toNat) ++ ([x] : List (T_parrelref19_Got))) ++ (g.f_L.drop (((g.f_L).length : Nat) : Int).toNat)))
      else
        some (0, g.f_Mode, g.f_Conf, g.f_More, (((g.f_L.take (((g.f_L).length : Nat) : Int).toNat) ++ ([x] : List (T_parrelref19_Got))) ++ (g.f_L.drop (((g.f_L).length : Nat) : Int).toNat)))
      else none
      else none
      else none
      else none
      else none
    else none
  else
    if 0 ≤ (0 : Int) ∧ 0 ≤ (((g.f_L).length : Nat) : Int) ∧ (((g.f_L).length : Nat) : Int) ≤ (((g.f_L).length : Nat) : Int) then
    if (0 + ((g.f_L.take (((g.f_L).length : Nat) : Int).toNat)).length) * 56 ≤ 140737488351232 then
    if (((g.f_L.take (((g.f_L).length : Nat) : Int).toNat)).length + (([x] : List (T_parrelref19_Got))).length) * 56 ≤ 140737488351232 then
    if 0 ≤ (((g.f_L).length : Nat) : Int) ∧ (((g.f_L).length : Nat) : Int) ≤ (((g.f_L).length : Nat) : Int) ∧ (((g.f_L).length : Nat) : Int) ≤ (((g.f_L).length : Nat) : Int) then
    if ((((g.f_L.take (((g.f_L).length : Nat) : Int).toNat) ++ ([x] : List (T_parrelref19_Got)))).length + ((g.f_L.drop (((g.f_L).length : Nat) : Int).toNat)).length) * 56 ≤ 140737488351232 then
    if ((decide (g.f_Conf.f_Epoch < x.f_Item.f_Conf.f_Epoch)) : Bool) then
      some (0, g.f_Mode, x.f_Item.f_Conf, g.f_More, (((g.f_L.take (((g.f_L).length : Nat) : Int).toNat) ++ ([x] : List (T_parrelref19_Got))) ++ (g.f_L.drop (((g.f_L).length : Nat) : Int).toNat)))
    else
      some (0, g.f_Mode, g.f_Conf, g.f_More, (((g.f_L.take (((g.f_L).length : Nat) : Int).toNat) ++ ([x] : List (T_parrelref19_Got))) ++ (g.f_L.drop (((g.f_L).length : Nat) : Int).toNat)))
    else none
    else none
    else none
    else none
    else none

theorem parrelref19_Gather_Grant_w0 (g : T_parrelref19_Gather) (x : T_parrelref19_Got)   (hN : (g.f_L).length < 9223372036854775807) :
    parrelref19_Gather_Grant_l0 g x  big 0 = walkN (parrelref19_Gather_Grant_b0 g x ) (parrelref19_Gather_Grant_e0 g x ) (g.f_L).length 0 () := by
  refine loopN (g.f_L).length (fun fuel_ t_ s_ => parrelref19_Gather_Grant_l0 g x  fuel_ t_) (parrelref19_Gather_Grant_b0 g x ) (parrelref19_Gather_Grant_e0 g x ) (by first | exact hN | (have := hN; simp only [List.length_nil] at this ⊢; omega)) ?_ ?_ ()
  · intro fuel_ i_ s_ hi_
    have hg_ : 0 ≤ (i_ : Int) ∧ (i_ : Int) < (((g.f_L).length : Nat) : Int) := by omega
    show parrelref19_Gather_Grant_l0 g x  (fuel_ + 1) (i_ : Int) = _
    rw [parrelref19_Gather_Grant_l0, if_pos (decide_eq_true (by omega))]
    repeat rw [if_pos hg_]
    have hinc_ : IntKind.wrap .i64 ((i_ : Int) + 1) = (((i_ + 1 : Nat)) : Int) := by rw [w64 (by omega) (by omega)]; rfl
    try rw [hinc_]
    first | rfl | (unfold parrelref19_Gather_Grant_b0; simp only [hinc_]; done) | (unfold parrelref19_Gather_Grant_b0; simp only [hinc_]; rfl)
  · intro fuel_ s_
    show parrelref19_Gather_Grant_l0 g x  (fuel_ + 1) (((g.f_L).length : Nat) : Int) = _
    rw [parrelref19_Gather_Grant_l0, if_neg (by rw [decide_eq_true_eq]; omega)]
    rfl

def parrelref01_power_b0   (i : Nat) (s_ : (Int)) (k_ : ((Int)) → Option ((Int))) : Option ((Int)) :=
  k_ (IntKind.wrap .u64 (s_ * 2))

def parrelref01_power_e0   (s_ : (Int)) : Option ((Int)) :=
  some s_

theorem parrelref01_power_w0 (x_n : Int)  (p : Int) (hN : (x_n).toNat < 9223372036854775807) :
    parrelref01_power_l0 x_n  big p 0 = walkN (parrelref01_power_b0  ) (parrelref01_power_e0  ) (x_n).toNat 0 p := by
  refine loopN (x_n).toNat (fun fuel_ t_ s_ => parrelref01_power_l0 x_n  fuel_ s_ t_) (parrelref01_power_b0  ) (parrelref01_power_e0  ) (by first | exact hN | (have := hN; simp only [List.length_nil] at this ⊢; omega)) ?_ ?_ p
  · intro fuel_ i_ s_ hi_
    have hg_ : 0 ≤ (i_ : Int) ∧ (i_ : Int) < x_n := by omega
    show parrelref01_power_l0 x_n  (fuel_ + 1) s_ (i_ : Int) = _
    rw [parrelref01_power_l0, if_pos (decide_eq_true (by omega))]
    have hinc_ : IntKind.wrap .i64 ((i_ : Int) + 1) = (((i_ + 1 : Nat)) : Int) := by rw [w64 (by omega) (by omega)]; rfl
    try rw [hinc_]
    first | rfl | (unfold parrelref01_power_b0; simp only [hinc_]; done) | (unfold parrelref01_power_b0; simp only [hinc_]; rfl)
  · intro fuel_ s_
    show parrelref01_power_l0 x_n  (fuel_ + 1) s_ (((x_n).toNat : Nat) : Int) = _
    rw [parrelref01_power_l0, if_neg (by rw [decide_eq_true_eq]; omega)]
    rfl

def parrelref19_Gather_Nodes_b0   (a_ : T_parrelref19_Got) (s_ : (Int)) (k_ : ((Int)) → Option ((Int))) : Option ((Int)) :=
  (parrelref01_With s_ (IntKind.wrap .i64 a_.f_Node)).bind fun yL0_4 =>
  k_ yL0_4

def parrelref19_Gather_Nodes_e0   (s_ : (Int)) : Option ((Int)) :=
  some s_

theorem parrelref19_Gather_Nodes_w0 (g : T_parrelref19_Gather)  (set : Int) (hN : (g.f_L).length < 9223372036854775807) :
    parrelref19_Gather_Nodes_l0 g  big set 0 = walkL (parrelref19_Gather_Nodes_b0  ) (parrelref19_Gather_Nodes_e0  ) g.f_L set := by
  refine loopL g.f_L (fun fuel_ t_ s_ => parrelref19_Gather_Nodes_l0 g  fuel_ s_ t_) (parrelref19_Gather_Nodes_b0  ) (parrelref19_Gather_Nodes_e0  ) (by first | exact hN | (have := hN; simp only [List.length_nil] at this ⊢; omega)) ?_ ?_ set
  · intro fuel_ i_ s_ hi_
    have hg_ : 0 ≤ (i_ : Int) ∧ (i_ : Int) < (((g.f_L).length : Nat) : Int) := by omega
    show parrelref19_Gather_Nodes_l0 g  (fuel_ + 1) s_ (i_ : Int) = _
    rw [parrelref19_Gather_Nodes_l0, if_pos (decide_eq_true (by omega))]
    repeat rw [if_pos hg_]
    have hinc_ : IntKind.wrap .i64 ((i_ : Int) + 1) = (((i_ + 1 : Nat)) : Int) := by rw [w64 (by omega) (by omega)]; rfl
    try rw [hinc_]
    first | rfl | (unfold parrelref19_Gather_Nodes_b0; simp only [hinc_]; done) | (unfold parrelref19_Gather_Nodes_b0; simp only [hinc_]; rfl)
  · intro fuel_ s_
    show parrelref19_Gather_Nodes_l0 g  (fuel_ + 1) s_ (((g.f_L).length : Nat) : Int) = _
    rw [parrelref19_Gather_Nodes_l0, if_neg (by rw [decide_eq_true_eq]; omega)]
    rfl

def parrelref06_Of_b0 (c : T_api_Config) (set : Int)  (i : Nat) (s_ : (Int)) (k_ : ((Int)) → Option ((Int))) : Option ((Int)) :=
  (parrelref01_Has set (i : Int)).bind fun yL0_3 =>
  if (yL0_3 : Bool) then
    k_ (IntKind.wrap .i64 (s_ + (IntKind.wrap .i64 (A8.get c.f_Votes i))))
  else
    k_ s_

def parrelref06_Of_e0   (s_ : (Int)) : Option ((Int)) :=
  some s_

theorem parrelref06_Of_w0 (c : T_api_Config) (set : Int)  (x_n : Int) (hN : 8 < 9223372036854775807) :
    parrelref06_Of_l0 c set  big x_n 0 = walkN (parrelref06_Of_b0 c set ) (parrelref06_Of_e0  ) 8 0 x_n := by
  refine loopN 8 (fun fuel_ t_ s_ => parrelref06_Of_l0 c set  fuel_ s_ t_) (parrelref06_Of_b0 c set ) (parrelref06_Of_e0  ) (by first | exact hN | (have := hN; simp only [List.length_nil] at this ⊢; omega)) ?_ ?_ x_n
  · intro fuel_ i_ s_ hi_
    have hg_ : 0 ≤ (i_ : Int) ∧ (i_ : Int) < 8 := by omega
    show parrelref06_Of_l0 c set  (fuel_ + 1) s_ (i_ : Int) = _
    rw [parrelref06_Of_l0, if_pos (decide_eq_true (by omega))]
    repeat rw [if_pos hg_]
    have hinc_ : IntKind.wrap .i64 ((i_ : Int) + 1) = (((i_ + 1 : Nat)) : Int) := by rw [w64 (by omega) (by omega)]; rfl
    try rw [hinc_]
    first | rfl | (unfold parrelref06_Of_b0; simp only [hinc_]; done) | (unfold parrelref06_Of_b0; simp only [hinc_]; rfl)
  · intro fuel_ s_
    show parrelref06_Of_l0 c set  (fuel_ + 1) s_ ((8 : Nat) : Int) = _
    rw [parrelref06_Of_l0, if_neg (by rw [decide_eq_true_eq]; omega)]
    rfl

def parrelref19_Gather_Enough_b0 (g : T_parrelref19_Gather)  (a_ : T_api_Config) (s_ : Unit) (k_ : (Unit) → Option ((Bool))) : Option ((Bool)) :=
  (parrelref19_Gather_Nodes g).bind fun yL0_4 =>
  (parrelref06_Of a_ yL0_4).bind fun yL0_6 =>
  if ((decide (yL0_6 < (IntKind.wrap .i64 a_.f_W))) : Bool) then
    some false
  else
    k_ ()

def parrelref19_Gather_Enough_e0   (s_ : Unit) : Option ((Bool)) :=
  some true

theorem parrelref19_Gather_Enough_w0 (g : T_parrelref19_Gather)   (hN : (g.f_More).length < 9223372036854775807) :
    parrelref19_Gather_Enough_l0 g  big 0 = walkL (parrelref19_Gather_Enough_b0 g ) (parrelref19_Gather_Enough_e0  ) g.f_More () := by
  refine loopL g.f_More (fun fuel_ t_ s_ => parrelref19_Gather_Enough_l0 g  fuel_ t_) (parrelref19_Gather_Enough_b0 g ) (parrelref19_Gather_Enough_e0  ) (by first | exact hN | (have := hN; simp only [List.length_nil] at this ⊢; omega)) ?_ ?_ ()
  · intro fuel_ i_ s_ hi_
    have hg_ : 0 ≤ (i_ : Int) ∧ (i_ : Int) < (((g.f_More).length : Nat) : Int) := by omega
    show parrelref19_Gather_Enough_l0 g  (fuel_ + 1) (i_ : Int) = _
    rw [parrelref19_Gather_Enough_l0, if_pos (decide_eq_true (by omega))]
    repeat rw [if_pos hg_]
    have hinc_ : IntKind.wrap .i64 ((i_ : Int) + 1) = (((i_ + 1 : Nat)) : Int) := by rw [w64 (by omega) (by omega)]; rfl
    try rw [hinc_]
    first | rfl | (unfold parrelref19_Gather_Enough_b0; simp only [hinc_]; done) | (unfold parrelref19_Gather_Enough_b0; simp only [hinc_]; rfl)
  · intro fuel_ s_
    show parrelref19_Gather_Enough_l0 g  (fuel_ + 1) (((g.f_More).length : Nat) : Int) = _
    rw [parrelref19_Gather_Enough_l0, if_neg (by rw [decide_eq_true_eq]; omega)]
    rfl

theorem parrelref19_Gather_Ask_l1_k (g : T_parrelref19_Gather) (x_n : Int) (l : List (Int))  (k k' : (Int) → (List (Int)) → Option ((List (Int)))) (h : ∀ l_, k (IntKind.wrap .i64 (x_n + 1)) l_ = k' (IntKind.wrap .i64 (x_n + 1)) l_) : ∀ fuel voter i, parrelref19_Gather_Ask_l1 g x_n l k fuel voter i = parrelref19_Gather_Ask_l1 g x_n l k' fuel voter i := by
  intro fuel
  induction fuel with
  | zero => intros; rfl
  | succ fuel ih => first | (intros; simp only [parrelref19_Gather_Ask_l1, ih, h]; done) | (have ih_ := funext fun a0_ => funext fun a1_ => ih a0_ a1_; intros; simp only [parrelref19_Gather_Ask_l1, ih, ih_, h])

def parrelref19_Gather_Ask_b1 (x_n : Int) (k0 : ((List (Int))) → Option ((List (Int)))) (a_ : T_api_Config) (s_ : (Bool)) (k_ : ((Bool)) → Option ((List (Int)))) : Option ((List (Int))) :=
  if (s_ : Bool) then
    k_ true
  else
    if 0 ≤ x_n ∧ x_n < 8 then
    k_ (decide (0 < (A8.get a_.f_Votes x_n.toNat)))
    else none

def parrelref19_Gather_Ask_e1 (g : T_parrelref19_Gather) (x_n : Int) (l : List (Int)) (k0 : ((List (Int))) → Option ((List (Int)))) (s_ : (Bool)) : Option ((List (Int))) :=
  if (s_ : Bool) then
    (parrelref19_Gather_Nodes g).bind fun yL1_4 =>
    (parrelref01_Has yL1_4 x_n).bind fun yL1_6 =>
    if ((!yL1_6) : Bool) then
      if ((l).length + (([(IntKind.wrap .u8 x_n)] : List (Int))).length) * 1 ≤ 140737488351232 then
      k0 (l ++ ([(IntKind.wrap .u8 x_n)] : List (Int)))
      else none
    else
      k0 l
  else
    k0 l

theorem parrelref19_Gather_Ask_w1 (g : T_parrelref19_Gather) (x_n : Int) (l : List (Int)) (k0 : (Int) → (List (Int)) → Option ((List (Int)))) (voter : Bool) (hN : (g.f_More).length < 9223372036854775807) :
    parrelref19_Gather_Ask_l1 g x_n l k0 big voter 0 = walkL (parrelref19_Gather_Ask_b1 x_n (fun s_ => k0 (IntKind.wrap .i64 (x_n + 1)) s_)) (parrelref19_Gather_Ask_e1 g x_n l (fun s_ => k0 (IntKind.wrap .i64 (x_n + 1)) s_)) g.f_More voter := by
  refine loopL g.f_More (fun fuel_ t_ s_ => parrelref19_Gather_Ask_l1 g x_n l k0 fuel_ s_ t_) (parrelref19_Gather_Ask_b1 x_n (fun s_ => k0 (IntKind.wrap .i64 (x_n + 1)) s_)) (parrelref19_Gather_Ask_e1 g x_n l (fun s_ => k0 (IntKind.wrap .i64 (x_n + 1)) s_)) (by first | exact hN | (have := hN; simp only [List.length_nil] at this ⊢; omega)) ?_ ?_ voter
  · intro fuel_ i_ s_ hi_
    have hg_ : 0 ≤ (i_ : Int) ∧ (i_ : Int) < (((g.f_More).length : Nat) : Int) := by omega
    show parrelref19_Gather_Ask_l1 g x_n l k0 (fuel_ + 1) s_ (i_ : Int) = _
    rw [parrelref19_Gather_Ask_l1, if_pos (decide_eq_true (by omega))]
    repeat rw [if_pos hg_]
    have hinc_ : IntKind.wrap .i64 ((i_ : Int) + 1) = (((i_ + 1 : Nat)) : Int) := by rw [w64 (by omega) (by omega)]; rfl
    try rw [hinc_]
    first | rfl | (unfold parrelref19_Gather_Ask_b1; simp only [hinc_]; done) | (unfold parrelref19_Gather_Ask_b1; simp only [hinc_]; rfl)
  · intro fuel_ s_
    show parrelref19_Gather_Ask_l1 g x_n l k0 (fuel_ + 1) s_ (((g.f_More).length : Nat) : Int) = _
    rw [parrelref19_Gather_Ask_l1, if_neg (by rw [decide_eq_true_eq]; omega)]
    rfl

def parrelref19_Gather_Ask_b0 (g : T_parrelref19_Gather)  (x_n : Nat) (s_ : (List (Int))) (k_ : ((List (Int))) → Option ((List (Int)))) : Option ((List (Int))) :=
  parrelref19_Gather_Ask_l1 g (x_n : Int) s_ (fun _ l_ => k_ l_) big (decide (0 < (A8.get g.f_Conf.f_Votes x_n))) 0

def parrelref19_Gather_Ask_e0   (s_ : (List (Int))) : Option ((List (Int))) :=
  some s_

theorem parrelref19_Gather_Ask_w0 (g : T_parrelref19_Gather)  (l : List (Int)) (hN : 8 < 9223372036854775807) :
    parrelref19_Gather_Ask_l0 g  big 0 l = walkN (parrelref19_Gather_Ask_b0 g ) (parrelref19_Gather_Ask_e0  ) 8 0 l := by
  refine loopN 8 (fun fuel_ t_ s_ => parrelref19_Gather_Ask_l0 g  fuel_ t_ s_) (parrelref19_Gather_Ask_b0 g ) (parrelref19_Gather_Ask_e0  ) (by first | exact hN | (have := hN; simp only [List.length_nil] at this ⊢; omega)) ?_ ?_ l
  · intro fuel_ i_ s_ hi_
    have hg_ : 0 ≤ (i_ : Int) ∧ (i_ : Int) < 8 := by omega
    show parrelref19_Gather_Ask_l0 g  (fuel_ + 1) (i_ : Int) s_ = _
    rw [parrelref19_Gather_Ask_l0, if_pos (decide_eq_true (by omega))]
    repeat rw [if_pos hg_]
    have hinc_ : IntKind.wrap .i64 ((i_ : Int) + 1) = (((i_ + 1 : Nat)) : Int) := by rw [w64 (by omega) (by omega)]; rfl
    simp only [parrelref19_Gather_Ask_l1_k _ (i_ : Int) _  (parrelref19_Gather_Ask_l0 g  fuel_) (fun _ l_ => parrelref19_Gather_Ask_l0 g  fuel_ (((i_ + 1 : Nat)) : Int) l_) (fun l_ => by first | rfl | rw [hinc_])]
    try rw [hinc_]
    first | rfl | (unfold parrelref19_Gather_Ask_b0; simp only [hinc_]; done) | (unfold parrelref19_Gather_Ask_b0; simp only [hinc_]; rfl)
  · intro fuel_ s_
    show parrelref19_Gather_Ask_l0 g  (fuel_ + 1) ((8 : Nat) : Int) s_ = _
    rw [parrelref19_Gather_Ask_l0, if_neg (by rw [decide_eq_true_eq]; omega)]
    rfl

def parrellaw19_ours_b0   (a_ : T_gather_Got) (s_ : (List (T_parrelref19_Got))) (k_ : ((List (T_parrelref19_Got))) → Option ((List (T_parrelref19_Got)))) : Option ((List (T_parrelref19_Got))) :=
  if ((s_).length + (([(T_parrelref19_Got.mk a_.f_Node a_.f_Reg a_.f_Item)] : List (T_parrelref19_Got))).length) * 56 ≤ 140737488351232 then
  k_ (s_ ++ ([(T_parrelref19_Got.mk a_.f_Node a_.f_Reg a_.f_Item)] : List (T_parrelref19_Got)))
  else none

def parrellaw19_ours_e0   (s_ : (List (T_parrelref19_Got))) : Option ((List (T_parrelref19_Got))) :=
  some s_

theorem parrellaw19_ours_w0 (l : List (T_gather_Got))  (l2 : List (T_parrelref19_Got)) (hN : (l).length < 9223372036854775807) :
    parrellaw19_ours_l0 l  big 0 l2 = walkL (parrellaw19_ours_b0  ) (parrellaw19_ours_e0  ) l l2 := by
  refine loopL l (fun fuel_ t_ s_ => parrellaw19_ours_l0 l  fuel_ t_ s_) (parrellaw19_ours_b0  ) (parrellaw19_ours_e0  ) (by first | exact hN | (have := hN; simp only [List.length_nil] at this ⊢; omega)) ?_ ?_ l2
  · intro fuel_ i_ s_ hi_
    have hg_ : 0 ≤ (i_ : Int) ∧ (i_ : Int) < (((l).length : Nat) : Int) := by omega
    show parrellaw19_ours_l0 l  (fuel_ + 1) (i_ : Int) s_ = _
    rw [parrellaw19_ours_l0, if_pos (decide_eq_true (by omega))]
    repeat rw [if_pos hg_]
    have hinc_ : IntKind.wrap .i64 ((i_ : Int) + 1) = (((i_ + 1 : Nat)) : Int) := by rw [w64 (by omega) (by omega)]; rfl
    try rw [hinc_]
    first | rfl | (unfold parrellaw19_ours_b0; simp only [hinc_]; done) | (unfold parrellaw19_ours_b0; simp only [hinc_]; rfl)
  · intro fuel_ s_
    show parrellaw19_ours_l0 l  (fuel_ + 1) (((l).length : Nat) : Int) s_ = _
    rw [parrellaw19_ours_l0, if_neg (by rw [decide_eq_true_eq]; omega)]
    rfl

def parrellaw19_same_b0 (a : List (T_parrelref19_Got)) (b : List (T_parrelref19_Got))  (t13 : Nat) (s_ : Unit) (k_ : (Unit) → Option ((Bool))) : Option ((Bool)) :=
  if 0 ≤ (t13 : Int) ∧ (t13 : Int) < (((b).length : Nat) : Int) then
  if ((!decide ((a.getD t13 default) = (b.getD t13 default))) : Bool) then
    some false
  else
    k_ ()
  else none

def parrellaw19_same_e0   (s_ : Unit) : Option ((Bool)) :=
  some true

theorem parrellaw19_same_w0 (a : List (T_parrelref19_Got)) (b : List (T_parrelref19_Got))   (hN : (a).length < 9223372036854775807) :
    parrellaw19_same_l0 a b  big 0 = walkN (parrellaw19_same_b0 a b ) (parrellaw19_same_e0  ) (a).length 0 () := by
  refine loopN (a).length (fun fuel_ t_ s_ => parrellaw19_same_l0 a b  fuel_ t_) (parrellaw19_same_b0 a b ) (parrellaw19_same_e0  ) (by first | exact hN | (have := hN; simp only [List.length_nil] at this ⊢; omega)) ?_ ?_ ()
  · intro fuel_ i_ s_ hi_
    have hg_ : 0 ≤ (i_ : Int) ∧ (i_ : Int) < (((a).length : Nat) : Int) := by omega
    show parrellaw19_same_l0 a b  (fuel_ + 1) (i_ : Int) = _
    rw [parrellaw19_same_l0, if_pos (decide_eq_true (by omega))]
    repeat rw [if_pos hg_]
    have hinc_ : IntKind.wrap .i64 ((i_ : Int) + 1) = (((i_ + 1 : Nat)) : Int) := by rw [w64 (by omega) (by omega)]; rfl
    try rw [hinc_]
    first | rfl | (unfold parrellaw19_same_b0; simp only [hinc_]; done) | (unfold parrellaw19_same_b0; simp only [hinc_]; rfl)
  · intro fuel_ s_
    show parrellaw19_same_l0 a b  (fuel_ + 1) (((a).length : Nat) : Int) = _
    rw [parrellaw19_same_l0, if_neg (by rw [decide_eq_true_eq]; omega)]
    rfl

def parrelref13_Newest_b0 (l : List (T_api_Item))  (i : Nat) (s_ : (Int) × (List UInt8) × (T_api_Config)) (k_ : ((Int) × (List UInt8) × (T_api_Config)) → Option ((T_api_Item) × (Bool))) : Option ((T_api_Item) × (Bool)) :=
  if ((decide (s_.1 < (l.getD i default).f_Version)) : Bool) then
    k_ ((l.getD i default).f_Version, (l.getD i default).f_Value, (l.getD i default).f_Conf)
  else
    k_ (s_.1, s_.2.1, s_.2.2)

def parrelref13_Newest_e0   (s_ : (Int) × (List UInt8) × (T_api_Config)) : Option ((T_api_Item) × (Bool)) :=
  some ((T_api_Item.mk s_.1 s_.2.1 s_.2.2), true)

theorem parrelref13_Newest_ws0 (l : List (T_api_Item))  (Version : Int) (Value : List UInt8) (Epoch : T_api_Config) (st_ : Nat) (hst_ : st_ ≤ (l).length) (hN : (l).length < 9223372036854775807) :
    parrelref13_Newest_l0 l  big (st_ : Int) Version Value Epoch = walkN (parrelref13_Newest_b0 l ) (parrelref13_Newest_e0  ) ((l).length - st_) st_ (Version, Value, Epoch) := by
  refine loopNs (l).length st_ hst_ (fun fuel_ t_ s_ => parrelref13_Newest_l0 l  fuel_ t_ s_.1 s_.2.1 s_.2.2) (parrelref13_Newest_b0 l ) (parrelref13_Newest_e0  ) (by first | exact hN | (have := hN; simp only [List.length_nil] at this ⊢; omega)) ?_ ?_ (Version, Value, Epoch)
  · intro fuel_ i_ s_ hi_
    have hg_ : 0 ≤ (i_ : Int) ∧ (i_ : Int) < (((l).length : Nat) : Int) := by omega
    show parrelref13_Newest_l0 l  (fuel_ + 1) (i_ : Int) s_.1 s_.2.1 s_.2.2 = _
    rw [parrelref13_Newest_l0, if_pos (decide_eq_true (by omega))]
    repeat rw [if_pos hg_]
    have hinc_ : IntKind.wrap .i64 ((i_ : Int) + 1) = (((i_ + 1 : Nat)) : Int) := by rw [w64 (by omega) (by omega)]; rfl
    try rw [hinc_]
    first | rfl | (unfold parrelref13_Newest_b0; simp only [hinc_]; done) | (unfold parrelref13_Newest_b0; simp only [hinc_]; rfl)
  · intro fuel_ s_
    show parrelref13_Newest_l0 l  (fuel_ + 1) (((l).length : Nat) : Int) s_.1 s_.2.1 s_.2.2 = _
    rw [parrelref13_Newest_l0, if_neg (by rw [decide_eq_true_eq]; omega)]
    rfl

def parrelref19_Gather_Newest_b0   (a_ : T_parrelref19_Got) (s_ : (List (T_api_Item))) (k_ : ((List (T_api_Item))) → Option ((T_api_Item) × (Bool))) : Option ((T_api_Item) × (Bool)) :=
  if ((s_).length + (([a_.f_Item] : List (T_api_Item))).length) * 40 ≤ 140737488351232 then
  k_ (s_ ++ ([a_.f_Item] : List (T_api_Item)))
  else none

def parrelref19_Gather_Newest_e0   (s_ : (List (T_api_Item))) : Option ((T_api_Item) × (Bool)) :=
  (parrelref13_Newest s_).bind fun yL0_3 =>
  some (yL0_3.1, yL0_3.2)

theorem parrelref19_Gather_Newest_w0 (g : T_parrelref19_Gather)  (l : List (T_api_Item)) (hN : (g.f_L).length < 9223372036854775807) :
    parrelref19_Gather_Newest_l0 g  big 0 l = walkL (parrelref19_Gather_Newest_b0  ) (parrelref19_Gather_Newest_e0  ) g.f_L l := by
  refine loopL g.f_L (fun fuel_ t_ s_ => parrelref19_Gather_Newest_l0 g  fuel_ t_ s_) (parrelref19_Gather_Newest_b0  ) (parrelref19_Gather_Newest_e0  ) (by first | exact hN | (have := hN; simp only [List.length_nil] at this ⊢; omega)) ?_ ?_ l
  · intro fuel_ i_ s_ hi_
    have hg_ : 0 ≤ (i_ : Int) ∧ (i_ : Int) < (((g.f_L).length : Nat) : Int) := by omega
    show parrelref19_Gather_Newest_l0 g  (fuel_ + 1) (i_ : Int) s_ = _
    rw [parrelref19_Gather_Newest_l0, if_pos (decide_eq_true (by omega))]
    repeat rw [if_pos hg_]
    have hinc_ : IntKind.wrap .i64 ((i_ : Int) + 1) = (((i_ + 1 : Nat)) : Int) := by rw [w64 (by omega) (by omega)]; rfl
    try rw [hinc_]
    first | rfl | (unfold parrelref19_Gather_Newest_b0; simp only [hinc_]; done) | (unfold parrelref19_Gather_Newest_b0; simp only [hinc_]; rfl)
  · intro fuel_ s_
    show parrelref19_Gather_Newest_l0 g  (fuel_ + 1) (((g.f_L).length : Nat) : Int) s_ = _
    rw [parrelref19_Gather_Newest_l0, if_neg (by rw [decide_eq_true_eq]; omega)]
    rfl

theorem parrellaw19_GatherPlays_l1_k (x_k : A8 (Int)) (c : A2 (T_api_Config)) (l : List (T_parrelref19_Got)) (t23 : Int) (yL0_7 : (T_parrelref19_Gather) × (Int)) (yL0_11 : (List (T_parrelref19_Got)))  (k k' : (Int) → Option ((Bool))) (h : k (IntKind.wrap .i64 (t23 + 1)) = k' (IntKind.wrap .i64 (t23 + 1))) : ∀ fuel t65 mode Epoch more Node nodes Mode Epoch2 More L, parrellaw19_GatherPlays_l1 x_k c l t23 yL0_7 yL0_11 k fuel t65 mode Epoch more Node nodes Mode Epoch2 More L = parrellaw19_GatherPlays_l1 x_k c l t23 yL0_7 yL0_11 k' fuel t65 mode Epoch more Node nodes Mode Epoch2 More L := by
  intro fuel
  induction fuel with
  | zero => intros; rfl
  | succ fuel ih => first | (intros; simp only [parrellaw19_GatherPlays_l1, ih, h]; done) | (have ih_ := funext fun a0_ => funext fun a1_ => funext fun a2_ => funext fun a3_ => funext fun a4_ => funext fun a5_ => funext fun a6_ => funext fun a7_ => funext fun a8_ => funext fun a9_ => ih a0_ a1_ a2_ a3_ a4_ a5_ a6_ a7_ a8_ a9_; intros; simp only [parrellaw19_GatherPlays_l1, ih, ih_, h])

def parrellaw19_GatherPlays_b1 (yL0_7 : (T_parrelref19_Gather) × (Int)) (yL0_11 : (List (T_parrelref19_Got))) (k0 : (Unit) → Option ((Bool))) (t65 : Nat) (s_ : (Int) × (T_api_Config) × (List (T_api_Config)) × (A8 (T_gather_Got)) × (Int) × (Int) × (T_api_Config) × (List (T_api_Config)) × (List (T_parrelref19_Got))) (k_ : ((Int) × (T_api_Config) × (List (T_api_Config)) × (A8 (T_gather_Got)) × (Int) × (Int) × (T_api_Config) × (List (T_api_Config)) × (List (T_parrelref19_Got))) → Option ((Bool))) : Option ((Bool)) :=
  if ((yL0_7.2 != 0) : Bool) then
    k0 ()
  else
    (gather_Gather_Grant (T_gather_Gather.mk s_.1 s_.2.1 s_.2.2.1 s_.2.2.2.1 s_.2.2.2.2.1) (T_gather_Got.mk (yL0_11.getD t65 default).f_Node (yL0_11.getD t65 default).f_Reg (yL0_11.getD t65 default).f_Item)).bind fun yL1_5 =>
    (parrelref19_Gather_Grant (T_parrelref19_Gather.mk s_.2.2.2.2.2.1 s_.2.2.2.2.2.2.1 s_.2.2.2.2.2.2.2.1 s_.2.2.2.2.2.2.2.2) (yL0_11.getD t65 default)).bind fun yL1_7 =>
    if ((yL1_5.1 != yL1_7.1) : Bool) then
      some false
    else
      (gather_Gather_Conf (T_gather_Gather.mk yL1_5.2.1 yL1_5.2.2.1 yL1_5.2.2.2.1 yL1_5.2.2.2.2.1 yL1_5.2.2.2.2.2)).bind fun yL1_10 =>
      if ((!decide (yL1_10 = yL1_7.2.2.1)) : Bool) then
        some false
      else
        (gather_Gather_Enough (T_gather_Gather.mk yL1_5.2.1 yL1_5.2.2.1 yL1_5.2.2.2.1 yL1_5.2.2.2.2.1 yL1_5.2.2.2.2.2)).bind fun yL1_13 =>
        (parrelref19_Gather_Enough (T_parrelref19_Gather.mk yL1_7.2.1 yL1_7.2.2.1 yL1_7.2.2.2.1 yL1_7.2.2.2.2)).bind fun yL1_15 =>
        if ((!(yL1_13 == yL1_15)) : Bool) then
          some false
        else
          (gather_Gather_Nodes (T_gather_Gather.mk yL1_5.2.1 yL1_5.2.2.1 yL1_5.2.2.2.1 yL1_5.2.2.2.2.1 yL1_5.2.2.2.2.2)).bind fun yL1_18 =>
          (parrelref19_Gather_Nodes (T_parrelref19_Gather.mk yL1_7.2.1 yL1_7.2.2.1 yL1_7.2.2.2.1 yL1_7.2.2.2.2)).bind fun yL1_20 =>
          if ((yL1_18 != yL1_20) : Bool) then
            some false
          else
            (gather_Gather_Ask (T_gather_Gather.mk yL1_5.2.1 yL1_5.2.2.1 yL1_5.2.2.2.1 yL1_5.2.2.2.2.1 yL1_5.2.2.2.2.2)).bind fun yL1_23 =>
            (parrelref19_Gather_Ask (T_parrelref19_Gather.mk yL1_7.2.1 yL1_7.2.2.1 yL1_7.2.2.2.1 yL1_7.2.2.2.2)).bind fun yL1_25 =>
            (parrelref19_Bytes yL1_23 yL1_25).bind fun yL1_27 =>
            if ((!yL1_27) : Bool) then
              some false
            else
              (gather_Gather_All (T_gather_Gather.mk yL1_5.2.1 yL1_5.2.2.1 yL1_5.2.2.2.1 yL1_5.2.2.2.2.1 yL1_5.2.2.2.2.2)).bind fun yL1_30 =>
              (parrellaw19_ours yL1_30).bind fun yL1_32 =>
              (parrellaw19_same yL1_32 (T_parrelref19_Gather.mk yL1_7.2.1 yL1_7.2.2.1 yL1_7.2.2.2.1 yL1_7.2.2.2.2).f_L).bind fun yL1_34 =>
              if ((!yL1_34) : Bool) then
                some false
              else
                (gather_Gather_Newest (T_gather_Gather.mk yL1_5.2.1 yL1_5.2.2.1 yL1_5.2.2.2.1 yL1_5.2.2.2.2.1 yL1_5.2.2.2.2.2)).bind fun yL1_37 =>
                (parrelref19_Gather_Newest (T_parrelref19_Gather.mk yL1_7.2.1 yL1_7.2.2.1 yL1_7.2.2.2.1 yL1_7.2.2.2.2)).bind fun yL1_39 =>
                if ((!decide (yL1_37.1 = yL1_39.1)) : Bool) then
                  some false
                else
                  if ((!(yL1_37.2 == yL1_39.2)) : Bool) then
                    some false
                  else
                    k_ ((T_gather_Gather.mk yL1_5.2.1 yL1_5.2.2.1 yL1_5.2.2.2.1 yL1_5.2.2.2.2.1 yL1_5.2.2.2.2.2).f_mode, (T_gather_Gather.mk yL1_5.2.1 yL1_5.2.2.1 yL1_5.2.2.2.1 yL1_5.2.2.2.2.1 yL1_5.2.2.2.2.2).f_conf, (T_gather_Gather.mk yL1_5.2.1 yL1_5.2.2.1 yL1_5.2.2.2.1 yL1_5.2.2.2.2.1 yL1_5.2.2.2.2.2).f_more, (T_gather_Gather.mk yL1_5.2.1 yL1_5.2.2.1 yL1_5.2.2.2.1 yL1_5.2.2.2.2.1 yL1_5.2.2.2.2.2).f_grants, (T_gather_Gather.mk yL1_5.2.1 yL1_5.2.2.1 yL1_5.2.2.2.1 yL1_5.2.2.2.2.1 yL1_5.2.2.2.2.2).f_nodes, (T_parrelref19_Gather.mk yL1_7.2.1 yL1_7.2.2.1 yL1_7.2.2.2.1 yL1_7.2.2.2.2).f_Mode, (T_parrelref19_Gather.mk yL1_7.2.1 yL1_7.2.2.1 yL1_7.2.2.2.1 yL1_7.2.2.2.2).f_Conf, (T_parrelref19_Gather.mk yL1_7.2.1 yL1_7.2.2.1 yL1_7.2.2.2.1 yL1_7.2.2.2.2).f_More, (T_parrelref19_Gather.mk yL1_7.2.1 yL1_7.2.2.1 yL1_7.2.2.2.1 yL1_7.2.2.2.2).f_L)

def parrellaw19_GatherPlays_e1  (k0 : (Unit) → Option ((Bool))) (s_ : (Int) × (T_api_Config) × (List (T_api_Config)) × (A8 (T_gather_Got)) × (Int) × (Int) × (T_api_Config) × (List (T_api_Config)) × (List (T_parrelref19_Got))) : Option ((Bool)) :=
  k0 ()

theorem parrellaw19_GatherPlays_w1 (x_k : A8 (Int)) (c : A2 (T_api_Config)) (l : List (T_parrelref19_Got)) (t23 : Int) (yL0_7 : (T_parrelref19_Gather) × (Int)) (yL0_11 : (List (T_parrelref19_Got))) (k0 : (Int) → Option ((Bool))) (mode : Int) (Epoch : T_api_Config) (more : List (T_api_Config)) (Node : A8 (T_gather_Got)) (nodes : Int) (Mode : Int) (Epoch2 : T_api_Config) (More : List (T_api_Config)) (L : List (T_parrelref19_Got)) (hN : (yL0_11).length < 9223372036854775807) :
    parrellaw19_GatherPlays_l1 x_k c l t23 yL0_7 yL0_11 k0 big 0 mode Epoch more Node nodes Mode Epoch2 More L = walkN (parrellaw19_GatherPlays_b1 yL0_7 yL0_11 (fun s_ => k0 (IntKind.wrap .i64 (t23 + 1)))) (parrellaw19_GatherPlays_e1  (fun s_ => k0 (IntKind.wrap .i64 (t23 + 1)))) (yL0_11).length 0 (mode, Epoch, more, Node, nodes, Mode, Epoch2, More, L) := by
  refine loopN (yL0_11).length (fun fuel_ t_ s_ => parrellaw19_GatherPlays_l1 x_k c l t23 yL0_7 yL0_11 k0 fuel_ t_ s_.1 s_.2.1 s_.2.2.1 s_.2.2.2.1 s_.2.2.2.2.1 s_.2.2.2.2.2.1 s_.2.2.2.2.2.2.1 s_.2.2.2.2.2.2.2.1 s_.2.2.2.2.2.2.2.2) (parrellaw19_GatherPlays_b1 yL0_7 yL0_11 (fun s_ => k0 (IntKind.wrap .i64 (t23 + 1)))) (parrellaw19_GatherPlays_e1  (fun s_ => k0 (IntKind.wrap .i64 (t23 + 1)))) (by first | exact hN | (have := hN; simp only [List.length_nil] at this ⊢; omega)) ?_ ?_ (mode, Epoch, more, Node, nodes, Mode, Epoch2, More, L)
  · intro fuel_ i_ s_ hi_
    have hg_ : 0 ≤ (i_ : Int) ∧ (i_ : Int) < (((yL0_11).length : Nat) : Int) := by omega
    show parrellaw19_GatherPlays_l1 x_k c l t23 yL0_7 yL0_11 k0 (fuel_ + 1) (i_ : Int) s_.1 s_.2.1 s_.2.2.1 s_.2.2.2.1 s_.2.2.2.2.1 s_.2.2.2.2.2.1 s_.2.2.2.2.2.2.1 s_.2.2.2.2.2.2.2.1 s_.2.2.2.2.2.2.2.2 = _
    rw [parrellaw19_GatherPlays_l1, if_pos (decide_eq_true (by omega))]
    repeat rw [if_pos hg_]
    have hinc_ : IntKind.wrap .i64 ((i_ : Int) + 1) = (((i_ + 1 : Nat)) : Int) := by rw [w64 (by omega) (by omega)]; rfl
    try rw [hinc_]
    first | rfl | (unfold parrellaw19_GatherPlays_b1; simp only [hinc_]; done) | (unfold parrellaw19_GatherPlays_b1; simp only [hinc_]; rfl)
  · intro fuel_ s_
    show parrellaw19_GatherPlays_l1 x_k c l t23 yL0_7 yL0_11 k0 (fuel_ + 1) (((yL0_11).length : Nat) : Int) s_.1 s_.2.1 s_.2.2.1 s_.2.2.2.1 s_.2.2.2.2.1 s_.2.2.2.2.2.1 s_.2.2.2.2.2.2.1 s_.2.2.2.2.2.2.2.1 s_.2.2.2.2.2.2.2.2 = _
    rw [parrellaw19_GatherPlays_l1, if_neg (by rw [decide_eq_true_eq]; omega)]
    rfl

def parrellaw19_GatherPlays_b0 (x_k : A8 (Int)) (c : A2 (T_api_Config)) (l : List (T_parrelref19_Got))  (t23 : Nat) (s_ : Unit) (k_ : (Unit) → Option ((Bool))) : Option ((Bool)) :=
  if ((decide (2 < (t23 : Int))) : Bool) then
    (gather_New x_k (IntKind.wrap .u8 (Int.tmod (t23 : Int) 3)) c.a0 ([c.a1] : List (T_api_Config))).bind fun yL0_4 =>
    if (yL0_4.1 : Bool) then
      (parrelref19_New x_k (IntKind.wrap .u8 (Int.tmod (t23 : Int) 3)) c.a0 ([c.a1] : List (T_api_Config))).bind fun yL0_7 =>
      if ((1 != yL0_7.2) : Bool) then
        some false
      else
        if ((!(false == (yL0_7.2 == 0))) : Bool) then
          some false
        else
          (parrellaw19_short l).bind fun yL0_11 =>
          if ((decide (0 < ((yL0_11).length : Int))) : Bool) then
            if 0 ≤ (0 : Int) ∧ (0 : Int) < (((yL0_11).length : Nat) : Int) then
            if ((yL0_7.2 != 0) : Bool) then
              k_ ()
            else
              none
            else none
          else
            k_ ()
    else
      (parrelref19_New x_k (IntKind.wrap .u8 (Int.tmod (t23 : Int) 3)) c.a0 ([c.a1] : List (T_api_Config))).bind fun yL0_7 =>
      if ((0 != yL0_7.2) : Bool) then
        some false
      else
        if ((!(true == (yL0_7.2 == 0))) : Bool) then
          some false
        else
          (parrellaw19_short l).bind fun yL0_11 =>
          parrellaw19_GatherPlays_l1 x_k c l (t23 : Int) yL0_7 yL0_11 (fun _ => k_ ()) big 0 yL0_4.2.2.1 yL0_4.2.2.2.1 yL0_4.2.2.2.2.1 yL0_4.2.2.2.2.2 0 yL0_7.1.f_Mode yL0_7.1.f_Conf yL0_7.1.f_More yL0_7.1.f_L
  else
    (gather_New x_k (IntKind.wrap .u8 (Int.tmod (t23 : Int) 3)) c.a0 ([] : List (T_api_Config))).bind fun yL0_4 =>
    if (yL0_4.1 : Bool) then
      (parrelref19_New x_k (IntKind.wrap .u8 (Int.tmod (t23 : Int) 3)) c.a0 ([] : List (T_api_Config))).bind fun yL0_7 =>
      if ((1 != yL0_7.2) : Bool) then
        some false
      else
        if ((!(false == (yL0_7.2 == 0))) : Bool) then
          some false
        else
          (parrellaw19_short l).bind fun yL0_11 =>
          if ((decide (0 < ((yL0_11).length : Int))) : Bool) then
            if 0 ≤ (0 : Int) ∧ (0 : Int) < (((yL0_11).length : Nat) : Int) then
            if ((yL0_7.2 != 0) : Bool) then
              k_ ()
            else
              none
            else none
          else
            k_ ()
    else
      (parrelref19_New x_k (IntKind.wrap .u8 (Int.tmod (t23 : Int) 3)) c.a0 ([] : List (T_api_Config))).bind fun yL0_7 =>
      if ((0 != yL0_7.2) : Bool) then
        some false
      else
        if ((!(true == (yL0_7.2 == 0))) : Bool) then
          some false
        else
          (parrellaw19_short l).bind fun yL0_11 =>
          parrellaw19_GatherPlays_l1 x_k c l (t23 : Int) yL0_7 yL0_11 (fun _ => k_ ()) big 0 yL0_4.2.2.1 yL0_4.2.2.2.1 yL0_4.2.2.2.2.1 yL0_4.2.2.2.2.2 0 yL0_7.1.f_Mode yL0_7.1.f_Conf yL0_7.1.f_More yL0_7.1.f_L

def parrellaw19_GatherPlays_e0   (s_ : Unit) : Option ((Bool)) :=
  (parrellaw19_alive).bind fun yL0_3 =>
  some yL0_3

theorem parrellaw19_GatherPlays_w0 (x_k : A8 (Int)) (c : A2 (T_api_Config)) (l : List (T_parrelref19_Got))   (hN : 6 < 9223372036854775807) :
    parrellaw19_GatherPlays_l0 x_k c l  big 0 = walkN (parrellaw19_GatherPlays_b0 x_k c l ) (parrellaw19_GatherPlays_e0  ) 6 0 () := by
  refine loopN 6 (fun fuel_ t_ s_ => parrellaw19_GatherPlays_l0 x_k c l  fuel_ t_) (parrellaw19_GatherPlays_b0 x_k c l ) (parrellaw19_GatherPlays_e0  ) (by first | exact hN | (have := hN; simp only [List.length_nil] at this ⊢; omega)) ?_ ?_ ()
  · intro fuel_ i_ s_ hi_
    have hg_ : 0 ≤ (i_ : Int) ∧ (i_ : Int) < 6 := by omega
    show parrellaw19_GatherPlays_l0 x_k c l  (fuel_ + 1) (i_ : Int) = _
    rw [parrellaw19_GatherPlays_l0, if_pos (decide_eq_true (by omega))]
    have hinc_ : IntKind.wrap .i64 ((i_ : Int) + 1) = (((i_ + 1 : Nat)) : Int) := by rw [w64 (by omega) (by omega)]; rfl
    simp only [parrellaw19_GatherPlays_l1_k _ _ _ (i_ : Int) _ _  (parrellaw19_GatherPlays_l0 x_k c l  fuel_) (fun _ => parrellaw19_GatherPlays_l0 x_k c l  fuel_ (((i_ + 1 : Nat)) : Int)) (by first | rfl | rw [hinc_])]
    try rw [hinc_]
    first | rfl | (unfold parrellaw19_GatherPlays_b0; simp only [hinc_]; done) | (unfold parrellaw19_GatherPlays_b0; simp only [hinc_]; rfl)
  · intro fuel_ s_
    show parrellaw19_GatherPlays_l0 x_k c l  (fuel_ + 1) ((6 : Nat) : Int) = _
    rw [parrellaw19_GatherPlays_l0, if_neg (by rw [decide_eq_true_eq]; omega)]
    rfl

end
end Go.Proofs.YtffmmflapagkhaaDoor.Wk
