/- Printed by tr.py: counting loops as walks over lists and over numbers. -/
import Derived.Test.YtofkaccoofafmaaHistW
import Derived.Test.YtofkaccoofafmaaCnX
namespace Go.Proofs.Ytofkaccoofafmaa.Wk
open Go Go.Cn
set_option maxRecDepth 100000
set_option maxHeartbeats 4000000
set_option linter.unusedVariables false
set_option linter.unusedSimpArgs false
def parrellaw26_far_b0   (a_ : T_parrelref26_Tx) (s_ : (Int)) (k_ : ((Int)) → Option ((Bool))) : Option ((Bool)) :=
  k_ (IntKind.wrap .i64 (s_ + (IntKind.wrap .i64 ((if 70 < ((a_.f_Reads).length : Int) then 70 else ((a_.f_Reads).length : Int)) + (if 70 < ((a_.f_Writes).length : Int) then 70 else ((a_.f_Writes).length : Int))))))

def parrellaw26_far_e0 (l : List (T_parrelref26_Tx))  (s_ : (Int)) : Option ((Bool)) :=
  if ((decide (70 < ((l).length : Int))) : Bool) then
    some true
  else
    some (decide (400 < s_))

theorem parrellaw26_far_w0 (l : List (T_parrelref26_Tx))  (x_n : Int) (hN : ((l.take ((if 70 < ((l).length : Int) then 70 else ((l).length : Int))).toNat)).length < 9223372036854775807) :
    parrellaw26_far_l0 l  big x_n 0 = walkL (parrellaw26_far_b0  ) (parrellaw26_far_e0 l ) (l.take ((if 70 < ((l).length : Int) then 70 else ((l).length : Int))).toNat) x_n := by
  refine loopL (l.take ((if 70 < ((l).length : Int) then 70 else ((l).length : Int))).toNat) (fun fuel_ t_ s_ => parrellaw26_far_l0 l  fuel_ s_ t_) (parrellaw26_far_b0  ) (parrellaw26_far_e0 l ) (by first | exact hN | (have := hN; simp only [List.length_nil] at this ⊢; omega)) ?_ ?_ x_n
  · intro fuel_ i_ s_ hi_
    have hg_ : 0 ≤ (i_ : Int) ∧ (i_ : Int) < ((((l.take ((if 70 < ((l).length : Int) then 70 else ((l).length : Int))).toNat)).length : Nat) : Int) := by omega
    show parrellaw26_far_l0 l  (fuel_ + 1) s_ (i_ : Int) = _
    rw [parrellaw26_far_l0, if_pos (decide_eq_true (by omega))]
    repeat rw [if_pos hg_]
    have hinc_ : IntKind.wrap .i64 ((i_ : Int) + 1) = (((i_ + 1 : Nat)) : Int) := by rw [w64 (by omega) (by omega)]; rfl
    try rw [hinc_]
    first | rfl | (unfold parrellaw26_far_b0; simp only [hinc_]; done) | (unfold parrellaw26_far_b0; simp only [hinc_]; rfl)
  · intro fuel_ s_
    show parrellaw26_far_l0 l  (fuel_ + 1) s_ ((((l.take ((if 70 < ((l).length : Int) then 70 else ((l).length : Int))).toNat)).length : Nat) : Int) = _
    rw [parrellaw26_far_l0, if_neg (by rw [decide_eq_true_eq]; omega)]
    rfl

def hist_isTwice_b0   (a_ : T_hist_Item) (s_ : (List (A8 (Int) × Bool))) (k_ : ((List (A8 (Int) × Bool))) → Option ((Bool))) : Option ((Bool)) :=
  if (((mget s_ a_.f_Key).getD default) : Bool) then
    some true
  else
    k_ (mset s_ a_.f_Key true)

def hist_isTwice_e0   (s_ : (List (A8 (Int) × Bool))) : Option ((Bool)) :=
  some false

theorem hist_isTwice_w0 (l : List (T_hist_Item))  (m : List (A8 (Int) × Bool)) (hN : (l).length < 9223372036854775807) :
    hist_isTwice_l0 l  big 0 m = walkL (hist_isTwice_b0  ) (hist_isTwice_e0  ) l m := by
  refine loopL l (fun fuel_ t_ s_ => hist_isTwice_l0 l  fuel_ t_ s_) (hist_isTwice_b0  ) (hist_isTwice_e0  ) (by first | exact hN | (have := hN; simp only [List.length_nil] at this ⊢; omega)) ?_ ?_ m
  · intro fuel_ i_ s_ hi_
    have hg_ : 0 ≤ (i_ : Int) ∧ (i_ : Int) < (((l).length : Nat) : Int) := by omega
    show hist_isTwice_l0 l  (fuel_ + 1) (i_ : Int) s_ = _
    rw [hist_isTwice_l0, if_pos (decide_eq_true (by omega))]
    repeat rw [if_pos hg_]
    have hinc_ : IntKind.wrap .i64 ((i_ : Int) + 1) = (((i_ + 1 : Nat)) : Int) := by rw [w64 (by omega) (by omega)]; rfl
    try rw [hinc_]
    first | rfl | (unfold hist_isTwice_b0; simp only [hinc_]; done) | (unfold hist_isTwice_b0; simp only [hinc_]; rfl)
  · intro fuel_ s_
    show hist_isTwice_l0 l  (fuel_ + 1) (((l).length : Nat) : Int) s_ = _
    rw [hist_isTwice_l0, if_neg (by rw [decide_eq_true_eq]; omega)]
    rfl

def slices_IndexFunc_hist_Item_hist_Item_b0 (s : List (T_hist_Item))  (t8 : Nat) (s_ : Unit) (k_ : (Unit) → Option ((Int))) : Option ((Int)) :=
  (hist_isWrong_L1 (s.getD t8 default)).bind fun yL0_4 =>
  if (yL0_4 : Bool) then
    some (t8 : Int)
  else
    k_ ()

def slices_IndexFunc_hist_Item_hist_Item_e0   (s_ : Unit) : Option ((Int)) :=
  some (-1)

theorem slices_IndexFunc_hist_Item_hist_Item_w0 (s : List (T_hist_Item))   (hN : (s).length < 9223372036854775807) :
    slices_IndexFunc_hist_Item_hist_Item_l0 s  big 0 = walkN (slices_IndexFunc_hist_Item_hist_Item_b0 s ) (slices_IndexFunc_hist_Item_hist_Item_e0  ) (s).length 0 () := by
  refine loopN (s).length (fun fuel_ t_ s_ => slices_IndexFunc_hist_Item_hist_Item_l0 s  fuel_ t_) (slices_IndexFunc_hist_Item_hist_Item_b0 s ) (slices_IndexFunc_hist_Item_hist_Item_e0  ) (by first | exact hN | (have := hN; simp only [List.length_nil] at this ⊢; omega)) ?_ ?_ ()
  · intro fuel_ i_ s_ hi_
    have hg_ : 0 ≤ (i_ : Int) ∧ (i_ : Int) < (((s).length : Nat) : Int) := by omega
    show slices_IndexFunc_hist_Item_hist_Item_l0 s  (fuel_ + 1) (i_ : Int) = _
    rw [slices_IndexFunc_hist_Item_hist_Item_l0, if_pos (decide_eq_true (by omega))]
    repeat rw [if_pos hg_]
    have hinc_ : IntKind.wrap .i64 ((i_ : Int) + 1) = (((i_ + 1 : Nat)) : Int) := by rw [w64 (by omega) (by omega)]; rfl
    try rw [hinc_]
    first | rfl | (unfold slices_IndexFunc_hist_Item_hist_Item_b0; simp only [hinc_]; done) | (unfold slices_IndexFunc_hist_Item_hist_Item_b0; simp only [hinc_]; rfl)
  · intro fuel_ s_
    show slices_IndexFunc_hist_Item_hist_Item_l0 s  (fuel_ + 1) (((s).length : Nat) : Int) = _
    rw [slices_IndexFunc_hist_Item_hist_Item_l0, if_neg (by rw [decide_eq_true_eq]; omega)]
    rfl

def slices_IndexFunc_hist_Tx_hist_Tx_b0 (s : List (T_hist_Tx))  (t8 : Nat) (s_ : Unit) (k_ : (Unit) → Option ((Int))) : Option ((Int)) :=
  (hist_isWrong (s.getD t8 default)).bind fun yL0_4 =>
  if (yL0_4 : Bool) then
    some (t8 : Int)
  else
    k_ ()

def slices_IndexFunc_hist_Tx_hist_Tx_e0   (s_ : Unit) : Option ((Int)) :=
  some (-1)

theorem slices_IndexFunc_hist_Tx_hist_Tx_w0 (s : List (T_hist_Tx))   (hN : (s).length < 9223372036854775807) :
    slices_IndexFunc_hist_Tx_hist_Tx_l0 s  big 0 = walkN (slices_IndexFunc_hist_Tx_hist_Tx_b0 s ) (slices_IndexFunc_hist_Tx_hist_Tx_e0  ) (s).length 0 () := by
  refine loopN (s).length (fun fuel_ t_ s_ => slices_IndexFunc_hist_Tx_hist_Tx_l0 s  fuel_ t_) (slices_IndexFunc_hist_Tx_hist_Tx_b0 s ) (slices_IndexFunc_hist_Tx_hist_Tx_e0  ) (by first | exact hN | (have := hN; simp only [List.length_nil] at this ⊢; omega)) ?_ ?_ ()
  · intro fuel_ i_ s_ hi_
    have hg_ : 0 ≤ (i_ : Int) ∧ (i_ : Int) < (((s).length : Nat) : Int) := by omega
    show slices_IndexFunc_hist_Tx_hist_Tx_l0 s  (fuel_ + 1) (i_ : Int) = _
    rw [slices_IndexFunc_hist_Tx_hist_Tx_l0, if_pos (decide_eq_true (by omega))]
    repeat rw [if_pos hg_]
    have hinc_ : IntKind.wrap .i64 ((i_ : Int) + 1) = (((i_ + 1 : Nat)) : Int) := by rw [w64 (by omega) (by omega)]; rfl
    try rw [hinc_]
    first | rfl | (unfold slices_IndexFunc_hist_Tx_hist_Tx_b0; simp only [hinc_]; done) | (unfold slices_IndexFunc_hist_Tx_hist_Tx_b0; simp only [hinc_]; rfl)
  · intro fuel_ s_
    show slices_IndexFunc_hist_Tx_hist_Tx_l0 s  (fuel_ + 1) (((s).length : Nat) : Int) = _
    rw [slices_IndexFunc_hist_Tx_hist_Tx_l0, if_neg (by rw [decide_eq_true_eq]; omega)]
    rfl

theorem hist_Check_l1_k (l : List (T_hist_Tx)) (t27 : Int)  (k k' : (Int) → (List (T_hist_version × List UInt8)) → Option ((Int))) (h : ∀ m_, k (IntKind.wrap .i64 (t27 + 1)) m_ = k' (IntKind.wrap .i64 (t27 + 1)) m_) : ∀ fuel t34 m2, hist_Check_l1 l t27 k fuel t34 m2 = hist_Check_l1 l t27 k' fuel t34 m2 := by
  intro fuel
  induction fuel with
  | zero => intros; rfl
  | succ fuel ih => intros; simp only [hist_Check_l1, ih, h]

def hist_Check_b1  (k0 : ((List (T_hist_version × List UInt8))) → Option ((Int))) (a_ : T_hist_Item) (s_ : (List (T_hist_version × List UInt8))) (k_ : ((List (T_hist_version × List UInt8))) → Option ((Int))) : Option ((Int)) :=
  (hist_of a_).bind fun yL1_4 =>
  if (((mget s_ yL1_4).isSome) : Bool) then
    some 7
  else
    (hist_of a_).bind fun yL1_7 =>
    k_ (mset s_ yL1_7 a_.f_Value)

def hist_Check_e1  (k0 : ((List (T_hist_version × List UInt8))) → Option ((Int))) (s_ : (List (T_hist_version × List UInt8))) : Option ((Int)) :=
  k0 s_

theorem hist_Check_w1 (l : List (T_hist_Tx)) (t27 : Int) (k0 : (Int) → (List (T_hist_version × List UInt8)) → Option ((Int))) (m2 : List (T_hist_version × List UInt8)) (hN : ((l.getD t27.toNat default).f_Writes).length < 9223372036854775807) :
    hist_Check_l1 l t27 k0 big 0 m2 = walkL (hist_Check_b1  (fun s_ => k0 (IntKind.wrap .i64 (t27 + 1)) s_)) (hist_Check_e1  (fun s_ => k0 (IntKind.wrap .i64 (t27 + 1)) s_)) (l.getD t27.toNat default).f_Writes m2 := by
  refine loopL (l.getD t27.toNat default).f_Writes (fun fuel_ t_ s_ => hist_Check_l1 l t27 k0 fuel_ t_ s_) (hist_Check_b1  (fun s_ => k0 (IntKind.wrap .i64 (t27 + 1)) s_)) (hist_Check_e1  (fun s_ => k0 (IntKind.wrap .i64 (t27 + 1)) s_)) (by first | exact hN | (have := hN; simp only [List.length_nil] at this ⊢; omega)) ?_ ?_ m2
  · intro fuel_ i_ s_ hi_
    have hg_ : 0 ≤ (i_ : Int) ∧ (i_ : Int) < ((((l.getD t27.toNat default).f_Writes).length : Nat) : Int) := by omega
    show hist_Check_l1 l t27 k0 (fuel_ + 1) (i_ : Int) s_ = _
    rw [hist_Check_l1, if_pos (decide_eq_true (by omega))]
    repeat rw [if_pos hg_]
    have hinc_ : IntKind.wrap .i64 ((i_ : Int) + 1) = (((i_ + 1 : Nat)) : Int) := by rw [w64 (by omega) (by omega)]; rfl
    try rw [hinc_]
    first | rfl | (unfold hist_Check_b1; simp only [hinc_]; done) | (unfold hist_Check_b1; simp only [hinc_]; rfl)
  · intro fuel_ s_
    show hist_Check_l1 l t27 k0 (fuel_ + 1) ((((l.getD t27.toNat default).f_Writes).length : Nat) : Int) s_ = _
    rw [hist_Check_l1, if_neg (by rw [decide_eq_true_eq]; omega)]
    rfl

theorem hist_Check_l3_k (l : List (T_hist_Tx)) (m : List (T_hist_version × List UInt8)) (t55 : Int)  (k k' : (Int) → (Int) → Option ((Int))) (h : ∀ bad_, k bad_ (IntKind.wrap .i64 (t55 + 1)) = k' bad_ (IntKind.wrap .i64 (t55 + 1))) : ∀ fuel bad2 t62, hist_Check_l3 l m t55 k fuel bad2 t62 = hist_Check_l3 l m t55 k' fuel bad2 t62 := by
  intro fuel
  induction fuel with
  | zero => intros; rfl
  | succ fuel ih => intros; simp only [hist_Check_l3, ih, h]

def hist_Check_b3 (m : List (T_hist_version × List UInt8)) (k2 : ((Int)) → Option ((Int))) (a_ : T_hist_Item) (s_ : (Int)) (k_ : ((Int)) → Option ((Int))) : Option ((Int)) :=
  (hist_of a_).bind fun yL3_4 =>
  if ((!((mget m yL3_4).isSome)) : Bool) then
    if ((a_.f_Version != 0) : Bool) then
      some 6
    else
      if ((!(((mget m yL3_4).getD default) == a_.f_Value)) : Bool) then
        k_ 8
      else
        k_ s_
  else
    if ((!(((mget m yL3_4).getD default) == a_.f_Value)) : Bool) then
      k_ 8
    else
      k_ s_

def hist_Check_e3  (k2 : ((Int)) → Option ((Int))) (s_ : (Int)) : Option ((Int)) :=
  k2 s_

theorem hist_Check_w3 (l : List (T_hist_Tx)) (m : List (T_hist_version × List UInt8)) (t55 : Int) (k2 : (Int) → (Int) → Option ((Int))) (bad2 : Int) (hN : ((l.getD t55.toNat default).f_Reads).length < 9223372036854775807) :
    hist_Check_l3 l m t55 k2 big bad2 0 = walkL (hist_Check_b3 m (fun s_ => k2 s_ (IntKind.wrap .i64 (t55 + 1)))) (hist_Check_e3  (fun s_ => k2 s_ (IntKind.wrap .i64 (t55 + 1)))) (l.getD t55.toNat default).f_Reads bad2 := by
  refine loopL (l.getD t55.toNat default).f_Reads (fun fuel_ t_ s_ => hist_Check_l3 l m t55 k2 fuel_ s_ t_) (hist_Check_b3 m (fun s_ => k2 s_ (IntKind.wrap .i64 (t55 + 1)))) (hist_Check_e3  (fun s_ => k2 s_ (IntKind.wrap .i64 (t55 + 1)))) (by first | exact hN | (have := hN; simp only [List.length_nil] at this ⊢; omega)) ?_ ?_ bad2
  · intro fuel_ i_ s_ hi_
    have hg_ : 0 ≤ (i_ : Int) ∧ (i_ : Int) < ((((l.getD t55.toNat default).f_Reads).length : Nat) : Int) := by omega
    show hist_Check_l3 l m t55 k2 (fuel_ + 1) s_ (i_ : Int) = _
    rw [hist_Check_l3, if_pos (decide_eq_true (by omega))]
    repeat rw [if_pos hg_]
    have hinc_ : IntKind.wrap .i64 ((i_ : Int) + 1) = (((i_ + 1 : Nat)) : Int) := by rw [w64 (by omega) (by omega)]; rfl
    try rw [hinc_]
    first | rfl | (unfold hist_Check_b3; simp only [hinc_]; done) | (unfold hist_Check_b3; simp only [hinc_]; rfl)
  · intro fuel_ s_
    show hist_Check_l3 l m t55 k2 (fuel_ + 1) s_ ((((l.getD t55.toNat default).f_Reads).length : Nat) : Int) = _
    rw [hist_Check_l3, if_neg (by rw [decide_eq_true_eq]; omega)]
    rfl

def hist_Check_b2 (l : List (T_hist_Tx)) (m : List (T_hist_version × List UInt8))  (t55 : Nat) (s_ : (Int)) (k_ : ((Int)) → Option ((Int))) : Option ((Int)) :=
  hist_Check_l3 l m (t55 : Int) (fun bad_ _ => k_ bad_) big s_ 0

def hist_Check_e2   (s_ : (Int)) : Option ((Int)) :=
  some s_

theorem hist_Check_w2 (l : List (T_hist_Tx)) (m : List (T_hist_version × List UInt8))  (bad : Int) (hN : (l).length < 9223372036854775807) :
    hist_Check_l2 l m  big bad 0 = walkN (hist_Check_b2 l m ) (hist_Check_e2  ) (l).length 0 bad := by
  refine loopN (l).length (fun fuel_ t_ s_ => hist_Check_l2 l m  fuel_ s_ t_) (hist_Check_b2 l m ) (hist_Check_e2  ) (by first | exact hN | (have := hN; simp only [List.length_nil] at this ⊢; omega)) ?_ ?_ bad
  · intro fuel_ i_ s_ hi_
    have hg_ : 0 ≤ (i_ : Int) ∧ (i_ : Int) < (((l).length : Nat) : Int) := by omega
    show hist_Check_l2 l m  (fuel_ + 1) s_ (i_ : Int) = _
    rw [hist_Check_l2, if_pos (decide_eq_true (by omega))]
    repeat rw [if_pos hg_]
    have hinc_ : IntKind.wrap .i64 ((i_ : Int) + 1) = (((i_ + 1 : Nat)) : Int) := by rw [w64 (by omega) (by omega)]; rfl
    simp only [hist_Check_l3_k _ _ (i_ : Int)  (hist_Check_l2 l m  fuel_) (fun bad_ _ => hist_Check_l2 l m  fuel_ bad_ (((i_ + 1 : Nat)) : Int)) (fun bad_ => by first | rfl | rw [hinc_])]
    try rw [hinc_]
    first | rfl | (unfold hist_Check_b2; simp only [hinc_]; done) | (unfold hist_Check_b2; simp only [hinc_]; rfl)
  · intro fuel_ s_
    show hist_Check_l2 l m  (fuel_ + 1) s_ (((l).length : Nat) : Int) = _
    rw [hist_Check_l2, if_neg (by rw [decide_eq_true_eq]; omega)]
    rfl

def hist_Check_b0 (l : List (T_hist_Tx))  (t27 : Nat) (s_ : (List (T_hist_version × List UInt8))) (k_ : ((List (T_hist_version × List UInt8))) → Option ((Int))) : Option ((Int)) :=
  hist_Check_l1 l (t27 : Int) (fun _ m_ => k_ m_) big 0 s_

def hist_Check_e0 (l : List (T_hist_Tx))  (s_ : (List (T_hist_version × List UInt8))) : Option ((Int)) :=
  hist_Check_l2 l s_  big 0 0

theorem hist_Check_w0 (l : List (T_hist_Tx))  (m : List (T_hist_version × List UInt8)) (hN : (l).length < 9223372036854775807) :
    hist_Check_l0 l  big 0 m = walkN (hist_Check_b0 l ) (hist_Check_e0 l ) (l).length 0 m := by
  refine loopN (l).length (fun fuel_ t_ s_ => hist_Check_l0 l  fuel_ t_ s_) (hist_Check_b0 l ) (hist_Check_e0 l ) (by first | exact hN | (have := hN; simp only [List.length_nil] at this ⊢; omega)) ?_ ?_ m
  · intro fuel_ i_ s_ hi_
    have hg_ : 0 ≤ (i_ : Int) ∧ (i_ : Int) < (((l).length : Nat) : Int) := by omega
    show hist_Check_l0 l  (fuel_ + 1) (i_ : Int) s_ = _
    rw [hist_Check_l0, if_pos (decide_eq_true (by omega))]
    repeat rw [if_pos hg_]
    have hinc_ : IntKind.wrap .i64 ((i_ : Int) + 1) = (((i_ + 1 : Nat)) : Int) := by rw [w64 (by omega) (by omega)]; rfl
    simp only [hist_Check_l1_k _ (i_ : Int)  (hist_Check_l0 l  fuel_) (fun _ m_ => hist_Check_l0 l  fuel_ (((i_ + 1 : Nat)) : Int) m_) (fun m_ => by first | rfl | rw [hinc_])]
    try rw [hinc_]
    first | rfl | (unfold hist_Check_b0; simp only [hinc_]; done) | (unfold hist_Check_b0; simp only [hinc_]; rfl)
  · intro fuel_ s_
    show hist_Check_l0 l  (fuel_ + 1) (((l).length : Nat) : Int) s_ = _
    rw [hist_Check_l0, if_neg (by rw [decide_eq_true_eq]; omega)]
    rfl

def hist_first_b0   (a_ : T_hist_Item) (s_ : (List (A8 (Int) × Int))) (k_ : ((List (A8 (Int) × Int))) → Option ((List (A8 (Int) × Int)))) : Option ((List (A8 (Int) × Int))) :=
  k_ (mset s_ a_.f_Key a_.f_Version)

def hist_first_e0   (s_ : (List (A8 (Int) × Int))) : Option ((List (A8 (Int) × Int))) :=
  some s_

theorem hist_first_w0 (l : List (T_hist_Item))  (m : List (A8 (Int) × Int)) (hN : (l).length < 9223372036854775807) :
    hist_first_l0 l  big 0 m = walkL (hist_first_b0  ) (hist_first_e0  ) l m := by
  refine loopL l (fun fuel_ t_ s_ => hist_first_l0 l  fuel_ t_ s_) (hist_first_b0  ) (hist_first_e0  ) (by first | exact hN | (have := hN; simp only [List.length_nil] at this ⊢; omega)) ?_ ?_ m
  · intro fuel_ i_ s_ hi_
    have hg_ : 0 ≤ (i_ : Int) ∧ (i_ : Int) < (((l).length : Nat) : Int) := by omega
    show hist_first_l0 l  (fuel_ + 1) (i_ : Int) s_ = _
    rw [hist_first_l0, if_pos (decide_eq_true (by omega))]
    repeat rw [if_pos hg_]
    have hinc_ : IntKind.wrap .i64 ((i_ : Int) + 1) = (((i_ + 1 : Nat)) : Int) := by rw [w64 (by omega) (by omega)]; rfl
    try rw [hinc_]
    first | rfl | (unfold hist_first_b0; simp only [hinc_]; done) | (unfold hist_first_b0; simp only [hinc_]; rfl)
  · intro fuel_ s_
    show hist_first_l0 l  (fuel_ + 1) (((l).length : Nat) : Int) s_ = _
    rw [hist_first_l0, if_neg (by rw [decide_eq_true_eq]; omega)]
    rfl

def slices_IndexFunc_hist_Item_hist_Item_2_b0 (s : List (T_hist_Item)) (x : List (A8 (Int) × Int)) (c : Bool)  (t8 : Nat) (s_ : Unit) (k_ : (Unit) → Option ((Int))) : Option ((Int)) :=
  (hist_follows_L1 (s.getD t8 default) x c).bind fun yL0_4 =>
  if (yL0_4 : Bool) then
    some (t8 : Int)
  else
    k_ ()

def slices_IndexFunc_hist_Item_hist_Item_2_e0   (s_ : Unit) : Option ((Int)) :=
  some (-1)

theorem slices_IndexFunc_hist_Item_hist_Item_2_w0 (s : List (T_hist_Item)) (x : List (A8 (Int) × Int)) (c : Bool)   (hN : (s).length < 9223372036854775807) :
    slices_IndexFunc_hist_Item_hist_Item_2_l0 s x c  big 0 = walkN (slices_IndexFunc_hist_Item_hist_Item_2_b0 s x c ) (slices_IndexFunc_hist_Item_hist_Item_2_e0  ) (s).length 0 () := by
  refine loopN (s).length (fun fuel_ t_ s_ => slices_IndexFunc_hist_Item_hist_Item_2_l0 s x c  fuel_ t_) (slices_IndexFunc_hist_Item_hist_Item_2_b0 s x c ) (slices_IndexFunc_hist_Item_hist_Item_2_e0  ) (by first | exact hN | (have := hN; simp only [List.length_nil] at this ⊢; omega)) ?_ ?_ ()
  · intro fuel_ i_ s_ hi_
    have hg_ : 0 ≤ (i_ : Int) ∧ (i_ : Int) < (((s).length : Nat) : Int) := by omega
    show slices_IndexFunc_hist_Item_hist_Item_2_l0 s x c  (fuel_ + 1) (i_ : Int) = _
    rw [slices_IndexFunc_hist_Item_hist_Item_2_l0, if_pos (decide_eq_true (by omega))]
    repeat rw [if_pos hg_]
    have hinc_ : IntKind.wrap .i64 ((i_ : Int) + 1) = (((i_ + 1 : Nat)) : Int) := by rw [w64 (by omega) (by omega)]; rfl
    try rw [hinc_]
    first | rfl | (unfold slices_IndexFunc_hist_Item_hist_Item_2_b0; simp only [hinc_]; done) | (unfold slices_IndexFunc_hist_Item_hist_Item_2_b0; simp only [hinc_]; rfl)
  · intro fuel_ s_
    show slices_IndexFunc_hist_Item_hist_Item_2_l0 s x c  (fuel_ + 1) (((s).length : Nat) : Int) = _
    rw [slices_IndexFunc_hist_Item_hist_Item_2_l0, if_neg (by rw [decide_eq_true_eq]; omega)]
    rfl

theorem hist_graph_l1_k (l : List (T_hist_Tx)) (t13 : Int) (l2 : List (List (Int)))  (k k' : (Int) → (List (List (Int))) → Option ((List (List (Int))))) (h : ∀ l2_, k (IntKind.wrap .i64 (t13 + 1)) l2_ = k' (IntKind.wrap .i64 (t13 + 1)) l2_) : ∀ fuel t20 l3, hist_graph_l1 l t13 l2 k fuel t20 l3 = hist_graph_l1 l t13 l2 k' fuel t20 l3 := by
  intro fuel
  induction fuel with
  | zero => intros; rfl
  | succ fuel ih => intros; simp only [hist_graph_l1, ih, h]

def hist_graph_b1 (l : List (T_hist_Tx)) (t13 : Int) (l2 : List (List (Int))) (k0 : ((List (List (Int)))) → Option ((List (List (Int))))) (t20 : Nat) (s_ : (List (Int))) (k_ : ((List (Int))) → Option ((List (List (Int))))) : Option ((List (List (Int)))) :=
  if ((t13 != (t20 : Int)) : Bool) then
    (hist_isAhead (l.getD t13.toNat default) (l.getD t20 default)).bind fun yL1_5 =>
    if (yL1_5 : Bool) then
      if 0 ≤ t13 ∧ t13 < ((((((l).length : Int)).toNat) : Nat) : Int) then
      if t13.toNat = (l2).length then
      if ((s_).length + ([(t20 : Int)]).length) * 8 ≤ 140737488351232 then
      k_ (s_ ++ [(t20 : Int)])
      else none
      else none
      else none
    else
      k_ s_
  else
    k_ s_

def hist_graph_e1 (l2 : List (List (Int))) (k0 : ((List (List (Int)))) → Option ((List (List (Int))))) (s_ : (List (Int))) : Option ((List (List (Int)))) :=
  k0 (l2 ++ [s_])

theorem hist_graph_w1 (l : List (T_hist_Tx)) (t13 : Int) (l2 : List (List (Int))) (k0 : (Int) → (List (List (Int))) → Option ((List (List (Int))))) (l3 : List (Int)) (hN : (l).length < 9223372036854775807) :
    hist_graph_l1 l t13 l2 k0 big 0 l3 = walkN (hist_graph_b1 l t13 l2 (fun s_ => k0 (IntKind.wrap .i64 (t13 + 1)) s_)) (hist_graph_e1 l2 (fun s_ => k0 (IntKind.wrap .i64 (t13 + 1)) s_)) (l).length 0 l3 := by
  refine loopN (l).length (fun fuel_ t_ s_ => hist_graph_l1 l t13 l2 k0 fuel_ t_ s_) (hist_graph_b1 l t13 l2 (fun s_ => k0 (IntKind.wrap .i64 (t13 + 1)) s_)) (hist_graph_e1 l2 (fun s_ => k0 (IntKind.wrap .i64 (t13 + 1)) s_)) (by first | exact hN | (have := hN; simp only [List.length_nil] at this ⊢; omega)) ?_ ?_ l3
  · intro fuel_ i_ s_ hi_
    have hg_ : 0 ≤ (i_ : Int) ∧ (i_ : Int) < (((l).length : Nat) : Int) := by omega
    show hist_graph_l1 l t13 l2 k0 (fuel_ + 1) (i_ : Int) s_ = _
    rw [hist_graph_l1, if_pos (decide_eq_true (by omega))]
    repeat rw [if_pos hg_]
    have hinc_ : IntKind.wrap .i64 ((i_ : Int) + 1) = (((i_ + 1 : Nat)) : Int) := by rw [w64 (by omega) (by omega)]; rfl
    try rw [hinc_]
    first | rfl | (unfold hist_graph_b1; simp only [hinc_]; done) | (unfold hist_graph_b1; simp only [hinc_]; rfl)
  · intro fuel_ s_
    show hist_graph_l1 l t13 l2 k0 (fuel_ + 1) (((l).length : Nat) : Int) s_ = _
    rw [hist_graph_l1, if_neg (by rw [decide_eq_true_eq]; omega)]
    rfl

def hist_graph_b0 (l : List (T_hist_Tx))  (t13 : Nat) (s_ : (List (List (Int)))) (k_ : ((List (List (Int)))) → Option ((List (List (Int))))) : Option ((List (List (Int)))) :=
  hist_graph_l1 l (t13 : Int) s_ (fun _ l2_ => k_ l2_) big 0 ([] : List (Int))

def hist_graph_e0 (l : List (T_hist_Tx))  (s_ : (List (List (Int)))) : Option ((List (List (Int)))) :=
  if ((((l).length : Int)).toNat) = (s_).length then
  some s_
  else none

theorem hist_graph_w0 (l : List (T_hist_Tx))  (l2 : List (List (Int))) (hN : (l).length < 9223372036854775807) :
    hist_graph_l0 l  big 0 l2 = walkN (hist_graph_b0 l ) (hist_graph_e0 l ) (l).length 0 l2 := by
  refine loopN (l).length (fun fuel_ t_ s_ => hist_graph_l0 l  fuel_ t_ s_) (hist_graph_b0 l ) (hist_graph_e0 l ) (by first | exact hN | (have := hN; simp only [List.length_nil] at this ⊢; omega)) ?_ ?_ l2
  · intro fuel_ i_ s_ hi_
    have hg_ : 0 ≤ (i_ : Int) ∧ (i_ : Int) < (((l).length : Nat) : Int) := by omega
    show hist_graph_l0 l  (fuel_ + 1) (i_ : Int) s_ = _
    rw [hist_graph_l0, if_pos (decide_eq_true (by omega))]
    repeat rw [if_pos hg_]
    have hinc_ : IntKind.wrap .i64 ((i_ : Int) + 1) = (((i_ + 1 : Nat)) : Int) := by rw [w64 (by omega) (by omega)]; rfl
    simp only [hist_graph_l1_k _ (i_ : Int) _  (hist_graph_l0 l  fuel_) (fun _ l2_ => hist_graph_l0 l  fuel_ (((i_ + 1 : Nat)) : Int) l2_) (fun l2_ => by first | rfl | rw [hinc_])]
    try rw [hinc_]
    first | rfl | (unfold hist_graph_b0; simp only [hinc_]; done) | (unfold hist_graph_b0; simp only [hinc_]; rfl)
  · intro fuel_ s_
    show hist_graph_l0 l  (fuel_ + 1) (((l).length : Nat) : Int) s_ = _
    rw [hist_graph_l0, if_neg (by rw [decide_eq_true_eq]; omega)]
    rfl

def slices_Index_int_int_b0 (s : List (Int)) (v : Int)  (t8 : Nat) (s_ : Unit) (k_ : (Unit) → Option ((Int))) : Option ((Int)) :=
  if (0 + t8) < (s).length then
  if ((v == (s.getD (0 + t8) default)) : Bool) then
    some (t8 : Int)
  else
    k_ ()
  else none

def slices_Index_int_int_e0   (s_ : Unit) : Option ((Int)) :=
  some (-1)

theorem slices_Index_int_int_w0 (s : List (Int)) (s_n : Nat) (v : Int)   (hN : s_n < 9223372036854775807) :
    slices_Index_int_int_l0 s s_n v  big 0 = walkN (slices_Index_int_int_b0 s v ) (slices_Index_int_int_e0  ) s_n 0 () := by
  refine loopN s_n (fun fuel_ t_ s_ => slices_Index_int_int_l0 s s_n v  fuel_ t_) (slices_Index_int_int_b0 s v ) (slices_Index_int_int_e0  ) (by first | exact hN | (have := hN; simp only [List.length_nil] at this ⊢; omega)) ?_ ?_ ()
  · intro fuel_ i_ s_ hi_
    have hg_ : 0 ≤ (i_ : Int) ∧ (i_ : Int) < ((s_n : Nat) : Int) := by omega
    show slices_Index_int_int_l0 s s_n v  (fuel_ + 1) (i_ : Int) = _
    rw [slices_Index_int_int_l0, if_pos (decide_eq_true (by omega))]
    repeat rw [if_pos hg_]
    have hinc_ : IntKind.wrap .i64 ((i_ : Int) + 1) = (((i_ + 1 : Nat)) : Int) := by rw [w64 (by omega) (by omega)]; rfl
    try rw [hinc_]
    first | rfl | (unfold slices_Index_int_int_b0; simp only [hinc_]; done) | (unfold slices_Index_int_int_b0; simp only [hinc_]; rfl)
  · intro fuel_ s_
    show slices_Index_int_int_l0 s s_n v  (fuel_ + 1) ((s_n : Nat) : Int) = _
    rw [slices_Index_int_int_l0, if_neg (by rw [decide_eq_true_eq]; omega)]
    rfl

theorem hist_order_l1_k (g : List (List (Int))) (t17 : Int)  (k k' : (Int) → (List (Int)) → Option ((List (Int)))) (h : ∀ l_, k (IntKind.wrap .i64 (t17 + 1)) l_ = k' (IntKind.wrap .i64 (t17 + 1)) l_) : ∀ fuel t23 l2, hist_order_l1 g t17 k fuel t23 l2 = hist_order_l1 g t17 k' fuel t23 l2 := by
  intro fuel
  induction fuel with
  | zero => intros; rfl
  | succ fuel ih => intros; simp only [hist_order_l1, ih, h]

def hist_order_b1 (g : List (List (Int))) (k0 : ((List (Int))) → Option ((List (Int)))) (a_ : Int) (s_ : (List (Int))) (k_ : ((List (Int))) → Option ((List (Int)))) : Option ((List (Int))) :=
  if 0 ≤ a_ ∧ a_ < ((((((g).length : Int)).toNat) : Nat) : Int) then
  if (0 + (a_).toNat) < (s_).length then
  k_ (s_.set (0 + (a_).toNat) (IntKind.wrap .i64 ((s_.getD (0 + (a_).toNat) default) + 1)))
  else none
  else none

def hist_order_e1  (k0 : ((List (Int))) → Option ((List (Int)))) (s_ : (List (Int))) : Option ((List (Int))) :=
  k0 s_

theorem hist_order_w1 (g : List (List (Int))) (t17 : Int) (k0 : (Int) → (List (Int)) → Option ((List (Int)))) (l2 : List (Int)) (hN : ((g.getD t17.toNat default)).length < 9223372036854775807) :
    hist_order_l1 g t17 k0 big 0 l2 = walkL (hist_order_b1 g (fun s_ => k0 (IntKind.wrap .i64 (t17 + 1)) s_)) (hist_order_e1  (fun s_ => k0 (IntKind.wrap .i64 (t17 + 1)) s_)) (g.getD t17.toNat default) l2 := by
  refine loopL (g.getD t17.toNat default) (fun fuel_ t_ s_ => hist_order_l1 g t17 k0 fuel_ t_ s_) (hist_order_b1 g (fun s_ => k0 (IntKind.wrap .i64 (t17 + 1)) s_)) (hist_order_e1  (fun s_ => k0 (IntKind.wrap .i64 (t17 + 1)) s_)) (by first | exact hN | (have := hN; simp only [List.length_nil] at this ⊢; omega)) ?_ ?_ l2
  · intro fuel_ i_ s_ hi_
    have hg_ : 0 ≤ (i_ : Int) ∧ (i_ : Int) < ((((g.getD t17.toNat default)).length : Nat) : Int) := by omega
    show hist_order_l1 g t17 k0 (fuel_ + 1) (i_ : Int) s_ = _
    rw [hist_order_l1, if_pos (decide_eq_true (by omega))]
    repeat rw [if_pos hg_]
    have hinc_ : IntKind.wrap .i64 ((i_ : Int) + 1) = (((i_ + 1 : Nat)) : Int) := by rw [w64 (by omega) (by omega)]; rfl
    try rw [hinc_]
    first | rfl | (unfold hist_order_b1; simp only [hinc_]; done) | (unfold hist_order_b1; simp only [hinc_]; rfl)
  · intro fuel_ s_
    show hist_order_l1 g t17 k0 (fuel_ + 1) ((((g.getD t17.toNat default)).length : Nat) : Int) s_ = _
    rw [hist_order_l1, if_neg (by rw [decide_eq_true_eq]; omega)]
    rfl

def hist_order_b3 (g : List (List (Int))) (k2 : (List (Int)) → (List (Int)) → Option ((List (Int)))) (a_ : Int) (s_ : (List (Int))) (k_ : ((List (Int))) → Option ((List (Int)))) : Option ((List (Int))) :=
  if 0 ≤ a_ ∧ a_ < ((((((g).length : Int)).toNat) : Nat) : Int) then
  if (0 + (a_).toNat) < (s_).length then
  k_ (s_.set (0 + (a_).toNat) (IntKind.wrap .i64 ((s_.getD (0 + (a_).toNat) default) - 1)))
  else none
  else none

def hist_order_e3 (l4 : List (Int)) (yL2_2 : (Int)) (k2 : (List (Int)) → (List (Int)) → Option ((List (Int)))) (s_ : (List (Int))) : Option ((List (Int))) :=
  if ((l4).length + ([yL2_2]).length) * 8 ≤ 140737488351232 then
  k2 s_ (l4 ++ [yL2_2])
  else none

theorem hist_order_w3 (g : List (List (Int))) (l4 : List (Int)) (yL2_2 : (Int)) (k2 : (List (Int)) → (List (Int)) → Option ((List (Int)))) (l5 : List (Int)) (hN : ((g.getD yL2_2.toNat default)).length < 9223372036854775807) :
    hist_order_l3 g l4 yL2_2 k2 big 0 l5 = walkL (hist_order_b3 g k2) (hist_order_e3 l4 yL2_2 k2) (g.getD yL2_2.toNat default) l5 := by
  refine loopL (g.getD yL2_2.toNat default) (fun fuel_ t_ s_ => hist_order_l3 g l4 yL2_2 k2 fuel_ t_ s_) (hist_order_b3 g k2) (hist_order_e3 l4 yL2_2 k2) (by first | exact hN | (have := hN; simp only [List.length_nil] at this ⊢; omega)) ?_ ?_ l5
  · intro fuel_ i_ s_ hi_
    have hg_ : 0 ≤ (i_ : Int) ∧ (i_ : Int) < ((((g.getD yL2_2.toNat default)).length : Nat) : Int) := by omega
    show hist_order_l3 g l4 yL2_2 k2 (fuel_ + 1) (i_ : Int) s_ = _
    rw [hist_order_l3, if_pos (decide_eq_true (by omega))]
    repeat rw [if_pos hg_]
    have hinc_ : IntKind.wrap .i64 ((i_ : Int) + 1) = (((i_ + 1 : Nat)) : Int) := by rw [w64 (by omega) (by omega)]; rfl
    try rw [hinc_]
    first | rfl | (unfold hist_order_b3; simp only [hinc_]; done) | (unfold hist_order_b3; simp only [hinc_]; rfl)
  · intro fuel_ s_
    show hist_order_l3 g l4 yL2_2 k2 (fuel_ + 1) ((((g.getD yL2_2.toNat default)).length : Nat) : Int) s_ = _
    rw [hist_order_l3, if_neg (by rw [decide_eq_true_eq]; omega)]
    rfl

def hist_order_b0 (g : List (List (Int)))  (t17 : Nat) (s_ : (List (Int))) (k_ : ((List (Int))) → Option ((List (Int)))) : Option ((List (Int))) :=
  hist_order_l1 g (t17 : Int) (fun _ l_ => k_ l_) big 0 s_

def hist_order_e0 (g : List (List (Int)))  (s_ : (List (Int))) : Option ((List (Int))) :=
  hist_order_l2 g  big s_ ([] : List (Int))

theorem hist_order_w0 (g : List (List (Int)))  (l : List (Int)) (hN : (g).length < 9223372036854775807) :
    hist_order_l0 g  big 0 l = walkN (hist_order_b0 g ) (hist_order_e0 g ) (g).length 0 l := by
  refine loopN (g).length (fun fuel_ t_ s_ => hist_order_l0 g  fuel_ t_ s_) (hist_order_b0 g ) (hist_order_e0 g ) (by first | exact hN | (have := hN; simp only [List.length_nil] at this ⊢; omega)) ?_ ?_ l
  · intro fuel_ i_ s_ hi_
    have hg_ : 0 ≤ (i_ : Int) ∧ (i_ : Int) < (((g).length : Nat) : Int) := by omega
    show hist_order_l0 g  (fuel_ + 1) (i_ : Int) s_ = _
    rw [hist_order_l0, if_pos (decide_eq_true (by omega))]
    repeat rw [if_pos hg_]
    have hinc_ : IntKind.wrap .i64 ((i_ : Int) + 1) = (((i_ + 1 : Nat)) : Int) := by rw [w64 (by omega) (by omega)]; rfl
    simp only [hist_order_l1_k _ (i_ : Int)  (hist_order_l0 g  fuel_) (fun _ l_ => hist_order_l0 g  fuel_ (((i_ + 1 : Nat)) : Int) l_) (fun l_ => by first | rfl | rw [hinc_])]
    try rw [hinc_]
    first | rfl | (unfold hist_order_b0; simp only [hinc_]; done) | (unfold hist_order_b0; simp only [hinc_]; rfl)
  · intro fuel_ s_
    show hist_order_l0 g  (fuel_ + 1) (((g).length : Nat) : Int) s_ = _
    rw [hist_order_l0, if_neg (by rw [decide_eq_true_eq]; omega)]
    rfl

def slices_Index_int_int_2_b0 (s : List (Int)) (v : Int)  (t8 : Nat) (s_ : Unit) (k_ : (Unit) → Option ((Int))) : Option ((Int)) :=
  if ((v == (s.getD t8 default)) : Bool) then
    some (t8 : Int)
  else
    k_ ()

def slices_Index_int_int_2_e0   (s_ : Unit) : Option ((Int)) :=
  some (-1)

theorem slices_Index_int_int_2_w0 (s : List (Int)) (v : Int)   (hN : (s).length < 9223372036854775807) :
    slices_Index_int_int_2_l0 s v  big 0 = walkN (slices_Index_int_int_2_b0 s v ) (slices_Index_int_int_2_e0  ) (s).length 0 () := by
  refine loopN (s).length (fun fuel_ t_ s_ => slices_Index_int_int_2_l0 s v  fuel_ t_) (slices_Index_int_int_2_b0 s v ) (slices_Index_int_int_2_e0  ) (by first | exact hN | (have := hN; simp only [List.length_nil] at this ⊢; omega)) ?_ ?_ ()
  · intro fuel_ i_ s_ hi_
    have hg_ : 0 ≤ (i_ : Int) ∧ (i_ : Int) < (((s).length : Nat) : Int) := by omega
    show slices_Index_int_int_2_l0 s v  (fuel_ + 1) (i_ : Int) = _
    rw [slices_Index_int_int_2_l0, if_pos (decide_eq_true (by omega))]
    repeat rw [if_pos hg_]
    have hinc_ : IntKind.wrap .i64 ((i_ : Int) + 1) = (((i_ + 1 : Nat)) : Int) := by rw [w64 (by omega) (by omega)]; rfl
    try rw [hinc_]
    first | rfl | (unfold slices_Index_int_int_2_b0; simp only [hinc_]; done) | (unfold slices_Index_int_int_2_b0; simp only [hinc_]; rfl)
  · intro fuel_ s_
    show slices_Index_int_int_2_l0 s v  (fuel_ + 1) (((s).length : Nat) : Int) = _
    rw [slices_Index_int_int_2_l0, if_neg (by rw [decide_eq_true_eq]; omega)]
    rfl

def slices_IndexFunc_int_int_b0 (s : List (Int)) (c : List (List (Int))) (c2 : Int)  (t8 : Nat) (s_ : Unit) (k_ : (Unit) → Option ((Int))) : Option ((Int)) :=
  (hist_back_L1 (s.getD t8 default) c c2).bind fun yL0_4 =>
  if (yL0_4 : Bool) then
    some (t8 : Int)
  else
    k_ ()

def slices_IndexFunc_int_int_e0   (s_ : Unit) : Option ((Int)) :=
  some (-1)

theorem slices_IndexFunc_int_int_w0 (s : List (Int)) (c : List (List (Int))) (c2 : Int)   (hN : (s).length < 9223372036854775807) :
    slices_IndexFunc_int_int_l0 s c c2  big 0 = walkN (slices_IndexFunc_int_int_b0 s c c2 ) (slices_IndexFunc_int_int_e0  ) (s).length 0 () := by
  refine loopN (s).length (fun fuel_ t_ s_ => slices_IndexFunc_int_int_l0 s c c2  fuel_ t_) (slices_IndexFunc_int_int_b0 s c c2 ) (slices_IndexFunc_int_int_e0  ) (by first | exact hN | (have := hN; simp only [List.length_nil] at this ⊢; omega)) ?_ ?_ ()
  · intro fuel_ i_ s_ hi_
    have hg_ : 0 ≤ (i_ : Int) ∧ (i_ : Int) < (((s).length : Nat) : Int) := by omega
    show slices_IndexFunc_int_int_l0 s c c2  (fuel_ + 1) (i_ : Int) = _
    rw [slices_IndexFunc_int_int_l0, if_pos (decide_eq_true (by omega))]
    repeat rw [if_pos hg_]
    have hinc_ : IntKind.wrap .i64 ((i_ : Int) + 1) = (((i_ + 1 : Nat)) : Int) := by rw [w64 (by omega) (by omega)]; rfl
    try rw [hinc_]
    first | rfl | (unfold slices_IndexFunc_int_int_b0; simp only [hinc_]; done) | (unfold slices_IndexFunc_int_int_b0; simp only [hinc_]; rfl)
  · intro fuel_ s_
    show slices_IndexFunc_int_int_l0 s c c2  (fuel_ + 1) (((s).length : Nat) : Int) = _
    rw [slices_IndexFunc_int_int_l0, if_neg (by rw [decide_eq_true_eq]; omega)]
    rfl

def hist_back_b2 (g : List (List (Int))) (row : List (Int)) (x_n : Int) (k1 : (List (Int)) → (Int) → (List (Int)) → Option ((List (Int)))) (x : Nat) (s_ : (List (Int)) × (List (Int))) (k_ : ((List (Int)) × (List (Int))) → Option ((List (Int)))) : Option ((List (Int))) :=
  if 0 ≤ (x : Int) ∧ (x : Int) < ((((((g).length : Int)).toNat) : Nat) : Int) then
  if (0 + x) < (s_.1).length then
  if ((decide ((s_.1.getD (0 + x) default) < 0)) : Bool) then
    (slices_ContainsFunc_int_int row g (x : Int)).bind fun yL2_6 =>
    if (yL2_6 : Bool) then
      if ((s_.2).length + ([(x : Int)]).length) * 8 ≤ 140737488351232 then
      k_ ((s_.1.set (0 + x) x_n), (s_.2 ++ [(x : Int)]))
      else none
    else
      k_ (s_.1, s_.2)
  else
    k_ (s_.1, s_.2)
  else none
  else none

def hist_back_e2 (x_n : Int) (k1 : (List (Int)) → (Int) → (List (Int)) → Option ((List (Int)))) (s_ : (List (Int)) × (List (Int))) : Option ((List (Int))) :=
  k1 s_.2 (IntKind.wrap .i64 (x_n + 1)) s_.1

theorem hist_back_ws2 (g : List (List (Int))) (to : Int) (row : List (Int)) (x_n : Int) (k1 : (List (Int)) → (Int) → (List (Int)) → Option ((List (Int)))) (l3 : List (Int)) (l4 : List (Int)) (st_ : Nat) (hst_ : st_ ≤ (g).length) (hN : (g).length < 9223372036854775807) :
    hist_back_l2 g to row x_n k1 big l3 l4 (st_ : Int) = walkN (hist_back_b2 g row x_n k1) (hist_back_e2 x_n k1) ((g).length - st_) st_ (l3, l4) := by
  refine loopNs (g).length st_ hst_ (fun fuel_ t_ s_ => hist_back_l2 g to row x_n k1 fuel_ s_.1 s_.2 t_) (hist_back_b2 g row x_n k1) (hist_back_e2 x_n k1) (by first | exact hN | (have := hN; simp only [List.length_nil] at this ⊢; omega)) ?_ ?_ (l3, l4)
  · intro fuel_ i_ s_ hi_
    have hg_ : 0 ≤ (i_ : Int) ∧ (i_ : Int) < (((g).length : Nat) : Int) := by omega
    show hist_back_l2 g to row x_n k1 (fuel_ + 1) s_.1 s_.2 (i_ : Int) = _
    rw [hist_back_l2, if_pos (decide_eq_true (by omega))]
    have hinc_ : IntKind.wrap .i64 ((i_ : Int) + 1) = (((i_ + 1 : Nat)) : Int) := by rw [w64 (by omega) (by omega)]; rfl
    try rw [hinc_]
    first | rfl | (unfold hist_back_b2; simp only [hinc_]; done) | (unfold hist_back_b2; simp only [hinc_]; rfl)
  · intro fuel_ s_
    show hist_back_l2 g to row x_n k1 (fuel_ + 1) s_.1 s_.2 (((g).length : Nat) : Int) = _
    rw [hist_back_l2, if_neg (by rw [decide_eq_true_eq]; omega)]
    rfl

def hist_back_b0   (t16 : Nat) (s_ : (List (Int))) (k_ : ((List (Int))) → Option ((List (Int)))) : Option ((List (Int))) :=
  if (0 + t16) < (s_).length then
  k_ (s_.set (0 + t16) (-1))
  else none

def hist_back_e0 (g : List (List (Int))) (to : Int)  (s_ : (List (Int))) : Option ((List (Int))) :=
  hist_back_l1 g to  big ([to]) 1 s_

theorem hist_back_w0 (g : List (List (Int))) (to : Int)  (l : List (Int)) (hN : ((((g).length : Int)).toNat) < 9223372036854775807) :
    hist_back_l0 g to  big 0 l = walkN (hist_back_b0  ) (hist_back_e0 g to ) ((((g).length : Int)).toNat) 0 l := by
  refine loopN ((((g).length : Int)).toNat) (fun fuel_ t_ s_ => hist_back_l0 g to  fuel_ t_ s_) (hist_back_b0  ) (hist_back_e0 g to ) (by first | exact hN | (have := hN; simp only [List.length_nil] at this ⊢; omega)) ?_ ?_ l
  · intro fuel_ i_ s_ hi_
    have hg_ : 0 ≤ (i_ : Int) ∧ (i_ : Int) < ((((((g).length : Int)).toNat) : Nat) : Int) := by omega
    show hist_back_l0 g to  (fuel_ + 1) (i_ : Int) s_ = _
    rw [hist_back_l0, if_pos (decide_eq_true (by omega))]
    repeat rw [if_pos hg_]
    have hinc_ : IntKind.wrap .i64 ((i_ : Int) + 1) = (((i_ + 1 : Nat)) : Int) := by rw [w64 (by omega) (by omega)]; rfl
    try rw [hinc_]
    first | rfl | (unfold hist_back_b0; simp only [hinc_]; done) | (unfold hist_back_b0; simp only [hinc_]; rfl)
  · intro fuel_ s_
    show hist_back_l0 g to  (fuel_ + 1) ((((((g).length : Int)).toNat) : Nat) : Int) s_ = _
    rw [hist_back_l0, if_neg (by rw [decide_eq_true_eq]; omega)]
    rfl

def slices_IndexFunc_int_int_2_b0 (s : List (Int)) (c : Int) (c2 : List (Int)) (c3 : Int)  (t8 : Nat) (s_ : Unit) (k_ : (Unit) → Option ((Int))) : Option ((Int)) :=
  (hist_Circle_L1 (s.getD t8 default) c c2 c3).bind fun yL0_4 =>
  if (yL0_4 : Bool) then
    some (t8 : Int)
  else
    k_ ()

def slices_IndexFunc_int_int_2_e0   (s_ : Unit) : Option ((Int)) :=
  some (-1)

theorem slices_IndexFunc_int_int_2_w0 (s : List (Int)) (c : Int) (c2 : List (Int)) (c3 : Int)   (hN : (s).length < 9223372036854775807) :
    slices_IndexFunc_int_int_2_l0 s c c2 c3  big 0 = walkN (slices_IndexFunc_int_int_2_b0 s c c2 c3 ) (slices_IndexFunc_int_int_2_e0  ) (s).length 0 () := by
  refine loopN (s).length (fun fuel_ t_ s_ => slices_IndexFunc_int_int_2_l0 s c c2 c3  fuel_ t_) (slices_IndexFunc_int_int_2_b0 s c c2 c3 ) (slices_IndexFunc_int_int_2_e0  ) (by first | exact hN | (have := hN; simp only [List.length_nil] at this ⊢; omega)) ?_ ?_ ()
  · intro fuel_ i_ s_ hi_
    have hg_ : 0 ≤ (i_ : Int) ∧ (i_ : Int) < (((s).length : Nat) : Int) := by omega
    show slices_IndexFunc_int_int_2_l0 s c c2 c3  (fuel_ + 1) (i_ : Int) = _
    rw [slices_IndexFunc_int_int_2_l0, if_pos (decide_eq_true (by omega))]
    repeat rw [if_pos hg_]
    have hinc_ : IntKind.wrap .i64 ((i_ : Int) + 1) = (((i_ + 1 : Nat)) : Int) := by rw [w64 (by omega) (by omega)]; rfl
    try rw [hinc_]
    first | rfl | (unfold slices_IndexFunc_int_int_2_b0; simp only [hinc_]; done) | (unfold slices_IndexFunc_int_int_2_b0; simp only [hinc_]; rfl)
  · intro fuel_ s_
    show slices_IndexFunc_int_int_2_l0 s c c2 c3  (fuel_ + 1) (((s).length : Nat) : Int) = _
    rw [slices_IndexFunc_int_int_2_l0, if_neg (by rw [decide_eq_true_eq]; omega)]
    rfl

theorem hist_Circle_l1_k (t23 : Int) (y5 : (List (List (Int)))) (yL0_3 : (List (Int)))  (k k' : (Int) → (List (Int)) → Option ((List (Int)))) (h : ∀ l2_, k (IntKind.wrap .i64 (t23 + 1)) l2_ = k' (IntKind.wrap .i64 (t23 + 1)) l2_) : ∀ fuel l3 x, hist_Circle_l1 t23 y5 yL0_3 k fuel l3 x = hist_Circle_l1 t23 y5 yL0_3 k' fuel l3 x := by
  intro fuel
  induction fuel with
  | zero => intros; rfl
  | succ fuel ih => intros; simp only [hist_Circle_l1, ih, h]

def hist_Circle_b0 (y5 : (List (List (Int))))  (t23 : Nat) (s_ : (List (Int))) (k_ : ((List (Int))) → Option ((List (Int)))) : Option ((List (Int))) :=
  (hist_back y5 (t23 : Int)).bind fun yL0_3 =>
  if 0 ≤ (t23 : Int) ∧ (t23 : Int) < (((yL0_3).length : Nat) : Int) then
  if ((decide ((yL0_3.getD t23 default) < 0)) : Bool) then
    k_ s_
  else
    if ((!((s_).length == 0)) : Bool) then
      if ((decide (((s_).length : Int) ≤ (yL0_3.getD t23 default))) : Bool) then
        k_ s_
      else
        hist_Circle_l1 (t23 : Int) y5 yL0_3 (fun _ l2_ => k_ l2_) big ([(t23 : Int)]) (IntKind.wrap .i64 ((yL0_3.getD t23 default) - 1))
    else
      hist_Circle_l1 (t23 : Int) y5 yL0_3 (fun _ l2_ => k_ l2_) big ([(t23 : Int)]) (IntKind.wrap .i64 ((yL0_3.getD t23 default) - 1))
  else none

def hist_Circle_e0   (s_ : (List (Int))) : Option ((List (Int))) :=
  some s_

theorem hist_Circle_w0 (y5 : (List (List (Int))))  (l2 : List (Int)) (hN : (y5).length < 9223372036854775807) :
    hist_Circle_l0 y5  big 0 l2 = walkN (hist_Circle_b0 y5 ) (hist_Circle_e0  ) (y5).length 0 l2 := by
  refine loopN (y5).length (fun fuel_ t_ s_ => hist_Circle_l0 y5  fuel_ t_ s_) (hist_Circle_b0 y5 ) (hist_Circle_e0  ) (by first | exact hN | (have := hN; simp only [List.length_nil] at this ⊢; omega)) ?_ ?_ l2
  · intro fuel_ i_ s_ hi_
    have hg_ : 0 ≤ (i_ : Int) ∧ (i_ : Int) < (((y5).length : Nat) : Int) := by omega
    show hist_Circle_l0 y5  (fuel_ + 1) (i_ : Int) s_ = _
    rw [hist_Circle_l0, if_pos (decide_eq_true (by omega))]
    have hinc_ : IntKind.wrap .i64 ((i_ : Int) + 1) = (((i_ + 1 : Nat)) : Int) := by rw [w64 (by omega) (by omega)]; rfl
    simp only [hist_Circle_l1_k (i_ : Int) _ _  (hist_Circle_l0 y5  fuel_) (fun _ l2_ => hist_Circle_l0 y5  fuel_ (((i_ + 1 : Nat)) : Int) l2_) (fun l2_ => by first | rfl | rw [hinc_])]
    try rw [hinc_]
    first | rfl | (unfold hist_Circle_b0; simp only [hinc_]; done) | (unfold hist_Circle_b0; simp only [hinc_]; rfl)
  · intro fuel_ s_
    show hist_Circle_l0 y5  (fuel_ + 1) (((y5).length : Nat) : Int) s_ = _
    rw [hist_Circle_l0, if_neg (by rw [decide_eq_true_eq]; omega)]
    rfl

def parrelref01_Ints_b0 (a : List (Int)) (b : List (Int))  (i : Nat) (s_ : Unit) (k_ : (Unit) → Option ((Bool))) : Option ((Bool)) :=
  if 0 ≤ (i : Int) ∧ (i : Int) < (((b).length : Nat) : Int) then
  if (((a.getD i default) != (b.getD i default)) : Bool) then
    some false
  else
    k_ ()
  else none

def parrelref01_Ints_e0   (s_ : Unit) : Option ((Bool)) :=
  some true

theorem parrelref01_Ints_w0 (a : List (Int)) (b : List (Int))   (hN : (a).length < 9223372036854775807) :
    parrelref01_Ints_l0 a b  big 0 = walkN (parrelref01_Ints_b0 a b ) (parrelref01_Ints_e0  ) (a).length 0 () := by
  refine loopN (a).length (fun fuel_ t_ s_ => parrelref01_Ints_l0 a b  fuel_ t_) (parrelref01_Ints_b0 a b ) (parrelref01_Ints_e0  ) (by first | exact hN | (have := hN; simp only [List.length_nil] at this ⊢; omega)) ?_ ?_ ()
  · intro fuel_ i_ s_ hi_
    have hg_ : 0 ≤ (i_ : Int) ∧ (i_ : Int) < (((a).length : Nat) : Int) := by omega
    show parrelref01_Ints_l0 a b  (fuel_ + 1) (i_ : Int) = _
    rw [parrelref01_Ints_l0, if_pos (decide_eq_true (by omega))]
    repeat rw [if_pos hg_]
    have hinc_ : IntKind.wrap .i64 ((i_ : Int) + 1) = (((i_ + 1 : Nat)) : Int) := by rw [w64 (by omega) (by omega)]; rfl
    try rw [hinc_]
    first | rfl | (unfold parrelref01_Ints_b0; simp only [hinc_]; done) | (unfold parrelref01_Ints_b0; simp only [hinc_]; rfl)
  · intro fuel_ s_
    show parrelref01_Ints_l0 a b  (fuel_ + 1) (((a).length : Nat) : Int) = _
    rw [parrelref01_Ints_l0, if_neg (by rw [decide_eq_true_eq]; omega)]
    rfl

theorem hist_Play_l3_k (l : List (T_hist_Tx)) (order : List (Int)) (t29 : Int) (m : List (Int × Bool))  (k k' : (Int) → (List (Int × Bool)) → (List (A8 (Int) × List UInt8)) → Option ((Bool))) (h : ∀ m_ m2_, k (IntKind.wrap .i64 (t29 + 1)) m_ m2_ = k' (IntKind.wrap .i64 (t29 + 1)) m_ m2_) : ∀ fuel t99 m4, hist_Play_l3 l order t29 m k fuel t99 m4 = hist_Play_l3 l order t29 m k' fuel t99 m4 := by
  intro fuel
  induction fuel with
  | zero => intros; rfl
  | succ fuel ih => intros; simp only [hist_Play_l3, ih, h]

def hist_Play_b3  (k0 : ((List (Int × Bool)) × (List (A8 (Int) × List UInt8))) → Option ((Bool))) (a_ : T_hist_Item) (s_ : (List (A8 (Int) × List UInt8))) (k_ : ((List (A8 (Int) × List UInt8))) → Option ((Bool))) : Option ((Bool)) :=
  k_ (mset s_ a_.f_Key a_.f_Value)

def hist_Play_e3 (order : List (Int)) (t29 : Int) (m : List (Int × Bool)) (k0 : ((List (Int × Bool)) × (List (A8 (Int) × List UInt8))) → Option ((Bool))) (s_ : (List (A8 (Int) × List UInt8))) : Option ((Bool)) :=
  k0 ((mset m (order.getD t29.toNat default) true), s_)

theorem hist_Play_w3 (l : List (T_hist_Tx)) (order : List (Int)) (t29 : Int) (m : List (Int × Bool)) (k0 : (Int) → (List (Int × Bool)) → (List (A8 (Int) × List UInt8)) → Option ((Bool))) (m4 : List (A8 (Int) × List UInt8)) (hN : ((l.getD ((order.getD t29.toNat default)).toNat default).f_Writes).length < 9223372036854775807) :
    hist_Play_l3 l order t29 m k0 big 0 m4 = walkL (hist_Play_b3  (fun s_ => k0 (IntKind.wrap .i64 (t29 + 1)) s_.1 s_.2)) (hist_Play_e3 order t29 m (fun s_ => k0 (IntKind.wrap .i64 (t29 + 1)) s_.1 s_.2)) (l.getD ((order.getD t29.toNat default)).toNat default).f_Writes m4 := by
  refine loopL (l.getD ((order.getD t29.toNat default)).toNat default).f_Writes (fun fuel_ t_ s_ => hist_Play_l3 l order t29 m k0 fuel_ t_ s_) (hist_Play_b3  (fun s_ => k0 (IntKind.wrap .i64 (t29 + 1)) s_.1 s_.2)) (hist_Play_e3 order t29 m (fun s_ => k0 (IntKind.wrap .i64 (t29 + 1)) s_.1 s_.2)) (by first | exact hN | (have := hN; simp only [List.length_nil] at this ⊢; omega)) ?_ ?_ m4
  · intro fuel_ i_ s_ hi_
    have hg_ : 0 ≤ (i_ : Int) ∧ (i_ : Int) < ((((l.getD ((order.getD t29.toNat default)).toNat default).f_Writes).length : Nat) : Int) := by omega
    show hist_Play_l3 l order t29 m k0 (fuel_ + 1) (i_ : Int) s_ = _
    rw [hist_Play_l3, if_pos (decide_eq_true (by omega))]
    repeat rw [if_pos hg_]
    have hinc_ : IntKind.wrap .i64 ((i_ : Int) + 1) = (((i_ + 1 : Nat)) : Int) := by rw [w64 (by omega) (by omega)]; rfl
    try rw [hinc_]
    first | rfl | (unfold hist_Play_b3; simp only [hinc_]; done) | (unfold hist_Play_b3; simp only [hinc_]; rfl)
  · intro fuel_ s_
    show hist_Play_l3 l order t29 m k0 (fuel_ + 1) ((((l.getD ((order.getD t29.toNat default)).toNat default).f_Writes).length : Nat) : Int) s_ = _
    rw [hist_Play_l3, if_neg (by rw [decide_eq_true_eq]; omega)]
    rfl

theorem hist_Play_l2_k (l : List (T_hist_Tx)) (order : List (Int)) (t29 : Int) (m : List (Int × Bool)) (m2 : List (A8 (Int) × List UInt8)) (m3 : List (T_hist_version × List UInt8))  (k k' : (Int) → (List (Int × Bool)) → (List (A8 (Int) × List UInt8)) → Option ((Bool))) (h : ∀ m_ m2_, k (IntKind.wrap .i64 (t29 + 1)) m_ m2_ = k' (IntKind.wrap .i64 (t29 + 1)) m_ m2_) : ∀ fuel t71, hist_Play_l2 l order t29 m m2 m3 k fuel t71 = hist_Play_l2 l order t29 m m2 m3 k' fuel t71 := by
  intro fuel
  induction fuel with
  | zero => intros; rfl
  | succ fuel ih => intros; simp only [hist_Play_l2, ih, h, hist_Play_l3_k _ _ t29 _  k k' h]

def hist_Play_b2 (m2 : List (A8 (Int) × List UInt8)) (m3 : List (T_hist_version × List UInt8)) (k0 : ((List (Int × Bool)) × (List (A8 (Int) × List UInt8))) → Option ((Bool))) (a_ : T_hist_Item) (s_ : Unit) (k_ : (Unit) → Option ((Bool))) : Option ((Bool)) :=
  (hist_of a_).bind fun yL2_4 =>
  if ((!((mget m3 yL2_4).isSome)) : Bool) then
    if ((!(a_.f_Value == ((mget m2 a_.f_Key).getD default))) : Bool) then
      some false
    else
      k_ ()
  else
    if ((!(a_.f_Value == ((mget m3 yL2_4).getD default))) : Bool) then
      some false
    else
      k_ ()

def hist_Play_e2 (l : List (T_hist_Tx)) (order : List (Int)) (t29 : Int) (m : List (Int × Bool)) (m2 : List (A8 (Int) × List UInt8)) (k0 : ((List (Int × Bool)) × (List (A8 (Int) × List UInt8))) → Option ((Bool))) (s_ : Unit) : Option ((Bool)) :=
  if 0 ≤ (order.getD t29.toNat default) ∧ (order.getD t29.toNat default) < (((l).length : Nat) : Int) then
  hist_Play_l3 l order t29 m (fun _ m_ m2_ => k0 (m_, m2_)) big 0 m2
  else none

theorem hist_Play_w2 (l : List (T_hist_Tx)) (order : List (Int)) (t29 : Int) (m : List (Int × Bool)) (m2 : List (A8 (Int) × List UInt8)) (m3 : List (T_hist_version × List UInt8)) (k0 : (Int) → (List (Int × Bool)) → (List (A8 (Int) × List UInt8)) → Option ((Bool)))  (hN : ((l.getD ((order.getD t29.toNat default)).toNat default).f_Reads).length < 9223372036854775807) :
    hist_Play_l2 l order t29 m m2 m3 k0 big 0 = walkL (hist_Play_b2 m2 m3 (fun s_ => k0 (IntKind.wrap .i64 (t29 + 1)) s_.1 s_.2)) (hist_Play_e2 l order t29 m m2 (fun s_ => k0 (IntKind.wrap .i64 (t29 + 1)) s_.1 s_.2)) (l.getD ((order.getD t29.toNat default)).toNat default).f_Reads () := by
  refine loopL (l.getD ((order.getD t29.toNat default)).toNat default).f_Reads (fun fuel_ t_ s_ => hist_Play_l2 l order t29 m m2 m3 k0 fuel_ t_) (hist_Play_b2 m2 m3 (fun s_ => k0 (IntKind.wrap .i64 (t29 + 1)) s_.1 s_.2)) (hist_Play_e2 l order t29 m m2 (fun s_ => k0 (IntKind.wrap .i64 (t29 + 1)) s_.1 s_.2)) (by first | exact hN | (have := hN; simp only [List.length_nil] at this ⊢; omega)) ?_ ?_ ()
  · intro fuel_ i_ s_ hi_
    have hg_ : 0 ≤ (i_ : Int) ∧ (i_ : Int) < ((((l.getD ((order.getD t29.toNat default)).toNat default).f_Reads).length : Nat) : Int) := by omega
    show hist_Play_l2 l order t29 m m2 m3 k0 (fuel_ + 1) (i_ : Int) = _
    rw [hist_Play_l2, if_pos (decide_eq_true (by omega))]
    repeat rw [if_pos hg_]
    have hinc_ : IntKind.wrap .i64 ((i_ : Int) + 1) = (((i_ + 1 : Nat)) : Int) := by rw [w64 (by omega) (by omega)]; rfl
    try rw [hinc_]
    first | rfl | (unfold hist_Play_b2; simp only [hinc_]; done) | (unfold hist_Play_b2; simp only [hinc_]; rfl)
  · intro fuel_ s_
    show hist_Play_l2 l order t29 m m2 m3 k0 (fuel_ + 1) ((((l.getD ((order.getD t29.toNat default)).toNat default).f_Reads).length : Nat) : Int) = _
    rw [hist_Play_l2, if_neg (by rw [decide_eq_true_eq]; omega)]
    simp only [hist_Play_l3_k _ _ _ _  k0 (fun _ m_ m2_ => k0 (IntKind.wrap .i64 (t29 + 1)) m_ m2_) (fun m_ m2_ => by first | rfl | rw [hinc_])]
    rfl

theorem hist_Play_l1_k (l : List (T_hist_Tx)) (order : List (Int)) (t29 : Int) (m : List (Int × Bool)) (m2 : List (A8 (Int) × List UInt8))  (k k' : (Int) → (List (Int × Bool)) → (List (A8 (Int) × List UInt8)) → Option ((Bool))) (h : ∀ m_ m2_, k (IntKind.wrap .i64 (t29 + 1)) m_ m2_ = k' (IntKind.wrap .i64 (t29 + 1)) m_ m2_) : ∀ fuel t55 m3, hist_Play_l1 l order t29 m m2 k fuel t55 m3 = hist_Play_l1 l order t29 m m2 k' fuel t55 m3 := by
  intro fuel
  induction fuel with
  | zero => intros; rfl
  | succ fuel ih => intros; simp only [hist_Play_l1, ih, h, hist_Play_l2_k _ _ t29 _ _ _  k k' h]

def hist_Play_b1  (k0 : ((List (Int × Bool)) × (List (A8 (Int) × List UInt8))) → Option ((Bool))) (a_ : T_hist_Item) (s_ : (List (T_hist_version × List UInt8))) (k_ : ((List (T_hist_version × List UInt8))) → Option ((Bool))) : Option ((Bool)) :=
  (hist_of a_).bind fun yL1_4 =>
  k_ (mset s_ yL1_4 a_.f_Value)

def hist_Play_e1 (l : List (T_hist_Tx)) (order : List (Int)) (t29 : Int) (m : List (Int × Bool)) (m2 : List (A8 (Int) × List UInt8)) (k0 : ((List (Int × Bool)) × (List (A8 (Int) × List UInt8))) → Option ((Bool))) (s_ : (List (T_hist_version × List UInt8))) : Option ((Bool)) :=
  if 0 ≤ (order.getD t29.toNat default) ∧ (order.getD t29.toNat default) < (((l).length : Nat) : Int) then
  hist_Play_l2 l order t29 m m2 s_ (fun _ m_ m2_ => k0 (m_, m2_)) big 0
  else none

theorem hist_Play_w1 (l : List (T_hist_Tx)) (order : List (Int)) (t29 : Int) (m : List (Int × Bool)) (m2 : List (A8 (Int) × List UInt8)) (k0 : (Int) → (List (Int × Bool)) → (List (A8 (Int) × List UInt8)) → Option ((Bool))) (m3 : List (T_hist_version × List UInt8)) (hN : ((l.getD ((order.getD t29.toNat default)).toNat default).f_Writes).length < 9223372036854775807) :
    hist_Play_l1 l order t29 m m2 k0 big 0 m3 = walkL (hist_Play_b1  (fun s_ => k0 (IntKind.wrap .i64 (t29 + 1)) s_.1 s_.2)) (hist_Play_e1 l order t29 m m2 (fun s_ => k0 (IntKind.wrap .i64 (t29 + 1)) s_.1 s_.2)) (l.getD ((order.getD t29.toNat default)).toNat default).f_Writes m3 := by
  refine loopL (l.getD ((order.getD t29.toNat default)).toNat default).f_Writes (fun fuel_ t_ s_ => hist_Play_l1 l order t29 m m2 k0 fuel_ t_ s_) (hist_Play_b1  (fun s_ => k0 (IntKind.wrap .i64 (t29 + 1)) s_.1 s_.2)) (hist_Play_e1 l order t29 m m2 (fun s_ => k0 (IntKind.wrap .i64 (t29 + 1)) s_.1 s_.2)) (by first | exact hN | (have := hN; simp only [List.length_nil] at this ⊢; omega)) ?_ ?_ m3
  · intro fuel_ i_ s_ hi_
    have hg_ : 0 ≤ (i_ : Int) ∧ (i_ : Int) < ((((l.getD ((order.getD t29.toNat default)).toNat default).f_Writes).length : Nat) : Int) := by omega
    show hist_Play_l1 l order t29 m m2 k0 (fuel_ + 1) (i_ : Int) s_ = _
    rw [hist_Play_l1, if_pos (decide_eq_true (by omega))]
    repeat rw [if_pos hg_]
    have hinc_ : IntKind.wrap .i64 ((i_ : Int) + 1) = (((i_ + 1 : Nat)) : Int) := by rw [w64 (by omega) (by omega)]; rfl
    try rw [hinc_]
    first | rfl | (unfold hist_Play_b1; simp only [hinc_]; done) | (unfold hist_Play_b1; simp only [hinc_]; rfl)
  · intro fuel_ s_
    show hist_Play_l1 l order t29 m m2 k0 (fuel_ + 1) ((((l.getD ((order.getD t29.toNat default)).toNat default).f_Writes).length : Nat) : Int) s_ = _
    rw [hist_Play_l1, if_neg (by rw [decide_eq_true_eq]; omega)]
    simp only [hist_Play_l2_k _ _ _ _ _ _  k0 (fun _ m_ m2_ => k0 (IntKind.wrap .i64 (t29 + 1)) m_ m2_) (fun m_ m2_ => by first | rfl | rw [hinc_])]
    rfl

def hist_Play_b0 (l : List (T_hist_Tx)) (order : List (Int))  (t29 : Nat) (s_ : (List (Int × Bool)) × (List (A8 (Int) × List UInt8))) (k_ : ((List (Int × Bool)) × (List (A8 (Int) × List UInt8))) → Option ((Bool))) : Option ((Bool)) :=
  if ((decide ((order.getD t29 default) < 0)) : Bool) then
    some false
  else
    if ((decide (((l).length : Int) ≤ (order.getD t29 default))) : Bool) then
      some false
    else
      if (((mget s_.1 (order.getD t29 default)).getD default) : Bool) then
        some false
      else
        if 0 ≤ (order.getD t29 default) ∧ (order.getD t29 default) < (((l).length : Nat) : Int) then
        hist_Play_l1 l order (t29 : Int) s_.1 s_.2 (fun _ m_ m2_ => k_ (m_, m2_)) big 0 ([] : List (T_hist_version × List UInt8))
        else none

def hist_Play_e0 (l : List (T_hist_Tx))  (s_ : (List (Int × Bool)) × (List (A8 (Int) × List UInt8))) : Option ((Bool)) :=
  some (((s_.1).length : Int) == ((l).length : Int))

theorem hist_Play_w0 (l : List (T_hist_Tx)) (order : List (Int))  (m : List (Int × Bool)) (m2 : List (A8 (Int) × List UInt8)) (hN : (order).length < 9223372036854775807) :
    hist_Play_l0 l order  big 0 m m2 = walkN (hist_Play_b0 l order ) (hist_Play_e0 l ) (order).length 0 (m, m2) := by
  refine loopN (order).length (fun fuel_ t_ s_ => hist_Play_l0 l order  fuel_ t_ s_.1 s_.2) (hist_Play_b0 l order ) (hist_Play_e0 l ) (by first | exact hN | (have := hN; simp only [List.length_nil] at this ⊢; omega)) ?_ ?_ (m, m2)
  · intro fuel_ i_ s_ hi_
    have hg_ : 0 ≤ (i_ : Int) ∧ (i_ : Int) < (((order).length : Nat) : Int) := by omega
    show hist_Play_l0 l order  (fuel_ + 1) (i_ : Int) s_.1 s_.2 = _
    rw [hist_Play_l0, if_pos (decide_eq_true (by omega))]
    repeat rw [if_pos hg_]
    have hinc_ : IntKind.wrap .i64 ((i_ : Int) + 1) = (((i_ + 1 : Nat)) : Int) := by rw [w64 (by omega) (by omega)]; rfl
    simp only [hist_Play_l1_k _ _ (i_ : Int) _ _  (hist_Play_l0 l order  fuel_) (fun _ m_ m2_ => hist_Play_l0 l order  fuel_ (((i_ + 1 : Nat)) : Int) m_ m2_) (fun m_ m2_ => by first | rfl | rw [hinc_])]
    try rw [hinc_]
    first | rfl | (unfold hist_Play_b0; simp only [hinc_]; done) | (unfold hist_Play_b0; simp only [hinc_]; rfl)
  · intro fuel_ s_
    show hist_Play_l0 l order  (fuel_ + 1) (((order).length : Nat) : Int) s_.1 s_.2 = _
    rw [hist_Play_l0, if_neg (by rw [decide_eq_true_eq]; omega)]
    rfl

def parrellaw26_items_b0   (a_ : T_parrelref26_Item) (s_ : (List (T_hist_Item))) (k_ : ((List (T_hist_Item))) → Option ((List (T_hist_Item)))) : Option ((List (T_hist_Item))) :=
  if ((s_).length + ([(T_hist_Item.mk a_.f_Key a_.f_Version a_.f_Value)]).length) * 32 ≤ 140737488351232 then
  k_ (s_ ++ [(T_hist_Item.mk a_.f_Key a_.f_Version a_.f_Value)])
  else none

def parrellaw26_items_e0   (s_ : (List (T_hist_Item))) : Option ((List (T_hist_Item))) :=
  some s_

theorem parrellaw26_items_w0 (l : List (T_parrelref26_Item))  (l2 : List (T_hist_Item)) (hN : (l).length < 9223372036854775807) :
    parrellaw26_items_l0 l  big 0 l2 = walkL (parrellaw26_items_b0  ) (parrellaw26_items_e0  ) l l2 := by
  refine loopL l (fun fuel_ t_ s_ => parrellaw26_items_l0 l  fuel_ t_ s_) (parrellaw26_items_b0  ) (parrellaw26_items_e0  ) (by first | exact hN | (have := hN; simp only [List.length_nil] at this ⊢; omega)) ?_ ?_ l2
  · intro fuel_ i_ s_ hi_
    have hg_ : 0 ≤ (i_ : Int) ∧ (i_ : Int) < (((l).length : Nat) : Int) := by omega
    show parrellaw26_items_l0 l  (fuel_ + 1) (i_ : Int) s_ = _
    rw [parrellaw26_items_l0, if_pos (decide_eq_true (by omega))]
    repeat rw [if_pos hg_]
    have hinc_ : IntKind.wrap .i64 ((i_ : Int) + 1) = (((i_ + 1 : Nat)) : Int) := by rw [w64 (by omega) (by omega)]; rfl
    try rw [hinc_]
    first | rfl | (unfold parrellaw26_items_b0; simp only [hinc_]; done) | (unfold parrellaw26_items_b0; simp only [hinc_]; rfl)
  · intro fuel_ s_
    show parrellaw26_items_l0 l  (fuel_ + 1) (((l).length : Nat) : Int) s_ = _
    rw [parrellaw26_items_l0, if_neg (by rw [decide_eq_true_eq]; omega)]
    rfl

def parrellaw26_theirs_b0   (a_ : T_parrelref26_Tx) (s_ : (List (T_hist_Tx))) (k_ : ((List (T_hist_Tx))) → Option ((List (T_hist_Tx)))) : Option ((List (T_hist_Tx))) :=
  (parrellaw26_items a_.f_Reads).bind fun yL0_4 =>
  (parrellaw26_items a_.f_Writes).bind fun yL0_6 =>
  if ((s_).length + ([(T_hist_Tx.mk yL0_4 yL0_6 a_.f_Begin a_.f_End)]).length) * 64 ≤ 140737488351232 then
  k_ (s_ ++ [(T_hist_Tx.mk yL0_4 yL0_6 a_.f_Begin a_.f_End)])
  else none

def parrellaw26_theirs_e0   (s_ : (List (T_hist_Tx))) : Option ((List (T_hist_Tx))) :=
  some s_

theorem parrellaw26_theirs_w0 (l : List (T_parrelref26_Tx))  (l2 : List (T_hist_Tx)) (hN : (l).length < 9223372036854775807) :
    parrellaw26_theirs_l0 l  big 0 l2 = walkL (parrellaw26_theirs_b0  ) (parrellaw26_theirs_e0  ) l l2 := by
  refine loopL l (fun fuel_ t_ s_ => parrellaw26_theirs_l0 l  fuel_ t_ s_) (parrellaw26_theirs_b0  ) (parrellaw26_theirs_e0  ) (by first | exact hN | (have := hN; simp only [List.length_nil] at this ⊢; omega)) ?_ ?_ l2
  · intro fuel_ i_ s_ hi_
    have hg_ : 0 ≤ (i_ : Int) ∧ (i_ : Int) < (((l).length : Nat) : Int) := by omega
    show parrellaw26_theirs_l0 l  (fuel_ + 1) (i_ : Int) s_ = _
    rw [parrellaw26_theirs_l0, if_pos (decide_eq_true (by omega))]
    repeat rw [if_pos hg_]
    have hinc_ : IntKind.wrap .i64 ((i_ : Int) + 1) = (((i_ + 1 : Nat)) : Int) := by rw [w64 (by omega) (by omega)]; rfl
    try rw [hinc_]
    first | rfl | (unfold parrellaw26_theirs_b0; simp only [hinc_]; done) | (unfold parrellaw26_theirs_b0; simp only [hinc_]; rfl)
  · intro fuel_ s_
    show parrellaw26_theirs_l0 l  (fuel_ + 1) (((l).length : Nat) : Int) s_ = _
    rw [parrellaw26_theirs_l0, if_neg (by rw [decide_eq_true_eq]; omega)]
    rfl

theorem parrelref26_twice_l1_k (l : List (T_parrelref26_Item)) (i : Int)  (k k' : (Int) → Option ((Bool))) (h : k (IntKind.wrap .i64 (i + 1)) = k' (IntKind.wrap .i64 (i + 1))) : ∀ fuel x_k, parrelref26_twice_l1 l i k fuel x_k = parrelref26_twice_l1 l i k' fuel x_k := by
  intro fuel
  induction fuel with
  | zero => intros; rfl
  | succ fuel ih => intros; simp only [parrelref26_twice_l1, ih, h]

def parrelref26_twice_b1 (l : List (T_parrelref26_Item)) (i : Int) (k0 : (Unit) → Option ((Bool))) (x_k : Nat) (s_ : Unit) (k_ : (Unit) → Option ((Bool))) : Option ((Bool)) :=
  if 0 ≤ (x_k : Int) ∧ (x_k : Int) < (((l).length : Nat) : Int) then
  if 0 ≤ i ∧ i < (((l).length : Nat) : Int) then
  if ((decide ((l.getD x_k default).f_Key = (l.getD i.toNat default).f_Key)) : Bool) then
    some true
  else
    k_ ()
  else none
  else none

def parrelref26_twice_e1  (k0 : (Unit) → Option ((Bool))) (s_ : Unit) : Option ((Bool)) :=
  k0 ()

theorem parrelref26_twice_w1 (l : List (T_parrelref26_Item)) (i : Int) (k0 : (Int) → Option ((Bool)))  (hN : (i).toNat < 9223372036854775807) :
    parrelref26_twice_l1 l i k0 big 0 = walkN (parrelref26_twice_b1 l i (fun s_ => k0 (IntKind.wrap .i64 (i + 1)))) (parrelref26_twice_e1  (fun s_ => k0 (IntKind.wrap .i64 (i + 1)))) (i).toNat 0 () := by
  refine loopN (i).toNat (fun fuel_ t_ s_ => parrelref26_twice_l1 l i k0 fuel_ t_) (parrelref26_twice_b1 l i (fun s_ => k0 (IntKind.wrap .i64 (i + 1)))) (parrelref26_twice_e1  (fun s_ => k0 (IntKind.wrap .i64 (i + 1)))) (by first | exact hN | (have := hN; simp only [List.length_nil] at this ⊢; omega)) ?_ ?_ ()
  · intro fuel_ i_ s_ hi_
    have hg_ : 0 ≤ (i_ : Int) ∧ (i_ : Int) < i := by omega
    show parrelref26_twice_l1 l i k0 (fuel_ + 1) (i_ : Int) = _
    rw [parrelref26_twice_l1, if_pos (decide_eq_true (by omega))]
    have hinc_ : IntKind.wrap .i64 ((i_ : Int) + 1) = (((i_ + 1 : Nat)) : Int) := by rw [w64 (by omega) (by omega)]; rfl
    try rw [hinc_]
    first | rfl | (unfold parrelref26_twice_b1; simp only [hinc_]; done) | (unfold parrelref26_twice_b1; simp only [hinc_]; rfl)
  · intro fuel_ s_
    show parrelref26_twice_l1 l i k0 (fuel_ + 1) (((i).toNat : Nat) : Int) = _
    rw [parrelref26_twice_l1, if_neg (by rw [decide_eq_true_eq]; omega)]
    rfl

def parrelref26_twice_b0 (l : List (T_parrelref26_Item))  (i : Nat) (s_ : Unit) (k_ : (Unit) → Option ((Bool))) : Option ((Bool)) :=
  parrelref26_twice_l1 l (i : Int) (fun _ => k_ ()) big 0

def parrelref26_twice_e0   (s_ : Unit) : Option ((Bool)) :=
  some false

theorem parrelref26_twice_w0 (l : List (T_parrelref26_Item))   (hN : (l).length < 9223372036854775807) :
    parrelref26_twice_l0 l  big 0 = walkN (parrelref26_twice_b0 l ) (parrelref26_twice_e0  ) (l).length 0 () := by
  refine loopN (l).length (fun fuel_ t_ s_ => parrelref26_twice_l0 l  fuel_ t_) (parrelref26_twice_b0 l ) (parrelref26_twice_e0  ) (by first | exact hN | (have := hN; simp only [List.length_nil] at this ⊢; omega)) ?_ ?_ ()
  · intro fuel_ i_ s_ hi_
    have hg_ : 0 ≤ (i_ : Int) ∧ (i_ : Int) < (((l).length : Nat) : Int) := by omega
    show parrelref26_twice_l0 l  (fuel_ + 1) (i_ : Int) = _
    rw [parrelref26_twice_l0, if_pos (decide_eq_true (by omega))]
    have hinc_ : IntKind.wrap .i64 ((i_ : Int) + 1) = (((i_ + 1 : Nat)) : Int) := by rw [w64 (by omega) (by omega)]; rfl
    simp only [parrelref26_twice_l1_k _ (i_ : Int)  (parrelref26_twice_l0 l  fuel_) (fun _ => parrelref26_twice_l0 l  fuel_ (((i_ + 1 : Nat)) : Int)) (by first | rfl | rw [hinc_])]
    try rw [hinc_]
    first | rfl | (unfold parrelref26_twice_b0; simp only [hinc_]; done) | (unfold parrelref26_twice_b0; simp only [hinc_]; rfl)
  · intro fuel_ s_
    show parrelref26_twice_l0 l  (fuel_ + 1) (((l).length : Nat) : Int) = _
    rw [parrelref26_twice_l0, if_neg (by rw [decide_eq_true_eq]; omega)]
    rfl

theorem parrelref26_may_l1_k (l : List (T_parrelref26_Tx)) (i : Int)  (k k' : (Int) → Option ((Bool))) (h : k (IntKind.wrap .i64 (i + 1)) = k' (IntKind.wrap .i64 (i + 1))) : ∀ fuel j, parrelref26_may_l1 l i k fuel j = parrelref26_may_l1 l i k' fuel j := by
  intro fuel
  induction fuel with
  | zero => intros; rfl
  | succ fuel ih => intros; simp only [parrelref26_may_l1, ih, h]

def parrelref26_may_b1  (k0 : (Unit) → Option ((Bool))) (a_ : T_parrelref26_Item) (s_ : Unit) (k_ : (Unit) → Option ((Bool))) : Option ((Bool)) :=
  if ((a_.f_Version == 0) : Bool) then
    some false
  else
    k_ ()

def parrelref26_may_e1  (k0 : (Unit) → Option ((Bool))) (s_ : Unit) : Option ((Bool)) :=
  k0 ()

theorem parrelref26_may_w1 (l : List (T_parrelref26_Tx)) (i : Int) (k0 : (Int) → Option ((Bool)))  (hN : ((l.getD i.toNat default).f_Writes).length < 9223372036854775807) (hG0_ : 0 ≤ i ∧ i < (((l).length : Nat) : Int)) :
    parrelref26_may_l1 l i k0 big 0 = walkL (parrelref26_may_b1  (fun s_ => k0 (IntKind.wrap .i64 (i + 1)))) (parrelref26_may_e1  (fun s_ => k0 (IntKind.wrap .i64 (i + 1)))) (l.getD i.toNat default).f_Writes () := by
  refine loopL (l.getD i.toNat default).f_Writes (fun fuel_ t_ s_ => parrelref26_may_l1 l i k0 fuel_ t_) (parrelref26_may_b1  (fun s_ => k0 (IntKind.wrap .i64 (i + 1)))) (parrelref26_may_e1  (fun s_ => k0 (IntKind.wrap .i64 (i + 1)))) (by first | exact hN | (have := hN; simp only [List.length_nil] at this ⊢; omega)) ?_ ?_ ()
  · intro fuel_ i_ s_ hi_
    have hg_ : 0 ≤ (i_ : Int) ∧ (i_ : Int) < ((((l.getD i.toNat default).f_Writes).length : Nat) : Int) := by omega
    show parrelref26_may_l1 l i k0 (fuel_ + 1) (i_ : Int) = _
    rw [parrelref26_may_l1, if_pos hG0_, if_pos (decide_eq_true (by omega))]
    repeat rw [if_pos hg_]
    have hinc_ : IntKind.wrap .i64 ((i_ : Int) + 1) = (((i_ + 1 : Nat)) : Int) := by rw [w64 (by omega) (by omega)]; rfl
    try rw [hinc_]
    first | rfl | (unfold parrelref26_may_b1; simp only [hinc_]; done) | (unfold parrelref26_may_b1; simp only [hinc_]; rfl)
  · intro fuel_ s_
    show parrelref26_may_l1 l i k0 (fuel_ + 1) ((((l.getD i.toNat default).f_Writes).length : Nat) : Int) = _
    rw [parrelref26_may_l1, if_pos hG0_, if_neg (by rw [decide_eq_true_eq]; omega)]
    rfl

def parrelref26_may_b0 (l : List (T_parrelref26_Tx))  (i : Nat) (s_ : Unit) (k_ : (Unit) → Option ((Bool))) : Option ((Bool)) :=
  if ((decide (64 < (((l.getD i default).f_Reads).length : Int))) : Bool) then
    some false
  else
    if ((decide (64 < (((l.getD i default).f_Writes).length : Int))) : Bool) then
      some false
    else
      (parrelref26_twice (l.getD i default).f_Reads).bind fun yL0_6 =>
      if (yL0_6 : Bool) then
        some false
      else
        (parrelref26_twice (l.getD i default).f_Writes).bind fun yL0_9 =>
        if (yL0_9 : Bool) then
          some false
        else
          parrelref26_may_l1 l (i : Int) (fun _ => k_ ()) big 0

def parrelref26_may_e0 (l : List (T_parrelref26_Tx))  (s_ : Unit) : Option ((Bool)) :=
  some (decide (((l).length : Int) ≤ 64))

theorem parrelref26_may_w0 (l : List (T_parrelref26_Tx))   (hN : (l).length < 9223372036854775807) :
    parrelref26_may_l0 l  big 0 = walkN (parrelref26_may_b0 l ) (parrelref26_may_e0 l ) (l).length 0 () := by
  refine loopN (l).length (fun fuel_ t_ s_ => parrelref26_may_l0 l  fuel_ t_) (parrelref26_may_b0 l ) (parrelref26_may_e0 l ) (by first | exact hN | (have := hN; simp only [List.length_nil] at this ⊢; omega)) ?_ ?_ ()
  · intro fuel_ i_ s_ hi_
    have hg_ : 0 ≤ (i_ : Int) ∧ (i_ : Int) < (((l).length : Nat) : Int) := by omega
    show parrelref26_may_l0 l  (fuel_ + 1) (i_ : Int) = _
    rw [parrelref26_may_l0, if_pos (decide_eq_true (by omega))]
    repeat rw [if_pos hg_]
    have hinc_ : IntKind.wrap .i64 ((i_ : Int) + 1) = (((i_ + 1 : Nat)) : Int) := by rw [w64 (by omega) (by omega)]; rfl
    simp only [parrelref26_may_l1_k _ (i_ : Int)  (parrelref26_may_l0 l  fuel_) (fun _ => parrelref26_may_l0 l  fuel_ (((i_ + 1 : Nat)) : Int)) (by first | rfl | rw [hinc_])]
    try rw [hinc_]
    first | rfl | (unfold parrelref26_may_b0; simp only [hinc_]; done) | (unfold parrelref26_may_b0; simp only [hinc_]; rfl)
  · intro fuel_ s_
    show parrelref26_may_l0 l  (fuel_ + 1) (((l).length : Nat) : Int) = _
    rw [parrelref26_may_l0, if_neg (by rw [decide_eq_true_eq]; omega)]
    rfl

theorem parrelref26_writer_l1_k (l : List (T_parrelref26_Tx)) (x_k : A8 (Int)) (version : Int) (i : Int)  (k k' : (Int) → Option ((Int) × (List UInt8))) (h : k (IntKind.wrap .i64 (i + 1)) = k' (IntKind.wrap .i64 (i + 1))) : ∀ fuel j, parrelref26_writer_l1 l x_k version i k fuel j = parrelref26_writer_l1 l x_k version i k' fuel j := by
  intro fuel
  induction fuel with
  | zero => intros; rfl
  | succ fuel ih => intros; simp only [parrelref26_writer_l1, ih, h]

def parrelref26_writer_b1 (x_k : A8 (Int)) (version : Int) (i : Int) (k0 : (Unit) → Option ((Int) × (List UInt8))) (a_ : T_parrelref26_Item) (s_ : Unit) (k_ : (Unit) → Option ((Int) × (List UInt8))) : Option ((Int) × (List UInt8)) :=
  if ((decide (a_.f_Key = x_k)) : Bool) then
    if ((a_.f_Version == version) : Bool) then
      some (i, a_.f_Value)
    else
      k_ ()
  else
    k_ ()

def parrelref26_writer_e1  (k0 : (Unit) → Option ((Int) × (List UInt8))) (s_ : Unit) : Option ((Int) × (List UInt8)) :=
  k0 ()

theorem parrelref26_writer_w1 (l : List (T_parrelref26_Tx)) (x_k : A8 (Int)) (version : Int) (i : Int) (k0 : (Int) → Option ((Int) × (List UInt8)))  (hN : ((l.getD i.toNat default).f_Writes).length < 9223372036854775807) (hG0_ : 0 ≤ i ∧ i < (((l).length : Nat) : Int)) :
    parrelref26_writer_l1 l x_k version i k0 big 0 = walkL (parrelref26_writer_b1 x_k version i (fun s_ => k0 (IntKind.wrap .i64 (i + 1)))) (parrelref26_writer_e1  (fun s_ => k0 (IntKind.wrap .i64 (i + 1)))) (l.getD i.toNat default).f_Writes () := by
  refine loopL (l.getD i.toNat default).f_Writes (fun fuel_ t_ s_ => parrelref26_writer_l1 l x_k version i k0 fuel_ t_) (parrelref26_writer_b1 x_k version i (fun s_ => k0 (IntKind.wrap .i64 (i + 1)))) (parrelref26_writer_e1  (fun s_ => k0 (IntKind.wrap .i64 (i + 1)))) (by first | exact hN | (have := hN; simp only [List.length_nil] at this ⊢; omega)) ?_ ?_ ()
  · intro fuel_ i_ s_ hi_
    have hg_ : 0 ≤ (i_ : Int) ∧ (i_ : Int) < ((((l.getD i.toNat default).f_Writes).length : Nat) : Int) := by omega
    show parrelref26_writer_l1 l x_k version i k0 (fuel_ + 1) (i_ : Int) = _
    rw [parrelref26_writer_l1, if_pos hG0_, if_pos (decide_eq_true (by omega))]
    repeat rw [if_pos hg_]
    have hinc_ : IntKind.wrap .i64 ((i_ : Int) + 1) = (((i_ + 1 : Nat)) : Int) := by rw [w64 (by omega) (by omega)]; rfl
    try rw [hinc_]
    first | rfl | (unfold parrelref26_writer_b1; simp only [hinc_]; done) | (unfold parrelref26_writer_b1; simp only [hinc_]; rfl)
  · intro fuel_ s_
    show parrelref26_writer_l1 l x_k version i k0 (fuel_ + 1) ((((l.getD i.toNat default).f_Writes).length : Nat) : Int) = _
    rw [parrelref26_writer_l1, if_pos hG0_, if_neg (by rw [decide_eq_true_eq]; omega)]
    rfl

def parrelref26_writer_b0 (l : List (T_parrelref26_Tx)) (x_k : A8 (Int)) (version : Int)  (i : Nat) (s_ : Unit) (k_ : (Unit) → Option ((Int) × (List UInt8))) : Option ((Int) × (List UInt8)) :=
  parrelref26_writer_l1 l x_k version (i : Int) (fun _ => k_ ()) big 0

def parrelref26_writer_e0   (s_ : Unit) : Option ((Int) × (List UInt8)) :=
  some ((-1), [])

theorem parrelref26_writer_w0 (l : List (T_parrelref26_Tx)) (x_k : A8 (Int)) (version : Int)   (hN : (l).length < 9223372036854775807) :
    parrelref26_writer_l0 l x_k version  big 0 = walkN (parrelref26_writer_b0 l x_k version ) (parrelref26_writer_e0  ) (l).length 0 () := by
  refine loopN (l).length (fun fuel_ t_ s_ => parrelref26_writer_l0 l x_k version  fuel_ t_) (parrelref26_writer_b0 l x_k version ) (parrelref26_writer_e0  ) (by first | exact hN | (have := hN; simp only [List.length_nil] at this ⊢; omega)) ?_ ?_ ()
  · intro fuel_ i_ s_ hi_
    have hg_ : 0 ≤ (i_ : Int) ∧ (i_ : Int) < (((l).length : Nat) : Int) := by omega
    show parrelref26_writer_l0 l x_k version  (fuel_ + 1) (i_ : Int) = _
    rw [parrelref26_writer_l0, if_pos (decide_eq_true (by omega))]
    have hinc_ : IntKind.wrap .i64 ((i_ : Int) + 1) = (((i_ + 1 : Nat)) : Int) := by rw [w64 (by omega) (by omega)]; rfl
    simp only [parrelref26_writer_l1_k _ _ _ (i_ : Int)  (parrelref26_writer_l0 l x_k version  fuel_) (fun _ => parrelref26_writer_l0 l x_k version  fuel_ (((i_ + 1 : Nat)) : Int)) (by first | rfl | rw [hinc_])]
    try rw [hinc_]
    first | rfl | (unfold parrelref26_writer_b0; simp only [hinc_]; done) | (unfold parrelref26_writer_b0; simp only [hinc_]; rfl)
  · intro fuel_ s_
    show parrelref26_writer_l0 l x_k version  (fuel_ + 1) (((l).length : Nat) : Int) = _
    rw [parrelref26_writer_l0, if_neg (by rw [decide_eq_true_eq]; omega)]
    rfl

theorem parrelref26_Check_l1_k (l : List (T_parrelref26_Tx)) (i : Int)  (k k' : (Int) → Option ((Int))) (h : k (IntKind.wrap .i64 (i + 1)) = k' (IntKind.wrap .i64 (i + 1))) : ∀ fuel j, parrelref26_Check_l1 l i k fuel j = parrelref26_Check_l1 l i k' fuel j := by
  intro fuel
  induction fuel with
  | zero => intros; rfl
  | succ fuel ih => intros; simp only [parrelref26_Check_l1, ih, h]

def parrelref26_Check_b1 (l : List (T_parrelref26_Tx)) (i : Int) (k0 : (Unit) → Option ((Int))) (a_ : T_parrelref26_Item) (s_ : Unit) (k_ : (Unit) → Option ((Int))) : Option ((Int)) :=
  (parrelref26_writer l a_.f_Key a_.f_Version).bind fun yL1_5 =>
  if ((yL1_5.1 != i) : Bool) then
    some 7
  else
    k_ ()

def parrelref26_Check_e1  (k0 : (Unit) → Option ((Int))) (s_ : Unit) : Option ((Int)) :=
  k0 ()

theorem parrelref26_Check_w1 (l : List (T_parrelref26_Tx)) (i : Int) (k0 : (Int) → Option ((Int)))  (hN : ((l.getD i.toNat default).f_Writes).length < 9223372036854775807) (hG0_ : 0 ≤ i ∧ i < (((l).length : Nat) : Int)) :
    parrelref26_Check_l1 l i k0 big 0 = walkL (parrelref26_Check_b1 l i (fun s_ => k0 (IntKind.wrap .i64 (i + 1)))) (parrelref26_Check_e1  (fun s_ => k0 (IntKind.wrap .i64 (i + 1)))) (l.getD i.toNat default).f_Writes () := by
  refine loopL (l.getD i.toNat default).f_Writes (fun fuel_ t_ s_ => parrelref26_Check_l1 l i k0 fuel_ t_) (parrelref26_Check_b1 l i (fun s_ => k0 (IntKind.wrap .i64 (i + 1)))) (parrelref26_Check_e1  (fun s_ => k0 (IntKind.wrap .i64 (i + 1)))) (by first | exact hN | (have := hN; simp only [List.length_nil] at this ⊢; omega)) ?_ ?_ ()
  · intro fuel_ i_ s_ hi_
    have hg_ : 0 ≤ (i_ : Int) ∧ (i_ : Int) < ((((l.getD i.toNat default).f_Writes).length : Nat) : Int) := by omega
    show parrelref26_Check_l1 l i k0 (fuel_ + 1) (i_ : Int) = _
    rw [parrelref26_Check_l1, if_pos hG0_, if_pos (decide_eq_true (by omega))]
    repeat rw [if_pos hg_]
    have hinc_ : IntKind.wrap .i64 ((i_ : Int) + 1) = (((i_ + 1 : Nat)) : Int) := by rw [w64 (by omega) (by omega)]; rfl
    try rw [hinc_]
    first | rfl | (unfold parrelref26_Check_b1; simp only [hinc_]; done) | (unfold parrelref26_Check_b1; simp only [hinc_]; rfl)
  · intro fuel_ s_
    show parrelref26_Check_l1 l i k0 (fuel_ + 1) ((((l.getD i.toNat default).f_Writes).length : Nat) : Int) = _
    rw [parrelref26_Check_l1, if_pos hG0_, if_neg (by rw [decide_eq_true_eq]; omega)]
    rfl

theorem parrelref26_Check_l3_k (l : List (T_parrelref26_Tx)) (i2 : Int)  (k k' : (Int) → (Int) → Option ((Int))) (h : ∀ bad_, k bad_ (IntKind.wrap .i64 (i2 + 1)) = k' bad_ (IntKind.wrap .i64 (i2 + 1))) : ∀ fuel bad2 j2, parrelref26_Check_l3 l i2 k fuel bad2 j2 = parrelref26_Check_l3 l i2 k' fuel bad2 j2 := by
  intro fuel
  induction fuel with
  | zero => intros; rfl
  | succ fuel ih => intros; simp only [parrelref26_Check_l3, ih, h]

def parrelref26_Check_b3 (l : List (T_parrelref26_Tx)) (k2 : ((Int)) → Option ((Int))) (a_ : T_parrelref26_Item) (s_ : (Int)) (k_ : ((Int)) → Option ((Int))) : Option ((Int)) :=
  (parrelref26_writer l a_.f_Key a_.f_Version).bind fun yL3_5 =>
  if ((decide (yL3_5.1 < 0)) : Bool) then
    if ((a_.f_Version != 0) : Bool) then
      some 6
    else
      if ((!(yL3_5.2 == a_.f_Value)) : Bool) then
        k_ 8
      else
        k_ s_
  else
    if ((!(yL3_5.2 == a_.f_Value)) : Bool) then
      k_ 8
    else
      k_ s_

def parrelref26_Check_e3  (k2 : ((Int)) → Option ((Int))) (s_ : (Int)) : Option ((Int)) :=
  k2 s_

theorem parrelref26_Check_w3 (l : List (T_parrelref26_Tx)) (i2 : Int) (k2 : (Int) → (Int) → Option ((Int))) (bad2 : Int) (hN : ((l.getD i2.toNat default).f_Reads).length < 9223372036854775807) (hG0_ : 0 ≤ i2 ∧ i2 < (((l).length : Nat) : Int)) :
    parrelref26_Check_l3 l i2 k2 big bad2 0 = walkL (parrelref26_Check_b3 l (fun s_ => k2 s_ (IntKind.wrap .i64 (i2 + 1)))) (parrelref26_Check_e3  (fun s_ => k2 s_ (IntKind.wrap .i64 (i2 + 1)))) (l.getD i2.toNat default).f_Reads bad2 := by
  refine loopL (l.getD i2.toNat default).f_Reads (fun fuel_ t_ s_ => parrelref26_Check_l3 l i2 k2 fuel_ s_ t_) (parrelref26_Check_b3 l (fun s_ => k2 s_ (IntKind.wrap .i64 (i2 + 1)))) (parrelref26_Check_e3  (fun s_ => k2 s_ (IntKind.wrap .i64 (i2 + 1)))) (by first | exact hN | (have := hN; simp only [List.length_nil] at this ⊢; omega)) ?_ ?_ bad2
  · intro fuel_ i_ s_ hi_
    have hg_ : 0 ≤ (i_ : Int) ∧ (i_ : Int) < ((((l.getD i2.toNat default).f_Reads).length : Nat) : Int) := by omega
    show parrelref26_Check_l3 l i2 k2 (fuel_ + 1) s_ (i_ : Int) = _
    rw [parrelref26_Check_l3, if_pos hG0_, if_pos (decide_eq_true (by omega))]
    repeat rw [if_pos hg_]
    have hinc_ : IntKind.wrap .i64 ((i_ : Int) + 1) = (((i_ + 1 : Nat)) : Int) := by rw [w64 (by omega) (by omega)]; rfl
    try rw [hinc_]
    first | rfl | (unfold parrelref26_Check_b3; simp only [hinc_]; done) | (unfold parrelref26_Check_b3; simp only [hinc_]; rfl)
  · intro fuel_ s_
    show parrelref26_Check_l3 l i2 k2 (fuel_ + 1) s_ ((((l.getD i2.toNat default).f_Reads).length : Nat) : Int) = _
    rw [parrelref26_Check_l3, if_pos hG0_, if_neg (by rw [decide_eq_true_eq]; omega)]
    rfl

def parrelref26_Check_b2 (l : List (T_parrelref26_Tx))  (i2 : Nat) (s_ : (Int)) (k_ : ((Int)) → Option ((Int))) : Option ((Int)) :=
  parrelref26_Check_l3 l (i2 : Int) (fun bad_ _ => k_ bad_) big s_ 0

def parrelref26_Check_e2   (s_ : (Int)) : Option ((Int)) :=
  some s_

theorem parrelref26_Check_w2 (l : List (T_parrelref26_Tx))  (bad : Int) (hN : (l).length < 9223372036854775807) :
    parrelref26_Check_l2 l  big bad 0 = walkN (parrelref26_Check_b2 l ) (parrelref26_Check_e2  ) (l).length 0 bad := by
  refine loopN (l).length (fun fuel_ t_ s_ => parrelref26_Check_l2 l  fuel_ s_ t_) (parrelref26_Check_b2 l ) (parrelref26_Check_e2  ) (by first | exact hN | (have := hN; simp only [List.length_nil] at this ⊢; omega)) ?_ ?_ bad
  · intro fuel_ i_ s_ hi_
    have hg_ : 0 ≤ (i_ : Int) ∧ (i_ : Int) < (((l).length : Nat) : Int) := by omega
    show parrelref26_Check_l2 l  (fuel_ + 1) s_ (i_ : Int) = _
    rw [parrelref26_Check_l2, if_pos (decide_eq_true (by omega))]
    have hinc_ : IntKind.wrap .i64 ((i_ : Int) + 1) = (((i_ + 1 : Nat)) : Int) := by rw [w64 (by omega) (by omega)]; rfl
    simp only [parrelref26_Check_l3_k _ (i_ : Int)  (parrelref26_Check_l2 l  fuel_) (fun bad_ _ => parrelref26_Check_l2 l  fuel_ bad_ (((i_ + 1 : Nat)) : Int)) (fun bad_ => by first | rfl | rw [hinc_])]
    try rw [hinc_]
    first | rfl | (unfold parrelref26_Check_b2; simp only [hinc_]; done) | (unfold parrelref26_Check_b2; simp only [hinc_]; rfl)
  · intro fuel_ s_
    show parrelref26_Check_l2 l  (fuel_ + 1) s_ (((l).length : Nat) : Int) = _
    rw [parrelref26_Check_l2, if_neg (by rw [decide_eq_true_eq]; omega)]
    rfl

def parrelref26_Check_b0 (l : List (T_parrelref26_Tx))  (i : Nat) (s_ : Unit) (k_ : (Unit) → Option ((Int))) : Option ((Int)) :=
  parrelref26_Check_l1 l (i : Int) (fun _ => k_ ()) big 0

def parrelref26_Check_e0 (l : List (T_parrelref26_Tx))  (s_ : Unit) : Option ((Int)) :=
  parrelref26_Check_l2 l  big 0 0

theorem parrelref26_Check_w0 (l : List (T_parrelref26_Tx))   (hN : (l).length < 9223372036854775807) :
    parrelref26_Check_l0 l  big 0 = walkN (parrelref26_Check_b0 l ) (parrelref26_Check_e0 l ) (l).length 0 () := by
  refine loopN (l).length (fun fuel_ t_ s_ => parrelref26_Check_l0 l  fuel_ t_) (parrelref26_Check_b0 l ) (parrelref26_Check_e0 l ) (by first | exact hN | (have := hN; simp only [List.length_nil] at this ⊢; omega)) ?_ ?_ ()
  · intro fuel_ i_ s_ hi_
    have hg_ : 0 ≤ (i_ : Int) ∧ (i_ : Int) < (((l).length : Nat) : Int) := by omega
    show parrelref26_Check_l0 l  (fuel_ + 1) (i_ : Int) = _
    rw [parrelref26_Check_l0, if_pos (decide_eq_true (by omega))]
    have hinc_ : IntKind.wrap .i64 ((i_ : Int) + 1) = (((i_ + 1 : Nat)) : Int) := by rw [w64 (by omega) (by omega)]; rfl
    simp only [parrelref26_Check_l1_k _ (i_ : Int)  (parrelref26_Check_l0 l  fuel_) (fun _ => parrelref26_Check_l0 l  fuel_ (((i_ + 1 : Nat)) : Int)) (by first | rfl | rw [hinc_])]
    try rw [hinc_]
    first | rfl | (unfold parrelref26_Check_b0; simp only [hinc_]; done) | (unfold parrelref26_Check_b0; simp only [hinc_]; rfl)
  · intro fuel_ s_
    show parrelref26_Check_l0 l  (fuel_ + 1) (((l).length : Nat) : Int) = _
    rw [parrelref26_Check_l0, if_neg (by rw [decide_eq_true_eq]; omega)]
    rfl

def parrelref26_has_b0 (x_n : Int)  (a_ : Int) (s_ : Unit) (k_ : (Unit) → Option ((Bool))) : Option ((Bool)) :=
  if ((a_ == x_n) : Bool) then
    some true
  else
    k_ ()

def parrelref26_has_e0   (s_ : Unit) : Option ((Bool)) :=
  some false

theorem parrelref26_has_w0 (l : List (Int)) (x_n : Int)   (hN : (l).length < 9223372036854775807) :
    parrelref26_has_l0 l x_n  big 0 = walkL (parrelref26_has_b0 x_n ) (parrelref26_has_e0  ) l () := by
  refine loopL l (fun fuel_ t_ s_ => parrelref26_has_l0 l x_n  fuel_ t_) (parrelref26_has_b0 x_n ) (parrelref26_has_e0  ) (by first | exact hN | (have := hN; simp only [List.length_nil] at this ⊢; omega)) ?_ ?_ ()
  · intro fuel_ i_ s_ hi_
    have hg_ : 0 ≤ (i_ : Int) ∧ (i_ : Int) < (((l).length : Nat) : Int) := by omega
    show parrelref26_has_l0 l x_n  (fuel_ + 1) (i_ : Int) = _
    rw [parrelref26_has_l0, if_pos (decide_eq_true (by omega))]
    repeat rw [if_pos hg_]
    have hinc_ : IntKind.wrap .i64 ((i_ : Int) + 1) = (((i_ + 1 : Nat)) : Int) := by rw [w64 (by omega) (by omega)]; rfl
    try rw [hinc_]
    first | rfl | (unfold parrelref26_has_b0; simp only [hinc_]; done) | (unfold parrelref26_has_b0; simp only [hinc_]; rfl)
  · intro fuel_ s_
    show parrelref26_has_l0 l x_n  (fuel_ + 1) (((l).length : Nat) : Int) = _
    rw [parrelref26_has_l0, if_neg (by rw [decide_eq_true_eq]; omega)]
    rfl

def parrelref26_has_2_b0 (x_n : Int)  (a_ : Int) (s_ : Unit) (k_ : (Unit) → Option ((Bool))) : Option ((Bool)) :=
  if ((a_ == x_n) : Bool) then
    some true
  else
    k_ ()

def parrelref26_has_2_e0   (s_ : Unit) : Option ((Bool)) :=
  some false

theorem parrelref26_has_2_w0 (l : List (Int)) (x_n : Int)   (hN : (l).length < 9223372036854775807) :
    parrelref26_has_2_l0 l x_n  big 0 = walkL (parrelref26_has_2_b0 x_n ) (parrelref26_has_2_e0  ) l () := by
  refine loopL l (fun fuel_ t_ s_ => parrelref26_has_2_l0 l x_n  fuel_ t_) (parrelref26_has_2_b0 x_n ) (parrelref26_has_2_e0  ) (by first | exact hN | (have := hN; simp only [List.length_nil] at this ⊢; omega)) ?_ ?_ ()
  · intro fuel_ i_ s_ hi_
    have hg_ : 0 ≤ (i_ : Int) ∧ (i_ : Int) < (((l).length : Nat) : Int) := by omega
    show parrelref26_has_2_l0 l x_n  (fuel_ + 1) (i_ : Int) = _
    rw [parrelref26_has_2_l0, if_pos (decide_eq_true (by omega))]
    repeat rw [if_pos hg_]
    have hinc_ : IntKind.wrap .i64 ((i_ : Int) + 1) = (((i_ + 1 : Nat)) : Int) := by rw [w64 (by omega) (by omega)]; rfl
    try rw [hinc_]
    first | rfl | (unfold parrelref26_has_2_b0; simp only [hinc_]; done) | (unfold parrelref26_has_2_b0; simp only [hinc_]; rfl)
  · intro fuel_ s_
    show parrelref26_has_2_l0 l x_n  (fuel_ + 1) (((l).length : Nat) : Int) = _
    rw [parrelref26_has_2_l0, if_neg (by rw [decide_eq_true_eq]; omega)]
    rfl

theorem parrelref26_ahead_l2_k (a : T_parrelref26_Tx) (b : T_parrelref26_Tx) (i : Int)  (k k' : (Int) → Option ((Bool))) (h : k (IntKind.wrap .i64 (i + 1)) = k' (IntKind.wrap .i64 (i + 1))) : ∀ fuel j2, parrelref26_ahead_l2 a b i k fuel j2 = parrelref26_ahead_l2 a b i k' fuel j2 := by
  intro fuel
  induction fuel with
  | zero => intros; rfl
  | succ fuel ih => intros; simp only [parrelref26_ahead_l2, ih, h]

def parrelref26_ahead_b2 (a : T_parrelref26_Tx) (i : Int) (k0 : (Unit) → Option ((Bool))) (a_ : T_parrelref26_Item) (s_ : Unit) (k_ : (Unit) → Option ((Bool))) : Option ((Bool)) :=
  if ((decide (a_.f_Key = (a.f_Writes.getD i.toNat default).f_Key)) : Bool) then
    if ((decide ((a.f_Writes.getD i.toNat default).f_Version ≤ a_.f_Version)) : Bool) then
      some true
    else
      k_ ()
  else
    k_ ()

def parrelref26_ahead_e2  (k0 : (Unit) → Option ((Bool))) (s_ : Unit) : Option ((Bool)) :=
  k0 ()

theorem parrelref26_ahead_w2 (a : T_parrelref26_Tx) (b : T_parrelref26_Tx) (i : Int) (k0 : (Int) → Option ((Bool)))  (hN : (b.f_Reads).length < 9223372036854775807) :
    parrelref26_ahead_l2 a b i k0 big 0 = walkL (parrelref26_ahead_b2 a i (fun s_ => k0 (IntKind.wrap .i64 (i + 1)))) (parrelref26_ahead_e2  (fun s_ => k0 (IntKind.wrap .i64 (i + 1)))) b.f_Reads () := by
  refine loopL b.f_Reads (fun fuel_ t_ s_ => parrelref26_ahead_l2 a b i k0 fuel_ t_) (parrelref26_ahead_b2 a i (fun s_ => k0 (IntKind.wrap .i64 (i + 1)))) (parrelref26_ahead_e2  (fun s_ => k0 (IntKind.wrap .i64 (i + 1)))) (by first | exact hN | (have := hN; simp only [List.length_nil] at this ⊢; omega)) ?_ ?_ ()
  · intro fuel_ i_ s_ hi_
    have hg_ : 0 ≤ (i_ : Int) ∧ (i_ : Int) < (((b.f_Reads).length : Nat) : Int) := by omega
    show parrelref26_ahead_l2 a b i k0 (fuel_ + 1) (i_ : Int) = _
    rw [parrelref26_ahead_l2, if_pos (decide_eq_true (by omega))]
    repeat rw [if_pos hg_]
    have hinc_ : IntKind.wrap .i64 ((i_ : Int) + 1) = (((i_ + 1 : Nat)) : Int) := by rw [w64 (by omega) (by omega)]; rfl
    try rw [hinc_]
    first | rfl | (unfold parrelref26_ahead_b2; simp only [hinc_]; done) | (unfold parrelref26_ahead_b2; simp only [hinc_]; rfl)
  · intro fuel_ s_
    show parrelref26_ahead_l2 a b i k0 (fuel_ + 1) (((b.f_Reads).length : Nat) : Int) = _
    rw [parrelref26_ahead_l2, if_neg (by rw [decide_eq_true_eq]; omega)]
    rfl

theorem parrelref26_ahead_l1_k (a : T_parrelref26_Tx) (b : T_parrelref26_Tx) (i : Int)  (k k' : (Int) → Option ((Bool))) (h : k (IntKind.wrap .i64 (i + 1)) = k' (IntKind.wrap .i64 (i + 1))) : ∀ fuel j, parrelref26_ahead_l1 a b i k fuel j = parrelref26_ahead_l1 a b i k' fuel j := by
  intro fuel
  induction fuel with
  | zero => intros; rfl
  | succ fuel ih => intros; simp only [parrelref26_ahead_l1, ih, h, parrelref26_ahead_l2_k _ _ i  k k' h]

def parrelref26_ahead_b1 (a : T_parrelref26_Tx) (i : Int) (k0 : (Unit) → Option ((Bool))) (a_ : T_parrelref26_Item) (s_ : Unit) (k_ : (Unit) → Option ((Bool))) : Option ((Bool)) :=
  if ((decide (a_.f_Key = (a.f_Writes.getD i.toNat default).f_Key)) : Bool) then
    if ((decide ((a.f_Writes.getD i.toNat default).f_Version < a_.f_Version)) : Bool) then
      some true
    else
      k_ ()
  else
    k_ ()

def parrelref26_ahead_e1 (a : T_parrelref26_Tx) (b : T_parrelref26_Tx) (i : Int) (k0 : (Unit) → Option ((Bool))) (s_ : Unit) : Option ((Bool)) :=
  parrelref26_ahead_l2 a b i (fun _ => k0 ()) big 0

theorem parrelref26_ahead_w1 (a : T_parrelref26_Tx) (b : T_parrelref26_Tx) (i : Int) (k0 : (Int) → Option ((Bool)))  (hN : (b.f_Writes).length < 9223372036854775807) :
    parrelref26_ahead_l1 a b i k0 big 0 = walkL (parrelref26_ahead_b1 a i (fun s_ => k0 (IntKind.wrap .i64 (i + 1)))) (parrelref26_ahead_e1 a b i (fun s_ => k0 (IntKind.wrap .i64 (i + 1)))) b.f_Writes () := by
  refine loopL b.f_Writes (fun fuel_ t_ s_ => parrelref26_ahead_l1 a b i k0 fuel_ t_) (parrelref26_ahead_b1 a i (fun s_ => k0 (IntKind.wrap .i64 (i + 1)))) (parrelref26_ahead_e1 a b i (fun s_ => k0 (IntKind.wrap .i64 (i + 1)))) (by first | exact hN | (have := hN; simp only [List.length_nil] at this ⊢; omega)) ?_ ?_ ()
  · intro fuel_ i_ s_ hi_
    have hg_ : 0 ≤ (i_ : Int) ∧ (i_ : Int) < (((b.f_Writes).length : Nat) : Int) := by omega
    show parrelref26_ahead_l1 a b i k0 (fuel_ + 1) (i_ : Int) = _
    rw [parrelref26_ahead_l1, if_pos (decide_eq_true (by omega))]
    repeat rw [if_pos hg_]
    have hinc_ : IntKind.wrap .i64 ((i_ : Int) + 1) = (((i_ + 1 : Nat)) : Int) := by rw [w64 (by omega) (by omega)]; rfl
    try rw [hinc_]
    first | rfl | (unfold parrelref26_ahead_b1; simp only [hinc_]; done) | (unfold parrelref26_ahead_b1; simp only [hinc_]; rfl)
  · intro fuel_ s_
    show parrelref26_ahead_l1 a b i k0 (fuel_ + 1) (((b.f_Writes).length : Nat) : Int) = _
    rw [parrelref26_ahead_l1, if_neg (by rw [decide_eq_true_eq]; omega)]
    simp only [parrelref26_ahead_l2_k _ _ _  k0 (fun _ => k0 (IntKind.wrap .i64 (i + 1))) (by first | rfl | rw [hinc_])]
    rfl

theorem parrelref26_ahead_l4_k (a : T_parrelref26_Tx) (b : T_parrelref26_Tx) (i2 : Int)  (k k' : (Int) → Option ((Bool))) (h : k (IntKind.wrap .i64 (i2 + 1)) = k' (IntKind.wrap .i64 (i2 + 1))) : ∀ fuel j3, parrelref26_ahead_l4 a b i2 k fuel j3 = parrelref26_ahead_l4 a b i2 k' fuel j3 := by
  intro fuel
  induction fuel with
  | zero => intros; rfl
  | succ fuel ih => intros; simp only [parrelref26_ahead_l4, ih, h]

def parrelref26_ahead_b4 (a : T_parrelref26_Tx) (i2 : Int) (k3 : (Unit) → Option ((Bool))) (a_ : T_parrelref26_Item) (s_ : Unit) (k_ : (Unit) → Option ((Bool))) : Option ((Bool)) :=
  if ((decide (a_.f_Key = (a.f_Reads.getD i2.toNat default).f_Key)) : Bool) then
    if ((decide ((a.f_Reads.getD i2.toNat default).f_Version < a_.f_Version)) : Bool) then
      some true
    else
      k_ ()
  else
    k_ ()

def parrelref26_ahead_e4  (k3 : (Unit) → Option ((Bool))) (s_ : Unit) : Option ((Bool)) :=
  k3 ()

theorem parrelref26_ahead_w4 (a : T_parrelref26_Tx) (b : T_parrelref26_Tx) (i2 : Int) (k3 : (Int) → Option ((Bool)))  (hN : (b.f_Writes).length < 9223372036854775807) :
    parrelref26_ahead_l4 a b i2 k3 big 0 = walkL (parrelref26_ahead_b4 a i2 (fun s_ => k3 (IntKind.wrap .i64 (i2 + 1)))) (parrelref26_ahead_e4  (fun s_ => k3 (IntKind.wrap .i64 (i2 + 1)))) b.f_Writes () := by
  refine loopL b.f_Writes (fun fuel_ t_ s_ => parrelref26_ahead_l4 a b i2 k3 fuel_ t_) (parrelref26_ahead_b4 a i2 (fun s_ => k3 (IntKind.wrap .i64 (i2 + 1)))) (parrelref26_ahead_e4  (fun s_ => k3 (IntKind.wrap .i64 (i2 + 1)))) (by first | exact hN | (have := hN; simp only [List.length_nil] at this ⊢; omega)) ?_ ?_ ()
  · intro fuel_ i_ s_ hi_
    have hg_ : 0 ≤ (i_ : Int) ∧ (i_ : Int) < (((b.f_Writes).length : Nat) : Int) := by omega
    show parrelref26_ahead_l4 a b i2 k3 (fuel_ + 1) (i_ : Int) = _
    rw [parrelref26_ahead_l4, if_pos (decide_eq_true (by omega))]
    repeat rw [if_pos hg_]
    have hinc_ : IntKind.wrap .i64 ((i_ : Int) + 1) = (((i_ + 1 : Nat)) : Int) := by rw [w64 (by omega) (by omega)]; rfl
    try rw [hinc_]
    first | rfl | (unfold parrelref26_ahead_b4; simp only [hinc_]; done) | (unfold parrelref26_ahead_b4; simp only [hinc_]; rfl)
  · intro fuel_ s_
    show parrelref26_ahead_l4 a b i2 k3 (fuel_ + 1) (((b.f_Writes).length : Nat) : Int) = _
    rw [parrelref26_ahead_l4, if_neg (by rw [decide_eq_true_eq]; omega)]
    rfl

def parrelref26_ahead_b3 (a : T_parrelref26_Tx) (b : T_parrelref26_Tx)  (i2 : Nat) (s_ : Unit) (k_ : (Unit) → Option ((Bool))) : Option ((Bool)) :=
  parrelref26_ahead_l4 a b (i2 : Int) (fun _ => k_ ()) big 0

def parrelref26_ahead_e3   (s_ : Unit) : Option ((Bool)) :=
  some false

theorem parrelref26_ahead_w3 (a : T_parrelref26_Tx) (b : T_parrelref26_Tx)   (hN : (a.f_Reads).length < 9223372036854775807) :
    parrelref26_ahead_l3 a b  big 0 = walkN (parrelref26_ahead_b3 a b ) (parrelref26_ahead_e3  ) (a.f_Reads).length 0 () := by
  refine loopN (a.f_Reads).length (fun fuel_ t_ s_ => parrelref26_ahead_l3 a b  fuel_ t_) (parrelref26_ahead_b3 a b ) (parrelref26_ahead_e3  ) (by first | exact hN | (have := hN; simp only [List.length_nil] at this ⊢; omega)) ?_ ?_ ()
  · intro fuel_ i_ s_ hi_
    have hg_ : 0 ≤ (i_ : Int) ∧ (i_ : Int) < (((a.f_Reads).length : Nat) : Int) := by omega
    show parrelref26_ahead_l3 a b  (fuel_ + 1) (i_ : Int) = _
    rw [parrelref26_ahead_l3, if_pos (decide_eq_true (by omega))]
    repeat rw [if_pos hg_]
    have hinc_ : IntKind.wrap .i64 ((i_ : Int) + 1) = (((i_ + 1 : Nat)) : Int) := by rw [w64 (by omega) (by omega)]; rfl
    simp only [parrelref26_ahead_l4_k _ _ (i_ : Int)  (parrelref26_ahead_l3 a b  fuel_) (fun _ => parrelref26_ahead_l3 a b  fuel_ (((i_ + 1 : Nat)) : Int)) (by first | rfl | rw [hinc_])]
    try rw [hinc_]
    first | rfl | (unfold parrelref26_ahead_b3; simp only [hinc_]; done) | (unfold parrelref26_ahead_b3; simp only [hinc_]; rfl)
  · intro fuel_ s_
    show parrelref26_ahead_l3 a b  (fuel_ + 1) (((a.f_Reads).length : Nat) : Int) = _
    rw [parrelref26_ahead_l3, if_neg (by rw [decide_eq_true_eq]; omega)]
    rfl

def parrelref26_ahead_b0 (a : T_parrelref26_Tx) (b : T_parrelref26_Tx)  (i : Nat) (s_ : Unit) (k_ : (Unit) → Option ((Bool))) : Option ((Bool)) :=
  parrelref26_ahead_l1 a b (i : Int) (fun _ => k_ ()) big 0

def parrelref26_ahead_e0 (a : T_parrelref26_Tx) (b : T_parrelref26_Tx)  (s_ : Unit) : Option ((Bool)) :=
  parrelref26_ahead_l3 a b  big 0

theorem parrelref26_ahead_w0 (a : T_parrelref26_Tx) (b : T_parrelref26_Tx)   (hN : (a.f_Writes).length < 9223372036854775807) :
    parrelref26_ahead_l0 a b  big 0 = walkN (parrelref26_ahead_b0 a b ) (parrelref26_ahead_e0 a b ) (a.f_Writes).length 0 () := by
  refine loopN (a.f_Writes).length (fun fuel_ t_ s_ => parrelref26_ahead_l0 a b  fuel_ t_) (parrelref26_ahead_b0 a b ) (parrelref26_ahead_e0 a b ) (by first | exact hN | (have := hN; simp only [List.length_nil] at this ⊢; omega)) ?_ ?_ ()
  · intro fuel_ i_ s_ hi_
    have hg_ : 0 ≤ (i_ : Int) ∧ (i_ : Int) < (((a.f_Writes).length : Nat) : Int) := by omega
    show parrelref26_ahead_l0 a b  (fuel_ + 1) (i_ : Int) = _
    rw [parrelref26_ahead_l0, if_pos (decide_eq_true (by omega))]
    repeat rw [if_pos hg_]
    have hinc_ : IntKind.wrap .i64 ((i_ : Int) + 1) = (((i_ + 1 : Nat)) : Int) := by rw [w64 (by omega) (by omega)]; rfl
    simp only [parrelref26_ahead_l1_k _ _ (i_ : Int)  (parrelref26_ahead_l0 a b  fuel_) (fun _ => parrelref26_ahead_l0 a b  fuel_ (((i_ + 1 : Nat)) : Int)) (by first | rfl | rw [hinc_])]
    try rw [hinc_]
    first | rfl | (unfold parrelref26_ahead_b0; simp only [hinc_]; done) | (unfold parrelref26_ahead_b0; simp only [hinc_]; rfl)
  · intro fuel_ s_
    show parrelref26_ahead_l0 a b  (fuel_ + 1) (((a.f_Writes).length : Nat) : Int) = _
    rw [parrelref26_ahead_l0, if_neg (by rw [decide_eq_true_eq]; omega)]
    rfl

theorem parrelref26_Order_l2_k (l : List (T_parrelref26_Tx)) (l2 : List (Int)) (next : Int) (i : Int)  (k k' : (Int) → (Int) → Option ((List (Int)) × (Int))) (h : ∀ next_, k next_ (IntKind.wrap .i64 (i + 1)) = k' next_ (IntKind.wrap .i64 (i + 1))) : ∀ fuel free x_k, parrelref26_Order_l2 l l2 next i k fuel free x_k = parrelref26_Order_l2 l l2 next i k' fuel free x_k := by
  intro fuel
  induction fuel with
  | zero => intros; rfl
  | succ fuel ih => intros; simp only [parrelref26_Order_l2, ih, h]

def parrelref26_Order_b2 (l : List (T_parrelref26_Tx)) (l2 : List (Int)) (next : Int) (i : Int) (k1 : ((Int)) → Option ((List (Int)) × (Int))) (x_k : Nat) (s_ : (Bool)) (k_ : ((Bool)) → Option ((List (Int)) × (Int))) : Option ((List (Int)) × (Int)) :=
  if (s_ : Bool) then
    if (((x_k : Int) == i) : Bool) then
      k_ true
    else
      (parrelref26_has_2 l2 (x_k : Int)).bind fun yL2_5 =>
      if (yL2_5 : Bool) then
        k_ true
      else
        if 0 ≤ i ∧ i < (((l).length : Nat) : Int) then
        (parrelref26_ahead (l.getD x_k default) (l.getD i.toNat default)).bind fun yL2_10 =>
        k_ (!yL2_10)
        else none
  else
    if (s_ : Bool) then
      k1 i
    else
      k1 next

def parrelref26_Order_e2 (next : Int) (i : Int) (k1 : ((Int)) → Option ((List (Int)) × (Int))) (s_ : (Bool)) : Option ((List (Int)) × (Int)) :=
  if (s_ : Bool) then
    k1 i
  else
    k1 next

theorem parrelref26_Order_w2 (l : List (T_parrelref26_Tx)) (l2 : List (Int)) (next : Int) (i : Int) (k1 : (Int) → (Int) → Option ((List (Int)) × (Int))) (free : Bool) (hN : (l).length < 9223372036854775807) :
    parrelref26_Order_l2 l l2 next i k1 big free 0 = walkN (parrelref26_Order_b2 l l2 next i (fun s_ => k1 s_ (IntKind.wrap .i64 (i + 1)))) (parrelref26_Order_e2 next i (fun s_ => k1 s_ (IntKind.wrap .i64 (i + 1)))) (l).length 0 free := by
  refine loopN (l).length (fun fuel_ t_ s_ => parrelref26_Order_l2 l l2 next i k1 fuel_ s_ t_) (parrelref26_Order_b2 l l2 next i (fun s_ => k1 s_ (IntKind.wrap .i64 (i + 1)))) (parrelref26_Order_e2 next i (fun s_ => k1 s_ (IntKind.wrap .i64 (i + 1)))) (by first | exact hN | (have := hN; simp only [List.length_nil] at this ⊢; omega)) ?_ ?_ free
  · intro fuel_ i_ s_ hi_
    have hg_ : 0 ≤ (i_ : Int) ∧ (i_ : Int) < (((l).length : Nat) : Int) := by omega
    show parrelref26_Order_l2 l l2 next i k1 (fuel_ + 1) s_ (i_ : Int) = _
    rw [parrelref26_Order_l2, if_pos (decide_eq_true (by omega))]
    repeat rw [if_pos hg_]
    have hinc_ : IntKind.wrap .i64 ((i_ : Int) + 1) = (((i_ + 1 : Nat)) : Int) := by rw [w64 (by omega) (by omega)]; rfl
    try rw [hinc_]
    first | rfl | (unfold parrelref26_Order_b2; simp only [hinc_]; done) | (unfold parrelref26_Order_b2; simp only [hinc_]; rfl)
  · intro fuel_ s_
    show parrelref26_Order_l2 l l2 next i k1 (fuel_ + 1) s_ (((l).length : Nat) : Int) = _
    rw [parrelref26_Order_l2, if_neg (by rw [decide_eq_true_eq]; omega)]
    rfl

def parrelref26_Order_b1 (l : List (T_parrelref26_Tx)) (l2 : List (Int)) (k0 : (List (Int)) → Option ((List (Int)) × (Int))) (i : Nat) (s_ : (Int)) (k_ : ((Int)) → Option ((List (Int)) × (Int))) : Option ((List (Int)) × (Int)) :=
  if ((decide (s_ < 0)) : Bool) then
    (parrelref26_has_2 l2 (i : Int)).bind fun yL1_4 =>
    parrelref26_Order_l2 l l2 s_ (i : Int) (fun next_ _ => k_ next_) big (!yL1_4) 0
  else
    if ((decide (s_ < 0)) : Bool) then
      some (([] : List (Int)), 11)
    else
      if ((l2).length + ([s_]).length) * 8 ≤ 140737488351232 then
      k0 (l2 ++ [s_])
      else none

def parrelref26_Order_e1 (l2 : List (Int)) (k0 : (List (Int)) → Option ((List (Int)) × (Int))) (s_ : (Int)) : Option ((List (Int)) × (Int)) :=
  if ((decide (s_ < 0)) : Bool) then
    some (([] : List (Int)), 11)
  else
    if ((l2).length + ([s_]).length) * 8 ≤ 140737488351232 then
    k0 (l2 ++ [s_])
    else none

theorem parrelref26_Order_w1 (l : List (T_parrelref26_Tx)) (l2 : List (Int)) (k0 : (List (Int)) → Option ((List (Int)) × (Int))) (next : Int) (hN : (l).length < 9223372036854775807) :
    parrelref26_Order_l1 l l2 k0 big next 0 = walkN (parrelref26_Order_b1 l l2 k0) (parrelref26_Order_e1 l2 k0) (l).length 0 next := by
  refine loopN (l).length (fun fuel_ t_ s_ => parrelref26_Order_l1 l l2 k0 fuel_ s_ t_) (parrelref26_Order_b1 l l2 k0) (parrelref26_Order_e1 l2 k0) (by first | exact hN | (have := hN; simp only [List.length_nil] at this ⊢; omega)) ?_ ?_ next
  · intro fuel_ i_ s_ hi_
    have hg_ : 0 ≤ (i_ : Int) ∧ (i_ : Int) < (((l).length : Nat) : Int) := by omega
    show parrelref26_Order_l1 l l2 k0 (fuel_ + 1) s_ (i_ : Int) = _
    rw [parrelref26_Order_l1, if_pos (decide_eq_true (by omega))]
    have hinc_ : IntKind.wrap .i64 ((i_ : Int) + 1) = (((i_ + 1 : Nat)) : Int) := by rw [w64 (by omega) (by omega)]; rfl
    simp only [parrelref26_Order_l2_k _ _ _ (i_ : Int)  (parrelref26_Order_l1 l l2 k0 fuel_) (fun next_ _ => parrelref26_Order_l1 l l2 k0 fuel_ next_ (((i_ + 1 : Nat)) : Int)) (fun next_ => by first | rfl | rw [hinc_])]
    try rw [hinc_]
    first | rfl | (unfold parrelref26_Order_b1; simp only [hinc_]; done) | (unfold parrelref26_Order_b1; simp only [hinc_]; rfl)
  · intro fuel_ s_
    show parrelref26_Order_l1 l l2 k0 (fuel_ + 1) s_ (((l).length : Nat) : Int) = _
    rw [parrelref26_Order_l1, if_neg (by rw [decide_eq_true_eq]; omega)]
    rfl

def parrelref01_Ints_2_b0 (a : List (Int)) (b : List (Int))  (i : Nat) (s_ : Unit) (k_ : (Unit) → Option ((Bool))) : Option ((Bool)) :=
  if 0 ≤ (i : Int) ∧ (i : Int) < (((b).length : Nat) : Int) then
  if (((a.getD i default) != (b.getD i default)) : Bool) then
    some false
  else
    k_ ()
  else none

def parrelref01_Ints_2_e0   (s_ : Unit) : Option ((Bool)) :=
  some true

theorem parrelref01_Ints_2_w0 (a : List (Int)) (b : List (Int))   (hN : (a).length < 9223372036854775807) :
    parrelref01_Ints_2_l0 a b  big 0 = walkN (parrelref01_Ints_2_b0 a b ) (parrelref01_Ints_2_e0  ) (a).length 0 () := by
  refine loopN (a).length (fun fuel_ t_ s_ => parrelref01_Ints_2_l0 a b  fuel_ t_) (parrelref01_Ints_2_b0 a b ) (parrelref01_Ints_2_e0  ) (by first | exact hN | (have := hN; simp only [List.length_nil] at this ⊢; omega)) ?_ ?_ ()
  · intro fuel_ i_ s_ hi_
    have hg_ : 0 ≤ (i_ : Int) ∧ (i_ : Int) < (((a).length : Nat) : Int) := by omega
    show parrelref01_Ints_2_l0 a b  (fuel_ + 1) (i_ : Int) = _
    rw [parrelref01_Ints_2_l0, if_pos (decide_eq_true (by omega))]
    repeat rw [if_pos hg_]
    have hinc_ : IntKind.wrap .i64 ((i_ : Int) + 1) = (((i_ + 1 : Nat)) : Int) := by rw [w64 (by omega) (by omega)]; rfl
    try rw [hinc_]
    first | rfl | (unfold parrelref01_Ints_2_b0; simp only [hinc_]; done) | (unfold parrelref01_Ints_2_b0; simp only [hinc_]; rfl)
  · intro fuel_ s_
    show parrelref01_Ints_2_l0 a b  (fuel_ + 1) (((a).length : Nat) : Int) = _
    rw [parrelref01_Ints_2_l0, if_neg (by rw [decide_eq_true_eq]; omega)]
    rfl

theorem parrelref26_far_l2_k (l : List (T_parrelref26_Tx)) (to : Int) (low : Int) (x_n : Int) (l2 : List (Int)) (i : Int)  (k k' : (Int) → (List (Int)) → (List (Int)) → Option ((Int))) (h : ∀ l4_ l5_, k (IntKind.wrap .i64 (i + 1)) l4_ l5_ = k' (IntKind.wrap .i64 (i + 1)) l4_ l5_) : ∀ fuel x_k l6 l7, parrelref26_far_l2 l to low x_n l2 i k fuel x_k l6 l7 = parrelref26_far_l2 l to low x_n l2 i k' fuel x_k l6 l7 := by
  intro fuel
  induction fuel with
  | zero => intros; rfl
  | succ fuel ih => intros; simp only [parrelref26_far_l2, ih, h]

def parrelref26_far_b2 (l : List (T_parrelref26_Tx)) (to : Int) (x_n : Int) (l2 : List (Int)) (i : Int) (k1 : ((List (Int)) × (List (Int))) → Option ((Int))) (x_k : Nat) (s_ : (List (Int)) × (List (Int))) (k_ : ((List (Int)) × (List (Int))) → Option ((Int))) : Option ((Int)) :=
  if 0 ≤ i ∧ i < (((l2).length : Nat) : Int) then
  if (((x_k : Int) == (l2.getD i.toNat default)) : Bool) then
    k_ (s_.1, s_.2)
  else
    if 0 ≤ (l2.getD i.toNat default) ∧ (l2.getD i.toNat default) < (((l).length : Nat) : Int) then
    (parrelref26_ahead (l.getD ((l2.getD i.toNat default)).toNat default) (l.getD x_k default)).bind fun yL2_7 =>
    if ((!yL2_7) : Bool) then
      k_ (s_.1, s_.2)
    else
      if (((x_k : Int) == to) : Bool) then
        some x_n
      else
        (parrelref26_has_2 s_.1 (x_k : Int)).bind fun yL2_11 =>
        if ((!yL2_11) : Bool) then
          if ((s_.1).length + ([(x_k : Int)]).length) * 8 ≤ 140737488351232 then
          if ((s_.2).length + ([(x_k : Int)]).length) * 8 ≤ 140737488351232 then
          k_ ((s_.1 ++ [(x_k : Int)]), (s_.2 ++ [(x_k : Int)]))
          else none
          else none
        else
          k_ (s_.1, s_.2)
    else none
  else none

def parrelref26_far_e2  (k1 : ((List (Int)) × (List (Int))) → Option ((Int))) (s_ : (List (Int)) × (List (Int))) : Option ((Int)) :=
  k1 (s_.1, s_.2)

theorem parrelref26_far_ws2 (l : List (T_parrelref26_Tx)) (to : Int) (low : Int) (x_n : Int) (l2 : List (Int)) (i : Int) (k1 : (Int) → (List (Int)) → (List (Int)) → Option ((Int))) (l6 : List (Int)) (l7 : List (Int)) (st_ : Nat) (hst_ : st_ ≤ (l).length) (hN : (l).length < 9223372036854775807) :
    parrelref26_far_l2 l to low x_n l2 i k1 big (st_ : Int) l6 l7 = walkN (parrelref26_far_b2 l to x_n l2 i (fun s_ => k1 (IntKind.wrap .i64 (i + 1)) s_.1 s_.2)) (parrelref26_far_e2  (fun s_ => k1 (IntKind.wrap .i64 (i + 1)) s_.1 s_.2)) ((l).length - st_) st_ (l6, l7) := by
  refine loopNs (l).length st_ hst_ (fun fuel_ t_ s_ => parrelref26_far_l2 l to low x_n l2 i k1 fuel_ t_ s_.1 s_.2) (parrelref26_far_b2 l to x_n l2 i (fun s_ => k1 (IntKind.wrap .i64 (i + 1)) s_.1 s_.2)) (parrelref26_far_e2  (fun s_ => k1 (IntKind.wrap .i64 (i + 1)) s_.1 s_.2)) (by first | exact hN | (have := hN; simp only [List.length_nil] at this ⊢; omega)) ?_ ?_ (l6, l7)
  · intro fuel_ i_ s_ hi_
    have hg_ : 0 ≤ (i_ : Int) ∧ (i_ : Int) < (((l).length : Nat) : Int) := by omega
    show parrelref26_far_l2 l to low x_n l2 i k1 (fuel_ + 1) (i_ : Int) s_.1 s_.2 = _
    rw [parrelref26_far_l2, if_pos (decide_eq_true (by omega))]
    repeat rw [if_pos hg_]
    have hinc_ : IntKind.wrap .i64 ((i_ : Int) + 1) = (((i_ + 1 : Nat)) : Int) := by rw [w64 (by omega) (by omega)]; rfl
    try rw [hinc_]
    first | rfl | (unfold parrelref26_far_b2; simp only [hinc_]; done) | (unfold parrelref26_far_b2; simp only [hinc_]; rfl)
  · intro fuel_ s_
    show parrelref26_far_l2 l to low x_n l2 i k1 (fuel_ + 1) (((l).length : Nat) : Int) s_.1 s_.2 = _
    rw [parrelref26_far_l2, if_neg (by rw [decide_eq_true_eq]; omega)]
    rfl

def parrelref26_far_b1 (l : List (T_parrelref26_Tx)) (to : Int) (low : Int) (x_n : Int) (l2 : List (Int)) (k0 : (Int) → (List (Int)) → (List (Int)) → Option ((Int))) (i : Nat) (s_ : (List (Int)) × (List (Int))) (k_ : ((List (Int)) × (List (Int))) → Option ((Int))) : Option ((Int)) :=
  parrelref26_far_l2 l to low x_n l2 (i : Int) (fun _ l4_ l5_ => k_ (l4_, l5_)) big low s_.1 s_.2

def parrelref26_far_e1 (x_n : Int) (k0 : (Int) → (List (Int)) → (List (Int)) → Option ((Int))) (s_ : (List (Int)) × (List (Int))) : Option ((Int)) :=
  k0 (IntKind.wrap .i64 (x_n + 1)) s_.2 s_.1

theorem parrelref26_far_w1 (l : List (T_parrelref26_Tx)) (to : Int) (low : Int) (x_n : Int) (l2 : List (Int)) (k0 : (Int) → (List (Int)) → (List (Int)) → Option ((Int))) (l4 : List (Int)) (l5 : List (Int)) (hN : (l2).length < 9223372036854775807) :
    parrelref26_far_l1 l to low x_n l2 k0 big 0 l4 l5 = walkN (parrelref26_far_b1 l to low x_n l2 k0) (parrelref26_far_e1 x_n k0) (l2).length 0 (l4, l5) := by
  refine loopN (l2).length (fun fuel_ t_ s_ => parrelref26_far_l1 l to low x_n l2 k0 fuel_ t_ s_.1 s_.2) (parrelref26_far_b1 l to low x_n l2 k0) (parrelref26_far_e1 x_n k0) (by first | exact hN | (have := hN; simp only [List.length_nil] at this ⊢; omega)) ?_ ?_ (l4, l5)
  · intro fuel_ i_ s_ hi_
    have hg_ : 0 ≤ (i_ : Int) ∧ (i_ : Int) < (((l2).length : Nat) : Int) := by omega
    show parrelref26_far_l1 l to low x_n l2 k0 (fuel_ + 1) (i_ : Int) s_.1 s_.2 = _
    rw [parrelref26_far_l1, if_pos (decide_eq_true (by omega))]
    have hinc_ : IntKind.wrap .i64 ((i_ : Int) + 1) = (((i_ + 1 : Nat)) : Int) := by rw [w64 (by omega) (by omega)]; rfl
    simp only [parrelref26_far_l2_k _ _ _ _ _ (i_ : Int)  (parrelref26_far_l1 l to low x_n l2 k0 fuel_) (fun _ l4_ l5_ => parrelref26_far_l1 l to low x_n l2 k0 fuel_ (((i_ + 1 : Nat)) : Int) l4_ l5_) (fun l4_ l5_ => by first | rfl | rw [hinc_])]
    try rw [hinc_]
    first | rfl | (unfold parrelref26_far_b1; simp only [hinc_]; done) | (unfold parrelref26_far_b1; simp only [hinc_]; rfl)
  · intro fuel_ s_
    show parrelref26_far_l1 l to low x_n l2 k0 (fuel_ + 1) (((l2).length : Nat) : Int) s_.1 s_.2 = _
    rw [parrelref26_far_l1, if_neg (by rw [decide_eq_true_eq]; omega)]
    rfl

def parrelref26_Circle_b2 (l : List (T_parrelref26_Tx)) (first : Int) (left : Int) (l2 : List (Int)) (k1 : (Int) → (List (Int)) → Option ((List (Int)))) (x_k : Nat) (s_ : Unit) (k_ : (Unit) → Option ((List (Int)))) : Option ((List (Int))) :=
  if (((x_k : Int) != (l2.getD ((IntKind.wrap .i64 (((l2).length : Int) - 1))).toNat default)) : Bool) then
    if 0 ≤ (l2.getD ((IntKind.wrap .i64 (((l2).length : Int) - 1))).toNat default) ∧ (l2.getD ((IntKind.wrap .i64 (((l2).length : Int) - 1))).toNat default) < (((l).length : Nat) : Int) then
    (parrelref26_ahead (l.getD ((l2.getD ((IntKind.wrap .i64 (((l2).length : Int) - 1))).toNat default)).toNat default) (l.getD x_k default)).bind fun yL2_6 =>
    if (yL2_6 : Bool) then
      (parrelref26_far l (x_k : Int) first first).bind fun yL2_9 =>
      if ((yL2_9 == left) : Bool) then
        if ((l2).length + ([(x_k : Int)]).length) * 8 ≤ 140737488351232 then
        k1 (IntKind.wrap .i64 (left - 1)) (l2 ++ [(x_k : Int)])
        else none
      else
        k_ ()
    else
      k_ ()
    else none
  else
    k_ ()

def parrelref26_Circle_e2 (left : Int) (l2 : List (Int)) (k1 : (Int) → (List (Int)) → Option ((List (Int)))) (s_ : Unit) : Option ((List (Int))) :=
  k1 (IntKind.wrap .i64 (left - 1)) l2

theorem parrelref26_Circle_ws2 (l : List (T_parrelref26_Tx)) (first : Int) (left : Int) (l2 : List (Int)) (k1 : (Int) → (List (Int)) → Option ((List (Int))))  (st_ : Nat) (hst_ : st_ ≤ (l).length) (hN : (l).length < 9223372036854775807) :
    parrelref26_Circle_l2 l first left l2 k1 big (st_ : Int) = walkN (parrelref26_Circle_b2 l first left l2 k1) (parrelref26_Circle_e2 left l2 k1) ((l).length - st_) st_ () := by
  refine loopNs (l).length st_ hst_ (fun fuel_ t_ s_ => parrelref26_Circle_l2 l first left l2 k1 fuel_ t_) (parrelref26_Circle_b2 l first left l2 k1) (parrelref26_Circle_e2 left l2 k1) (by first | exact hN | (have := hN; simp only [List.length_nil] at this ⊢; omega)) ?_ ?_ ()
  · intro fuel_ i_ s_ hi_
    have hg_ : 0 ≤ (i_ : Int) ∧ (i_ : Int) < (((l).length : Nat) : Int) := by omega
    show parrelref26_Circle_l2 l first left l2 k1 (fuel_ + 1) (i_ : Int) = _
    rw [parrelref26_Circle_l2, if_pos (decide_eq_true (by omega))]
    repeat rw [if_pos hg_]
    have hinc_ : IntKind.wrap .i64 ((i_ : Int) + 1) = (((i_ + 1 : Nat)) : Int) := by rw [w64 (by omega) (by omega)]; rfl
    try rw [hinc_]
    first | rfl | (unfold parrelref26_Circle_b2; simp only [hinc_]; done) | (unfold parrelref26_Circle_b2; simp only [hinc_]; rfl)
  · intro fuel_ s_
    show parrelref26_Circle_l2 l first left l2 k1 (fuel_ + 1) (((l).length : Nat) : Int) = _
    rw [parrelref26_Circle_l2, if_neg (by rw [decide_eq_true_eq]; omega)]
    rfl

def parrelref26_Circle_b0 (l : List (T_parrelref26_Tx))  (i : Nat) (s_ : (Int) × (Int)) (k_ : ((Int) × (Int)) → Option ((List (Int)))) : Option ((List (Int))) :=
  (parrelref26_far l (i : Int) (i : Int) (i : Int)).bind fun yL0_3 =>
  if ((decide (0 < yL0_3)) : Bool) then
    if ((s_.1 == 0) : Bool) then
      k_ (yL0_3, (i : Int))
    else
      if ((decide (yL0_3 < s_.1)) : Bool) then
        k_ (yL0_3, (i : Int))
      else
        k_ (s_.1, s_.2)
  else
    k_ (s_.1, s_.2)

def parrelref26_Circle_e0 (l : List (T_parrelref26_Tx))  (s_ : (Int) × (Int)) : Option ((List (Int))) :=
  parrelref26_Circle_l1 l s_.2  big (IntKind.wrap .i64 (s_.1 - 1)) ([s_.2])

theorem parrelref26_Circle_w0 (l : List (T_parrelref26_Tx))  (least : Int) (first : Int) (hN : (l).length < 9223372036854775807) :
    parrelref26_Circle_l0 l  big least first 0 = walkN (parrelref26_Circle_b0 l ) (parrelref26_Circle_e0 l ) (l).length 0 (least, first) := by
  refine loopN (l).length (fun fuel_ t_ s_ => parrelref26_Circle_l0 l  fuel_ s_.1 s_.2 t_) (parrelref26_Circle_b0 l ) (parrelref26_Circle_e0 l ) (by first | exact hN | (have := hN; simp only [List.length_nil] at this ⊢; omega)) ?_ ?_ (least, first)
  · intro fuel_ i_ s_ hi_
    have hg_ : 0 ≤ (i_ : Int) ∧ (i_ : Int) < (((l).length : Nat) : Int) := by omega
    show parrelref26_Circle_l0 l  (fuel_ + 1) s_.1 s_.2 (i_ : Int) = _
    rw [parrelref26_Circle_l0, if_pos (decide_eq_true (by omega))]
    have hinc_ : IntKind.wrap .i64 ((i_ : Int) + 1) = (((i_ + 1 : Nat)) : Int) := by rw [w64 (by omega) (by omega)]; rfl
    try rw [hinc_]
    first | rfl | (unfold parrelref26_Circle_b0; simp only [hinc_]; done) | (unfold parrelref26_Circle_b0; simp only [hinc_]; rfl)
  · intro fuel_ s_
    show parrelref26_Circle_l0 l  (fuel_ + 1) s_.1 s_.2 (((l).length : Nat) : Int) = _
    rw [parrelref26_Circle_l0, if_neg (by rw [decide_eq_true_eq]; omega)]
    rfl

def parrelref26_value_b0 (x_k : A8 (Int))  (a_ : T_parrelref26_Item) (s_ : (List UInt8)) (k_ : ((List UInt8)) → Option ((List UInt8))) : Option ((List UInt8)) :=
  if ((decide (a_.f_Key = x_k)) : Bool) then
    k_ a_.f_Value
  else
    k_ s_

def parrelref26_value_e0   (s_ : (List UInt8)) : Option ((List UInt8)) :=
  some s_

theorem parrelref26_value_w0 (l : List (T_parrelref26_Item)) (x_k : A8 (Int))  (s : List UInt8) (hN : (l).length < 9223372036854775807) :
    parrelref26_value_l0 l x_k  big s 0 = walkL (parrelref26_value_b0 x_k ) (parrelref26_value_e0  ) l s := by
  refine loopL l (fun fuel_ t_ s_ => parrelref26_value_l0 l x_k  fuel_ s_ t_) (parrelref26_value_b0 x_k ) (parrelref26_value_e0  ) (by first | exact hN | (have := hN; simp only [List.length_nil] at this ⊢; omega)) ?_ ?_ s
  · intro fuel_ i_ s_ hi_
    have hg_ : 0 ≤ (i_ : Int) ∧ (i_ : Int) < (((l).length : Nat) : Int) := by omega
    show parrelref26_value_l0 l x_k  (fuel_ + 1) s_ (i_ : Int) = _
    rw [parrelref26_value_l0, if_pos (decide_eq_true (by omega))]
    repeat rw [if_pos hg_]
    have hinc_ : IntKind.wrap .i64 ((i_ : Int) + 1) = (((i_ + 1 : Nat)) : Int) := by rw [w64 (by omega) (by omega)]; rfl
    try rw [hinc_]
    first | rfl | (unfold parrelref26_value_b0; simp only [hinc_]; done) | (unfold parrelref26_value_b0; simp only [hinc_]; rfl)
  · intro fuel_ s_
    show parrelref26_value_l0 l x_k  (fuel_ + 1) s_ (((l).length : Nat) : Int) = _
    rw [parrelref26_value_l0, if_neg (by rw [decide_eq_true_eq]; omega)]
    rfl

def parrelref26_own_b0 (x_r : T_parrelref26_Item)  (a_ : T_parrelref26_Item) (s_ : Unit) (k_ : (Unit) → Option ((Bool))) : Option ((Bool)) :=
  if ((decide (a_.f_Key = x_r.f_Key)) : Bool) then
    if ((a_.f_Version == x_r.f_Version) : Bool) then
      some true
    else
      k_ ()
  else
    k_ ()

def parrelref26_own_e0   (s_ : Unit) : Option ((Bool)) :=
  some false

theorem parrelref26_own_w0 (t : T_parrelref26_Tx) (x_r : T_parrelref26_Item)   (hN : (t.f_Writes).length < 9223372036854775807) :
    parrelref26_own_l0 t x_r  big 0 = walkL (parrelref26_own_b0 x_r ) (parrelref26_own_e0  ) t.f_Writes () := by
  refine loopL t.f_Writes (fun fuel_ t_ s_ => parrelref26_own_l0 t x_r  fuel_ t_) (parrelref26_own_b0 x_r ) (parrelref26_own_e0  ) (by first | exact hN | (have := hN; simp only [List.length_nil] at this ⊢; omega)) ?_ ?_ ()
  · intro fuel_ i_ s_ hi_
    have hg_ : 0 ≤ (i_ : Int) ∧ (i_ : Int) < (((t.f_Writes).length : Nat) : Int) := by omega
    show parrelref26_own_l0 t x_r  (fuel_ + 1) (i_ : Int) = _
    rw [parrelref26_own_l0, if_pos (decide_eq_true (by omega))]
    repeat rw [if_pos hg_]
    have hinc_ : IntKind.wrap .i64 ((i_ : Int) + 1) = (((i_ + 1 : Nat)) : Int) := by rw [w64 (by omega) (by omega)]; rfl
    try rw [hinc_]
    first | rfl | (unfold parrelref26_own_b0; simp only [hinc_]; done) | (unfold parrelref26_own_b0; simp only [hinc_]; rfl)
  · intro fuel_ s_
    show parrelref26_own_l0 t x_r  (fuel_ + 1) (((t.f_Writes).length : Nat) : Int) = _
    rw [parrelref26_own_l0, if_neg (by rw [decide_eq_true_eq]; omega)]
    rfl

theorem parrelref26_Play_l1_k (l : List (T_parrelref26_Tx)) (order : List (Int)) (state : List (T_parrelref26_Item)) (i : Int)  (k k' : (List (T_parrelref26_Item)) → (Int) → Option ((Bool))) (h : ∀ state_, k state_ (IntKind.wrap .i64 (i + 1)) = k' state_ (IntKind.wrap .i64 (i + 1))) : ∀ fuel j, parrelref26_Play_l1 l order state i k fuel j = parrelref26_Play_l1 l order state i k' fuel j := by
  intro fuel
  induction fuel with
  | zero => intros; rfl
  | succ fuel ih => intros; simp only [parrelref26_Play_l1, ih, h]

def parrelref26_Play_b1 (l : List (T_parrelref26_Tx)) (order : List (Int)) (state : List (T_parrelref26_Item)) (i : Int) (k0 : ((List (T_parrelref26_Item))) → Option ((Bool))) (a_ : T_parrelref26_Item) (s_ : Unit) (k_ : (Unit) → Option ((Bool))) : Option ((Bool)) :=
  (parrelref26_value state a_.f_Key).bind fun yL1_4 =>
  (parrelref26_own (l.getD ((order.getD i.toNat default)).toNat default) a_).bind fun yL1_6 =>
  if (yL1_6 : Bool) then
    (parrelref26_value (l.getD ((order.getD i.toNat default)).toNat default).f_Writes a_.f_Key).bind fun yL1_9 =>
    if ((!(a_.f_Value == yL1_9)) : Bool) then
      some false
    else
      k_ ()
  else
    if ((!(a_.f_Value == yL1_4)) : Bool) then
      some false
    else
      k_ ()

def parrelref26_Play_e1 (l : List (T_parrelref26_Tx)) (order : List (Int)) (state : List (T_parrelref26_Item)) (i : Int) (k0 : ((List (T_parrelref26_Item))) → Option ((Bool))) (s_ : Unit) : Option ((Bool)) :=
  if (0 + (state).length) * 32 ≤ 140737488351232 then
  if ((state).length + ((l.getD ((order.getD i.toNat default)).toNat default).f_Writes).length) * 32 ≤ 140737488351232 then
  k0 (state ++ (l.getD ((order.getD i.toNat default)).toNat default).f_Writes)
  else none
  else none

theorem parrelref26_Play_w1 (l : List (T_parrelref26_Tx)) (order : List (Int)) (state : List (T_parrelref26_Item)) (i : Int) (k0 : (List (T_parrelref26_Item)) → (Int) → Option ((Bool)))  (hN : ((l.getD ((order.getD i.toNat default)).toNat default).f_Reads).length < 9223372036854775807) :
    parrelref26_Play_l1 l order state i k0 big 0 = walkL (parrelref26_Play_b1 l order state i (fun s_ => k0 s_ (IntKind.wrap .i64 (i + 1)))) (parrelref26_Play_e1 l order state i (fun s_ => k0 s_ (IntKind.wrap .i64 (i + 1)))) (l.getD ((order.getD i.toNat default)).toNat default).f_Reads () := by
  refine loopL (l.getD ((order.getD i.toNat default)).toNat default).f_Reads (fun fuel_ t_ s_ => parrelref26_Play_l1 l order state i k0 fuel_ t_) (parrelref26_Play_b1 l order state i (fun s_ => k0 s_ (IntKind.wrap .i64 (i + 1)))) (parrelref26_Play_e1 l order state i (fun s_ => k0 s_ (IntKind.wrap .i64 (i + 1)))) (by first | exact hN | (have := hN; simp only [List.length_nil] at this ⊢; omega)) ?_ ?_ ()
  · intro fuel_ i_ s_ hi_
    have hg_ : 0 ≤ (i_ : Int) ∧ (i_ : Int) < ((((l.getD ((order.getD i.toNat default)).toNat default).f_Reads).length : Nat) : Int) := by omega
    show parrelref26_Play_l1 l order state i k0 (fuel_ + 1) (i_ : Int) = _
    rw [parrelref26_Play_l1, if_pos (decide_eq_true (by omega))]
    repeat rw [if_pos hg_]
    have hinc_ : IntKind.wrap .i64 ((i_ : Int) + 1) = (((i_ + 1 : Nat)) : Int) := by rw [w64 (by omega) (by omega)]; rfl
    try rw [hinc_]
    first | rfl | (unfold parrelref26_Play_b1; simp only [hinc_]; done) | (unfold parrelref26_Play_b1; simp only [hinc_]; rfl)
  · intro fuel_ s_
    show parrelref26_Play_l1 l order state i k0 (fuel_ + 1) ((((l.getD ((order.getD i.toNat default)).toNat default).f_Reads).length : Nat) : Int) = _
    rw [parrelref26_Play_l1, if_neg (by rw [decide_eq_true_eq]; omega)]
    rfl

def parrelref26_Play_b0 (l : List (T_parrelref26_Tx)) (order : List (Int))  (i : Nat) (s_ : (List (T_parrelref26_Item))) (k_ : ((List (T_parrelref26_Item))) → Option ((Bool))) : Option ((Bool)) :=
  if ((decide ((order.getD i default) < 0)) : Bool) then
    some false
  else
    if ((decide (((l).length : Int) ≤ (order.getD i default))) : Bool) then
      some false
    else
      if 0 ≤ (0 : Int) ∧ 0 ≤ (i : Int) ∧ (i : Int) ≤ (((order).length : Nat) : Int) then
      (parrelref26_has (order.take i) (order.getD i default)).bind fun yL0_7 =>
      if (yL0_7 : Bool) then
        some false
      else
        if 0 ≤ (order.getD i default) ∧ (order.getD i default) < (((l).length : Nat) : Int) then
        parrelref26_Play_l1 l order s_ (i : Int) (fun state_ _ => k_ state_) big 0
        else none
      else none

def parrelref26_Play_e0   (s_ : (List (T_parrelref26_Item))) : Option ((Bool)) :=
  some true

theorem parrelref26_Play_w0 (l : List (T_parrelref26_Tx)) (order : List (Int))  (state : List (T_parrelref26_Item)) (hN : (order).length < 9223372036854775807) :
    parrelref26_Play_l0 l order  big state 0 = walkN (parrelref26_Play_b0 l order ) (parrelref26_Play_e0  ) (order).length 0 state := by
  refine loopN (order).length (fun fuel_ t_ s_ => parrelref26_Play_l0 l order  fuel_ s_ t_) (parrelref26_Play_b0 l order ) (parrelref26_Play_e0  ) (by first | exact hN | (have := hN; simp only [List.length_nil] at this ⊢; omega)) ?_ ?_ state
  · intro fuel_ i_ s_ hi_
    have hg_ : 0 ≤ (i_ : Int) ∧ (i_ : Int) < (((order).length : Nat) : Int) := by omega
    show parrelref26_Play_l0 l order  (fuel_ + 1) s_ (i_ : Int) = _
    rw [parrelref26_Play_l0, if_pos (decide_eq_true (by omega))]
    repeat rw [if_pos hg_]
    have hinc_ : IntKind.wrap .i64 ((i_ : Int) + 1) = (((i_ + 1 : Nat)) : Int) := by rw [w64 (by omega) (by omega)]; rfl
    simp only [parrelref26_Play_l1_k _ _ _ (i_ : Int)  (parrelref26_Play_l0 l order  fuel_) (fun state_ _ => parrelref26_Play_l0 l order  fuel_ state_ (((i_ + 1 : Nat)) : Int)) (fun state_ => by first | rfl | rw [hinc_])]
    try rw [hinc_]
    first | rfl | (unfold parrelref26_Play_b0; simp only [hinc_]; done) | (unfold parrelref26_Play_b0; simp only [hinc_]; rfl)
  · intro fuel_ s_
    show parrelref26_Play_l0 l order  (fuel_ + 1) s_ (((order).length : Nat) : Int) = _
    rw [parrelref26_Play_l0, if_neg (by rw [decide_eq_true_eq]; omega)]
    rfl

theorem parrellaw26_HistSound_l1_k (l : List (T_parrelref26_Tx)) (t30 : Int) (y5 : (List (T_hist_Tx))) (y7 : (List (Int)) × (Int))  (k k' : (Int) → Option ((Bool))) (h : k (IntKind.wrap .i64 (t30 + 1)) = k' (IntKind.wrap .i64 (t30 + 1))) : ∀ fuel t47, parrellaw26_HistSound_l1 l t30 y5 y7 k fuel t47 = parrellaw26_HistSound_l1 l t30 y5 y7 k' fuel t47 := by
  intro fuel
  induction fuel with
  | zero => intros; rfl
  | succ fuel ih => intros; simp only [parrellaw26_HistSound_l1, ih, h]

def parrellaw26_HistSound_b1 (l : List (T_parrelref26_Tx)) (t30 : Int) (y7 : (List (Int)) × (Int)) (k0 : (Unit) → Option ((Bool))) (t47 : Nat) (s_ : Unit) (k_ : (Unit) → Option ((Bool))) : Option ((Bool)) :=
  if 0 ≤ (y7.1.getD t30.toNat default) ∧ (y7.1.getD t30.toNat default) < (((l).length : Nat) : Int) then
  if (((l.getD ((y7.1.getD t30.toNat default)).toNat default).f_End != 0) : Bool) then
    if 0 ≤ ((y7.1.take t30.toNat).getD t47 default) ∧ ((y7.1.take t30.toNat).getD t47 default) < (((l).length : Nat) : Int) then
    if ((decide ((l.getD ((y7.1.getD t30.toNat default)).toNat default).f_End < (l.getD (((y7.1.take t30.toNat).getD t47 default)).toNat default).f_Begin)) : Bool) then
      some false
    else
      k_ ()
    else none
  else
    k_ ()
  else none

def parrellaw26_HistSound_e1  (k0 : (Unit) → Option ((Bool))) (s_ : Unit) : Option ((Bool)) :=
  k0 ()

theorem parrellaw26_HistSound_w1 (l : List (T_parrelref26_Tx)) (t30 : Int) (y5 : (List (T_hist_Tx))) (y7 : (List (Int)) × (Int)) (k0 : (Int) → Option ((Bool)))  (hN : ((y7.1.take t30.toNat)).length < 9223372036854775807) :
    parrellaw26_HistSound_l1 l t30 y5 y7 k0 big 0 = walkN (parrellaw26_HistSound_b1 l t30 y7 (fun s_ => k0 (IntKind.wrap .i64 (t30 + 1)))) (parrellaw26_HistSound_e1  (fun s_ => k0 (IntKind.wrap .i64 (t30 + 1)))) ((y7.1.take t30.toNat)).length 0 () := by
  refine loopN ((y7.1.take t30.toNat)).length (fun fuel_ t_ s_ => parrellaw26_HistSound_l1 l t30 y5 y7 k0 fuel_ t_) (parrellaw26_HistSound_b1 l t30 y7 (fun s_ => k0 (IntKind.wrap .i64 (t30 + 1)))) (parrellaw26_HistSound_e1  (fun s_ => k0 (IntKind.wrap .i64 (t30 + 1)))) (by first | exact hN | (have := hN; simp only [List.length_nil] at this ⊢; omega)) ?_ ?_ ()
  · intro fuel_ i_ s_ hi_
    have hg_ : 0 ≤ (i_ : Int) ∧ (i_ : Int) < ((((y7.1.take t30.toNat)).length : Nat) : Int) := by omega
    show parrellaw26_HistSound_l1 l t30 y5 y7 k0 (fuel_ + 1) (i_ : Int) = _
    rw [parrellaw26_HistSound_l1, if_pos (decide_eq_true (by omega))]
    repeat rw [if_pos hg_]
    have hinc_ : IntKind.wrap .i64 ((i_ : Int) + 1) = (((i_ + 1 : Nat)) : Int) := by rw [w64 (by omega) (by omega)]; rfl
    try rw [hinc_]
    first | rfl | (unfold parrellaw26_HistSound_b1; simp only [hinc_]; done) | (unfold parrellaw26_HistSound_b1; simp only [hinc_]; rfl)
  · intro fuel_ s_
    show parrellaw26_HistSound_l1 l t30 y5 y7 k0 (fuel_ + 1) ((((y7.1.take t30.toNat)).length : Nat) : Int) = _
    rw [parrellaw26_HistSound_l1, if_neg (by rw [decide_eq_true_eq]; omega)]
    rfl

def parrellaw26_HistSound_b0 (l : List (T_parrelref26_Tx)) (y5 : (List (T_hist_Tx))) (y7 : (List (Int)) × (Int))  (t30 : Nat) (s_ : Unit) (k_ : (Unit) → Option ((Bool))) : Option ((Bool)) :=
  if ((decide ((y7.1.getD t30 default) < 0)) : Bool) then
    some false
  else
    if ((decide (((l).length : Int) ≤ (y7.1.getD t30 default))) : Bool) then
      some false
    else
      if 0 ≤ (0 : Int) ∧ 0 ≤ (t30 : Int) ∧ (t30 : Int) ≤ (((y7.1).length : Nat) : Int) then
      parrellaw26_HistSound_l1 l (t30 : Int) y5 y7 (fun _ => k_ ()) big 0
      else none

def parrellaw26_HistSound_e0 (l : List (T_parrelref26_Tx)) (y5 : (List (T_hist_Tx))) (y7 : (List (Int)) × (Int))  (s_ : Unit) : Option ((Bool)) :=
  if ((((y7.1).length : Int) == ((l).length : Int)) : Bool) then
    (hist_Play y5 y7.1).bind fun yL0_4 =>
    if (yL0_4 : Bool) then
      (hist_Circle y5).bind fun yL0_7 =>
      if ((((yL0_7).length : Int) == 0) : Bool) then
        (parrellaw26_alive).bind fun yL0_10 =>
        some yL0_10
      else
        some false
    else
      some false
  else
    some false

theorem parrellaw26_HistSound_w0 (l : List (T_parrelref26_Tx)) (y5 : (List (T_hist_Tx))) (y7 : (List (Int)) × (Int))   (hN : (y7.1).length < 9223372036854775807) :
    parrellaw26_HistSound_l0 l y5 y7  big 0 = walkN (parrellaw26_HistSound_b0 l y5 y7 ) (parrellaw26_HistSound_e0 l y5 y7 ) (y7.1).length 0 () := by
  refine loopN (y7.1).length (fun fuel_ t_ s_ => parrellaw26_HistSound_l0 l y5 y7  fuel_ t_) (parrellaw26_HistSound_b0 l y5 y7 ) (parrellaw26_HistSound_e0 l y5 y7 ) (by first | exact hN | (have := hN; simp only [List.length_nil] at this ⊢; omega)) ?_ ?_ ()
  · intro fuel_ i_ s_ hi_
    have hg_ : 0 ≤ (i_ : Int) ∧ (i_ : Int) < (((y7.1).length : Nat) : Int) := by omega
    show parrellaw26_HistSound_l0 l y5 y7  (fuel_ + 1) (i_ : Int) = _
    rw [parrellaw26_HistSound_l0, if_pos (decide_eq_true (by omega))]
    repeat rw [if_pos hg_]
    have hinc_ : IntKind.wrap .i64 ((i_ : Int) + 1) = (((i_ + 1 : Nat)) : Int) := by rw [w64 (by omega) (by omega)]; rfl
    simp only [parrellaw26_HistSound_l1_k _ (i_ : Int) _ _  (parrellaw26_HistSound_l0 l y5 y7  fuel_) (fun _ => parrellaw26_HistSound_l0 l y5 y7  fuel_ (((i_ + 1 : Nat)) : Int)) (by first | rfl | rw [hinc_])]
    try rw [hinc_]
    first | rfl | (unfold parrellaw26_HistSound_b0; simp only [hinc_]; done) | (unfold parrellaw26_HistSound_b0; simp only [hinc_]; rfl)
  · intro fuel_ s_
    show parrellaw26_HistSound_l0 l y5 y7  (fuel_ + 1) (((y7.1).length : Nat) : Int) = _
    rw [parrellaw26_HistSound_l0, if_neg (by rw [decide_eq_true_eq]; omega)]
    rfl

theorem parrellaw26_HistCircle_l2_k (l2 : List (T_hist_Tx)) (t111 : Int)  (k k' : (Int) → Option ((Bool))) (h : k (IntKind.wrap .i64 (t111 + 1)) = k' (IntKind.wrap .i64 (t111 + 1))) : ∀ fuel t116 l3, parrellaw26_HistCircle_l2 l2 t111 k fuel t116 l3 = parrellaw26_HistCircle_l2 l2 t111 k' fuel t116 l3 := by
  intro fuel
  induction fuel with
  | zero => intros; rfl
  | succ fuel ih => intros; simp only [parrellaw26_HistCircle_l2, ih, h]

def parrellaw26_HistCircle_b2 (l2 : List (T_hist_Tx)) (t111 : Int) (k1 : (Unit) → Option ((Bool))) (t116 : Nat) (s_ : (List (T_hist_Tx))) (k_ : ((List (T_hist_Tx))) → Option ((Bool))) : Option ((Bool)) :=
  if (((t116 : Int) != t111) : Bool) then
    if ((s_).length + ([(l2.getD t116 default)]).length) * 64 ≤ 140737488351232 then
    k_ (s_ ++ [(l2.getD t116 default)])
    else none
  else
    k_ s_

def parrellaw26_HistCircle_e2  (k1 : (Unit) → Option ((Bool))) (s_ : (List (T_hist_Tx))) : Option ((Bool)) :=
  (hist_Order s_).bind fun yL2_3 =>
  if ((yL2_3.2 == 11) : Bool) then
    some false
  else
    k1 ()

theorem parrellaw26_HistCircle_w2 (l2 : List (T_hist_Tx)) (t111 : Int) (k1 : (Int) → Option ((Bool))) (l3 : List (T_hist_Tx)) (hN : (l2).length < 9223372036854775807) :
    parrellaw26_HistCircle_l2 l2 t111 k1 big 0 l3 = walkN (parrellaw26_HistCircle_b2 l2 t111 (fun s_ => k1 (IntKind.wrap .i64 (t111 + 1)))) (parrellaw26_HistCircle_e2  (fun s_ => k1 (IntKind.wrap .i64 (t111 + 1)))) (l2).length 0 l3 := by
  refine loopN (l2).length (fun fuel_ t_ s_ => parrellaw26_HistCircle_l2 l2 t111 k1 fuel_ t_ s_) (parrellaw26_HistCircle_b2 l2 t111 (fun s_ => k1 (IntKind.wrap .i64 (t111 + 1)))) (parrellaw26_HistCircle_e2  (fun s_ => k1 (IntKind.wrap .i64 (t111 + 1)))) (by first | exact hN | (have := hN; simp only [List.length_nil] at this ⊢; omega)) ?_ ?_ l3
  · intro fuel_ i_ s_ hi_
    have hg_ : 0 ≤ (i_ : Int) ∧ (i_ : Int) < (((l2).length : Nat) : Int) := by omega
    show parrellaw26_HistCircle_l2 l2 t111 k1 (fuel_ + 1) (i_ : Int) s_ = _
    rw [parrellaw26_HistCircle_l2, if_pos (decide_eq_true (by omega))]
    repeat rw [if_pos hg_]
    have hinc_ : IntKind.wrap .i64 ((i_ : Int) + 1) = (((i_ + 1 : Nat)) : Int) := by rw [w64 (by omega) (by omega)]; rfl
    try rw [hinc_]
    first | rfl | (unfold parrellaw26_HistCircle_b2; simp only [hinc_]; done) | (unfold parrellaw26_HistCircle_b2; simp only [hinc_]; rfl)
  · intro fuel_ s_
    show parrellaw26_HistCircle_l2 l2 t111 k1 (fuel_ + 1) (((l2).length : Nat) : Int) s_ = _
    rw [parrellaw26_HistCircle_l2, if_neg (by rw [decide_eq_true_eq]; omega)]
    rfl

def parrellaw26_HistCircle_b1 (l2 : List (T_hist_Tx))  (t111 : Nat) (s_ : Unit) (k_ : (Unit) → Option ((Bool))) : Option ((Bool)) :=
  parrellaw26_HistCircle_l2 l2 (t111 : Int) (fun _ => k_ ()) big 0 ([] : List (T_hist_Tx))

def parrellaw26_HistCircle_e1 (l2 : List (T_hist_Tx))  (s_ : Unit) : Option ((Bool)) :=
  (hist_Order l2).bind fun yL1_3 =>
  if ((yL1_3.2 == 11) : Bool) then
    (parrellaw26_alive).bind fun yL1_6 =>
    some yL1_6
  else
    if ((yL1_3.2 == 6) : Bool) then
      (parrellaw26_alive).bind fun yL1_7 =>
      some yL1_7
    else
      some false

theorem parrellaw26_HistCircle_w1 (l2 : List (T_hist_Tx))   (hN : (l2).length < 9223372036854775807) :
    parrellaw26_HistCircle_l1 l2  big 0 = walkN (parrellaw26_HistCircle_b1 l2 ) (parrellaw26_HistCircle_e1 l2 ) (l2).length 0 () := by
  refine loopN (l2).length (fun fuel_ t_ s_ => parrellaw26_HistCircle_l1 l2  fuel_ t_) (parrellaw26_HistCircle_b1 l2 ) (parrellaw26_HistCircle_e1 l2 ) (by first | exact hN | (have := hN; simp only [List.length_nil] at this ⊢; omega)) ?_ ?_ ()
  · intro fuel_ i_ s_ hi_
    have hg_ : 0 ≤ (i_ : Int) ∧ (i_ : Int) < (((l2).length : Nat) : Int) := by omega
    show parrellaw26_HistCircle_l1 l2  (fuel_ + 1) (i_ : Int) = _
    rw [parrellaw26_HistCircle_l1, if_pos (decide_eq_true (by omega))]
    have hinc_ : IntKind.wrap .i64 ((i_ : Int) + 1) = (((i_ + 1 : Nat)) : Int) := by rw [w64 (by omega) (by omega)]; rfl
    simp only [parrellaw26_HistCircle_l2_k _ (i_ : Int)  (parrellaw26_HistCircle_l1 l2  fuel_) (fun _ => parrellaw26_HistCircle_l1 l2  fuel_ (((i_ + 1 : Nat)) : Int)) (by first | rfl | rw [hinc_])]
    try rw [hinc_]
    first | rfl | (unfold parrellaw26_HistCircle_b1; simp only [hinc_]; done) | (unfold parrellaw26_HistCircle_b1; simp only [hinc_]; rfl)
  · intro fuel_ s_
    show parrellaw26_HistCircle_l1 l2  (fuel_ + 1) (((l2).length : Nat) : Int) = _
    rw [parrellaw26_HistCircle_l1, if_neg (by rw [decide_eq_true_eq]; omega)]
    rfl

def parrellaw26_HistCircle_b0 (l : List (T_parrelref26_Tx)) (y5 : (List (T_hist_Tx))) (y7 : (List (Int)))  (t44 : Nat) (s_ : (List (Int × Bool)) × (List (T_hist_Tx))) (k_ : ((List (Int × Bool)) × (List (T_hist_Tx))) → Option ((Bool))) : Option ((Bool)) :=
  if ((decide ((y7.getD t44 default) < 0)) : Bool) then
    some false
  else
    if ((decide (((l).length : Int) ≤ (y7.getD t44 default))) : Bool) then
      some false
    else
      if (((mget s_.1 (y7.getD t44 default)).getD default) : Bool) then
        some false
      else
        if 0 ≤ (0 : Int) ∧ (0 : Int) < (((y7).length : Nat) : Int) then
        if ((decide ((y7.getD t44 default) < (y7.getD 0 default))) : Bool) then
          some false
        else
          if 0 ≤ (y7.getD t44 default) ∧ (y7.getD t44 default) < (((y5).length : Nat) : Int) then
          if ((s_.2).length + ([(y5.getD ((y7.getD t44 default)).toNat default)]).length) * 64 ≤ 140737488351232 then
          if ((decide (0 < (t44 : Int))) : Bool) then
            if 0 ≤ (t44 : Int) ∧ (t44 : Int) < ((((s_.2 ++ [(y5.getD ((y7.getD t44 default)).toNat default)])).length : Nat) : Int) then
            if ((((s_.2 ++ [(y5.getD ((y7.getD t44 default)).toNat default)]).getD t44 default).f_End != 0) : Bool) then
              if 0 ≤ (IntKind.wrap .i64 ((t44 : Int) - 1)) ∧ (IntKind.wrap .i64 ((t44 : Int) - 1)) < ((((s_.2 ++ [(y5.getD ((y7.getD t44 default)).toNat default)])).length : Nat) : Int) then
              if ((decide (((s_.2 ++ [(y5.getD ((y7.getD t44 default)).toNat default)]).getD t44 default).f_End < ((s_.2 ++ [(y5.getD ((y7.getD t44 default)).toNat default)]).getD ((IntKind.wrap .i64 ((t44 : Int) - 1))).toNat default).f_Begin)) : Bool) then
                if ((decide (2 < ((y7).length : Int))) : Bool) then
                  some false
                else
                  k_ ((mset s_.1 (y7.getD t44 default) true), (s_.2 ++ [(y5.getD ((y7.getD t44 default)).toNat default)]))
              else
                k_ ((mset s_.1 (y7.getD t44 default) true), (s_.2 ++ [(y5.getD ((y7.getD t44 default)).toNat default)]))
              else none
            else
              k_ ((mset s_.1 (y7.getD t44 default) true), (s_.2 ++ [(y5.getD ((y7.getD t44 default)).toNat default)]))
            else none
          else
            k_ ((mset s_.1 (y7.getD t44 default) true), (s_.2 ++ [(y5.getD ((y7.getD t44 default)).toNat default)]))
          else none
          else none
        else none

def parrellaw26_HistCircle_e0 (y7 : (List (Int)))  (s_ : (List (Int × Bool)) × (List (T_hist_Tx))) : Option ((Bool)) :=
  if ((decide (((y7).length : Int) < 2)) : Bool) then
    some false
  else
    parrellaw26_HistCircle_l1 s_.2  big 0

theorem parrellaw26_HistCircle_w0 (l : List (T_parrelref26_Tx)) (y5 : (List (T_hist_Tx))) (y7 : (List (Int)))  (m : List (Int × Bool)) (l2 : List (T_hist_Tx)) (hN : (y7).length < 9223372036854775807) :
    parrellaw26_HistCircle_l0 l y5 y7  big 0 m l2 = walkN (parrellaw26_HistCircle_b0 l y5 y7 ) (parrellaw26_HistCircle_e0 y7 ) (y7).length 0 (m, l2) := by
  refine loopN (y7).length (fun fuel_ t_ s_ => parrellaw26_HistCircle_l0 l y5 y7  fuel_ t_ s_.1 s_.2) (parrellaw26_HistCircle_b0 l y5 y7 ) (parrellaw26_HistCircle_e0 y7 ) (by first | exact hN | (have := hN; simp only [List.length_nil] at this ⊢; omega)) ?_ ?_ (m, l2)
  · intro fuel_ i_ s_ hi_
    have hg_ : 0 ≤ (i_ : Int) ∧ (i_ : Int) < (((y7).length : Nat) : Int) := by omega
    show parrellaw26_HistCircle_l0 l y5 y7  (fuel_ + 1) (i_ : Int) s_.1 s_.2 = _
    rw [parrellaw26_HistCircle_l0, if_pos (decide_eq_true (by omega))]
    repeat rw [if_pos hg_]
    have hinc_ : IntKind.wrap .i64 ((i_ : Int) + 1) = (((i_ + 1 : Nat)) : Int) := by rw [w64 (by omega) (by omega)]; rfl
    try rw [hinc_]
    first | rfl | (unfold parrellaw26_HistCircle_b0; simp only [hinc_]; done) | (unfold parrellaw26_HistCircle_b0; simp only [hinc_]; rfl)
  · intro fuel_ s_
    show parrellaw26_HistCircle_l0 l y5 y7  (fuel_ + 1) (((y7).length : Nat) : Int) s_.1 s_.2 = _
    rw [parrellaw26_HistCircle_l0, if_neg (by rw [decide_eq_true_eq]; omega)]
    rfl

end Go.Proofs.Ytofkaccoofafmaa.Wk
