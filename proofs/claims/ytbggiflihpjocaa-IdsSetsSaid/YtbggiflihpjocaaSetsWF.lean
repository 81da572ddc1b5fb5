/- Printed by tr.py: counting loops as walks over lists and over numbers. -/
import Derived.Test.YtbggiflihpjocaaSetsW
import Derived.Test.YtbggiflihpjocaaCnX
namespace Go.Proofs.Ytbggiflihpjocaa.Wk
open Go Go.Cn
set_option maxRecDepth 100000
set_option maxHeartbeats 4000000
set_option linter.unusedVariables false
set_option linter.unusedSimpArgs false
noncomputable section
def parrelref05_first_b0 (a : List (Int)) (b : List (Int))  (i : Nat) (s_ : Unit) (k_ : (Unit) → Option ((Int))) : Option ((Int)) :=
  if 0 ≤ (i : Int) ∧ (i : Int) < (((b).length : Nat) : Int) then
  if ((decide ((a.getD i default) < (b.getD i default))) : Bool) then
    some (-1)
  else
    if ((decide ((b.getD i default) < (a.getD i default))) : Bool) then
      some 1
    else
      k_ ()
  else none

def parrelref05_first_e0   (s_ : Unit) : Option ((Int)) :=
  some 0

theorem parrelref05_first_w0 (a : List (Int)) (b : List (Int))   (hN : (a).length < 9223372036854775807) :
    parrelref05_first_l0 a b  big 0 = walkN (parrelref05_first_b0 a b ) (parrelref05_first_e0  ) (a).length 0 () := by
  refine loopN (a).length (fun fuel_ t_ s_ => parrelref05_first_l0 a b  fuel_ t_) (parrelref05_first_b0 a b ) (parrelref05_first_e0  ) (by first | exact hN | (have := hN; simp only [List.length_nil] at this ⊢; omega)) ?_ ?_ ()
  · intro fuel_ i_ s_ hi_
    have hg_ : 0 ≤ (i_ : Int) ∧ (i_ : Int) < (((a).length : Nat) : Int) := by omega
    show parrelref05_first_l0 a b  (fuel_ + 1) (i_ : Int) = _
    rw [parrelref05_first_l0, if_pos (decide_eq_true (by omega))]
    repeat rw [if_pos hg_]
    have hinc_ : IntKind.wrap .i64 ((i_ : Int) + 1) = (((i_ + 1 : Nat)) : Int) := by rw [w64 (by omega) (by omega)]; rfl
    try rw [hinc_]
    rfl
  · intro fuel_ s_
    show parrelref05_first_l0 a b  (fuel_ + 1) (((a).length : Nat) : Int) = _
    rw [parrelref05_first_l0, if_neg (by rw [decide_eq_true_eq]; omega)]
    rfl

def parrelref05_Set_place_b0 (s : T_parrelref05_Set) (t : T_api_Tx)  (i : Nat) (s_ : Unit) (k_ : (Unit) → Option ((Int) × (Bool))) : Option ((Int) × (Bool)) :=
  (parrelref05_Txs (s.f_L.getD i default) t).bind fun yL0_4 =>
  if ((decide (yL0_4 < 0)) : Bool) then
    k_ ()
  else
    if ((decide ((i : Int) < ((s.f_L).length : Int))) : Bool) then
      some ((i : Int), (decide ((s.f_L.getD i default) = t)))
    else
      some ((i : Int), false)

def parrelref05_Set_place_e0 (s : T_parrelref05_Set) (t : T_api_Tx)  (s_ : Unit) : Option ((Int) × (Bool)) :=
  if ((decide ((((s.f_L).length : Nat) : Int) < ((s.f_L).length : Int))) : Bool) then
    if 0 ≤ (((s.f_L).length : Nat) : Int) ∧ (((s.f_L).length : Nat) : Int) < (((s.f_L).length : Nat) : Int) then
    some ((((s.f_L).length : Nat) : Int), (decide ((s.f_L.getD (((s.f_L).length : Nat) : Int).toNat default) = t)))
    else none
  else
    some ((((s.f_L).length : Nat) : Int), false)

theorem parrelref05_Set_place_w0 (s : T_parrelref05_Set) (t : T_api_Tx)   (hN : (s.f_L).length < 9223372036854775807) :
    parrelref05_Set_place_l0 s t  big 0 = walkN (parrelref05_Set_place_b0 s t ) (parrelref05_Set_place_e0 s t ) (s.f_L).length 0 () := by
  refine loopN (s.f_L).length (fun fuel_ t_ s_ => parrelref05_Set_place_l0 s t  fuel_ t_) (parrelref05_Set_place_b0 s t ) (parrelref05_Set_place_e0 s t ) (by first | exact hN | (have := hN; simp only [List.length_nil] at this ⊢; omega)) ?_ ?_ ()
  · intro fuel_ i_ s_ hi_
    have hg_ : 0 ≤ (i_ : Int) ∧ (i_ : Int) < (((s.f_L).length : Nat) : Int) := by omega
    show parrelref05_Set_place_l0 s t  (fuel_ + 1) (i_ : Int) = _
    rw [parrelref05_Set_place_l0, if_pos (decide_eq_true (by omega))]
    repeat rw [if_pos hg_]
    have hinc_ : IntKind.wrap .i64 ((i_ : Int) + 1) = (((i_ + 1 : Nat)) : Int) := by rw [w64 (by omega) (by omega)]; rfl
    try rw [hinc_]
    rfl
  · intro fuel_ s_
    show parrelref05_Set_place_l0 s t  (fuel_ + 1) (((s.f_L).length : Nat) : Int) = _
    rw [parrelref05_Set_place_l0, if_neg (by rw [decide_eq_true_eq]; omega)]
    rfl

def cmp_Or_int_b0   (a_ : Int) (s_ : Unit) (k_ : (Unit) → Option ((Int))) : Option ((Int)) :=
  if ((a_ != 0) : Bool) then
    some a_
  else
    k_ ()

def cmp_Or_int_e0   (s_ : Unit) : Option ((Int)) :=
  some 0

theorem cmp_Or_int_w0 (vals : List (Int))   (hN : (vals).length < 9223372036854775807) :
    cmp_Or_int_l0 vals  big 0 = walkL (cmp_Or_int_b0  ) (cmp_Or_int_e0  ) vals () := by
  refine loopL vals (fun fuel_ t_ s_ => cmp_Or_int_l0 vals  fuel_ t_) (cmp_Or_int_b0  ) (cmp_Or_int_e0  ) (by first | exact hN | (have := hN; simp only [List.length_nil] at this ⊢; omega)) ?_ ?_ ()
  · intro fuel_ i_ s_ hi_
    have hg_ : 0 ≤ (i_ : Int) ∧ (i_ : Int) < (((vals).length : Nat) : Int) := by omega
    show cmp_Or_int_l0 vals  (fuel_ + 1) (i_ : Int) = _
    rw [cmp_Or_int_l0, if_pos (decide_eq_true (by omega))]
    repeat rw [if_pos hg_]
    have hinc_ : IntKind.wrap .i64 ((i_ : Int) + 1) = (((i_ + 1 : Nat)) : Int) := by rw [w64 (by omega) (by omega)]; rfl
    try rw [hinc_]
    rfl
  · intro fuel_ s_
    show cmp_Or_int_l0 vals  (fuel_ + 1) (((vals).length : Nat) : Int) = _
    rw [cmp_Or_int_l0, if_neg (by rw [decide_eq_true_eq]; omega)]
    rfl

def parrelref05_Same_b0 (a : List (T_api_Tx)) (b : List (T_api_Tx))  (i : Nat) (s_ : Unit) (k_ : (Unit) → Option ((Bool))) : Option ((Bool)) :=
  if 0 ≤ (i : Int) ∧ (i : Int) < (((b).length : Nat) : Int) then
  if ((!decide ((a.getD i default) = (b.getD i default))) : Bool) then
    some false
  else
    k_ ()
  else none

def parrelref05_Same_e0   (s_ : Unit) : Option ((Bool)) :=
  some true

theorem parrelref05_Same_w0 (a : List (T_api_Tx)) (b : List (T_api_Tx))   (hN : (a).length < 9223372036854775807) :
    parrelref05_Same_l0 a b  big 0 = walkN (parrelref05_Same_b0 a b ) (parrelref05_Same_e0  ) (a).length 0 () := by
  refine loopN (a).length (fun fuel_ t_ s_ => parrelref05_Same_l0 a b  fuel_ t_) (parrelref05_Same_b0 a b ) (parrelref05_Same_e0  ) (by first | exact hN | (have := hN; simp only [List.length_nil] at this ⊢; omega)) ?_ ?_ ()
  · intro fuel_ i_ s_ hi_
    have hg_ : 0 ≤ (i_ : Int) ∧ (i_ : Int) < (((a).length : Nat) : Int) := by omega
    show parrelref05_Same_l0 a b  (fuel_ + 1) (i_ : Int) = _
    rw [parrelref05_Same_l0, if_pos (decide_eq_true (by omega))]
    repeat rw [if_pos hg_]
    have hinc_ : IntKind.wrap .i64 ((i_ : Int) + 1) = (((i_ + 1 : Nat)) : Int) := by rw [w64 (by omega) (by omega)]; rfl
    try rw [hinc_]
    rfl
  · intro fuel_ s_
    show parrelref05_Same_l0 a b  (fuel_ + 1) (((a).length : Nat) : Int) = _
    rw [parrelref05_Same_l0, if_neg (by rw [decide_eq_true_eq]; omega)]
    rfl

def parrellaw05_IdsSets_b0   (a_ : T_parrellaw05_Act) (s_ : (List (T_api_Tx)) × (List (T_api_Tx × Bool))) (k_ : ((List (T_api_Tx)) × (List (T_api_Tx × Bool))) → Option ((Bool))) : Option ((Bool)) :=
  if (((Int.tmod a_.f_Kind 3) == 0) : Bool) then
    (ids_Set_Add s_.2 a_.f_Tx).bind fun yL0_5 =>
    (parrelref05_Set_Add (T_parrelref05_Set.mk s_.1) a_.f_Tx).bind fun yL0_7 =>
    if ((!(yL0_5.1 == yL0_7.1)) : Bool) then
      some false
    else
      (ids_Set_List yL0_5.2).bind fun yL0_10 =>
      (parrelref05_Same yL0_10 yL0_7.2).bind fun yL0_12 =>
      if ((!yL0_12) : Bool) then
        some false
      else
        k_ (yL0_7.2, yL0_5.2)
  else
    if (((Int.tmod a_.f_Kind 3) == 1) : Bool) then
      (ids_Set_Drop s_.2 a_.f_Tx).bind fun yL0_6 =>
      (parrelref05_Set_Drop (T_parrelref05_Set.mk s_.1) a_.f_Tx).bind fun yL0_8 =>
      if ((!(yL0_6.1 == yL0_8.1)) : Bool) then
        some false
      else
        (ids_Set_List yL0_6.2).bind fun yL0_11 =>
        (parrelref05_Same yL0_11 yL0_8.2).bind fun yL0_13 =>
        if ((!yL0_13) : Bool) then
          some false
        else
          k_ (yL0_8.2, yL0_6.2)
    else
      (ids_Set_Has s_.2 a_.f_Tx).bind fun yL0_6 =>
      (parrelref05_Set_Has (T_parrelref05_Set.mk s_.1) a_.f_Tx).bind fun yL0_8 =>
      if ((!(yL0_6 == yL0_8)) : Bool) then
        some false
      else
        (ids_Set_List s_.2).bind fun yL0_11 =>
        (parrelref05_Same yL0_11 (T_parrelref05_Set.mk s_.1).f_L).bind fun yL0_13 =>
        if ((!yL0_13) : Bool) then
          some false
        else
          k_ ((T_parrelref05_Set.mk s_.1).f_L, s_.2)

def parrellaw05_IdsSets_e0   (s_ : (List (T_api_Tx)) × (List (T_api_Tx × Bool))) : Option ((Bool)) :=
  (ids_Set_Add_2 (T_api_Tx.mk 0 1 1)).bind fun yL0_3 =>
  (ids_Set_Has_2 (T_api_Tx.mk 0 0 0)).bind fun yL0_5 =>
  (ids_Set_Drop_2 (T_api_Tx.mk 0 0 0)).bind fun yL0_7 =>
  (ids_Set_List_2).bind fun yL0_9 =>
  if ((((yL0_9).length : Int) != 0) : Bool) then
    some false
  else
    (ids_Set_Add_3 (T_api_Tx.mk 0 1 1)).bind fun yL0_12 =>
    (ids_Set_Has_3 (T_api_Tx.mk 0 0 0)).bind fun yL0_14 =>
    (ids_Set_Drop_3 (T_api_Tx.mk 0 0 0)).bind fun yL0_16 =>
    (ids_Set_List_3).bind fun yL0_18 =>
    if ((((yL0_18).length : Int) != 0) : Bool) then
      some false
    else
      some true

theorem parrellaw05_IdsSets_w0 (script : List (T_parrellaw05_Act))  (L : List (T_api_Tx)) (m : List (T_api_Tx × Bool)) (hN : ((script.take ((if 200 < ((script).length : Int) then 200 else ((script).length : Int))).toNat)).length < 9223372036854775807) :
    parrellaw05_IdsSets_l0 script  big 0 L m = walkL (parrellaw05_IdsSets_b0  ) (parrellaw05_IdsSets_e0  ) (script.take ((if 200 < ((script).length : Int) then 200 else ((script).length : Int))).toNat) (L, m) := by
  refine loopL (script.take ((if 200 < ((script).length : Int) then 200 else ((script).length : Int))).toNat) (fun fuel_ t_ s_ => parrellaw05_IdsSets_l0 script  fuel_ t_ s_.1 s_.2) (parrellaw05_IdsSets_b0  ) (parrellaw05_IdsSets_e0  ) (by first | exact hN | (have := hN; simp only [List.length_nil] at this ⊢; omega)) ?_ ?_ (L, m)
  · intro fuel_ i_ s_ hi_
    have hg_ : 0 ≤ (i_ : Int) ∧ (i_ : Int) < ((((script.take ((if 200 < ((script).length : Int) then 200 else ((script).length : Int))).toNat)).length : Nat) : Int) := by omega
    show parrellaw05_IdsSets_l0 script  (fuel_ + 1) (i_ : Int) s_.1 s_.2 = _
    rw [parrellaw05_IdsSets_l0, if_pos (decide_eq_true (by omega))]
    repeat rw [if_pos hg_]
    have hinc_ : IntKind.wrap .i64 ((i_ : Int) + 1) = (((i_ + 1 : Nat)) : Int) := by rw [w64 (by omega) (by omega)]; rfl
    try rw [hinc_]
    rfl
  · intro fuel_ s_
    show parrellaw05_IdsSets_l0 script  (fuel_ + 1) ((((script.take ((if 200 < ((script).length : Int) then 200 else ((script).length : Int))).toNat)).length : Nat) : Int) s_.1 s_.2 = _
    rw [parrellaw05_IdsSets_l0, if_neg (by rw [decide_eq_true_eq]; omega)]
    rfl

end
end Go.Proofs.Ytbggiflihpjocaa.Wk
