/- Printed by tr.py: Go functions as Lean functions, with the proofs that they walk so. -/
import Derived.Test.YtdchgoaokceomaaGreatDoorTexWb
namespace Go.Proofs.YtdchgoaokceomaaGreatDoor.Wk
open Go Go.Cn Go.RowKit
set_option maxRecDepth 100000
set_option maxHeartbeats 4000000
set_option linter.unusedVariables false
set_option linter.unusedSimpArgs false
noncomputable section
/-- parrel/parrelref27.tx -/
def r27_tx_v (r : (TX)) : LV := v_TX r
def r27_tx (s : List UInt8) : Option ((TX)) :=
 (r27_split s 46).bind fun y2 =>
 (r27_at y2 0).bind fun y4 =>
 (r27_value y4).bind fun y6 =>
 (r27_at y2 1).bind fun y8 =>
 (r27_value y8).bind fun y10 =>
 (r27_at y2 2).bind fun y12 =>
 (r27_value y12).bind fun y14 =>
 some (TX.mk (IntKind.wrap .u8 y6) (IntKind.wrap .u32 y10) (IntKind.wrap .u32 y14))
theorem r27_tx_ok (s : List UInt8) (r : (TX)) (h : r27_tx s = some r) : ∀ σ, Inj 0 σ → FnTri Tryz.prog 74 (renL σ [.str s]) (preOf σ 0 []) ((r27_tx_v r).ren σ) (upOf σ []) := by
 refine fo_ Tryz.func74 trivial trivial ?_
 intro w0 W μ0 hμ
 unfold r27_tx at h
 obtain ⟨y2, e1, h⟩ := bind_some h
 obtain ⟨y4, e3, h⟩ := bind_some h
 obtain ⟨y6, e5, h⟩ := bind_some h
 obtain ⟨y8, e7, h⟩ := bind_some h
 obtain ⟨y10, e9, h⟩ := bind_some h
 obtain ⟨y12, e11, h⟩ := bind_some h
 obtain ⟨y14, e13, h⟩ := bind_some h
 obtain rfl := si_ h
 exact rr_ [] 18 [.reg [], .reg [(1, hC (r27_split_v y2))], .reg [(1, hC (r27_at_v y4)), (2, hC (r27_value_v y6)), (5, hC (r27_at_v y8)), (6, hC (r27_value_v y10)), (9, hC (r27_at_v y12)), (10, hC (r27_value_v y14))]]
  (a_ (a_ (r1_ tr) (a_ (r1_ (c_ (r27_split_tri s 46 y2 e1) (r1_ tr))) (a_ (r1_ (c_ (r27_at_tri y2 0 y4 e3) (c_ (r27_value_tri y4 y6 e5) (r2_ (c_ (r27_at_tri y2 1 y8 e7) (c_ (r27_value_tri y8 y10 e9) (r2_ (c_ (r27_at_tri y2 2 y12 e11) (c_ (r27_value_tri y12 y14 e13) (r1_ (a_ (a_ (Eq.refl true) tr) (a_ (a_ (a_ (Eq.refl 3) (a_ (le_ 3 3 rfl) (Eq.refl 0))) tr) tr)))))))))))) tr))) (a_ (a_ tr (le_ 3 3 rfl)) tr))
theorem r27_tx_tri (s : List UInt8) (r : (TX)) (h : r27_tx s = some r) : FnTri Tryz.prog 74 [.str s] [] (r27_tx_v r) [] := FnTri.none (r27_tx_ok s r h) rfl rfl
/-- parrel/parrelref27.call -/
def r27_call_v (r : (T_r27_Call)) : LV := v_T_r27_Call r
def r27_call_T1000010 (c : T_r27_Call)  : List LV := .any :: .any :: (.ptr 0 0 0) :: (.ptr 1 0 0) :: n_ 48 []
def r27_call_H1000010 (c : T_r27_Call)  : Heap := [some (.var [Z1_, Z4_, Z1_, Z1_, Z4_, Z4_, Z1_, Z1_, Z1_, Z1_, Z1_, Z1_, Z1_, Z1_, .str [], Z1_, Z1_, .nilsl]), some (.var (c_T_r27_Call c))]
def r27_call_T1001010 (c : T_r27_Call)  : List LV := .any :: .any :: (.ptr 0 0 0) :: (.ptr 1 0 0) :: n_ 48 []
def r27_call_H1001010 (c : T_r27_Call)  : Heap := [some (.var [Z1_, Z4_, Z1_, Z1_, Z4_, Z4_, Z1_, Z1_, Z1_, Z1_, Z1_, Z1_, Z1_, Z1_, .str [], Z1_, Z1_, .nilsl]), some (.var (c_T_r27_Call (T_r27_Call.mk c.f_Client c.f_Seq c.f_Kind c.f_Tx c.f_Key [] c.f_R c.f_W c.f_Votes)))]
def r27_call_T1000005 (c : T_r27_Call)  : List LV := .any :: (.ptr 0 0 0) :: (.ptr 1 0 0) :: (.ptr 2 0 0) :: n_ 48 []
def r27_call_H1000005 (c : T_r27_Call)  : Heap := [some (.var (c_T_r27_Call c)), some (.var [Z1_, Z4_, Z1_, Z1_, Z4_, Z4_, Z1_, Z1_, Z1_, Z1_, Z1_, Z1_, Z1_, Z1_, .str [], Z1_, Z1_, .nilsl]), some (.var [.int .u8 c.f_Client, .int .u32 c.f_Seq, .int .u8 c.f_Kind, .int .u8 c.f_Tx.f_Node, .int .u32 c.f_Tx.f_Boot, .int .u32 c.f_Tx.f_Num, Z1_, Z1_, Z1_, Z1_, Z1_, Z1_, Z1_, Z1_, .str [], Z1_, Z1_, .nilsl])]
def r27_call_T1002010 (c : T_r27_Call)  : List LV := .any :: .any :: (.ptr 0 0 0) :: (.ptr 1 0 0) :: n_ 48 []
def r27_call_H1002010 (c : T_r27_Call)  : Heap := [some (.var [Z1_, Z4_, Z1_, Z1_, Z4_, Z4_, Z1_, Z1_, Z1_, Z1_, Z1_, Z1_, Z1_, Z1_, .str [], Z1_, Z1_, .nilsl]), some (.var (c_T_r27_Call (T_r27_Call.mk c.f_Client c.f_Seq c.f_Kind c.f_Tx (A8.mk 0 0 0 0 0 0 0 0) c.f_Value c.f_R c.f_W c.f_Votes)))]
def r27_call_T1000006 (c : T_r27_Call)  : List LV := .any :: (.ptr 0 0 0) :: (.ptr 1 0 0) :: (.ptr 2 0 0) :: n_ 48 []
def r27_call_H1000006 (c : T_r27_Call)  : Heap := [some (.var (c_T_r27_Call c)), some (.var [Z1_, Z4_, Z1_, Z1_, Z4_, Z4_, Z1_, Z1_, Z1_, Z1_, Z1_, Z1_, Z1_, Z1_, .str [], Z1_, Z1_, .nilsl]), some (.var [.int .u8 c.f_Client, .int .u32 c.f_Seq, .int .u8 c.f_Kind, .int .u8 c.f_Tx.f_Node, .int .u32 c.f_Tx.f_Boot, .int .u32 c.f_Tx.f_Num, Z1_, Z1_, Z1_, Z1_, Z1_, Z1_, Z1_, Z1_, .str [], Z1_, Z1_, .nilsl])]
def r27_call_T1003010 (c : T_r27_Call)  : List LV := .any :: .any :: (.ptr 0 0 0) :: (.ptr 1 0 0) :: n_ 48 []
def r27_call_H1003010 (c : T_r27_Call)  : Heap := [some (.var [Z1_, Z4_, Z1_, Z1_, Z4_, Z4_, Z1_, Z1_, Z1_, Z1_, Z1_, Z1_, Z1_, Z1_, .str [], Z1_, Z1_, .nilsl]), some (.var (c_T_r27_Call (T_r27_Call.mk c.f_Client c.f_Seq c.f_Kind (TX.mk 0 0 0) c.f_Key c.f_Value c.f_R c.f_W c.f_Votes)))]
def r27_call_T1001006 (c : T_r27_Call)  : List LV := .any :: (.ptr 0 0 0) :: (.ptr 1 0 0) :: (.ptr 2 0 0) :: n_ 48 []
def r27_call_H1001006 (c : T_r27_Call)  : Heap := [some (.var (c_T_r27_Call c)), some (.var [Z1_, Z4_, Z1_, Z1_, Z4_, Z4_, Z1_, Z1_, Z1_, Z1_, Z1_, Z1_, Z1_, Z1_, .str [], Z1_, Z1_, .nilsl]), some (.var [.int .u8 c.f_Client, .int .u32 c.f_Seq, .int .u8 c.f_Kind, Z1_, Z4_, Z4_, .int .u8 c.f_Key.a0, .int .u8 c.f_Key.a1, .int .u8 c.f_Key.a2, .int .u8 c.f_Key.a3, .int .u8 c.f_Key.a4, .int .u8 c.f_Key.a5, .int .u8 c.f_Key.a6, .int .u8 c.f_Key.a7, .str [], Z1_, Z1_, .nilsl])]
def r27_call_T1000007 (c : T_r27_Call)  : List LV := .any :: (.ptr 0 0 0) :: (.ptr 1 0 0) :: (.ptr 2 0 0) :: n_ 48 []
def r27_call_H1000007 (c : T_r27_Call)  : Heap := [some (.var (c_T_r27_Call c)), some (.var [Z1_, Z4_, Z1_, Z1_, Z4_, Z4_, Z1_, Z1_, Z1_, Z1_, Z1_, Z1_, Z1_, Z1_, .str [], Z1_, Z1_, .nilsl]), some (.var [.int .u8 c.f_Client, .int .u32 c.f_Seq, .int .u8 c.f_Kind, Z1_, Z4_, Z4_, Z1_, Z1_, Z1_, Z1_, Z1_, Z1_, Z1_, Z1_, .str [], Z1_, Z1_, .nilsl])]
def r27_call_T1000008 (c : T_r27_Call)  : List LV := .any :: (.ptr 0 0 0) :: (.ptr 1 0 0) :: (.ptr 2 0 0) :: n_ 48 []
def r27_call_H1000008 (c : T_r27_Call)  : Heap := [some (.var (c_T_r27_Call c)), some (.var [Z1_, Z4_, Z1_, Z1_, Z4_, Z4_, Z1_, Z1_, Z1_, Z1_, Z1_, Z1_, Z1_, Z1_, .str [], Z1_, Z1_, .nilsl]), some (.var [.int .u8 c.f_Client, .int .u32 c.f_Seq, .int .u8 c.f_Kind, Z1_, Z4_, Z4_, Z1_, Z1_, Z1_, Z1_, Z1_, Z1_, Z1_, Z1_, .str [], Z1_, Z1_, .nilsl])]
def r27_call_c10 (c : T_r27_Call)   : Option ((T_r27_Call)) :=
 some c
def r27_call_c1010 (c : T_r27_Call)   : Option ((T_r27_Call)) :=
 some (T_r27_Call.mk c.f_Client c.f_Seq c.f_Kind c.f_Tx c.f_Key [] c.f_R c.f_W c.f_Votes)
def r27_call_c5 (c : T_r27_Call)   : Option ((T_r27_Call)) :=
 if ((c.f_Kind == 3) : Bool) then
  if ((c.f_Kind == 6) : Bool) then
   r27_call_c10 c  
  else
   some (T_r27_Call.mk c.f_Client c.f_Seq c.f_Kind c.f_Tx c.f_Key c.f_Value 0 0 ([] : List (Int)))
 else
  if ((c.f_Kind == 6) : Bool) then
   r27_call_c1010 c  
  else
   some (T_r27_Call.mk c.f_Client c.f_Seq c.f_Kind c.f_Tx c.f_Key [] 0 0 ([] : List (Int)))
def r27_call_c2010 (c : T_r27_Call)   : Option ((T_r27_Call)) :=
 some (T_r27_Call.mk c.f_Client c.f_Seq c.f_Kind c.f_Tx (A8.mk 0 0 0 0 0 0 0 0) c.f_Value c.f_R c.f_W c.f_Votes)
def r27_call_c6 (c : T_r27_Call)   : Option ((T_r27_Call)) :=
 if ((c.f_Kind == 3) : Bool) then
  if ((c.f_Kind == 6) : Bool) then
   r27_call_c2010 c  
  else
   some (T_r27_Call.mk c.f_Client c.f_Seq c.f_Kind c.f_Tx (A8.mk 0 0 0 0 0 0 0 0) c.f_Value 0 0 ([] : List (Int)))
 else
  if ((c.f_Kind == 6) : Bool) then
   some (T_r27_Call.mk c.f_Client c.f_Seq c.f_Kind c.f_Tx (A8.mk 0 0 0 0 0 0 0 0) [] c.f_R c.f_W c.f_Votes)
  else
   some (T_r27_Call.mk c.f_Client c.f_Seq c.f_Kind c.f_Tx (A8.mk 0 0 0 0 0 0 0 0) [] 0 0 ([] : List (Int)))
def r27_call_c3010 (c : T_r27_Call)   : Option ((T_r27_Call)) :=
 some (T_r27_Call.mk c.f_Client c.f_Seq c.f_Kind (TX.mk 0 0 0) c.f_Key c.f_Value c.f_R c.f_W c.f_Votes)
def r27_call_c1006 (c : T_r27_Call)   : Option ((T_r27_Call)) :=
 if ((c.f_Kind == 3) : Bool) then
  if ((c.f_Kind == 6) : Bool) then
   r27_call_c3010 c  
  else
   some (T_r27_Call.mk c.f_Client c.f_Seq c.f_Kind (TX.mk 0 0 0) c.f_Key c.f_Value 0 0 ([] : List (Int)))
 else
  if ((c.f_Kind == 6) : Bool) then
   some (T_r27_Call.mk c.f_Client c.f_Seq c.f_Kind (TX.mk 0 0 0) c.f_Key [] c.f_R c.f_W c.f_Votes)
  else
   some (T_r27_Call.mk c.f_Client c.f_Seq c.f_Kind (TX.mk 0 0 0) c.f_Key [] 0 0 ([] : List (Int)))
def r27_call_c7 (c : T_r27_Call)   : Option ((T_r27_Call)) :=
 if ((c.f_Kind == 6) : Bool) then
  some (T_r27_Call.mk c.f_Client c.f_Seq c.f_Kind (TX.mk 0 0 0) (A8.mk 0 0 0 0 0 0 0 0) c.f_Value c.f_R c.f_W c.f_Votes)
 else
  some (T_r27_Call.mk c.f_Client c.f_Seq c.f_Kind (TX.mk 0 0 0) (A8.mk 0 0 0 0 0 0 0 0) c.f_Value 0 0 ([] : List (Int)))
def r27_call_c8 (c : T_r27_Call)   : Option ((T_r27_Call)) :=
 if ((c.f_Kind == 6) : Bool) then
  some (T_r27_Call.mk c.f_Client c.f_Seq c.f_Kind (TX.mk 0 0 0) (A8.mk 0 0 0 0 0 0 0 0) [] c.f_R c.f_W c.f_Votes)
 else
  some (T_r27_Call.mk c.f_Client c.f_Seq c.f_Kind (TX.mk 0 0 0) (A8.mk 0 0 0 0 0 0 0 0) [] 0 0 ([] : List (Int)))
def r27_call (c : T_r27_Call) : Option ((T_r27_Call)) :=
 if ((decide (1 < c.f_Kind)) : Bool) then
  if ((c.f_Kind == 2) : Bool) then
   r27_call_c5 c  
  else
   if ((c.f_Kind == 3) : Bool) then
    r27_call_c5 c  
   else
    if ((c.f_Kind == 6) : Bool) then
     r27_call_c5 c  
    else
     r27_call_c6 c  
 else
  if ((c.f_Kind == 2) : Bool) then
   r27_call_c1006 c  
  else
   if ((c.f_Kind == 3) : Bool) then
    r27_call_c1006 c  
   else
    if ((c.f_Kind == 6) : Bool) then
     r27_call_c1006 c  
    else
     if ((c.f_Kind == 3) : Bool) then
      r27_call_c7 c  
     else
      r27_call_c8 c  
theorem r27_call_c10_ok {w0 : World} {W : Nat → Prop} {μ0 : Emb} (hμ : ∀ c p, μ0 c = some p → c < 0) (c : T_r27_Call)   (r : (T_r27_Call)) (h : r27_call_c10 c   = some r) : kont Tryz.prog w0 W μ0 (FnPost Tryz.prog Tryz.f75 0 0 (r27_call_v r) []) (kAtR (bodyOf Tryz.f75) 10) none (r27_call_T1000010 c ) (r27_call_H1000010 c ) := by
 unfold r27_call_c10 at h
 obtain rfl := si_ h
 exact rr_ [] 11 [.reg []]
  (a_ (a_ (m_ 18 18 rfl (a_ (a_ (a_ (Eq.refl 18) (a_ (le_ 18 18 rfl) (Eq.refl 0))) tr) tr)) tr) (a_ (a_ tr (le_ 18 18 rfl)) tr))
theorem r27_call_c1010_ok {w0 : World} {W : Nat → Prop} {μ0 : Emb} (hμ : ∀ c p, μ0 c = some p → c < 0) (c : T_r27_Call)   (r : (T_r27_Call)) (h : r27_call_c1010 c   = some r) : kont Tryz.prog w0 W μ0 (FnPost Tryz.prog Tryz.f75 0 0 (r27_call_v r) []) (kAtR (bodyOf Tryz.f75) 10) none (r27_call_T1001010 c ) (r27_call_H1001010 c ) := by
 unfold r27_call_c1010 at h
 obtain rfl := si_ h
 exact rr_ [] 11 [.reg []]
  (a_ (a_ (m_ 18 18 rfl (a_ (a_ (a_ (Eq.refl 18) (a_ (le_ 18 18 rfl) (Eq.refl 0))) tr) tr)) tr) (a_ (a_ tr (le_ 18 18 rfl)) tr))
theorem r27_call_c5_ok {w0 : World} {W : Nat → Prop} {μ0 : Emb} (hμ : ∀ c p, μ0 c = some p → c < 0) (c : T_r27_Call)   (r : (T_r27_Call)) (h : r27_call_c5 c   = some r) : kont Tryz.prog w0 W μ0 (FnPost Tryz.prog Tryz.f75 0 0 (r27_call_v r) []) (kAtR (bodyOf Tryz.f75) 5) none (r27_call_T1000005 c ) (r27_call_H1000005 c ) := by
 unfold r27_call_c5 at h
 rcases itb_some h with ⟨C1, h⟩ | ⟨C1, h⟩
 ·rcases itb_some h with ⟨C2, h⟩ | ⟨C2, h⟩
  ·exact rt_ hμ [1, 2] 26 [.reg [], .reg [(2, hT)], .reg [], .reg [(2, hT)], .reg []]
    (a_ (r1_ (m_ 14 18 rfl (r1_ (a_ (a_ (a_ (Eq.refl 8) (a_ (le_ 14 18 rfl) (Eq.refl 0))) tr) tr)))) (a_ (r1_ (l_ 2 18 rfl (f_ C1 tr))) (a_ (r1_ (l_ 14 18 rfl (r1_ (a_ (a_ (a_ (Eq.refl 1) (a_ (le_ 15 18 rfl) (Eq.refl 0))) tr) tr)))) (a_ (r1_ (l_ 2 18 rfl (f_ C2 tr))) (a_ (r1_ (l_ 15 18 rfl (r1_ (l_ 16 18 rfl (r1_ (l_ 17 18 rfl (r1_ (a_ (a_ (a_ (Eq.refl 1) (a_ (le_ 16 18 rfl) (Eq.refl 0))) tr) (r1_ (a_ (a_ (a_ (Eq.refl 1) (a_ (le_ 17 18 rfl) (Eq.refl 0))) tr) (r1_ (a_ (a_ (a_ (Eq.refl 1) (a_ (le_ 18 18 rfl) (Eq.refl 0))) tr) tr)))))))))))) tr))))) (r27_call_c10_ok hμ c   r h) ⟨rfl, rfl, trivial⟩
  ·obtain rfl := si_ h
   exact rr_ [] 28 [.reg [], .reg [(2, hT)], .reg [], .reg [(2, hF)], .reg [], .wk [] [(1, .var (c_T_r27_Call (T_r27_Call.mk c.f_Client c.f_Seq c.f_Kind c.f_Tx c.f_Key c.f_Value 0 0 ([] : List (Int)))))]]
    (a_ (a_ (r1_ (m_ 14 18 rfl (r1_ (a_ (a_ (a_ (Eq.refl 8) (a_ (le_ 14 18 rfl) (Eq.refl 0))) tr) tr)))) (a_ (r1_ (l_ 2 18 rfl (f_ C1 tr))) (a_ (r1_ (l_ 14 18 rfl (r1_ (a_ (a_ (a_ (Eq.refl 1) (a_ (le_ 15 18 rfl) (Eq.refl 0))) tr) tr)))) (a_ (r1_ (l_ 2 18 rfl (f_ C2 tr))) (a_ (m_ 18 18 rfl (a_ (a_ (a_ (Eq.refl 18) (a_ (le_ 18 18 rfl) (Eq.refl 0))) tr) tr)) (a_ (a_ tr (a_ (LO.Sub.var (lel_set [.int .u8 c.f_Client, .int .u32 c.f_Seq, .int .u8 c.f_Kind, .int .u8 c.f_Tx.f_Node, .int .u32 c.f_Tx.f_Boot, .int .u32 c.f_Tx.f_Num, .int .u8 c.f_Key.a0, .int .u8 c.f_Key.a1, .int .u8 c.f_Key.a2, .int .u8 c.f_Key.a3, .int .u8 c.f_Key.a4, .int .u8 c.f_Key.a5, .int .u8 c.f_Key.a6, .int .u8 c.f_Key.a7, .str c.f_Value, Z1_, Z1_, .nilsl] 17 .nilsl zn_ rfl (le_nil_ds 1 (rowF (cInt .u8) default [])))) tr)) tr)))))) (a_ (a_ tr (le_ 18 18 rfl)) tr))
 ·rcases itb_some h with ⟨C2, h⟩ | ⟨C2, h⟩
  ·exact rt_ hμ [1, 2] 25 [.reg [], .reg [(2, hF)], .reg [(2, hT)], .reg []]
    (a_ (r1_ (m_ 14 18 rfl (r1_ (a_ (a_ (a_ (Eq.refl 8) (a_ (le_ 14 18 rfl) (Eq.refl 0))) tr) tr)))) (a_ (r1_ (l_ 2 18 rfl (f_ C1 tr))) (a_ (r1_ (l_ 2 18 rfl (f_ C2 tr))) (a_ (r1_ (l_ 15 18 rfl (r1_ (l_ 16 18 rfl (r1_ (l_ 17 18 rfl (r1_ (a_ (a_ (a_ (Eq.refl 1) (a_ (le_ 16 18 rfl) (Eq.refl 0))) tr) (r1_ (a_ (a_ (a_ (Eq.refl 1) (a_ (le_ 17 18 rfl) (Eq.refl 0))) tr) (r1_ (a_ (a_ (a_ (Eq.refl 1) (a_ (le_ 18 18 rfl) (Eq.refl 0))) tr) tr)))))))))))) tr)))) (r27_call_c1010_ok hμ c   r h) ⟨rfl, rfl, trivial⟩
  ·obtain rfl := si_ h
   exact rr_ [] 27 [.reg [], .reg [(2, hF)], .reg [(2, hF)], .reg [], .wk [] [(1, .var (c_T_r27_Call (T_r27_Call.mk c.f_Client c.f_Seq c.f_Kind c.f_Tx c.f_Key [] 0 0 ([] : List (Int)))))]]
    (a_ (a_ (r1_ (m_ 14 18 rfl (r1_ (a_ (a_ (a_ (Eq.refl 8) (a_ (le_ 14 18 rfl) (Eq.refl 0))) tr) tr)))) (a_ (r1_ (l_ 2 18 rfl (f_ C1 tr))) (a_ (r1_ (l_ 2 18 rfl (f_ C2 tr))) (a_ (m_ 18 18 rfl (a_ (a_ (a_ (Eq.refl 18) (a_ (le_ 18 18 rfl) (Eq.refl 0))) tr) tr)) (a_ (a_ tr (a_ (LO.Sub.var (lel_set [.int .u8 c.f_Client, .int .u32 c.f_Seq, .int .u8 c.f_Kind, .int .u8 c.f_Tx.f_Node, .int .u32 c.f_Tx.f_Boot, .int .u32 c.f_Tx.f_Num, .int .u8 c.f_Key.a0, .int .u8 c.f_Key.a1, .int .u8 c.f_Key.a2, .int .u8 c.f_Key.a3, .int .u8 c.f_Key.a4, .int .u8 c.f_Key.a5, .int .u8 c.f_Key.a6, .int .u8 c.f_Key.a7, .str [], Z1_, Z1_, .nilsl] 17 .nilsl zn_ rfl (le_nil_ds 1 (rowF (cInt .u8) default [])))) tr)) tr))))) (a_ (a_ tr (le_ 18 18 rfl)) tr))
theorem r27_call_c2010_ok {w0 : World} {W : Nat → Prop} {μ0 : Emb} (hμ : ∀ c p, μ0 c = some p → c < 0) (c : T_r27_Call)   (r : (T_r27_Call)) (h : r27_call_c2010 c   = some r) : kont Tryz.prog w0 W μ0 (FnPost Tryz.prog Tryz.f75 0 0 (r27_call_v r) []) (kAtR (bodyOf Tryz.f75) 10) none (r27_call_T1002010 c ) (r27_call_H1002010 c ) := by
 unfold r27_call_c2010 at h
 obtain rfl := si_ h
 exact rr_ [] 11 [.reg []]
  (a_ (a_ (m_ 18 18 rfl (a_ (a_ (a_ (Eq.refl 18) (a_ (le_ 18 18 rfl) (Eq.refl 0))) tr) tr)) tr) (a_ (a_ tr (le_ 18 18 rfl)) tr))
theorem r27_call_c6_ok {w0 : World} {W : Nat → Prop} {μ0 : Emb} (hμ : ∀ c p, μ0 c = some p → c < 0) (c : T_r27_Call)   (r : (T_r27_Call)) (h : r27_call_c6 c   = some r) : kont Tryz.prog w0 W μ0 (FnPost Tryz.prog Tryz.f75 0 0 (r27_call_v r) []) (kAtR (bodyOf Tryz.f75) 6) none (r27_call_T1000006 c ) (r27_call_H1000006 c ) := by
 unfold r27_call_c6 at h
 rcases itb_some h with ⟨C1, h⟩ | ⟨C1, h⟩
 ·rcases itb_some h with ⟨C2, h⟩ | ⟨C2, h⟩
  ·exact rt_ hμ [1, 2] 22 [.reg [(2, hT)], .reg [], .reg [(2, hT)], .reg []]
    (a_ (r1_ (l_ 2 18 rfl (f_ C1 tr))) (a_ (r1_ (l_ 14 18 rfl (r1_ (a_ (a_ (a_ (Eq.refl 1) (a_ (le_ 15 18 rfl) (Eq.refl 0))) tr) tr)))) (a_ (r1_ (l_ 2 18 rfl (f_ C2 tr))) (a_ (r1_ (l_ 15 18 rfl (r1_ (l_ 16 18 rfl (r1_ (l_ 17 18 rfl (r1_ (a_ (a_ (a_ (Eq.refl 1) (a_ (le_ 16 18 rfl) (Eq.refl 0))) tr) (r1_ (a_ (a_ (a_ (Eq.refl 1) (a_ (le_ 17 18 rfl) (Eq.refl 0))) tr) (r1_ (a_ (a_ (a_ (Eq.refl 1) (a_ (le_ 18 18 rfl) (Eq.refl 0))) tr) tr)))))))))))) tr)))) (r27_call_c2010_ok hμ c   r h) ⟨rfl, rfl, trivial⟩
  ·obtain rfl := si_ h
   exact rr_ [] 24 [.reg [(2, hT)], .reg [], .reg [(2, hF)], .reg [], .wk [] [(1, .var (c_T_r27_Call (T_r27_Call.mk c.f_Client c.f_Seq c.f_Kind c.f_Tx (A8.mk 0 0 0 0 0 0 0 0) c.f_Value 0 0 ([] : List (Int)))))]]
    (a_ (a_ (r1_ (l_ 2 18 rfl (f_ C1 tr))) (a_ (r1_ (l_ 14 18 rfl (r1_ (a_ (a_ (a_ (Eq.refl 1) (a_ (le_ 15 18 rfl) (Eq.refl 0))) tr) tr)))) (a_ (r1_ (l_ 2 18 rfl (f_ C2 tr))) (a_ (m_ 18 18 rfl (a_ (a_ (a_ (Eq.refl 18) (a_ (le_ 18 18 rfl) (Eq.refl 0))) tr) tr)) (a_ (a_ tr (a_ (LO.Sub.var (lel_set [.int .u8 c.f_Client, .int .u32 c.f_Seq, .int .u8 c.f_Kind, .int .u8 c.f_Tx.f_Node, .int .u32 c.f_Tx.f_Boot, .int .u32 c.f_Tx.f_Num, Z1_, Z1_, Z1_, Z1_, Z1_, Z1_, Z1_, Z1_, .str c.f_Value, Z1_, Z1_, .nilsl] 17 .nilsl zn_ rfl (le_nil_ds 1 (rowF (cInt .u8) default [])))) tr)) tr))))) (a_ (a_ tr (le_ 18 18 rfl)) tr))
 ·rcases itb_some h with ⟨C2, h⟩ | ⟨C2, h⟩
  ·obtain rfl := si_ h
   exact rr_ [] 23 [.reg [(2, hF)], .reg [(2, hT)], .reg [], .reg []]
    (a_ (a_ (r1_ (l_ 2 18 rfl (f_ C1 tr))) (a_ (r1_ (l_ 2 18 rfl (f_ C2 tr))) (a_ (r1_ (l_ 15 18 rfl (r1_ (l_ 16 18 rfl (r1_ (l_ 17 18 rfl (r1_ (a_ (a_ (a_ (Eq.refl 1) (a_ (le_ 16 18 rfl) (Eq.refl 0))) tr) (r1_ (a_ (a_ (a_ (Eq.refl 1) (a_ (le_ 17 18 rfl) (Eq.refl 0))) tr) (r1_ (a_ (a_ (a_ (Eq.refl 1) (a_ (le_ 18 18 rfl) (Eq.refl 0))) tr) tr)))))))))))) (a_ (m_ 18 18 rfl (a_ (a_ (a_ (Eq.refl 18) (a_ (le_ 18 18 rfl) (Eq.refl 0))) tr) tr)) tr)))) (a_ (a_ tr (le_ 18 18 rfl)) tr))
  ·obtain rfl := si_ h
   exact rr_ [] 23 [.reg [(2, hF)], .reg [(2, hF)], .reg [], .wk [] [(1, .var (c_T_r27_Call (T_r27_Call.mk c.f_Client c.f_Seq c.f_Kind c.f_Tx (A8.mk 0 0 0 0 0 0 0 0) [] 0 0 ([] : List (Int)))))]]
    (a_ (a_ (r1_ (l_ 2 18 rfl (f_ C1 tr))) (a_ (r1_ (l_ 2 18 rfl (f_ C2 tr))) (a_ (m_ 18 18 rfl (a_ (a_ (a_ (Eq.refl 18) (a_ (le_ 18 18 rfl) (Eq.refl 0))) tr) tr)) (a_ (a_ tr (a_ (LO.Sub.var (lel_set [.int .u8 c.f_Client, .int .u32 c.f_Seq, .int .u8 c.f_Kind, .int .u8 c.f_Tx.f_Node, .int .u32 c.f_Tx.f_Boot, .int .u32 c.f_Tx.f_Num, Z1_, Z1_, Z1_, Z1_, Z1_, Z1_, Z1_, Z1_, .str [], Z1_, Z1_, .nilsl] 17 .nilsl zn_ rfl (le_nil_ds 1 (rowF (cInt .u8) default [])))) tr)) tr)))) (a_ (a_ tr (le_ 18 18 rfl)) tr))
theorem r27_call_c3010_ok {w0 : World} {W : Nat → Prop} {μ0 : Emb} (hμ : ∀ c p, μ0 c = some p → c < 0) (c : T_r27_Call)   (r : (T_r27_Call)) (h : r27_call_c3010 c   = some r) : kont Tryz.prog w0 W μ0 (FnPost Tryz.prog Tryz.f75 0 0 (r27_call_v r) []) (kAtR (bodyOf Tryz.f75) 10) none (r27_call_T1003010 c ) (r27_call_H1003010 c ) := by
 unfold r27_call_c3010 at h
 obtain rfl := si_ h
 exact rr_ [] 11 [.reg []]
  (a_ (a_ (m_ 18 18 rfl (a_ (a_ (a_ (Eq.refl 18) (a_ (le_ 18 18 rfl) (Eq.refl 0))) tr) tr)) tr) (a_ (a_ tr (le_ 18 18 rfl)) tr))
theorem r27_call_c1006_ok {w0 : World} {W : Nat → Prop} {μ0 : Emb} (hμ : ∀ c p, μ0 c = some p → c < 0) (c : T_r27_Call)   (r : (T_r27_Call)) (h : r27_call_c1006 c   = some r) : kont Tryz.prog w0 W μ0 (FnPost Tryz.prog Tryz.f75 0 0 (r27_call_v r) []) (kAtR (bodyOf Tryz.f75) 6) none (r27_call_T1001006 c ) (r27_call_H1001006 c ) := by
 unfold r27_call_c1006 at h
 rcases itb_some h with ⟨C1, h⟩ | ⟨C1, h⟩
 ·rcases itb_some h with ⟨C2, h⟩ | ⟨C2, h⟩
  ·exact rt_ hμ [1, 2] 22 [.reg [(2, hT)], .reg [], .reg [(2, hT)], .reg []]
    (a_ (r1_ (l_ 2 18 rfl (f_ C1 tr))) (a_ (r1_ (l_ 14 18 rfl (r1_ (a_ (a_ (a_ (Eq.refl 1) (a_ (le_ 15 18 rfl) (Eq.refl 0))) tr) tr)))) (a_ (r1_ (l_ 2 18 rfl (f_ C2 tr))) (a_ (r1_ (l_ 15 18 rfl (r1_ (l_ 16 18 rfl (r1_ (l_ 17 18 rfl (r1_ (a_ (a_ (a_ (Eq.refl 1) (a_ (le_ 16 18 rfl) (Eq.refl 0))) tr) (r1_ (a_ (a_ (a_ (Eq.refl 1) (a_ (le_ 17 18 rfl) (Eq.refl 0))) tr) (r1_ (a_ (a_ (a_ (Eq.refl 1) (a_ (le_ 18 18 rfl) (Eq.refl 0))) tr) tr)))))))))))) tr)))) (r27_call_c3010_ok hμ c   r h) ⟨rfl, rfl, trivial⟩
  ·obtain rfl := si_ h
   exact rr_ [] 24 [.reg [(2, hT)], .reg [], .reg [(2, hF)], .reg [], .wk [] [(1, .var (c_T_r27_Call (T_r27_Call.mk c.f_Client c.f_Seq c.f_Kind (TX.mk 0 0 0) c.f_Key c.f_Value 0 0 ([] : List (Int)))))]]
    (a_ (a_ (r1_ (l_ 2 18 rfl (f_ C1 tr))) (a_ (r1_ (l_ 14 18 rfl (r1_ (a_ (a_ (a_ (Eq.refl 1) (a_ (le_ 15 18 rfl) (Eq.refl 0))) tr) tr)))) (a_ (r1_ (l_ 2 18 rfl (f_ C2 tr))) (a_ (m_ 18 18 rfl (a_ (a_ (a_ (Eq.refl 18) (a_ (le_ 18 18 rfl) (Eq.refl 0))) tr) tr)) (a_ (a_ tr (a_ (LO.Sub.var (lel_set [.int .u8 c.f_Client, .int .u32 c.f_Seq, .int .u8 c.f_Kind, Z1_, Z4_, Z4_, .int .u8 c.f_Key.a0, .int .u8 c.f_Key.a1, .int .u8 c.f_Key.a2, .int .u8 c.f_Key.a3, .int .u8 c.f_Key.a4, .int .u8 c.f_Key.a5, .int .u8 c.f_Key.a6, .int .u8 c.f_Key.a7, .str c.f_Value, Z1_, Z1_, .nilsl] 17 .nilsl zn_ rfl (le_nil_ds 1 (rowF (cInt .u8) default [])))) tr)) tr))))) (a_ (a_ tr (le_ 18 18 rfl)) tr))
 ·rcases itb_some h with ⟨C2, h⟩ | ⟨C2, h⟩
  ·obtain rfl := si_ h
   exact rr_ [] 23 [.reg [(2, hF)], .reg [(2, hT)], .reg [], .reg []]
    (a_ (a_ (r1_ (l_ 2 18 rfl (f_ C1 tr))) (a_ (r1_ (l_ 2 18 rfl (f_ C2 tr))) (a_ (r1_ (l_ 15 18 rfl (r1_ (l_ 16 18 rfl (r1_ (l_ 17 18 rfl (r1_ (a_ (a_ (a_ (Eq.refl 1) (a_ (le_ 16 18 rfl) (Eq.refl 0))) tr) (r1_ (a_ (a_ (a_ (Eq.refl 1) (a_ (le_ 17 18 rfl) (Eq.refl 0))) tr) (r1_ (a_ (a_ (a_ (Eq.refl 1) (a_ (le_ 18 18 rfl) (Eq.refl 0))) tr) tr)))))))))))) (a_ (m_ 18 18 rfl (a_ (a_ (a_ (Eq.refl 18) (a_ (le_ 18 18 rfl) (Eq.refl 0))) tr) tr)) tr)))) (a_ (a_ tr (le_ 18 18 rfl)) tr))
  ·obtain rfl := si_ h
   exact rr_ [] 23 [.reg [(2, hF)], .reg [(2, hF)], .reg [], .wk [] [(1, .var (c_T_r27_Call (T_r27_Call.mk c.f_Client c.f_Seq c.f_Kind (TX.mk 0 0 0) c.f_Key [] 0 0 ([] : List (Int)))))]]
    (a_ (a_ (r1_ (l_ 2 18 rfl (f_ C1 tr))) (a_ (r1_ (l_ 2 18 rfl (f_ C2 tr))) (a_ (m_ 18 18 rfl (a_ (a_ (a_ (Eq.refl 18) (a_ (le_ 18 18 rfl) (Eq.refl 0))) tr) tr)) (a_ (a_ tr (a_ (LO.Sub.var (lel_set [.int .u8 c.f_Client, .int .u32 c.f_Seq, .int .u8 c.f_Kind, Z1_, Z4_, Z4_, .int .u8 c.f_Key.a0, .int .u8 c.f_Key.a1, .int .u8 c.f_Key.a2, .int .u8 c.f_Key.a3, .int .u8 c.f_Key.a4, .int .u8 c.f_Key.a5, .int .u8 c.f_Key.a6, .int .u8 c.f_Key.a7, .str [], Z1_, Z1_, .nilsl] 17 .nilsl zn_ rfl (le_nil_ds 1 (rowF (cInt .u8) default [])))) tr)) tr)))) (a_ (a_ tr (le_ 18 18 rfl)) tr))
theorem r27_call_c7_ok {w0 : World} {W : Nat → Prop} {μ0 : Emb} (hμ : ∀ c p, μ0 c = some p → c < 0) (c : T_r27_Call)   (r : (T_r27_Call)) (h : r27_call_c7 c   = some r) : kont Tryz.prog w0 W μ0 (FnPost Tryz.prog Tryz.f75 0 0 (r27_call_v r) []) (kAtR (bodyOf Tryz.f75) 7) none (r27_call_T1000007 c ) (r27_call_H1000007 c ) := by
 unfold r27_call_c7 at h
 rcases itb_some h with ⟨C1, h⟩ | ⟨C1, h⟩
 ·obtain rfl := si_ h
  exact rr_ [] 21 [.reg [], .reg [(2, hT)], .reg [], .reg []]
   (a_ (a_ (r1_ (l_ 14 18 rfl (r1_ (a_ (a_ (a_ (Eq.refl 1) (a_ (le_ 15 18 rfl) (Eq.refl 0))) tr) tr)))) (a_ (r1_ (l_ 2 18 rfl (f_ C1 tr))) (a_ (r1_ (l_ 15 18 rfl (r1_ (l_ 16 18 rfl (r1_ (l_ 17 18 rfl (r1_ (a_ (a_ (a_ (Eq.refl 1) (a_ (le_ 16 18 rfl) (Eq.refl 0))) tr) (r1_ (a_ (a_ (a_ (Eq.refl 1) (a_ (le_ 17 18 rfl) (Eq.refl 0))) tr) (r1_ (a_ (a_ (a_ (Eq.refl 1) (a_ (le_ 18 18 rfl) (Eq.refl 0))) tr) tr)))))))))))) (a_ (m_ 18 18 rfl (a_ (a_ (a_ (Eq.refl 18) (a_ (le_ 18 18 rfl) (Eq.refl 0))) tr) tr)) tr)))) (a_ (a_ tr (le_ 18 18 rfl)) tr))
 ·obtain rfl := si_ h
  exact rr_ [] 21 [.reg [], .reg [(2, hF)], .reg [], .wk [] [(1, .var (c_T_r27_Call (T_r27_Call.mk c.f_Client c.f_Seq c.f_Kind (TX.mk 0 0 0) (A8.mk 0 0 0 0 0 0 0 0) c.f_Value 0 0 ([] : List (Int)))))]]
   (a_ (a_ (r1_ (l_ 14 18 rfl (r1_ (a_ (a_ (a_ (Eq.refl 1) (a_ (le_ 15 18 rfl) (Eq.refl 0))) tr) tr)))) (a_ (r1_ (l_ 2 18 rfl (f_ C1 tr))) (a_ (m_ 18 18 rfl (a_ (a_ (a_ (Eq.refl 18) (a_ (le_ 18 18 rfl) (Eq.refl 0))) tr) tr)) (a_ (a_ tr (a_ (LO.Sub.var (lel_set [.int .u8 c.f_Client, .int .u32 c.f_Seq, .int .u8 c.f_Kind, Z1_, Z4_, Z4_, Z1_, Z1_, Z1_, Z1_, Z1_, Z1_, Z1_, Z1_, .str c.f_Value, Z1_, Z1_, .nilsl] 17 .nilsl zn_ rfl (le_nil_ds 1 (rowF (cInt .u8) default [])))) tr)) tr)))) (a_ (a_ tr (le_ 18 18 rfl)) tr))
theorem r27_call_c8_ok {w0 : World} {W : Nat → Prop} {μ0 : Emb} (hμ : ∀ c p, μ0 c = some p → c < 0) (c : T_r27_Call)   (r : (T_r27_Call)) (h : r27_call_c8 c   = some r) : kont Tryz.prog w0 W μ0 (FnPost Tryz.prog Tryz.f75 0 0 (r27_call_v r) []) (kAtR (bodyOf Tryz.f75) 8) none (r27_call_T1000008 c ) (r27_call_H1000008 c ) := by
 unfold r27_call_c8 at h
 rcases itb_some h with ⟨C1, h⟩ | ⟨C1, h⟩
 ·obtain rfl := si_ h
  exact rr_ [] 17 [.reg [(2, hT)], .reg [], .reg []]
   (a_ (a_ (r1_ (l_ 2 18 rfl (f_ C1 tr))) (a_ (r1_ (l_ 15 18 rfl (r1_ (l_ 16 18 rfl (r1_ (l_ 17 18 rfl (r1_ (a_ (a_ (a_ (Eq.refl 1) (a_ (le_ 16 18 rfl) (Eq.refl 0))) tr) (r1_ (a_ (a_ (a_ (Eq.refl 1) (a_ (le_ 17 18 rfl) (Eq.refl 0))) tr) (r1_ (a_ (a_ (a_ (Eq.refl 1) (a_ (le_ 18 18 rfl) (Eq.refl 0))) tr) tr)))))))))))) (a_ (m_ 18 18 rfl (a_ (a_ (a_ (Eq.refl 18) (a_ (le_ 18 18 rfl) (Eq.refl 0))) tr) tr)) tr))) (a_ (a_ tr (le_ 18 18 rfl)) tr))
 ·obtain rfl := si_ h
  exact rr_ [] 17 [.reg [(2, hF)], .reg [], .wk [] [(1, .var (c_T_r27_Call (T_r27_Call.mk c.f_Client c.f_Seq c.f_Kind (TX.mk 0 0 0) (A8.mk 0 0 0 0 0 0 0 0) [] 0 0 ([] : List (Int)))))]]
   (a_ (a_ (r1_ (l_ 2 18 rfl (f_ C1 tr))) (a_ (m_ 18 18 rfl (a_ (a_ (a_ (Eq.refl 18) (a_ (le_ 18 18 rfl) (Eq.refl 0))) tr) tr)) (a_ (a_ tr (a_ (LO.Sub.var (lel_set [.int .u8 c.f_Client, .int .u32 c.f_Seq, .int .u8 c.f_Kind, Z1_, Z4_, Z4_, Z1_, Z1_, Z1_, Z1_, Z1_, Z1_, Z1_, Z1_, .str [], Z1_, Z1_, .nilsl] 17 .nilsl zn_ rfl (le_nil_ds 1 (rowF (cInt .u8) default [])))) tr)) tr))) (a_ (a_ tr (le_ 18 18 rfl)) tr))
theorem r27_call_ok (c : T_r27_Call) (r : (T_r27_Call)) (h : r27_call c = some r) : ∀ σ, Inj 0 σ → FnTri Tryz.prog 75 (renL σ [v_T_r27_Call c]) (preOf σ 0 []) ((r27_call_v r).ren σ) (upOf σ []) := by
 refine fo_ Tryz.func75 trivial trivial ?_
 intro w0 W μ0 hμ
 unfold r27_call at h
 rcases itb_some h with ⟨c1, h⟩ | ⟨c1, h⟩
 ·rcases itb_some h with ⟨c2, h⟩ | ⟨c2, h⟩
  ·exact rt_ hμ [0, 1, 2] 27 [.reg [], .reg [], .reg [(2, hT)], .reg [], .reg [(3, hT)]]
    (a_ (r2_ tr) (a_ (r1_ (l_ 0 18 rfl (r1_ (l_ 1 18 rfl (r1_ (l_ 2 18 rfl (a_ (a_ (Eq.refl true) tr) (r1_ (a_ (a_ (a_ (Eq.refl 18) (a_ (le_ 18 18 rfl) (Eq.refl 0))) tr) tr))))))))) (a_ (r1_ (l_ 2 18 rfl (f_ c1 tr))) (a_ (r1_ (m_ 6 18 rfl (r1_ (a_ (a_ (a_ (Eq.refl 3) (a_ (le_ 6 18 rfl) (Eq.refl 0))) tr) tr)))) (a_ (r1_ (l_ 2 18 rfl (r1_ (f_ c2 (a_ tr (t2_ (r2_ (a_ tr (t2_ (r1_ tr)))))))))) tr))))) (r27_call_c5_ok hμ c   r h) ⟨rfl, rfl, rfl, trivial⟩
  ·rcases itb_some h with ⟨c3, h⟩ | ⟨c3, h⟩
   ·exact rt_ hμ [0, 1, 2] 27 [.reg [], .reg [], .reg [(2, hT)], .reg [], .reg [(3, hF), (8, hT)]]
     (a_ (r2_ tr) (a_ (r1_ (l_ 0 18 rfl (r1_ (l_ 1 18 rfl (r1_ (l_ 2 18 rfl (a_ (a_ (Eq.refl true) tr) (r1_ (a_ (a_ (a_ (Eq.refl 18) (a_ (le_ 18 18 rfl) (Eq.refl 0))) tr) tr))))))))) (a_ (r1_ (l_ 2 18 rfl (f_ c1 tr))) (a_ (r1_ (m_ 6 18 rfl (r1_ (a_ (a_ (a_ (Eq.refl 3) (a_ (le_ 6 18 rfl) (Eq.refl 0))) tr) tr)))) (a_ (r1_ (l_ 2 18 rfl (r1_ (f_ c2 (r1_ (l_ 2 18 rfl (r2_ (f_ c3 (a_ tr (t2_ (r1_ tr))))))))))) tr))))) (r27_call_c5_ok hμ c   r h) ⟨rfl, rfl, rfl, trivial⟩
   ·rcases itb_some h with ⟨c4, h⟩ | ⟨c4, h⟩
    ·exact rt_ hμ [0, 1, 2] 27 [.reg [], .reg [], .reg [(2, hT)], .reg [], .reg [(3, hF), (8, hF), (12, hT)]]
      (a_ (r2_ tr) (a_ (r1_ (l_ 0 18 rfl (r1_ (l_ 1 18 rfl (r1_ (l_ 2 18 rfl (a_ (a_ (Eq.refl true) tr) (r1_ (a_ (a_ (a_ (Eq.refl 18) (a_ (le_ 18 18 rfl) (Eq.refl 0))) tr) tr))))))))) (a_ (r1_ (l_ 2 18 rfl (f_ c1 tr))) (a_ (r1_ (m_ 6 18 rfl (r1_ (a_ (a_ (a_ (Eq.refl 3) (a_ (le_ 6 18 rfl) (Eq.refl 0))) tr) tr)))) (a_ (r1_ (l_ 2 18 rfl (r1_ (f_ c2 (r1_ (l_ 2 18 rfl (r2_ (f_ c3 (r1_ (l_ 2 18 rfl (r1_ (f_ c4 tr)))))))))))) tr))))) (r27_call_c5_ok hμ c   r h) ⟨rfl, rfl, rfl, trivial⟩
    ·exact rt_ hμ [0, 1, 2] 30 [.reg [], .reg [], .reg [(2, hT)], .reg [], .reg [(3, hF), (8, hF), (12, hF)]]
      (a_ (r2_ tr) (a_ (r1_ (l_ 0 18 rfl (r1_ (l_ 1 18 rfl (r1_ (l_ 2 18 rfl (a_ (a_ (Eq.refl true) tr) (r1_ (a_ (a_ (a_ (Eq.refl 18) (a_ (le_ 18 18 rfl) (Eq.refl 0))) tr) tr))))))))) (a_ (r1_ (l_ 2 18 rfl (f_ c1 tr))) (a_ (r1_ (m_ 6 18 rfl (r1_ (a_ (a_ (a_ (Eq.refl 3) (a_ (le_ 6 18 rfl) (Eq.refl 0))) tr) tr)))) (a_ (r1_ (l_ 2 18 rfl (r1_ (f_ c2 (r1_ (l_ 2 18 rfl (r2_ (f_ c3 (r1_ (l_ 2 18 rfl (r1_ (f_ c4 tr)))))))))))) tr))))) (r27_call_c6_ok hμ c   r h) ⟨rfl, rfl, rfl, trivial⟩
 ·rcases itb_some h with ⟨c2, h⟩ | ⟨c2, h⟩
  ·exact rt_ hμ [0, 1, 2] 30 [.reg [], .reg [], .reg [(2, hF)], .reg [(3, hT)], .reg []]
    (a_ (r2_ tr) (a_ (r1_ (l_ 0 18 rfl (r1_ (l_ 1 18 rfl (r1_ (l_ 2 18 rfl (a_ (a_ (Eq.refl true) tr) (r1_ (a_ (a_ (a_ (Eq.refl 18) (a_ (le_ 18 18 rfl) (Eq.refl 0))) tr) tr))))))))) (a_ (r1_ (l_ 2 18 rfl (f_ c1 tr))) (a_ (r1_ (l_ 2 18 rfl (r1_ (f_ c2 (a_ tr (t2_ (r2_ (a_ tr (t2_ (r1_ tr)))))))))) (a_ (r1_ (m_ 14 18 rfl (r1_ (a_ (a_ (a_ (Eq.refl 8) (a_ (le_ 14 18 rfl) (Eq.refl 0))) tr) tr)))) tr))))) (r27_call_c1006_ok hμ c   r h) ⟨rfl, rfl, rfl, trivial⟩
  ·rcases itb_some h with ⟨c3, h⟩ | ⟨c3, h⟩
   ·exact rt_ hμ [0, 1, 2] 30 [.reg [], .reg [], .reg [(2, hF)], .reg [(3, hF), (8, hT)], .reg []]
     (a_ (r2_ tr) (a_ (r1_ (l_ 0 18 rfl (r1_ (l_ 1 18 rfl (r1_ (l_ 2 18 rfl (a_ (a_ (Eq.refl true) tr) (r1_ (a_ (a_ (a_ (Eq.refl 18) (a_ (le_ 18 18 rfl) (Eq.refl 0))) tr) tr))))))))) (a_ (r1_ (l_ 2 18 rfl (f_ c1 tr))) (a_ (r1_ (l_ 2 18 rfl (r1_ (f_ c2 (r1_ (l_ 2 18 rfl (r2_ (f_ c3 (a_ tr (t2_ (r1_ tr))))))))))) (a_ (r1_ (m_ 14 18 rfl (r1_ (a_ (a_ (a_ (Eq.refl 8) (a_ (le_ 14 18 rfl) (Eq.refl 0))) tr) tr)))) tr))))) (r27_call_c1006_ok hμ c   r h) ⟨rfl, rfl, rfl, trivial⟩
   ·rcases itb_some h with ⟨c4, h⟩ | ⟨c4, h⟩
    ·exact rt_ hμ [0, 1, 2] 30 [.reg [], .reg [], .reg [(2, hF)], .reg [(3, hF), (8, hF), (12, hT)], .reg []]
      (a_ (r2_ tr) (a_ (r1_ (l_ 0 18 rfl (r1_ (l_ 1 18 rfl (r1_ (l_ 2 18 rfl (a_ (a_ (Eq.refl true) tr) (r1_ (a_ (a_ (a_ (Eq.refl 18) (a_ (le_ 18 18 rfl) (Eq.refl 0))) tr) tr))))))))) (a_ (r1_ (l_ 2 18 rfl (f_ c1 tr))) (a_ (r1_ (l_ 2 18 rfl (r1_ (f_ c2 (r1_ (l_ 2 18 rfl (r2_ (f_ c3 (r1_ (l_ 2 18 rfl (r1_ (f_ c4 tr)))))))))))) (a_ (r1_ (m_ 14 18 rfl (r1_ (a_ (a_ (a_ (Eq.refl 8) (a_ (le_ 14 18 rfl) (Eq.refl 0))) tr) tr)))) tr))))) (r27_call_c1006_ok hμ c   r h) ⟨rfl, rfl, rfl, trivial⟩
    ·rcases itb_some h with ⟨c5, h⟩ | ⟨c5, h⟩
     ·exact rt_ hμ [0, 1, 2] 32 [.reg [], .reg [], .reg [(2, hF)], .reg [(3, hF), (8, hF), (12, hF)], .reg [(2, hT)]]
       (a_ (r2_ tr) (a_ (r1_ (l_ 0 18 rfl (r1_ (l_ 1 18 rfl (r1_ (l_ 2 18 rfl (a_ (a_ (Eq.refl true) tr) (r1_ (a_ (a_ (a_ (Eq.refl 18) (a_ (le_ 18 18 rfl) (Eq.refl 0))) tr) tr))))))))) (a_ (r1_ (l_ 2 18 rfl (f_ c1 tr))) (a_ (r1_ (l_ 2 18 rfl (r1_ (f_ c2 (r1_ (l_ 2 18 rfl (r2_ (f_ c3 (r1_ (l_ 2 18 rfl (r1_ (f_ c4 tr)))))))))))) (a_ (r1_ (l_ 2 18 rfl (f_ c5 tr))) tr))))) (r27_call_c7_ok hμ c   r h) ⟨rfl, rfl, rfl, trivial⟩
     ·exact rt_ hμ [0, 1, 2] 35 [.reg [], .reg [], .reg [(2, hF)], .reg [(3, hF), (8, hF), (12, hF)], .reg [(2, hF)]]
       (a_ (r2_ tr) (a_ (r1_ (l_ 0 18 rfl (r1_ (l_ 1 18 rfl (r1_ (l_ 2 18 rfl (a_ (a_ (Eq.refl true) tr) (r1_ (a_ (a_ (a_ (Eq.refl 18) (a_ (le_ 18 18 rfl) (Eq.refl 0))) tr) tr))))))))) (a_ (r1_ (l_ 2 18 rfl (f_ c1 tr))) (a_ (r1_ (l_ 2 18 rfl (r1_ (f_ c2 (r1_ (l_ 2 18 rfl (r2_ (f_ c3 (r1_ (l_ 2 18 rfl (r1_ (f_ c4 tr)))))))))))) (a_ (r1_ (l_ 2 18 rfl (f_ c5 tr))) tr))))) (r27_call_c8_ok hμ c   r h) ⟨rfl, rfl, rfl, trivial⟩
theorem r27_call_tri (c : T_r27_Call) (r : (T_r27_Call)) (h : r27_call c = some r) : FnTri Tryz.prog 75 [v_T_r27_Call c] [] (r27_call_v r) [] := FnTri.none (r27_call_ok c r h) rfl rfl
/-- parrel/parrelref27.asked -/
def r27_asked_v (r : (T_r27_Call)) : LV := v_T_r27_Call r
def r27_asked_T2 (x_w : List (List UInt8)) (Kind : Int) (Node : TX) (Key : A8 (Int)) (y4 : (Int)) (y8 : (Int)) (i3 : Int) (Value : List UInt8) (R : Int) (x_W : Int) (l : List (Int)) : List LV := (.ds 1 (x_w).length (rowF cStr default x_w)) :: .any :: (.ptr 0 0 0) :: (.ptr 1 0 0) :: n_ 4 ((.int .i64 i3) :: n_ 90 [])
def r27_asked_H2 (x_w : List (List UInt8)) (Kind : Int) (Node : TX) (Key : A8 (Int)) (y4 : (Int)) (y8 : (Int)) (i3 : Int) (Value : List UInt8) (R : Int) (x_W : Int) (l : List (Int)) : Heap := [some (.var [Z1_, Z4_, Z1_, Z1_, Z4_, Z4_, Z1_, Z1_, Z1_, Z1_, Z1_, Z1_, Z1_, Z1_, .str [], Z1_, Z1_, .nilsl]), some (.var [.int .u8 (IntKind.wrap .u8 y4), .int .u32 (IntKind.wrap .u32 y8), .int .u8 Kind, .int .u8 Node.f_Node, .int .u32 Node.f_Boot, .int .u32 Node.f_Num, .int .u8 Key.a0, .int .u8 Key.a1, .int .u8 Key.a2, .int .u8 Key.a3, .int .u8 Key.a4, .int .u8 Key.a5, .int .u8 Key.a6, .int .u8 Key.a7, .str Value, .int .u8 R, .int .u8 x_W, .gs 2 (l).length]), some (.gr 1 (l).length (rowF (cInt .u8) default l))]
def r27_asked_T1000017 (x_w : List (List UInt8)) (Kind : Int) (Node : TX) (Key : A8 (Int)) (y4 : (Int)) (y8 : (Int)) (yL1_6 : (List UInt8)) (yL1_10 : (Int)) (yL1_14 : (Int))  : List LV := (.ds 1 (x_w).length (rowF cStr default x_w)) :: .any :: (.ptr 0 0 0) :: (.ptr 1 0 0) :: n_ 95 []
def r27_asked_H1000017 (x_w : List (List UInt8)) (Kind : Int) (Node : TX) (Key : A8 (Int)) (y4 : (Int)) (y8 : (Int)) (yL1_6 : (List UInt8)) (yL1_10 : (Int)) (yL1_14 : (Int))  : Heap := [some (.var [Z1_, Z4_, Z1_, Z1_, Z4_, Z4_, Z1_, Z1_, Z1_, Z1_, Z1_, Z1_, Z1_, Z1_, .str [], Z1_, Z1_, .nilsl]), some (.var [.int .u8 (IntKind.wrap .u8 y4), .int .u32 (IntKind.wrap .u32 y8), .int .u8 Kind, .int .u8 Node.f_Node, .int .u32 Node.f_Boot, .int .u32 Node.f_Num, .int .u8 Key.a0, .int .u8 Key.a1, .int .u8 Key.a2, .int .u8 Key.a3, .int .u8 Key.a4, .int .u8 Key.a5, .int .u8 Key.a6, .int .u8 Key.a7, .str yL1_6, .int .u8 (IntKind.wrap .u8 yL1_10), .int .u8 (IntKind.wrap .u8 yL1_14), .gs 2 (([] : List (Int))).length]), some (.gr 1 (([] : List (Int))).length (rowF (cInt .u8) default ([] : List (Int))))]
def r27_asked_T1 (x_w : List (List UInt8)) (Kind : Int) (y4 : (Int)) (y8 : (Int)) (x_k : List UInt8) (i2 : Int) (Node : TX) (Key : A8 (Int)) : List LV := (.ds 1 (x_w).length (rowF cStr default x_w)) :: .any :: (.ptr 0 0 0) :: (.ptr 1 0 0) :: .any :: .any :: (.str x_k) :: (.int .i64 i2) :: n_ 91 []
def r27_asked_H1 (x_w : List (List UInt8)) (Kind : Int) (y4 : (Int)) (y8 : (Int)) (x_k : List UInt8) (i2 : Int) (Node : TX) (Key : A8 (Int)) : Heap := [some (.var [Z1_, Z4_, Z1_, Z1_, Z4_, Z4_, Z1_, Z1_, Z1_, Z1_, Z1_, Z1_, Z1_, Z1_, .str [], Z1_, Z1_, .nilsl]), some (.var [.int .u8 (IntKind.wrap .u8 y4), .int .u32 (IntKind.wrap .u32 y8), .int .u8 Kind, .int .u8 Node.f_Node, .int .u32 Node.f_Boot, .int .u32 Node.f_Num, .int .u8 Key.a0, .int .u8 Key.a1, .int .u8 Key.a2, .int .u8 Key.a3, .int .u8 Key.a4, .int .u8 Key.a5, .int .u8 Key.a6, .int .u8 Key.a7, .str [], Z1_, Z1_, .gs 2 (([] : List (Int))).length]), some (.gr 1 (([] : List (Int))).length (rowF (cInt .u8) default ([] : List (Int))))]
def r27_asked_T1000011 (x_w : List (List UInt8)) (Kind : Int) (y4 : (Int)) (y8 : (Int)) (yL0_6 : (TX)) (yL0_10 : (List UInt8))  : List LV := (.ds 1 (x_w).length (rowF cStr default x_w)) :: .any :: (.ptr 0 0 0) :: (.ptr 1 0 0) :: .any :: .any :: (.str yL0_10) :: n_ 92 []
def r27_asked_H1000011 (x_w : List (List UInt8)) (Kind : Int) (y4 : (Int)) (y8 : (Int)) (yL0_6 : (TX)) (yL0_10 : (List UInt8))  : Heap := [some (.var [Z1_, Z4_, Z1_, Z1_, Z4_, Z4_, Z1_, Z1_, Z1_, Z1_, Z1_, Z1_, Z1_, Z1_, .str [], Z1_, Z1_, .nilsl]), some (.var [.int .u8 (IntKind.wrap .u8 y4), .int .u32 (IntKind.wrap .u32 y8), .int .u8 Kind, .int .u8 yL0_6.f_Node, .int .u32 yL0_6.f_Boot, .int .u32 yL0_6.f_Num, Z1_, Z1_, Z1_, Z1_, Z1_, Z1_, Z1_, Z1_, .str [], Z1_, Z1_, .gs 2 (([] : List (Int))).length]), some (.gr 1 (([] : List (Int))).length (rowF (cInt .u8) default ([] : List (Int))))]
def r27_asked_T0 (x_w : List (List UInt8)) (y4 : (Int)) (y8 : (Int)) (i : Int) (Kind : Int) : List LV := (.ds 1 (x_w).length (rowF cStr default x_w)) :: .any :: (.ptr 0 0 0) :: (.ptr 1 0 0) :: (.gs 2 (([([98, 101, 103, 105, 110] : List UInt8), ([114, 101, 97, 100] : List UInt8), ([119, 114, 105, 116, 101] : List UInt8), ([99, 111, 109, 109, 105, 116] : List UInt8), ([97, 98, 111, 114, 116] : List UInt8), ([99, 104, 97, 110, 103, 101] : List UInt8)] : List (List UInt8))).length) :: (.int .i64 i) :: n_ 93 []
def r27_asked_H0 (x_w : List (List UInt8)) (y4 : (Int)) (y8 : (Int)) (i : Int) (Kind : Int) : Heap := [some (.var [Z1_, Z4_, Z1_, Z1_, Z4_, Z4_, Z1_, Z1_, Z1_, Z1_, Z1_, Z1_, Z1_, Z1_, .str [], Z1_, Z1_, .nilsl]), some (.var [.int .u8 (IntKind.wrap .u8 y4), .int .u32 (IntKind.wrap .u32 y8), .int .u8 Kind, Z1_, Z4_, Z4_, Z1_, Z1_, Z1_, Z1_, Z1_, Z1_, Z1_, Z1_, .str [], Z1_, Z1_, .gs 3 (([] : List (Int))).length]), some (.gr 1 (([([98, 101, 103, 105, 110] : List UInt8), ([114, 101, 97, 100] : List UInt8), ([119, 114, 105, 116, 101] : List UInt8), ([99, 111, 109, 109, 105, 116] : List UInt8), ([97, 98, 111, 114, 116] : List UInt8), ([99, 104, 97, 110, 103, 101] : List UInt8)] : List (List UInt8))).length (rowF cStr default ([([98, 101, 103, 105, 110] : List UInt8), ([114, 101, 97, 100] : List UInt8), ([119, 114, 105, 116, 101] : List UInt8), ([99, 111, 109, 109, 105, 116] : List UInt8), ([97, 98, 111, 114, 116] : List UInt8), ([99, 104, 97, 110, 103, 101] : List UInt8)] : List (List UInt8)))), some (.gr 1 (([] : List (Int))).length (rowF (cInt .u8) default ([] : List (Int))))]
def r27_asked_l2 (x_w : List (List UInt8)) (Kind : Int) (Node : TX) (Key : A8 (Int)) (y4 : (Int)) (y8 : (Int))  : Nat → (Int) → (List UInt8) → (Int) → (Int) → (List (Int)) → Option ((T_r27_Call))
 | 0, _, _, _, _, _ => none
 | fuel + 1, i3, Value, R, x_W, l =>
  if ((decide (i3 < ((x_w).length : Int))) : Bool) then
   if ((decide (i3 < 18)) : Bool) then
    if 0 ≤ i3 ∧ i3 < (((x_w).length : Nat) : Int) then
    (r27_value (x_w.getD i3.toNat default)).bind fun yL2_5 =>
    if ((l).length + (([(IntKind.wrap .u8 yL2_5)] : List (Int))).length) * 1 ≤ 140737488351232 then
    r27_asked_l2 x_w Kind Node Key y4 y8  fuel (IntKind.wrap .i64 (i3 + 1)) Value R x_W (l ++ ([(IntKind.wrap .u8 yL2_5)] : List (Int)))
    else none
    else none
   else
    (r27_call (T_r27_Call.mk (IntKind.wrap .u8 y4) (IntKind.wrap .u32 y8) Kind Node Key Value R x_W l)).bind fun yL2_4 =>
    some yL2_4
  else
   (r27_call (T_r27_Call.mk (IntKind.wrap .u8 y4) (IntKind.wrap .u32 y8) Kind Node Key Value R x_W l)).bind fun yL2_3 =>
   some yL2_3
def r27_asked_c17 (x_w : List (List UInt8)) (Kind : Int) (Node : TX) (Key : A8 (Int)) (y4 : (Int)) (y8 : (Int)) (yL1_6 : (List UInt8)) (yL1_10 : (Int)) (yL1_14 : (Int))   : Option ((T_r27_Call)) :=
 r27_asked_l2 x_w Kind Node Key y4 y8  big 9 yL1_6 (IntKind.wrap .u8 yL1_10) (IntKind.wrap .u8 yL1_14) ([] : List (Int))
def r27_asked_l1 (x_w : List (List UInt8)) (Kind : Int) (y4 : (Int)) (y8 : (Int))  : Nat → (List UInt8) → (Int) → (TX) → (A8 (Int)) → Option ((T_r27_Call))
 | 0, _, _, _, _ => none
 | fuel + 1, x_k, i2, Node, Key =>
  if ((decide (i2 < ((x_k).length : Int))) : Bool) then
   if ((decide (i2 < 8)) : Bool) then
    if 0 ≤ i2 ∧ i2 < (((x_k).length : Nat) : Int) then
    if 0 ≤ i2 ∧ i2 < 8 then
    r27_asked_l1 x_w Kind y4 y8  fuel x_k (IntKind.wrap .i64 (i2 + 1)) Node (A8.set Key ((x_k.getD i2.toNat 0).toNat : Int) i2.toNat)
    else none
    else none
   else
    (r27_at x_w 7).bind fun yL1_4 =>
    (r27_text yL1_4).bind fun yL1_6 =>
    (r27_at x_w 7).bind fun yL1_8 =>
    (r27_value yL1_8).bind fun yL1_10 =>
    (r27_at x_w 8).bind fun yL1_12 =>
    (r27_value yL1_12).bind fun yL1_14 =>
    r27_asked_c17 x_w Kind Node Key y4 y8 yL1_6 yL1_10 yL1_14  
  else
   (r27_at x_w 7).bind fun yL1_3 =>
   (r27_text yL1_3).bind fun yL1_5 =>
   (r27_at x_w 7).bind fun yL1_7 =>
   (r27_value yL1_7).bind fun yL1_9 =>
   (r27_at x_w 8).bind fun yL1_11 =>
   (r27_value yL1_11).bind fun yL1_13 =>
   r27_asked_l2 x_w Kind Node Key y4 y8  big 9 yL1_5 (IntKind.wrap .u8 yL1_9) (IntKind.wrap .u8 yL1_13) ([] : List (Int))
def r27_asked_c11 (x_w : List (List UInt8)) (Kind : Int) (y4 : (Int)) (y8 : (Int)) (yL0_6 : (TX)) (yL0_10 : (List UInt8))   : Option ((T_r27_Call)) :=
 r27_asked_l1 x_w Kind y4 y8  big yL0_10 0 yL0_6 (A8.mk 0 0 0 0 0 0 0 0)
def r27_asked_l0 (x_w : List (List UInt8)) (y4 : (Int)) (y8 : (Int))  : Nat → (Int) → (Int) → Option ((T_r27_Call))
 | 0, _, _ => none
 | fuel + 1, i, Kind =>
  if ((decide (i < ((([([98, 101, 103, 105, 110] : List UInt8), ([114, 101, 97, 100] : List UInt8), ([119, 114, 105, 116, 101] : List UInt8), ([99, 111, 109, 109, 105, 116] : List UInt8), ([97, 98, 111, 114, 116] : List UInt8), ([99, 104, 97, 110, 103, 101] : List UInt8)] : List (List UInt8))).length : Int))) : Bool) then
   if 0 ≤ i ∧ i < (((([([98, 101, 103, 105, 110] : List UInt8), ([114, 101, 97, 100] : List UInt8), ([119, 114, 105, 116, 101] : List UInt8), ([99, 111, 109, 109, 105, 116] : List UInt8), ([97, 98, 111, 114, 116] : List UInt8), ([99, 104, 97, 110, 103, 101] : List UInt8)] : List (List UInt8))).length : Nat) : Int) then
   (r27_at x_w 4).bind fun yL0_4 =>
   if (((([([98, 101, 103, 105, 110] : List UInt8), ([114, 101, 97, 100] : List UInt8), ([119, 114, 105, 116, 101] : List UInt8), ([99, 111, 109, 109, 105, 116] : List UInt8), ([97, 98, 111, 114, 116] : List UInt8), ([99, 104, 97, 110, 103, 101] : List UInt8)] : List (List UInt8)).getD i.toNat default) == yL0_4) : Bool) then
    r27_asked_l0 x_w y4 y8  fuel (IntKind.wrap .i64 (i + 1)) (IntKind.wrap .u8 (IntKind.wrap .i64 (i + 1)))
   else
    r27_asked_l0 x_w y4 y8  fuel (IntKind.wrap .i64 (i + 1)) Kind
   else none
  else
   if ((decide (1 < Kind)) : Bool) then
    (r27_at x_w 5).bind fun yL0_4 =>
    (r27_tx yL0_4).bind fun yL0_6 =>
    (r27_at x_w 6).bind fun yL0_8 =>
    (r27_text yL0_8).bind fun yL0_10 =>
    r27_asked_c11 x_w Kind y4 y8 yL0_6 yL0_10  
   else
    (r27_at x_w 6).bind fun yL0_4 =>
    (r27_text yL0_4).bind fun yL0_7 =>
    r27_asked_l1 x_w Kind y4 y8  big yL0_7 0 (TX.mk 0 0 0) (A8.mk 0 0 0 0 0 0 0 0)
def r27_asked (x_w : List (List UInt8)) : Option ((T_r27_Call)) :=
 (r27_at x_w 2).bind fun y2 =>
 (r27_value y2).bind fun y4 =>
 (r27_at x_w 3).bind fun y6 =>
 (r27_value y6).bind fun y8 =>
 r27_asked_l0 x_w y4 y8  big 0 0
theorem r27_asked_l2_ok {w0 : World} {W : Nat → Prop} {μ0 : Emb} (hμ : ∀ c p, μ0 c = some p → c < 0) (x_w : List (List UInt8)) (Kind : Int) (Node : TX) (Key : A8 (Int)) (y4 : (Int)) (y8 : (Int)) : ∀ (fuel : Nat) (i3 : Int) (Value : List UInt8) (R : Int) (x_W : Int) (l : List (Int)) (r : (T_r27_Call)), r27_asked_l2 x_w Kind Node Key y4 y8  fuel i3 Value R x_W l = some r → kont Tryz.prog w0 W μ0 (FnPost Tryz.prog Tryz.f44 0 0 (r27_asked_v r) []) (kAt (bodyOf Tryz.f44) 2) none (r27_asked_T2 x_w Kind Node Key y4 y8 i3 Value R x_W l) (r27_asked_H2 x_w Kind Node Key y4 y8 i3 Value R x_W l) := by
 intro fuel
 induction fuel with
 | zero => intro i3 Value R x_W l r h; rw [r27_asked_l2] at h; cases h
 | succ fuel ih =>
  intro i3 Value R x_W l r h
  rw [r27_asked_l2] at h
  rcases itb_some h with ⟨C1, h⟩ | ⟨C1, h⟩
  ·rcases itb_some h with ⟨C2, h⟩ | ⟨C2, h⟩
   ·obtain ⟨G3, h⟩ := guard_some h
    obtain ⟨yL2_5, E4, h⟩ := bind_some h
    obtain ⟨G6, h⟩ := guard_some h
    exact rt_ hμ [0, 1, 4] 23 [.go, .reg [(4, hT), (7, hT)], .reg [(6, hC (r27_value_v yL2_5)), (8, { os := [(3, .gr 1 (([(IntKind.wrap .u8 yL2_5)] : List (Int))).length (rowF (cInt .u8) default ([(IntKind.wrap .u8 yL2_5)] : List (Int))))], v := some (.gs 3 (([(IntKind.wrap .u8 yL2_5)] : List (Int))).length) }), (9, { app := 3, os := [(4, .gr 1 ((l ++ ([(IntKind.wrap .u8 yL2_5)] : List (Int)))).length (rowF (cInt .u8) default (l ++ ([(IntKind.wrap .u8 yL2_5)] : List (Int)))))], v := some (.gs 4 ((l ++ ([(IntKind.wrap .u8 yL2_5)] : List (Int)))).length) })], .reg []]
     (a_ (r4_ (f_ C1 (r2_ (f_ C2 tr)))) (a_ (r1_ (l_ 17 18 rfl (r2_ (a_ (a_ (a_ (Eq.refl 1) G3) tr) (a_ (a_ (lt_ 0 1 rfl) tr) (a_ (a_ (a_ (r27_value_tri (x_w.getD i3.toNat default) yL2_5 E4) tr) tr) (r1_ (a_ (a_ (a_ (Eq.refl true) (a_ (Eq.refl 1) (a_ (lt_ 0 1 rfl) (le_ 1 16777216 rfl)))) (a_ (le_sl_gs 3 1 (some 1) rfl) (a_ (sub_lit (cInt .u8) default 1 (fun _ => rfl) ([(IntKind.wrap .u8 yL2_5)] : List (Int))) tr))) (a_ (a_ (a_ (a_ (Eq.refl 1) (Nat.le_refl (([(IntKind.wrap .u8 yL2_5)] : List (Int))).length)) (a_ (a_ (lt_ 0 1 rfl) (a_ (lt_ 0 1 rfl) (a_ G6 (a_ (Eq.refl 1) (Eq.refl true))))) (a_ (Eq.refl 1) (Nat.le_refl (l).length)))) (a_ (le_gs_app 4 l ([(IntKind.wrap .u8 yL2_5)] : List (Int))) (a_ (sub_app (cInt .u8) default 1 l ([(IntKind.wrap .u8 yL2_5)] : List (Int))) tr))) (r1_ (a_ (a_ (a_ (Eq.refl 1) (a_ (le_ 18 18 rfl) (Eq.refl 0))) tr) tr))))))))))) (a_ (r1_ (r2_ tr)) tr))) (ih _ _ _ _ _ r h) ⟨rfl, rfl, fun _ _ => rfl, trivial⟩
   ·obtain ⟨yL2_4, E3, h⟩ := bind_some h
    obtain rfl := si_ h
    exact rr_ [] 20 [.go, .reg [(4, hT), (7, hF)], .frz 2, .reg [(1, hC (r27_call_v yL2_4))]]
     (a_ (a_ (r4_ (f_ C1 (r2_ (f_ C2 tr)))) (a_ (a_ (fz_row (enc := (cInt .u8)) (d := default) (fun _ => rfl) l) (a_ (Nat.le_refl (l).length) tr)) (a_ (m_ 18 18 rfl (a_ (a_ (a_ (r27_call_tri (T_r27_Call.mk (IntKind.wrap .u8 y4) (IntKind.wrap .u32 y8) Kind Node Key Value R x_W l) yL2_4 E3) tr) tr) (a_ (a_ (a_ (Eq.refl 18) (a_ (le_ 18 18 rfl) (Eq.refl 0))) tr) tr))) tr))) (a_ (a_ tr (le_ 18 18 rfl)) tr))
  ·obtain ⟨yL2_3, E2, h⟩ := bind_some h
   obtain rfl := si_ h
   exact rr_ [] 20 [.go, .reg [(4, hF)], .frz 2, .reg [(1, hC (r27_call_v yL2_3))]]
    (a_ (a_ (r4_ (f_ C1 (t2_ (r1_ tr)))) (a_ (a_ (fz_row (enc := (cInt .u8)) (d := default) (fun _ => rfl) l) (a_ (Nat.le_refl (l).length) tr)) (a_ (m_ 18 18 rfl (a_ (a_ (a_ (r27_call_tri (T_r27_Call.mk (IntKind.wrap .u8 y4) (IntKind.wrap .u32 y8) Kind Node Key Value R x_W l) yL2_3 E2) tr) tr) (a_ (a_ (a_ (Eq.refl 18) (a_ (le_ 18 18 rfl) (Eq.refl 0))) tr) tr))) tr))) (a_ (a_ tr (le_ 18 18 rfl)) tr))
theorem r27_asked_c17_ok {w0 : World} {W : Nat → Prop} {μ0 : Emb} (hμ : ∀ c p, μ0 c = some p → c < 0) (x_w : List (List UInt8)) (Kind : Int) (Node : TX) (Key : A8 (Int)) (y4 : (Int)) (y8 : (Int)) (yL1_6 : (List UInt8)) (yL1_10 : (Int)) (yL1_14 : (Int))   (r : (T_r27_Call)) (h : r27_asked_c17 x_w Kind Node Key y4 y8 yL1_6 yL1_10 yL1_14   = some r) : kont Tryz.prog w0 W μ0 (FnPost Tryz.prog Tryz.f44 0 0 (r27_asked_v r) []) (kAtR (bodyOf Tryz.f44) 17) none (r27_asked_T1000017 x_w Kind Node Key y4 y8 yL1_6 yL1_10 yL1_14 ) (r27_asked_H1000017 x_w Kind Node Key y4 y8 yL1_6 yL1_10 yL1_14 ) := by
 unfold r27_asked_c17 at h
 exact rt_ hμ [0, 1, 2] 13 [.reg []]
  (a_ (r1_ tr) tr) (r27_asked_l2_ok hμ x_w Kind Node Key y4 y8  big _ _ _ _ _ r h) ⟨rfl, rfl, fun _ _ => rfl, trivial⟩
theorem r27_asked_l1_ok {w0 : World} {W : Nat → Prop} {μ0 : Emb} (hμ : ∀ c p, μ0 c = some p → c < 0) (x_w : List (List UInt8)) (Kind : Int) (y4 : (Int)) (y8 : (Int)) : ∀ (fuel : Nat) (x_k : List UInt8) (i2 : Int) (Node : TX) (Key : A8 (Int)) (r : (T_r27_Call)), r27_asked_l1 x_w Kind y4 y8  fuel x_k i2 Node Key = some r → kont Tryz.prog w0 W μ0 (FnPost Tryz.prog Tryz.f44 0 0 (r27_asked_v r) []) (kAt (bodyOf Tryz.f44) 1) none (r27_asked_T1 x_w Kind y4 y8 x_k i2 Node Key) (r27_asked_H1 x_w Kind y4 y8 x_k i2 Node Key) := by
 intro fuel
 induction fuel with
 | zero => intro x_k i2 Node Key r h; rw [r27_asked_l1] at h; cases h
 | succ fuel ih =>
  intro x_k i2 Node Key r h
  rw [r27_asked_l1] at h
  rcases itb_some h with ⟨C1, h⟩ | ⟨C1, h⟩
  ·rcases itb_some h with ⟨C2, h⟩ | ⟨C2, h⟩
   ·obtain ⟨G3, h⟩ := guard_some h
    obtain ⟨G4, h⟩ := guard_some h
    exact rt_ hμ [0, 1, 2] 23 [.go, .reg [(4, hT), (7, hT)], .reg [(6, { os := [(1, .var [.int .u8 (IntKind.wrap .u8 y4), .int .u32 (IntKind.wrap .u32 y8), .int .u8 Kind, .int .u8 Node.f_Node, .int .u32 Node.f_Boot, .int .u32 Node.f_Num, .int .u8 (A8.set Key ((x_k.getD i2.toNat 0).toNat : Int) i2.toNat).a0, .int .u8 (A8.set Key ((x_k.getD i2.toNat 0).toNat : Int) i2.toNat).a1, .int .u8 (A8.set Key ((x_k.getD i2.toNat 0).toNat : Int) i2.toNat).a2, .int .u8 (A8.set Key ((x_k.getD i2.toNat 0).toNat : Int) i2.toNat).a3, .int .u8 (A8.set Key ((x_k.getD i2.toNat 0).toNat : Int) i2.toNat).a4, .int .u8 (A8.set Key ((x_k.getD i2.toNat 0).toNat : Int) i2.toNat).a5, .int .u8 (A8.set Key ((x_k.getD i2.toNat 0).toNat : Int) i2.toNat).a6, .int .u8 (A8.set Key ((x_k.getD i2.toNat 0).toNat : Int) i2.toNat).a7, .str [], Z1_, Z1_, .gs 2 (([] : List (Int))).length])] })], .reg []]
     (a_ (r4_ (f_ C1 (r2_ (f_ C2 tr)))) (a_ (r1_ (r2_ (a_ (a_ G3 tr) (r1_ (a_ (a_ G4 tr) (a_ (a_ (a_ (Eq.refl 1) (a_ (arrLe (len := 8) G4 6 1 18 1 rfl rfl) (Eq.refl 0))) (a_ (st8 (cInt .u8) 1 (fun _ => rfl) Key [.int .u8 (IntKind.wrap .u8 y4), .int .u32 (IntKind.wrap .u32 y8), .int .u8 Kind, .int .u8 Node.f_Node, .int .u32 Node.f_Boot, .int .u32 Node.f_Num] [.str [], Z1_, Z1_, .gs 2 (([] : List (Int))).length] 6 rfl i2.toNat (lt8N G4) ((x_k.getD i2.toNat 0).toNat : Int)) tr)) tr)))))) (a_ (r1_ (r2_ tr)) tr))) (ih _ _ _ _ r h) ⟨rfl, rfl, fun _ _ => rfl, trivial⟩
   ·obtain ⟨yL1_4, E3, h⟩ := bind_some h
    obtain ⟨yL1_6, E5, h⟩ := bind_some h
    obtain ⟨yL1_8, E7, h⟩ := bind_some h
    obtain ⟨yL1_10, E9, h⟩ := bind_some h
    obtain ⟨yL1_12, E11, h⟩ := bind_some h
    obtain ⟨yL1_14, E13, h⟩ := bind_some h
    exact rt_ hμ [0, 1, 2] 24 [.go, .reg [(4, hT), (7, hF)], .reg [(1, hC (r27_at_v yL1_4)), (2, hC (r27_text_v yL1_6))], .reg [(1, hC (r27_at_v yL1_8)), (2, hC (r27_value_v yL1_10)), (5, hC (r27_at_v yL1_12)), (6, hC (r27_value_v yL1_14))]]
     (a_ (r4_ (f_ C1 (r2_ (f_ C2 tr)))) (a_ (r1_ (c_ (r27_at_tri x_w 7 yL1_4 E3) (c_ (r27_text_tri yL1_4 yL1_6 E5) (r1_ (a_ (a_ (a_ (Eq.refl 1) (a_ (le_ 15 18 rfl) (Eq.refl 0))) tr) tr))))) (a_ (r1_ (c_ (r27_at_tri x_w 7 yL1_8 E7) (c_ (r27_value_tri yL1_8 yL1_10 E9) (r2_ (c_ (r27_at_tri x_w 8 yL1_12 E11) (c_ (r27_value_tri yL1_12 yL1_14 E13) (r2_ (a_ (a_ (a_ (Eq.refl 1) (a_ (le_ 16 18 rfl) (Eq.refl 0))) tr) (r1_ (a_ (a_ (a_ (Eq.refl 1) (a_ (le_ 17 18 rfl) (Eq.refl 0))) tr) tr)))))))))) tr))) (r27_asked_c17_ok hμ x_w Kind Node Key y4 y8 yL1_6 yL1_10 yL1_14   r h) ⟨rfl, rfl, fun _ _ => rfl, trivial⟩
  ·obtain ⟨yL1_3, E2, h⟩ := bind_some h
   obtain ⟨yL1_5, E4, h⟩ := bind_some h
   obtain ⟨yL1_7, E6, h⟩ := bind_some h
   obtain ⟨yL1_9, E8, h⟩ := bind_some h
   obtain ⟨yL1_11, E10, h⟩ := bind_some h
   obtain ⟨yL1_13, E12, h⟩ := bind_some h
   exact rt_ hμ [0, 1, 2] 28 [.go, .reg [(4, hF)], .reg [(1, hC (r27_at_v yL1_3)), (2, hC (r27_text_v yL1_5))], .reg [(1, hC (r27_at_v yL1_7)), (2, hC (r27_value_v yL1_9)), (5, hC (r27_at_v yL1_11)), (6, hC (r27_value_v yL1_13))], .reg []]
    (a_ (r4_ (f_ C1 (t2_ (r1_ tr)))) (a_ (r1_ (c_ (r27_at_tri x_w 7 yL1_3 E2) (c_ (r27_text_tri yL1_3 yL1_5 E4) (r1_ (a_ (a_ (a_ (Eq.refl 1) (a_ (le_ 15 18 rfl) (Eq.refl 0))) tr) tr))))) (a_ (r1_ (c_ (r27_at_tri x_w 7 yL1_7 E6) (c_ (r27_value_tri yL1_7 yL1_9 E8) (r2_ (c_ (r27_at_tri x_w 8 yL1_11 E10) (c_ (r27_value_tri yL1_11 yL1_13 E12) (r2_ (a_ (a_ (a_ (Eq.refl 1) (a_ (le_ 16 18 rfl) (Eq.refl 0))) tr) (r1_ (a_ (a_ (a_ (Eq.refl 1) (a_ (le_ 17 18 rfl) (Eq.refl 0))) tr) tr)))))))))) (a_ (r1_ tr) tr)))) (r27_asked_l2_ok hμ x_w Kind Node Key y4 y8  big _ _ _ _ _ r h) ⟨rfl, rfl, fun _ _ => rfl, trivial⟩
theorem r27_asked_c11_ok {w0 : World} {W : Nat → Prop} {μ0 : Emb} (hμ : ∀ c p, μ0 c = some p → c < 0) (x_w : List (List UInt8)) (Kind : Int) (y4 : (Int)) (y8 : (Int)) (yL0_6 : (TX)) (yL0_10 : (List UInt8))   (r : (T_r27_Call)) (h : r27_asked_c11 x_w Kind y4 y8 yL0_6 yL0_10   = some r) : kont Tryz.prog w0 W μ0 (FnPost Tryz.prog Tryz.f44 0 0 (r27_asked_v r) []) (kAtR (bodyOf Tryz.f44) 11) none (r27_asked_T1000011 x_w Kind y4 y8 yL0_6 yL0_10 ) (r27_asked_H1000011 x_w Kind y4 y8 yL0_6 yL0_10 ) := by
 unfold r27_asked_c11 at h
 exact rt_ hμ [0, 1, 2] 13 [.reg []]
  (a_ (r1_ tr) tr) (r27_asked_l1_ok hμ x_w Kind y4 y8  big _ _ _ _ r h) ⟨rfl, rfl, fun _ _ => rfl, trivial⟩
theorem r27_asked_l0_ok {w0 : World} {W : Nat → Prop} {μ0 : Emb} (hμ : ∀ c p, μ0 c = some p → c < 0) (x_w : List (List UInt8)) (y4 : (Int)) (y8 : (Int)) : ∀ (fuel : Nat) (i : Int) (Kind : Int) (r : (T_r27_Call)), r27_asked_l0 x_w y4 y8  fuel i Kind = some r → kont Tryz.prog w0 W μ0 (FnPost Tryz.prog Tryz.f44 0 0 (r27_asked_v r) []) (kAt (bodyOf Tryz.f44) 0) none (r27_asked_T0 x_w y4 y8 i Kind) (r27_asked_H0 x_w y4 y8 i Kind) := by
 intro fuel
 induction fuel with
 | zero => intro i Kind r h; rw [r27_asked_l0] at h; cases h
 | succ fuel ih =>
  intro i Kind r h
  rw [r27_asked_l0] at h
  rcases itb_some h with ⟨C1, h⟩ | ⟨C1, h⟩
  ·obtain ⟨G2, h⟩ := guard_some h
   obtain ⟨yL0_4, E3, h⟩ := bind_some h
   rcases itb_some h with ⟨C5, h⟩ | ⟨C5, h⟩
   ·exact rt_ hμ [0, 1, 2, 3] 27 [.go, .reg [(3, hT)], .reg [(5, hC (r27_at_v yL0_4)), (6, hT)], .reg [], .reg []]
     (a_ (r1_ (r2_ (f_ C1 tr))) (a_ (r2_ (a_ (a_ (a_ (Eq.refl 1) G2) tr) (a_ (a_ (a_ (ltN G2) (lt_ 0 1 rfl)) tr) (r1_ (c_ (r27_at_tri x_w 4 yL0_4 E3) (f_ C5 tr)))))) (a_ (r4_ (a_ (a_ (a_ (Eq.refl 1) (a_ (le_ 3 18 rfl) (Eq.refl 0))) tr) tr)) (a_ (r1_ (r2_ tr)) tr)))) (ih _ _ r h) ⟨rfl, rfl, fun _ _ => rfl, fun _ _ => rfl, trivial⟩
   ·exact rt_ hμ [0, 1, 2, 3] 26 [.go, .reg [(3, hT)], .reg [(5, hC (r27_at_v yL0_4)), (6, hF)], .reg []]
     (a_ (r1_ (r2_ (f_ C1 tr))) (a_ (r2_ (a_ (a_ (a_ (Eq.refl 1) G2) tr) (a_ (a_ (a_ (ltN G2) (lt_ 0 1 rfl)) tr) (r1_ (c_ (r27_at_tri x_w 4 yL0_4 E3) (f_ C5 tr)))))) (a_ (r1_ (r2_ tr)) tr))) (ih _ _ r h) ⟨rfl, rfl, fun _ _ => rfl, fun _ _ => rfl, trivial⟩
  ·rcases itb_some h with ⟨C2, h⟩ | ⟨C2, h⟩
   ·obtain ⟨yL0_4, E3, h⟩ := bind_some h
    obtain ⟨yL0_6, E5, h⟩ := bind_some h
    obtain ⟨yL0_8, E7, h⟩ := bind_some h
    obtain ⟨yL0_10, E9, h⟩ := bind_some h
    exact rt_ hμ [0, 1, 3] 28 [.go, .reg [(3, hF)], .reg [(2, hT)], .reg [(1, hC (r27_at_v yL0_4)), (2, hC (r27_tx_v yL0_6))], .reg [(1, hC (r27_at_v yL0_8)), (2, hC (r27_text_v yL0_10))]]
     (a_ (r1_ (r2_ (f_ C1 tr))) (a_ (r1_ (l_ 2 18 rfl (f_ C2 tr))) (a_ (r1_ (c_ (r27_at_tri x_w 5 yL0_4 E3) (c_ (r27_tx_tri yL0_4 yL0_6 E5) (r1_ (a_ (a_ (a_ (Eq.refl 3) (a_ (le_ 6 18 rfl) (Eq.refl 0))) tr) tr))))) (a_ (r1_ (c_ (r27_at_tri x_w 6 yL0_8 E7) (c_ (r27_text_tri yL0_8 yL0_10 E9) (r1_ tr)))) tr)))) (r27_asked_c11_ok hμ x_w Kind y4 y8 yL0_6 yL0_10   r h) ⟨rfl, rfl, fun _ _ => rfl, trivial⟩
   ·obtain ⟨yL0_4, E3, h⟩ := bind_some h
    obtain ⟨yL0_7, E5, h⟩ := bind_some h
    exact rt_ hμ [0, 1, 3] 31 [.go, .reg [(3, hF)], .reg [(2, hF)], .reg [(1, hC (r27_at_v yL0_4)), (2, hC (r27_text_v yL0_7))], .reg []]
     (a_ (r1_ (r2_ (f_ C1 tr))) (a_ (r1_ (l_ 2 18 rfl (f_ C2 tr))) (a_ (r1_ (c_ (r27_at_tri x_w 6 yL0_4 E3) (c_ (r27_text_tri yL0_4 yL0_7 E5) (r1_ tr)))) (a_ (r1_ tr) tr)))) (r27_asked_l1_ok hμ x_w Kind y4 y8  big _ _ _ _ r h) ⟨rfl, rfl, fun _ _ => rfl, trivial⟩
theorem r27_asked_ok (x_w : List (List UInt8)) (r : (T_r27_Call)) (h : r27_asked x_w = some r) : ∀ σ, Inj 0 σ → FnTri Tryz.prog 44 (renL σ [.ds 1 (x_w).length (rowF cStr default x_w)]) (preOf σ 0 []) ((r27_asked_v r).ren σ) (upOf σ []) := by
 refine fo_ Tryz.func44 trivial trivial ?_
 intro w0 W μ0 hμ
 unfold r27_asked at h
 obtain ⟨y2, e1, h⟩ := bind_some h
 obtain ⟨y4, e3, h⟩ := bind_some h
 obtain ⟨y6, e5, h⟩ := bind_some h
 obtain ⟨y8, e7, h⟩ := bind_some h
 exact rt_ hμ [0, 3, 4, 2] 26 [.reg [], .void (.gr 1 (([] : List (Int))).length (rowF (cInt .u8) default ([] : List (Int)))), .void (.gr 1 (([] : List (Int))).length (rowF (cInt .u8) default ([] : List (Int)))), .reg [(1, hC (r27_at_v y2)), (2, hC (r27_value_v y4)), (5, hC (r27_at_v y6)), (6, hC (r27_value_v y8)), (9, { os := [(3, .var [Z1_, Z4_, Z1_, Z1_, Z4_, Z4_, Z1_, Z1_, Z1_, Z1_, Z1_, Z1_, Z1_, Z1_, .str [], Z1_, Z1_, .gs 1 (([] : List (Int))).length])] }), (10, { os := [(3, .var [.int .u8 (IntKind.wrap .u8 y4), .int .u32 (IntKind.wrap .u32 y8), Z1_, Z1_, Z4_, Z4_, Z1_, Z1_, Z1_, Z1_, Z1_, Z1_, Z1_, Z1_, .str [], Z1_, Z1_, .gs 2 (([] : List (Int))).length])] })], .reg [(0, { os := [(4, .gr 1 (([([98, 101, 103, 105, 110] : List UInt8), ([114, 101, 97, 100] : List UInt8), ([119, 114, 105, 116, 101] : List UInt8), ([99, 111, 109, 109, 105, 116] : List UInt8), ([97, 98, 111, 114, 116] : List UInt8), ([99, 104, 97, 110, 103, 101] : List UInt8)] : List (List UInt8))).length (rowF cStr default ([([98, 101, 103, 105, 110] : List UInt8), ([114, 101, 97, 100] : List UInt8), ([119, 114, 105, 116, 101] : List UInt8), ([99, 111, 109, 109, 105, 116] : List UInt8), ([97, 98, 111, 114, 116] : List UInt8), ([99, 104, 97, 110, 103, 101] : List UInt8)] : List (List UInt8))))], v := some (.gs 4 (([([98, 101, 103, 105, 110] : List UInt8), ([114, 101, 97, 100] : List UInt8), ([119, 114, 105, 116, 101] : List UInt8), ([99, 111, 109, 109, 105, 116] : List UInt8), ([97, 98, 111, 114, 116] : List UInt8), ([99, 104, 97, 110, 103, 101] : List UInt8)] : List (List UInt8))).length) })], .reg []]
  (a_ (r1_ tr) (a_ (Eq.refl 0) (a_ (Eq.refl 0) (a_ (r1_ (c_ (r27_at_tri x_w 2 y2 e1) (c_ (r27_value_tri y2 y4 e3) (r2_ (c_ (r27_at_tri x_w 3 y6 e5) (c_ (r27_value_tri y6 y8 e7) (r1_ (a_ (a_ (Eq.refl true) tr) (a_ (a_ tr (a_ (LO.Sub.var (a := [Z1_, Z4_, Z1_, Z1_, Z4_, Z4_, Z1_, Z1_, Z1_, Z1_, Z1_, Z1_, Z1_, Z1_, .str [], Z1_, Z1_, .nilsl]) (b := [Z1_, Z4_, Z1_, Z1_, Z4_, Z4_, Z1_, Z1_, Z1_, Z1_, Z1_, Z1_, Z1_, Z1_, .str [], Z1_, Z1_, .gs 1 (([] : List (Int))).length]) (a_ (LV.Le.refl (.int .u8 0)) (a_ (LV.Le.refl (.int .u32 0)) (a_ (LV.Le.refl (.int .u8 0)) (a_ (LV.Le.refl (.int .u8 0)) (a_ (LV.Le.refl (.int .u32 0)) (a_ (LV.Le.refl (.int .u32 0)) (a_ (LV.Le.refl (.int .u8 0)) (a_ (LV.Le.refl (.int .u8 0)) (a_ (LV.Le.refl (.int .u8 0)) (a_ (LV.Le.refl (.int .u8 0)) (a_ (LV.Le.refl (.int .u8 0)) (a_ (LV.Le.refl (.int .u8 0)) (a_ (LV.Le.refl (.int .u8 0)) (a_ (LV.Le.refl (.int .u8 0)) (a_ (LV.Le.refl (.str [])) (a_ (LV.Le.refl (.int .u8 0)) (a_ (LV.Le.refl (.int .u8 0)) (a_ (le_nil_gs 1) tr))))))))))))))))))) tr)) (a_ (a_ (a_ (Eq.refl 18) (a_ (le_ 18 18 rfl) (Eq.refl 0))) (a_ (LO.Sub.var (a := [.int .u8 (IntKind.wrap .u8 y4), .int .u32 (IntKind.wrap .u32 y8), Z1_, Z1_, Z4_, Z4_, Z1_, Z1_, Z1_, Z1_, Z1_, Z1_, Z1_, Z1_, .str [], Z1_, Z1_, .nilsl]) (b := [.int .u8 (IntKind.wrap .u8 y4), .int .u32 (IntKind.wrap .u32 y8), Z1_, Z1_, Z4_, Z4_, Z1_, Z1_, Z1_, Z1_, Z1_, Z1_, Z1_, Z1_, .str [], Z1_, Z1_, .gs 2 (([] : List (Int))).length]) (a_ (LV.Le.refl (.int .u8 (IntKind.wrap .u8 y4))) (a_ (LV.Le.refl (.int .u32 (IntKind.wrap .u32 y8))) (a_ (LV.Le.refl (.int .u8 0)) (a_ (LV.Le.refl (.int .u8 0)) (a_ (LV.Le.refl (.int .u32 0)) (a_ (LV.Le.refl (.int .u32 0)) (a_ (LV.Le.refl (.int .u8 0)) (a_ (LV.Le.refl (.int .u8 0)) (a_ (LV.Le.refl (.int .u8 0)) (a_ (LV.Le.refl (.int .u8 0)) (a_ (LV.Le.refl (.int .u8 0)) (a_ (LV.Le.refl (.int .u8 0)) (a_ (LV.Le.refl (.int .u8 0)) (a_ (LV.Le.refl (.int .u8 0)) (a_ (LV.Le.refl (.str [])) (a_ (LV.Le.refl (.int .u8 0)) (a_ (LV.Le.refl (.int .u8 0)) (a_ (le_nil_gs 2) tr))))))))))))))))))) tr)) tr)))))))))) (a_ (a_ (a_ (a_ (Eq.refl true) (a_ (Eq.refl 1) (a_ (lt_ 0 1 rfl) (le_ 6 16777216 rfl)))) (a_ (le_sl_gs 4 6 (some 6) rfl) (a_ (sub_lit cStr default 1 (fun _ => rfl) ([([98, 101, 103, 105, 110] : List UInt8), ([114, 101, 97, 100] : List UInt8), ([119, 114, 105, 116, 101] : List UInt8), ([99, 111, 109, 109, 105, 116] : List UInt8), ([97, 98, 111, 114, 116] : List UInt8), ([99, 104, 97, 110, 103, 101] : List UInt8)] : List (List UInt8))) tr))) (r1_ tr)) (a_ (r1_ tr) tr)))))) (r27_asked_l0_ok hμ x_w y4 y8  big _ _ r h) ⟨rfl, rfl, fun _ _ => rfl, fun _ _ => rfl, trivial⟩
theorem r27_asked_tri (x_w : List (List UInt8)) (r : (T_r27_Call)) (h : r27_asked x_w = some r) : FnTri Tryz.prog 44 [.ds 1 (x_w).length (rowF cStr default x_w)] [] (r27_asked_v r) [] := FnTri.none (r27_asked_ok x_w r h) rfl rfl
/-- parrel/parrelref27.least -/
def r27_least_v (r : (Int)) : LV := .int .i64 r
def r27_least (s : List UInt8) : Option ((Int)) :=
 if ((s == ([45, 49] : List UInt8)) : Bool) then
  some (-1)
 else
  (r27_value s).bind fun y3 =>
  some y3
theorem r27_least_ok (s : List UInt8) (r : (Int)) (h : r27_least s = some r) : ∀ σ, Inj 0 σ → FnTri Tryz.prog 45 (renL σ [.str s]) (preOf σ 0 []) ((r27_least_v r).ren σ) (upOf σ []) := by
 refine fo_ Tryz.func45 trivial trivial ?_
 intro w0 W μ0 hμ
 unfold r27_least at h
 rcases itb_some h with ⟨c1, h⟩ | ⟨c1, h⟩
 ·obtain rfl := si_ h
  exact rr_ [] 20 [.reg [], .reg [(1, hT)], .reg []]
   (a_ (a_ (r1_ tr) (a_ (r1_ (f_ c1 tr)) (a_ (r1_ tr) tr))) tr)
 ·obtain ⟨y3, e2, h⟩ := bind_some h
  obtain rfl := si_ h
  exact rr_ [] 21 [.reg [], .reg [(1, hF)], .reg [(1, hC (r27_value_v y3))]]
   (a_ (a_ (r1_ tr) (a_ (r1_ (f_ c1 tr)) (a_ (r1_ (c_ (r27_value_tri s y3 e2) (r1_ tr))) tr))) tr)
theorem r27_least_tri (s : List UInt8) (r : (Int)) (h : r27_least s = some r) : FnTri Tryz.prog 45 [.str s] [] (r27_least_v r) [] := FnTri.none (r27_least_ok s r h) rfl rfl
/-- parrel/parrelref27.guess -/
def r27_guess_v (r : (T_r27_Step)) : LV := v_T_r27_Step r
def r27_guess_T1000012 (y4 : (Int))  : List LV := .any :: .any :: (.ptr 0 0 0) :: (.int .i64 y4) :: n_ 68 []
def r27_guess_H1000012 (y4 : (Int))  : Heap := [some (.var [Z1_, Z8_, Z8_, Z8_, .bool false, Z1_, Z4_, Z1_, Z1_, Z4_, Z4_, Z1_, Z1_, Z1_, Z1_, Z1_, Z1_, Z1_, Z1_, .str [], Z1_, Z1_, .nilsl, Z8_, .nilsl])]
def r27_guess_T1000013 (x_w : List (List UInt8)) (y4 : (Int)) (y6 : (List UInt8))  : List LV := (.ds 1 (x_w).length (rowF cStr default x_w)) :: .any :: (.ptr 0 0 0) :: (.int .i64 y4) :: n_ 4 ((.str y6) :: n_ 63 [])
def r27_guess_H1000013 (x_w : List (List UInt8)) (y4 : (Int)) (y6 : (List UInt8))  : Heap := [some (.var [Z1_, Z8_, Z8_, Z8_, .bool false, Z1_, Z4_, Z1_, Z1_, Z4_, Z4_, Z1_, Z1_, Z1_, Z1_, Z1_, Z1_, Z1_, Z1_, .str [], Z1_, Z1_, .nilsl, Z8_, .nilsl])]
def r27_guess_c12 (y4 : (Int))   : Option ((T_r27_Step)) :=
 some (T_r27_Step.mk 5 0 y4 0 false (T_r27_Call.mk 0 0 0 (TX.mk 0 0 0) (A8.mk 0 0 0 0 0 0 0 0) [] 0 0 ([] : List (Int))) 0 ([] : List (Int)))
def r27_guess_c13 (x_w : List (List UInt8)) (y4 : (Int)) (y6 : (List UInt8))   : Option ((T_r27_Step)) :=
 if ((y6 == ([116, 105, 99, 107] : List UInt8)) : Bool) then
  some (T_r27_Step.mk 6 y4 0 0 false (T_r27_Call.mk 0 0 0 (TX.mk 0 0 0) (A8.mk 0 0 0 0 0 0 0 0) [] 0 0 ([] : List (Int))) 0 ([] : List (Int)))
 else
  if ((y6 == ([99, 114, 97, 115, 104] : List UInt8)) : Bool) then
   some (T_r27_Step.mk 7 y4 0 0 false (T_r27_Call.mk 0 0 0 (TX.mk 0 0 0) (A8.mk 0 0 0 0 0 0 0 0) [] 0 0 ([] : List (Int))) 0 ([] : List (Int)))
  else
   if ((y6 == ([115, 116, 97, 114, 116] : List UInt8)) : Bool) then
    (r27_at x_w 2).bind fun yC13_5 =>
    (r27_least yC13_5).bind fun yC13_7 =>
    (r27_at x_w 3).bind fun yC13_9 =>
    (r27_at x_w 4).bind fun yC13_11 =>
    (r27_text yC13_11).bind fun yC13_13 =>
    some (T_r27_Step.mk 8 y4 0 yC13_7 (yC13_9 == ([99, 117, 116] : List UInt8)) (T_r27_Call.mk 0 0 0 (TX.mk 0 0 0) (A8.mk 0 0 0 0 0 0 0 0) [] 0 0 ([] : List (Int))) 0 (bytesI yC13_13))
   else
    if ((y6 == ([97, 114, 109] : List UInt8)) : Bool) then
     (r27_at x_w 2).bind fun yC13_6 =>
     (r27_least yC13_6).bind fun yC13_8 =>
     some (T_r27_Step.mk 9 y4 0 yC13_8 false (T_r27_Call.mk 0 0 0 (TX.mk 0 0 0) (A8.mk 0 0 0 0 0 0 0 0) [] 0 0 ([] : List (Int))) 0 ([] : List (Int)))
    else
     if ((y6 == ([105, 110, 106, 101, 99, 116] : List UInt8)) : Bool) then
      (r27_at x_w 2).bind fun yC13_9 =>
      (r27_value yC13_9).bind fun yC13_12 =>
      (r27_at x_w 3).bind fun yC13_14 =>
      (r27_text yC13_14).bind fun yC13_16 =>
      some (T_r27_Step.mk 10 y4 0 0 false (T_r27_Call.mk 0 0 0 (TX.mk 0 0 0) (A8.mk 0 0 0 0 0 0 0 0) [] 0 0 ([] : List (Int))) yC13_12 (bytesI yC13_16))
     else
      some (T_r27_Step.mk 0 0 0 0 false (T_r27_Call.mk 0 0 0 (TX.mk 0 0 0) (A8.mk 0 0 0 0 0 0 0 0) [] 0 0 ([] : List (Int))) 0 ([] : List (Int)))
def r27_guess (x_w : List (List UInt8)) : Option ((T_r27_Step)) :=
 (r27_at x_w 1).bind fun y2 =>
 (r27_value y2).bind fun y4 =>
 (r27_at x_w 0).bind fun y6 =>
 if ((y6 == ([100, 111] : List UInt8)) : Bool) then
  (r27_asked x_w).bind fun y9 =>
  some (T_r27_Step.mk 1 y4 0 0 false y9 0 ([] : List (Int)))
 else
  if ((y6 == ([100, 101, 108, 105, 118, 101, 114] : List UInt8)) : Bool) then
   some (T_r27_Step.mk 2 0 y4 0 false (T_r27_Call.mk 0 0 0 (TX.mk 0 0 0) (A8.mk 0 0 0 0 0 0 0 0) [] 0 0 ([] : List (Int))) 0 ([] : List (Int)))
  else
   if ((y6 == ([100, 114, 111, 112] : List UInt8)) : Bool) then
    some (T_r27_Step.mk 3 0 y4 0 false (T_r27_Call.mk 0 0 0 (TX.mk 0 0 0) (A8.mk 0 0 0 0 0 0 0 0) [] 0 0 ([] : List (Int))) 0 ([] : List (Int)))
   else
    if ((y6 == ([116, 119, 105, 99, 101] : List UInt8)) : Bool) then
     some (T_r27_Step.mk 4 0 y4 0 false (T_r27_Call.mk 0 0 0 (TX.mk 0 0 0) (A8.mk 0 0 0 0 0 0 0 0) [] 0 0 ([] : List (Int))) 0 ([] : List (Int)))
    else
     if ((y6 == ([108, 97, 116, 101] : List UInt8)) : Bool) then
      r27_guess_c12 y4  
     else
      r27_guess_c13 x_w y4 y6  
theorem r27_guess_c12_ok {w0 : World} {W : Nat → Prop} {μ0 : Emb} (hμ : ∀ c p, μ0 c = some p → c < 0) (y4 : (Int))   (r : (T_r27_Step)) (h : r27_guess_c12 y4   = some r) : kont Tryz.prog w0 W μ0 (FnPost Tryz.prog Tryz.f19 0 0 (r27_guess_v r) []) (kAtR (bodyOf Tryz.f19) 12) none (r27_guess_T1000012 y4 ) (r27_guess_H1000012 y4 ) := by
 unfold r27_guess_c12 at h
 obtain rfl := si_ h
 exact rr_ [] 13 [.reg [], .wk [] [(0, .var [.int .u8 5, Z8_, .int .i64 y4, Z8_, .bool false, Z1_, Z4_, Z1_, Z1_, Z4_, Z4_, Z1_, Z1_, Z1_, Z1_, Z1_, Z1_, Z1_, Z1_, .str [], Z1_, Z1_, zn_, Z8_, .nilsl])], .wk [] [(0, .var (c_T_r27_Step (T_r27_Step.mk 5 0 y4 0 false (T_r27_Call.mk 0 0 0 (TX.mk 0 0 0) (A8.mk 0 0 0 0 0 0 0 0) [] 0 0 ([] : List (Int))) 0 ([] : List (Int)))))]]
  (a_ (a_ (r1_ (a_ (a_ (Eq.refl true) tr) (a_ (a_ (a_ (Eq.refl 25) (a_ (le_ 25 25 rfl) (Eq.refl 0))) tr) tr))) (a_ (a_ tr (a_ (LO.Sub.var (lel_set [.int .u8 5, Z8_, .int .i64 y4, Z8_, .bool false, Z1_, Z4_, Z1_, Z1_, Z4_, Z4_, Z1_, Z1_, Z1_, Z1_, Z1_, Z1_, Z1_, Z1_, .str [], Z1_, Z1_, .nilsl, Z8_, .nilsl] 22 .nilsl zn_ rfl (le_nil_ds 1 (rowF (cInt .u8) default [])))) tr)) (a_ (a_ tr (a_ (LO.Sub.var (lel_set [.int .u8 5, Z8_, .int .i64 y4, Z8_, .bool false, Z1_, Z4_, Z1_, Z1_, Z4_, Z4_, Z1_, Z1_, Z1_, Z1_, Z1_, Z1_, Z1_, Z1_, .str [], Z1_, Z1_, zn_, Z8_, .nilsl] 24 .nilsl zn_ rfl (le_nil_ds 1 (rowF (cInt .u8) default [])))) tr)) tr))) (a_ (a_ tr (le_ 25 25 rfl)) tr))
theorem r27_guess_c13_ok {w0 : World} {W : Nat → Prop} {μ0 : Emb} (hμ : ∀ c p, μ0 c = some p → c < 0) (x_w : List (List UInt8)) (y4 : (Int)) (y6 : (List UInt8))   (r : (T_r27_Step)) (h : r27_guess_c13 x_w y4 y6   = some r) : kont Tryz.prog w0 W μ0 (FnPost Tryz.prog Tryz.f19 0 0 (r27_guess_v r) []) (kAtR (bodyOf Tryz.f19) 13) none (r27_guess_T1000013 x_w y4 y6 ) (r27_guess_H1000013 x_w y4 y6 ) := by
 unfold r27_guess_c13 at h
 rcases itb_some h with ⟨C1, h⟩ | ⟨C1, h⟩
 ·obtain rfl := si_ h
  exact rr_ [] 17 [.reg [(1, hT)], .reg [], .wk [] [(0, .var [.int .u8 6, .int .i64 y4, Z8_, Z8_, .bool false, Z1_, Z4_, Z1_, Z1_, Z4_, Z4_, Z1_, Z1_, Z1_, Z1_, Z1_, Z1_, Z1_, Z1_, .str [], Z1_, Z1_, zn_, Z8_, .nilsl])], .wk [] [(0, .var (c_T_r27_Step (T_r27_Step.mk 6 y4 0 0 false (T_r27_Call.mk 0 0 0 (TX.mk 0 0 0) (A8.mk 0 0 0 0 0 0 0 0) [] 0 0 ([] : List (Int))) 0 ([] : List (Int)))))]]
   (a_ (a_ (r1_ (f_ C1 tr)) (a_ (r1_ (a_ (a_ (Eq.refl true) tr) (a_ (a_ (a_ (Eq.refl 25) (a_ (le_ 25 25 rfl) (Eq.refl 0))) tr) tr))) (a_ (a_ tr (a_ (LO.Sub.var (lel_set [.int .u8 6, .int .i64 y4, Z8_, Z8_, .bool false, Z1_, Z4_, Z1_, Z1_, Z4_, Z4_, Z1_, Z1_, Z1_, Z1_, Z1_, Z1_, Z1_, Z1_, .str [], Z1_, Z1_, .nilsl, Z8_, .nilsl] 22 .nilsl zn_ rfl (le_nil_ds 1 (rowF (cInt .u8) default [])))) tr)) (a_ (a_ tr (a_ (LO.Sub.var (lel_set [.int .u8 6, .int .i64 y4, Z8_, Z8_, .bool false, Z1_, Z4_, Z1_, Z1_, Z4_, Z4_, Z1_, Z1_, Z1_, Z1_, Z1_, Z1_, Z1_, Z1_, .str [], Z1_, Z1_, zn_, Z8_, .nilsl] 24 .nilsl zn_ rfl (le_nil_ds 1 (rowF (cInt .u8) default [])))) tr)) tr)))) (a_ (a_ tr (le_ 25 25 rfl)) tr))
 ·rcases itb_some h with ⟨C2, h⟩ | ⟨C2, h⟩
  ·obtain rfl := si_ h
   exact rr_ [] 21 [.reg [(1, hF)], .reg [(1, hT)], .reg [], .wk [] [(0, .var [.int .u8 7, .int .i64 y4, Z8_, Z8_, .bool false, Z1_, Z4_, Z1_, Z1_, Z4_, Z4_, Z1_, Z1_, Z1_, Z1_, Z1_, Z1_, Z1_, Z1_, .str [], Z1_, Z1_, zn_, Z8_, .nilsl])], .wk [] [(0, .var (c_T_r27_Step (T_r27_Step.mk 7 y4 0 0 false (T_r27_Call.mk 0 0 0 (TX.mk 0 0 0) (A8.mk 0 0 0 0 0 0 0 0) [] 0 0 ([] : List (Int))) 0 ([] : List (Int)))))]]
    (a_ (a_ (r1_ (f_ C1 tr)) (a_ (r1_ (f_ C2 tr)) (a_ (r1_ (a_ (a_ (Eq.refl true) tr) (a_ (a_ (a_ (Eq.refl 25) (a_ (le_ 25 25 rfl) (Eq.refl 0))) tr) tr))) (a_ (a_ tr (a_ (LO.Sub.var (lel_set [.int .u8 7, .int .i64 y4, Z8_, Z8_, .bool false, Z1_, Z4_, Z1_, Z1_, Z4_, Z4_, Z1_, Z1_, Z1_, Z1_, Z1_, Z1_, Z1_, Z1_, .str [], Z1_, Z1_, .nilsl, Z8_, .nilsl] 22 .nilsl zn_ rfl (le_nil_ds 1 (rowF (cInt .u8) default [])))) tr)) (a_ (a_ tr (a_ (LO.Sub.var (lel_set [.int .u8 7, .int .i64 y4, Z8_, Z8_, .bool false, Z1_, Z4_, Z1_, Z1_, Z4_, Z4_, Z1_, Z1_, Z1_, Z1_, Z1_, Z1_, Z1_, Z1_, .str [], Z1_, Z1_, zn_, Z8_, .nilsl] 24 .nilsl zn_ rfl (le_nil_ds 1 (rowF (cInt .u8) default [])))) tr)) tr))))) (a_ (a_ tr (le_ 25 25 rfl)) tr))
  ·rcases itb_some h with ⟨C3, h⟩ | ⟨C3, h⟩
   ·obtain ⟨yC13_5, E4, h⟩ := bind_some h
    obtain ⟨yC13_7, E6, h⟩ := bind_some h
    obtain ⟨yC13_9, E8, h⟩ := bind_some h
    obtain ⟨yC13_11, E10, h⟩ := bind_some h
    obtain ⟨yC13_13, E12, h⟩ := bind_some h
    obtain rfl := si_ h
    exact rr_ [] 27 [.reg [(1, hF)], .reg [(1, hF)], .reg [(1, hT)], .reg [(2, hC (r27_at_v yC13_5)), (3, hC (r27_least_v yC13_7)), (5, hC (r27_at_v yC13_9)), (8, hC (r27_at_v yC13_11)), (9, hC (r27_text_v yC13_13)), (10, { os := [(1, .row 1 ((bytesI yC13_13)).length (rowF (cInt .u8) default (bytesI yC13_13)) true)], v := some (.sl 1 0 0 false ((bytesI yC13_13)).length none) })], .frz 1, .wk [] [(0, .var [.int .u8 8, .int .i64 y4, Z8_, .int .i64 yC13_7, .bool (yC13_9 == ([99, 117, 116] : List UInt8)), Z1_, Z4_, Z1_, Z1_, Z4_, Z4_, Z1_, Z1_, Z1_, Z1_, Z1_, Z1_, Z1_, Z1_, .str [], Z1_, Z1_, .nilsl, Z8_, .ds 1 ((bytesI yC13_13)).length (rowF (cInt .u8) default (bytesI yC13_13))])], .wk [(51, .ds 1 ((bytesI yC13_13)).length (rowF (cInt .u8) default (bytesI yC13_13)))] [], .wk [] [(0, .var (c_T_r27_Step (T_r27_Step.mk 8 y4 0 yC13_7 (yC13_9 == ([99, 117, 116] : List UInt8)) (T_r27_Call.mk 0 0 0 (TX.mk 0 0 0) (A8.mk 0 0 0 0 0 0 0 0) [] 0 0 ([] : List (Int))) 0 (bytesI yC13_13))))]]
     (a_ (a_ (r1_ (f_ C1 tr)) (a_ (r1_ (f_ C2 tr)) (a_ (r1_ (f_ C3 tr)) (a_ (r2_ (c_ (r27_at_tri x_w 2 yC13_5 E4) (c_ (r27_least_tri yC13_5 yC13_7 E6) (r1_ (c_ (r27_at_tri x_w 3 yC13_9 E8) (r2_ (c_ (r27_at_tri x_w 4 yC13_11 E10) (c_ (r27_text_tri yC13_11 yC13_13 E12) (a_ (a_ tr (a_ (le_bytes 1 yC13_13) (a_ (sub_bytes yC13_13) tr))) (a_ (a_ (Eq.refl true) tr) (a_ (a_ (a_ (Eq.refl 25) (a_ (le_ 25 25 rfl) (Eq.refl 0))) tr) tr))))))))))) (a_ (a_ (fz_row (enc := (cInt .u8)) (d := default) (fun _ => rfl) (bytesI yC13_13)) (a_ (fz_sl (n := ((bytesI yC13_13)).length) (m := ((bytesI yC13_13)).length) rfl) (a_ (fz_sl (n := ((bytesI yC13_13)).length) (m := ((bytesI yC13_13)).length) rfl) (a_ (fz_sl (n := ((bytesI yC13_13)).length) (m := ((bytesI yC13_13)).length) rfl) (a_ (ob_row (cInt .u8) default (bytesI yC13_13) 1 1 ((bytesI yC13_13)).length (rowF (cInt .u8) default (bytesI yC13_13)) ((bytesI yC13_13)).length (fun _ => rfl)) tr))))) (a_ (a_ tr (a_ (LO.Sub.var (lel_set [.int .u8 8, .int .i64 y4, Z8_, .int .i64 yC13_7, .bool (yC13_9 == ([99, 117, 116] : List UInt8)), Z1_, Z4_, Z1_, Z1_, Z4_, Z4_, Z1_, Z1_, Z1_, Z1_, Z1_, Z1_, Z1_, Z1_, .str [], Z1_, Z1_, .nilsl, Z8_, (.ds 1 ((bytesI yC13_13)).length (fun q => rowF (cInt .u8) default (bytesI yC13_13) (0 + q)))] 24 (.ds 1 ((bytesI yC13_13)).length (fun q => rowF (cInt .u8) default (bytesI yC13_13) (0 + q))) (.ds 1 ((bytesI yC13_13)).length (rowF (cInt .u8) default (bytesI yC13_13))) rfl (le_fz_sl (cInt .u8) 1 (d := default) (l := (bytesI yC13_13)) rfl))) tr)) (a_ (a_ (a_ (le_fz_sl (cInt .u8) 1 (d := default) (l := (bytesI yC13_13)) rfl) tr) tr) (a_ (a_ tr (a_ (LO.Sub.var (lel_set [.int .u8 8, .int .i64 y4, Z8_, .int .i64 yC13_7, .bool (yC13_9 == ([99, 117, 116] : List UInt8)), Z1_, Z4_, Z1_, Z1_, Z4_, Z4_, Z1_, Z1_, Z1_, Z1_, Z1_, Z1_, Z1_, Z1_, .str [], Z1_, Z1_, .nilsl, Z8_, .ds 1 ((bytesI yC13_13)).length (rowF (cInt .u8) default (bytesI yC13_13))] 22 .nilsl zn_ rfl (le_nil_ds 1 (rowF (cInt .u8) default [])))) tr)) tr)))))))) (a_ (a_ tr (le_ 25 25 rfl)) tr))
   ·rcases itb_some h with ⟨C4, h⟩ | ⟨C4, h⟩
    ·obtain ⟨yC13_6, E5, h⟩ := bind_some h
     obtain ⟨yC13_8, E7, h⟩ := bind_some h
     obtain rfl := si_ h
     exact rr_ [] 29 [.reg [(1, hF)], .reg [(1, hF)], .reg [(1, hF)], .reg [(1, hT)], .reg [(2, hC (r27_at_v yC13_6)), (3, hC (r27_least_v yC13_8))], .wk [] [(0, .var [.int .u8 9, .int .i64 y4, Z8_, .int .i64 yC13_8, .bool false, Z1_, Z4_, Z1_, Z1_, Z4_, Z4_, Z1_, Z1_, Z1_, Z1_, Z1_, Z1_, Z1_, Z1_, .str [], Z1_, Z1_, zn_, Z8_, .nilsl])], .wk [] [(0, .var (c_T_r27_Step (T_r27_Step.mk 9 y4 0 yC13_8 false (T_r27_Call.mk 0 0 0 (TX.mk 0 0 0) (A8.mk 0 0 0 0 0 0 0 0) [] 0 0 ([] : List (Int))) 0 ([] : List (Int)))))]]
      (a_ (a_ (r1_ (f_ C1 tr)) (a_ (r1_ (f_ C2 tr)) (a_ (r1_ (f_ C3 tr)) (a_ (r1_ (f_ C4 tr)) (a_ (r2_ (c_ (r27_at_tri x_w 2 yC13_6 E5) (c_ (r27_least_tri yC13_6 yC13_8 E7) (a_ (a_ (Eq.refl true) tr) (a_ (a_ (a_ (Eq.refl 25) (a_ (le_ 25 25 rfl) (Eq.refl 0))) tr) tr))))) (a_ (a_ tr (a_ (LO.Sub.var (lel_set [.int .u8 9, .int .i64 y4, Z8_, .int .i64 yC13_8, .bool false, Z1_, Z4_, Z1_, Z1_, Z4_, Z4_, Z1_, Z1_, Z1_, Z1_, Z1_, Z1_, Z1_, Z1_, .str [], Z1_, Z1_, .nilsl, Z8_, .nilsl] 22 .nilsl zn_ rfl (le_nil_ds 1 (rowF (cInt .u8) default [])))) tr)) (a_ (a_ tr (a_ (LO.Sub.var (lel_set [.int .u8 9, .int .i64 y4, Z8_, .int .i64 yC13_8, .bool false, Z1_, Z4_, Z1_, Z1_, Z4_, Z4_, Z1_, Z1_, Z1_, Z1_, Z1_, Z1_, Z1_, Z1_, .str [], Z1_, Z1_, zn_, Z8_, .nilsl] 24 .nilsl zn_ rfl (le_nil_ds 1 (rowF (cInt .u8) default [])))) tr)) tr))))))) (a_ (a_ tr (le_ 25 25 rfl)) tr))
    ·rcases itb_some h with ⟨C5, h⟩ | ⟨C5, h⟩
     ·obtain ⟨yC13_9, E6, h⟩ := bind_some h
      obtain ⟨yC13_12, E10, h⟩ := bind_some h
      obtain ⟨yC13_14, E13, h⟩ := bind_some h
      obtain ⟨yC13_16, E15, h⟩ := bind_some h
      obtain rfl := si_ h
      exact rr_ [] 35 [.reg [(1, hF)], .reg [(1, hF)], .reg [(1, hF)], .reg [(1, hF)], .reg [(1, hT)], .reg [(2, hC (r27_at_v yC13_9)), (3, hC (r27_value_v yC13_12)), (5, hC (r27_at_v yC13_14)), (6, hC (r27_text_v yC13_16)), (7, { os := [(1, .row 1 ((bytesI yC13_16)).length (rowF (cInt .u8) default (bytesI yC13_16)) true)], v := some (.sl 1 0 0 false ((bytesI yC13_16)).length none) })], .frz 1, .wk [] [(0, .var [.int .u8 10, .int .i64 y4, Z8_, Z8_, .bool false, Z1_, Z4_, Z1_, Z1_, Z4_, Z4_, Z1_, Z1_, Z1_, Z1_, Z1_, Z1_, Z1_, Z1_, .str [], Z1_, Z1_, .nilsl, .int .i64 yC13_12, .ds 1 ((bytesI yC13_16)).length (rowF (cInt .u8) default (bytesI yC13_16))])], .wk [(69, .ds 1 ((bytesI yC13_16)).length (rowF (cInt .u8) default (bytesI yC13_16)))] [], .wk [] [(0, .var (c_T_r27_Step (T_r27_Step.mk 10 y4 0 0 false (T_r27_Call.mk 0 0 0 (TX.mk 0 0 0) (A8.mk 0 0 0 0 0 0 0 0) [] 0 0 ([] : List (Int))) yC13_12 (bytesI yC13_16))))]]
       (a_ (a_ (r1_ (f_ C1 tr)) (a_ (r1_ (f_ C2 tr)) (a_ (r1_ (f_ C3 tr)) (a_ (r1_ (f_ C4 tr)) (a_ (r1_ (f_ C5 tr)) (a_ (r2_ (c_ (r27_at_tri x_w 2 yC13_9 E6) (c_ (r27_value_tri yC13_9 yC13_12 E10) (r1_ (c_ (r27_at_tri x_w 3 yC13_14 E13) (c_ (r27_text_tri yC13_14 yC13_16 E15) (a_ (a_ tr (a_ (le_bytes 1 yC13_16) (a_ (sub_bytes yC13_16) tr))) (a_ (a_ (Eq.refl true) tr) (a_ (a_ (a_ (Eq.refl 25) (a_ (le_ 25 25 rfl) (Eq.refl 0))) tr) tr))))))))) (a_ (a_ (fz_row (enc := (cInt .u8)) (d := default) (fun _ => rfl) (bytesI yC13_16)) (a_ (fz_sl (n := ((bytesI yC13_16)).length) (m := ((bytesI yC13_16)).length) rfl) (a_ (fz_sl (n := ((bytesI yC13_16)).length) (m := ((bytesI yC13_16)).length) rfl) (a_ (fz_sl (n := ((bytesI yC13_16)).length) (m := ((bytesI yC13_16)).length) rfl) (a_ (ob_row (cInt .u8) default (bytesI yC13_16) 1 1 ((bytesI yC13_16)).length (rowF (cInt .u8) default (bytesI yC13_16)) ((bytesI yC13_16)).length (fun _ => rfl)) tr))))) (a_ (a_ tr (a_ (LO.Sub.var (lel_set [.int .u8 10, .int .i64 y4, Z8_, Z8_, .bool false, Z1_, Z4_, Z1_, Z1_, Z4_, Z4_, Z1_, Z1_, Z1_, Z1_, Z1_, Z1_, Z1_, Z1_, .str [], Z1_, Z1_, .nilsl, .int .i64 yC13_12, (.ds 1 ((bytesI yC13_16)).length (fun q => rowF (cInt .u8) default (bytesI yC13_16) (0 + q)))] 24 (.ds 1 ((bytesI yC13_16)).length (fun q => rowF (cInt .u8) default (bytesI yC13_16) (0 + q))) (.ds 1 ((bytesI yC13_16)).length (rowF (cInt .u8) default (bytesI yC13_16))) rfl (le_fz_sl (cInt .u8) 1 (d := default) (l := (bytesI yC13_16)) rfl))) tr)) (a_ (a_ (a_ (le_fz_sl (cInt .u8) 1 (d := default) (l := (bytesI yC13_16)) rfl) tr) tr) (a_ (a_ tr (a_ (LO.Sub.var (lel_set [.int .u8 10, .int .i64 y4, Z8_, Z8_, .bool false, Z1_, Z4_, Z1_, Z1_, Z4_, Z4_, Z1_, Z1_, Z1_, Z1_, Z1_, Z1_, Z1_, Z1_, .str [], Z1_, Z1_, .nilsl, .int .i64 yC13_12, .ds 1 ((bytesI yC13_16)).length (rowF (cInt .u8) default (bytesI yC13_16))] 22 .nilsl zn_ rfl (le_nil_ds 1 (rowF (cInt .u8) default [])))) tr)) tr)))))))))) (a_ (a_ tr (le_ 25 25 rfl)) tr))
     ·obtain rfl := si_ h
      exact rr_ [] 35 [.reg [(1, hF)], .reg [(1, hF)], .reg [(1, hF)], .reg [(1, hF)], .reg [(1, hF)], .reg [], .wk [] [(0, .var [Z1_, Z8_, Z8_, Z8_, .bool false, Z1_, Z4_, Z1_, Z1_, Z4_, Z4_, Z1_, Z1_, Z1_, Z1_, Z1_, Z1_, Z1_, Z1_, .str [], Z1_, Z1_, zn_, Z8_, .nilsl])], .wk [] [(0, .var (c_T_r27_Step (T_r27_Step.mk 0 0 0 0 false (T_r27_Call.mk 0 0 0 (TX.mk 0 0 0) (A8.mk 0 0 0 0 0 0 0 0) [] 0 0 ([] : List (Int))) 0 ([] : List (Int)))))]]
       (a_ (a_ (r1_ (f_ C1 tr)) (a_ (r1_ (f_ C2 tr)) (a_ (r1_ (f_ C3 tr)) (a_ (r1_ (f_ C4 tr)) (a_ (r1_ (f_ C5 tr)) (a_ (a_ (a_ (Eq.refl true) tr) (a_ (a_ (a_ (Eq.refl 25) (a_ (le_ 25 25 rfl) (Eq.refl 0))) tr) tr)) (a_ (a_ tr (a_ (LO.Sub.var (lel_set [Z1_, Z8_, Z8_, Z8_, .bool false, Z1_, Z4_, Z1_, Z1_, Z4_, Z4_, Z1_, Z1_, Z1_, Z1_, Z1_, Z1_, Z1_, Z1_, .str [], Z1_, Z1_, .nilsl, Z8_, .nilsl] 22 .nilsl zn_ rfl (le_nil_ds 1 (rowF (cInt .u8) default [])))) tr)) (a_ (a_ tr (a_ (LO.Sub.var (lel_set [Z1_, Z8_, Z8_, Z8_, .bool false, Z1_, Z4_, Z1_, Z1_, Z4_, Z4_, Z1_, Z1_, Z1_, Z1_, Z1_, Z1_, Z1_, Z1_, .str [], Z1_, Z1_, zn_, Z8_, .nilsl] 24 .nilsl zn_ rfl (le_nil_ds 1 (rowF (cInt .u8) default [])))) tr)) tr)))))))) (a_ (a_ tr (le_ 25 25 rfl)) tr))
theorem r27_guess_ok (x_w : List (List UInt8)) (r : (T_r27_Step)) (h : r27_guess x_w = some r) : ∀ σ, Inj 0 σ → FnTri Tryz.prog 19 (renL σ [.ds 1 (x_w).length (rowF cStr default x_w)]) (preOf σ 0 []) ((r27_guess_v r).ren σ) (upOf σ []) := by
 refine fo_ Tryz.func19 trivial trivial ?_
 intro w0 W μ0 hμ
 unfold r27_guess at h
 obtain ⟨y2, e1, h⟩ := bind_some h
 obtain ⟨y4, e3, h⟩ := bind_some h
 obtain ⟨y6, e5, h⟩ := bind_some h
 rcases itb_some h with ⟨c7, h⟩ | ⟨c7, h⟩
 ·obtain ⟨y9, e8, h⟩ := bind_some h
  obtain rfl := si_ h
  exact rr_ [] 28 [.reg [], .reg [(1, hC (r27_at_v y2)), (2, hC (r27_value_v y4))], .reg [(1, hC (r27_at_v y6))], .reg [(1, hT)], .reg [(2, hC (r27_asked_v y9))], .wk [] [(0, .var (c_T_r27_Step (T_r27_Step.mk 1 y4 0 0 false y9 0 ([] : List (Int)))))]]
   (a_ (a_ (r1_ tr) (a_ (r1_ (c_ (r27_at_tri x_w 1 y2 e1) (c_ (r27_value_tri y2 y4 e3) (r1_ tr)))) (a_ (r1_ (c_ (r27_at_tri x_w 0 y6 e5) tr)) (a_ (r1_ (f_ c7 tr)) (a_ (r2_ (c_ (r27_asked_tri x_w y9 e8) (a_ (a_ (Eq.refl true) tr) (a_ (a_ (a_ (Eq.refl 25) (a_ (le_ 25 25 rfl) (Eq.refl 0))) tr) tr)))) (a_ (a_ tr (a_ (LO.Sub.var (lel_set [.int .u8 1, .int .i64 y4, Z8_, Z8_, .bool false, .int .u8 y9.f_Client, .int .u32 y9.f_Seq, .int .u8 y9.f_Kind, .int .u8 y9.f_Tx.f_Node, .int .u32 y9.f_Tx.f_Boot, .int .u32 y9.f_Tx.f_Num, .int .u8 y9.f_Key.a0, .int .u8 y9.f_Key.a1, .int .u8 y9.f_Key.a2, .int .u8 y9.f_Key.a3, .int .u8 y9.f_Key.a4, .int .u8 y9.f_Key.a5, .int .u8 y9.f_Key.a6, .int .u8 y9.f_Key.a7, .str y9.f_Value, .int .u8 y9.f_R, .int .u8 y9.f_W, .ds 1 (y9.f_Votes).length (rowF (cInt .u8) default y9.f_Votes), Z8_, .nilsl] 24 .nilsl zn_ rfl (le_nil_ds 1 (rowF (cInt .u8) default [])))) tr)) tr)))))) (a_ (a_ tr (le_ 25 25 rfl)) tr))
 ·rcases itb_some h with ⟨c8, h⟩ | ⟨c8, h⟩
  ·obtain rfl := si_ h
   exact rr_ [] 33 [.reg [], .reg [(1, hC (r27_at_v y2)), (2, hC (r27_value_v y4))], .reg [(1, hC (r27_at_v y6))], .reg [(1, hF)], .reg [(1, hT)], .reg [], .wk [] [(0, .var [.int .u8 2, Z8_, .int .i64 y4, Z8_, .bool false, Z1_, Z4_, Z1_, Z1_, Z4_, Z4_, Z1_, Z1_, Z1_, Z1_, Z1_, Z1_, Z1_, Z1_, .str [], Z1_, Z1_, zn_, Z8_, .nilsl])], .wk [] [(0, .var (c_T_r27_Step (T_r27_Step.mk 2 0 y4 0 false (T_r27_Call.mk 0 0 0 (TX.mk 0 0 0) (A8.mk 0 0 0 0 0 0 0 0) [] 0 0 ([] : List (Int))) 0 ([] : List (Int)))))]]
    (a_ (a_ (r1_ tr) (a_ (r1_ (c_ (r27_at_tri x_w 1 y2 e1) (c_ (r27_value_tri y2 y4 e3) (r1_ tr)))) (a_ (r1_ (c_ (r27_at_tri x_w 0 y6 e5) tr)) (a_ (r1_ (f_ c7 tr)) (a_ (r1_ (f_ c8 tr)) (a_ (r1_ (a_ (a_ (Eq.refl true) tr) (a_ (a_ (a_ (Eq.refl 25) (a_ (le_ 25 25 rfl) (Eq.refl 0))) tr) tr))) (a_ (a_ tr (a_ (LO.Sub.var (lel_set [.int .u8 2, Z8_, .int .i64 y4, Z8_, .bool false, Z1_, Z4_, Z1_, Z1_, Z4_, Z4_, Z1_, Z1_, Z1_, Z1_, Z1_, Z1_, Z1_, Z1_, .str [], Z1_, Z1_, .nilsl, Z8_, .nilsl] 22 .nilsl zn_ rfl (le_nil_ds 1 (rowF (cInt .u8) default [])))) tr)) (a_ (a_ tr (a_ (LO.Sub.var (lel_set [.int .u8 2, Z8_, .int .i64 y4, Z8_, .bool false, Z1_, Z4_, Z1_, Z1_, Z4_, Z4_, Z1_, Z1_, Z1_, Z1_, Z1_, Z1_, Z1_, Z1_, .str [], Z1_, Z1_, zn_, Z8_, .nilsl] 24 .nilsl zn_ rfl (le_nil_ds 1 (rowF (cInt .u8) default [])))) tr)) tr)))))))) (a_ (a_ tr (le_ 25 25 rfl)) tr))
  ·rcases itb_some h with ⟨c9, h⟩ | ⟨c9, h⟩
   ·obtain rfl := si_ h
    exact rr_ [] 37 [.reg [], .reg [(1, hC (r27_at_v y2)), (2, hC (r27_value_v y4))], .reg [(1, hC (r27_at_v y6))], .reg [(1, hF)], .reg [(1, hF)], .reg [(1, hT)], .reg [], .wk [] [(0, .var [.int .u8 3, Z8_, .int .i64 y4, Z8_, .bool false, Z1_, Z4_, Z1_, Z1_, Z4_, Z4_, Z1_, Z1_, Z1_, Z1_, Z1_, Z1_, Z1_, Z1_, .str [], Z1_, Z1_, zn_, Z8_, .nilsl])], .wk [] [(0, .var (c_T_r27_Step (T_r27_Step.mk 3 0 y4 0 false (T_r27_Call.mk 0 0 0 (TX.mk 0 0 0) (A8.mk 0 0 0 0 0 0 0 0) [] 0 0 ([] : List (Int))) 0 ([] : List (Int)))))]]
     (a_ (a_ (r1_ tr) (a_ (r1_ (c_ (r27_at_tri x_w 1 y2 e1) (c_ (r27_value_tri y2 y4 e3) (r1_ tr)))) (a_ (r1_ (c_ (r27_at_tri x_w 0 y6 e5) tr)) (a_ (r1_ (f_ c7 tr)) (a_ (r1_ (f_ c8 tr)) (a_ (r1_ (f_ c9 tr)) (a_ (r1_ (a_ (a_ (Eq.refl true) tr) (a_ (a_ (a_ (Eq.refl 25) (a_ (le_ 25 25 rfl) (Eq.refl 0))) tr) tr))) (a_ (a_ tr (a_ (LO.Sub.var (lel_set [.int .u8 3, Z8_, .int .i64 y4, Z8_, .bool false, Z1_, Z4_, Z1_, Z1_, Z4_, Z4_, Z1_, Z1_, Z1_, Z1_, Z1_, Z1_, Z1_, Z1_, .str [], Z1_, Z1_, .nilsl, Z8_, .nilsl] 22 .nilsl zn_ rfl (le_nil_ds 1 (rowF (cInt .u8) default [])))) tr)) (a_ (a_ tr (a_ (LO.Sub.var (lel_set [.int .u8 3, Z8_, .int .i64 y4, Z8_, .bool false, Z1_, Z4_, Z1_, Z1_, Z4_, Z4_, Z1_, Z1_, Z1_, Z1_, Z1_, Z1_, Z1_, Z1_, .str [], Z1_, Z1_, zn_, Z8_, .nilsl] 24 .nilsl zn_ rfl (le_nil_ds 1 (rowF (cInt .u8) default [])))) tr)) tr))))))))) (a_ (a_ tr (le_ 25 25 rfl)) tr))
   ·rcases itb_some h with ⟨c10, h⟩ | ⟨c10, h⟩
    ·obtain rfl := si_ h
     exact rr_ [] 41 [.reg [], .reg [(1, hC (r27_at_v y2)), (2, hC (r27_value_v y4))], .reg [(1, hC (r27_at_v y6))], .reg [(1, hF)], .reg [(1, hF)], .reg [(1, hF)], .reg [(1, hT)], .reg [], .wk [] [(0, .var [.int .u8 4, Z8_, .int .i64 y4, Z8_, .bool false, Z1_, Z4_, Z1_, Z1_, Z4_, Z4_, Z1_, Z1_, Z1_, Z1_, Z1_, Z1_, Z1_, Z1_, .str [], Z1_, Z1_, zn_, Z8_, .nilsl])], .wk [] [(0, .var (c_T_r27_Step (T_r27_Step.mk 4 0 y4 0 false (T_r27_Call.mk 0 0 0 (TX.mk 0 0 0) (A8.mk 0 0 0 0 0 0 0 0) [] 0 0 ([] : List (Int))) 0 ([] : List (Int)))))]]
      (a_ (a_ (r1_ tr) (a_ (r1_ (c_ (r27_at_tri x_w 1 y2 e1) (c_ (r27_value_tri y2 y4 e3) (r1_ tr)))) (a_ (r1_ (c_ (r27_at_tri x_w 0 y6 e5) tr)) (a_ (r1_ (f_ c7 tr)) (a_ (r1_ (f_ c8 tr)) (a_ (r1_ (f_ c9 tr)) (a_ (r1_ (f_ c10 tr)) (a_ (r1_ (a_ (a_ (Eq.refl true) tr) (a_ (a_ (a_ (Eq.refl 25) (a_ (le_ 25 25 rfl) (Eq.refl 0))) tr) tr))) (a_ (a_ tr (a_ (LO.Sub.var (lel_set [.int .u8 4, Z8_, .int .i64 y4, Z8_, .bool false, Z1_, Z4_, Z1_, Z1_, Z4_, Z4_, Z1_, Z1_, Z1_, Z1_, Z1_, Z1_, Z1_, Z1_, .str [], Z1_, Z1_, .nilsl, Z8_, .nilsl] 22 .nilsl zn_ rfl (le_nil_ds 1 (rowF (cInt .u8) default [])))) tr)) (a_ (a_ tr (a_ (LO.Sub.var (lel_set [.int .u8 4, Z8_, .int .i64 y4, Z8_, .bool false, Z1_, Z4_, Z1_, Z1_, Z4_, Z4_, Z1_, Z1_, Z1_, Z1_, Z1_, Z1_, Z1_, Z1_, .str [], Z1_, Z1_, zn_, Z8_, .nilsl] 24 .nilsl zn_ rfl (le_nil_ds 1 (rowF (cInt .u8) default [])))) tr)) tr)))))))))) (a_ (a_ tr (le_ 25 25 rfl)) tr))
    ·rcases itb_some h with ⟨c11, h⟩ | ⟨c11, h⟩
     ·exact rt_ hμ [0] 41 [.reg [], .reg [(1, hC (r27_at_v y2)), (2, hC (r27_value_v y4))], .reg [(1, hC (r27_at_v y6))], .reg [(1, hF)], .reg [(1, hF)], .reg [(1, hF)], .reg [(1, hF)], .reg [(1, hT)]]
       (a_ (r1_ tr) (a_ (r1_ (c_ (r27_at_tri x_w 1 y2 e1) (c_ (r27_value_tri y2 y4 e3) (r1_ tr)))) (a_ (r1_ (c_ (r27_at_tri x_w 0 y6 e5) tr)) (a_ (r1_ (f_ c7 tr)) (a_ (r1_ (f_ c8 tr)) (a_ (r1_ (f_ c9 tr)) (a_ (r1_ (f_ c10 tr)) (a_ (r1_ (f_ c11 tr)) tr)))))))) (r27_guess_c12_ok hμ y4   r h) ⟨rfl, trivial⟩
     ·exact rt_ hμ [0] 41 [.reg [], .reg [(1, hC (r27_at_v y2)), (2, hC (r27_value_v y4))], .reg [(1, hC (r27_at_v y6))], .reg [(1, hF)], .reg [(1, hF)], .reg [(1, hF)], .reg [(1, hF)], .reg [(1, hF)]]
       (a_ (r1_ tr) (a_ (r1_ (c_ (r27_at_tri x_w 1 y2 e1) (c_ (r27_value_tri y2 y4 e3) (r1_ tr)))) (a_ (r1_ (c_ (r27_at_tri x_w 0 y6 e5) tr)) (a_ (r1_ (f_ c7 tr)) (a_ (r1_ (f_ c8 tr)) (a_ (r1_ (f_ c9 tr)) (a_ (r1_ (f_ c10 tr)) (a_ (r1_ (f_ c11 tr)) tr)))))))) (r27_guess_c13_ok hμ x_w y4 y6   r h) ⟨rfl, trivial⟩
theorem r27_guess_tri (x_w : List (List UInt8)) (r : (T_r27_Step)) (h : r27_guess x_w = some r) : FnTri Tryz.prog 19 [.ds 1 (x_w).length (rowF cStr default x_w)] [] (r27_guess_v r) [] := FnTri.none (r27_guess_ok x_w r h) rfl rfl
/-- parrel/parrelref27.kept -/
def r27_kept_v (r : (T_r27_Step)) : LV := v_T_r27_Step r
def r27_kept_T1000019 (s : T_r27_Step)  : List LV := .any :: .any :: (.ptr 0 0 0) :: (.ptr 1 0 0) :: n_ 62 []
def r27_kept_H1000019 (s : T_r27_Step)  : Heap := [some (.var [Z1_, Z8_, Z8_, Z8_, .bool false, Z1_, Z4_, Z1_, Z1_, Z4_, Z4_, Z1_, Z1_, Z1_, Z1_, Z1_, Z1_, Z1_, Z1_, .str [], Z1_, Z1_, .nilsl, Z8_, .nilsl]), some (.var [.int .u8 s.f_Kind, Z8_, .int .i64 s.f_Wire, Z8_, .bool false, Z1_, Z4_, Z1_, Z1_, Z4_, Z4_, Z1_, Z1_, Z1_, Z1_, Z1_, Z1_, Z1_, Z1_, .str [], Z1_, Z1_, .nilsl, Z8_, .nilsl])]
def r27_kept_T1001019 (s : T_r27_Step)  : List LV := .any :: .any :: (.ptr 0 0 0) :: (.ptr 1 0 0) :: n_ 62 []
def r27_kept_H1001019 (s : T_r27_Step)  : Heap := [some (.var [Z1_, Z8_, Z8_, Z8_, .bool false, Z1_, Z4_, Z1_, Z1_, Z4_, Z4_, Z1_, Z1_, Z1_, Z1_, Z1_, Z1_, Z1_, Z1_, .str [], Z1_, Z1_, .nilsl, Z8_, .nilsl]), some (.var [.int .u8 s.f_Kind, .int .i64 s.f_Node, Z8_, Z8_, .bool false, Z1_, Z4_, Z1_, Z1_, Z4_, Z4_, Z1_, Z1_, Z1_, Z1_, Z1_, Z1_, Z1_, Z1_, .str [], Z1_, Z1_, .nilsl, Z8_, .nilsl])]
def r27_kept_T1000014 (s : T_r27_Step)  : List LV := .any :: (.ptr 0 0 0) :: (.ptr 1 0 0) :: (.ptr 2 0 0) :: n_ 62 []
def r27_kept_H1000014 (s : T_r27_Step)  : Heap := [some (.var (c_T_r27_Step s)), some (.var [Z1_, Z8_, Z8_, Z8_, .bool false, Z1_, Z4_, Z1_, Z1_, Z4_, Z4_, Z1_, Z1_, Z1_, Z1_, Z1_, Z1_, Z1_, Z1_, .str [], Z1_, Z1_, .nilsl, Z8_, .nilsl]), some (.var [.int .u8 s.f_Kind, Z8_, Z8_, Z8_, .bool false, Z1_, Z4_, Z1_, Z1_, Z4_, Z4_, Z1_, Z1_, Z1_, Z1_, Z1_, Z1_, Z1_, Z1_, .str [], Z1_, Z1_, .nilsl, Z8_, .nilsl])]
def r27_kept_T1000015 (s : T_r27_Step)  : List LV := .any :: (.ptr 0 0 0) :: (.ptr 1 0 0) :: (.ptr 2 0 0) :: n_ 4 ((.int .u8 s.f_Kind) :: n_ 57 [])
def r27_kept_H1000015 (s : T_r27_Step)  : Heap := [some (.var (c_T_r27_Step s)), some (.var [Z1_, Z8_, Z8_, Z8_, .bool false, Z1_, Z4_, Z1_, Z1_, Z4_, Z4_, Z1_, Z1_, Z1_, Z1_, Z1_, Z1_, Z1_, Z1_, .str [], Z1_, Z1_, .nilsl, Z8_, .nilsl]), some (.var [.int .u8 s.f_Kind, Z8_, Z8_, Z8_, .bool false, Z1_, Z4_, Z1_, Z1_, Z4_, Z4_, Z1_, Z1_, Z1_, Z1_, Z1_, Z1_, Z1_, Z1_, .str [], Z1_, Z1_, .nilsl, Z8_, .nilsl])]
def r27_kept_c19 (s : T_r27_Step)   : Option ((T_r27_Step)) :=
 some (T_r27_Step.mk s.f_Kind 0 s.f_Wire 0 false (T_r27_Call.mk 0 0 0 (TX.mk 0 0 0) (A8.mk 0 0 0 0 0 0 0 0) [] 0 0 ([] : List (Int))) 0 ([] : List (Int)))
def r27_kept_c1019 (s : T_r27_Step)   : Option ((T_r27_Step)) :=
 some (T_r27_Step.mk s.f_Kind s.f_Node 0 0 false (T_r27_Call.mk 0 0 0 (TX.mk 0 0 0) (A8.mk 0 0 0 0 0 0 0 0) [] 0 0 ([] : List (Int))) 0 ([] : List (Int)))
def r27_kept_c14 (s : T_r27_Step)   : Option ((T_r27_Step)) :=
 some (T_r27_Step.mk s.f_Kind s.f_Node 0 s.f_N s.f_Cut (T_r27_Call.mk 0 0 0 (TX.mk 0 0 0) (A8.mk 0 0 0 0 0 0 0 0) [] 0 0 ([] : List (Int))) 0 s.f_Bytes)
def r27_kept_c15 (s : T_r27_Step)   : Option ((T_r27_Step)) :=
 if ((s.f_Kind == 9) : Bool) then
  some (T_r27_Step.mk s.f_Kind s.f_Node 0 s.f_N false (T_r27_Call.mk 0 0 0 (TX.mk 0 0 0) (A8.mk 0 0 0 0 0 0 0 0) [] 0 0 ([] : List (Int))) 0 ([] : List (Int)))
 else
  if ((s.f_Kind == 10) : Bool) then
   some (T_r27_Step.mk s.f_Kind s.f_Node 0 0 false (T_r27_Call.mk 0 0 0 (TX.mk 0 0 0) (A8.mk 0 0 0 0 0 0 0 0) [] 0 0 ([] : List (Int))) s.f_To s.f_Bytes)
  else
   some (T_r27_Step.mk s.f_Kind 0 0 0 false (T_r27_Call.mk 0 0 0 (TX.mk 0 0 0) (A8.mk 0 0 0 0 0 0 0 0) [] 0 0 ([] : List (Int))) 0 ([] : List (Int)))
def r27_kept (s : T_r27_Step) : Option ((T_r27_Step)) :=
 if ((s.f_Kind == 1) : Bool) then
  (r27_call s.f_Call).bind fun y3 =>
  some (T_r27_Step.mk s.f_Kind s.f_Node 0 0 false y3 0 ([] : List (Int)))
 else
  if ((s.f_Kind == 2) : Bool) then
   some (T_r27_Step.mk s.f_Kind 0 s.f_Wire 0 false (T_r27_Call.mk 0 0 0 (TX.mk 0 0 0) (A8.mk 0 0 0 0 0 0 0 0) [] 0 0 ([] : List (Int))) 0 ([] : List (Int)))
  else
   if ((s.f_Kind == 3) : Bool) then
    some (T_r27_Step.mk s.f_Kind 0 s.f_Wire 0 false (T_r27_Call.mk 0 0 0 (TX.mk 0 0 0) (A8.mk 0 0 0 0 0 0 0 0) [] 0 0 ([] : List (Int))) 0 ([] : List (Int)))
   else
    if ((s.f_Kind == 4) : Bool) then
     some (T_r27_Step.mk s.f_Kind 0 s.f_Wire 0 false (T_r27_Call.mk 0 0 0 (TX.mk 0 0 0) (A8.mk 0 0 0 0 0 0 0 0) [] 0 0 ([] : List (Int))) 0 ([] : List (Int)))
    else
     if ((s.f_Kind == 5) : Bool) then
      r27_kept_c19 s  
     else
      if ((s.f_Kind == 6) : Bool) then
       r27_kept_c1019 s  
      else
       if ((s.f_Kind == 7) : Bool) then
        r27_kept_c1019 s  
       else
        if ((s.f_Kind == 8) : Bool) then
         r27_kept_c14 s  
        else
         r27_kept_c15 s  
theorem r27_kept_c19_ok {w0 : World} {W : Nat → Prop} {μ0 : Emb} (hμ : ∀ c p, μ0 c = some p → c < 0) (s : T_r27_Step)   (r : (T_r27_Step)) (h : r27_kept_c19 s   = some r) : kont Tryz.prog w0 W μ0 (FnPost Tryz.prog Tryz.f77 0 0 (r27_kept_v r) []) (kAtR (bodyOf Tryz.f77) 19) none (r27_kept_T1000019 s ) (r27_kept_H1000019 s ) := by
 unfold r27_kept_c19 at h
 obtain rfl := si_ h
 exact rr_ [] 13 [.reg [], .wk [] [(0, .var [.int .u8 s.f_Kind, Z8_, .int .i64 s.f_Wire, Z8_, .bool false, Z1_, Z4_, Z1_, Z1_, Z4_, Z4_, Z1_, Z1_, Z1_, Z1_, Z1_, Z1_, Z1_, Z1_, .str [], Z1_, Z1_, zn_, Z8_, .nilsl])], .wk [] [(0, .var (c_T_r27_Step (T_r27_Step.mk s.f_Kind 0 s.f_Wire 0 false (T_r27_Call.mk 0 0 0 (TX.mk 0 0 0) (A8.mk 0 0 0 0 0 0 0 0) [] 0 0 ([] : List (Int))) 0 ([] : List (Int)))))]]
  (a_ (a_ (m_ 25 25 rfl (a_ (a_ (a_ (Eq.refl 25) (a_ (le_ 25 25 rfl) (Eq.refl 0))) tr) tr)) (a_ (a_ tr (a_ (LO.Sub.var (lel_set [.int .u8 s.f_Kind, Z8_, .int .i64 s.f_Wire, Z8_, .bool false, Z1_, Z4_, Z1_, Z1_, Z4_, Z4_, Z1_, Z1_, Z1_, Z1_, Z1_, Z1_, Z1_, Z1_, .str [], Z1_, Z1_, .nilsl, Z8_, .nilsl] 22 .nilsl zn_ rfl (le_nil_ds 1 (rowF (cInt .u8) default [])))) tr)) (a_ (a_ tr (a_ (LO.Sub.var (lel_set [.int .u8 s.f_Kind, Z8_, .int .i64 s.f_Wire, Z8_, .bool false, Z1_, Z4_, Z1_, Z1_, Z4_, Z4_, Z1_, Z1_, Z1_, Z1_, Z1_, Z1_, Z1_, Z1_, .str [], Z1_, Z1_, zn_, Z8_, .nilsl] 24 .nilsl zn_ rfl (le_nil_ds 1 (rowF (cInt .u8) default [])))) tr)) tr))) (a_ (a_ tr (le_ 25 25 rfl)) tr))
theorem r27_kept_c1019_ok {w0 : World} {W : Nat → Prop} {μ0 : Emb} (hμ : ∀ c p, μ0 c = some p → c < 0) (s : T_r27_Step)   (r : (T_r27_Step)) (h : r27_kept_c1019 s   = some r) : kont Tryz.prog w0 W μ0 (FnPost Tryz.prog Tryz.f77 0 0 (r27_kept_v r) []) (kAtR (bodyOf Tryz.f77) 19) none (r27_kept_T1001019 s ) (r27_kept_H1001019 s ) := by
 unfold r27_kept_c1019 at h
 obtain rfl := si_ h
 exact rr_ [] 13 [.reg [], .wk [] [(0, .var [.int .u8 s.f_Kind, .int .i64 s.f_Node, Z8_, Z8_, .bool false, Z1_, Z4_, Z1_, Z1_, Z4_, Z4_, Z1_, Z1_, Z1_, Z1_, Z1_, Z1_, Z1_, Z1_, .str [], Z1_, Z1_, zn_, Z8_, .nilsl])], .wk [] [(0, .var (c_T_r27_Step (T_r27_Step.mk s.f_Kind s.f_Node 0 0 false (T_r27_Call.mk 0 0 0 (TX.mk 0 0 0) (A8.mk 0 0 0 0 0 0 0 0) [] 0 0 ([] : List (Int))) 0 ([] : List (Int)))))]]
  (a_ (a_ (m_ 25 25 rfl (a_ (a_ (a_ (Eq.refl 25) (a_ (le_ 25 25 rfl) (Eq.refl 0))) tr) tr)) (a_ (a_ tr (a_ (LO.Sub.var (lel_set [.int .u8 s.f_Kind, .int .i64 s.f_Node, Z8_, Z8_, .bool false, Z1_, Z4_, Z1_, Z1_, Z4_, Z4_, Z1_, Z1_, Z1_, Z1_, Z1_, Z1_, Z1_, Z1_, .str [], Z1_, Z1_, .nilsl, Z8_, .nilsl] 22 .nilsl zn_ rfl (le_nil_ds 1 (rowF (cInt .u8) default [])))) tr)) (a_ (a_ tr (a_ (LO.Sub.var (lel_set [.int .u8 s.f_Kind, .int .i64 s.f_Node, Z8_, Z8_, .bool false, Z1_, Z4_, Z1_, Z1_, Z4_, Z4_, Z1_, Z1_, Z1_, Z1_, Z1_, Z1_, Z1_, Z1_, .str [], Z1_, Z1_, zn_, Z8_, .nilsl] 24 .nilsl zn_ rfl (le_nil_ds 1 (rowF (cInt .u8) default [])))) tr)) tr))) (a_ (a_ tr (le_ 25 25 rfl)) tr))
theorem r27_kept_c14_ok {w0 : World} {W : Nat → Prop} {μ0 : Emb} (hμ : ∀ c p, μ0 c = some p → c < 0) (s : T_r27_Step)   (r : (T_r27_Step)) (h : r27_kept_c14 s   = some r) : kont Tryz.prog w0 W μ0 (FnPost Tryz.prog Tryz.f77 0 0 (r27_kept_v r) []) (kAtR (bodyOf Tryz.f77) 14) none (r27_kept_T1000014 s ) (r27_kept_H1000014 s ) := by
 unfold r27_kept_c14 at h
 obtain rfl := si_ h
 exact rr_ [] 16 [.reg [], .reg [], .wk [] [(1, .var (c_T_r27_Step (T_r27_Step.mk s.f_Kind s.f_Node 0 s.f_N s.f_Cut (T_r27_Call.mk 0 0 0 (TX.mk 0 0 0) (A8.mk 0 0 0 0 0 0 0 0) [] 0 0 ([] : List (Int))) 0 s.f_Bytes)))]]
  (a_ (a_ (r1_ (l_ 1 25 rfl (r1_ (l_ 3 25 rfl (r1_ (l_ 4 25 rfl (r1_ (l_ 24 25 rfl (r1_ (a_ (a_ (a_ (Eq.refl 1) (a_ (le_ 2 25 rfl) (Eq.refl 0))) tr) (r1_ (a_ (a_ (a_ (Eq.refl 1) (a_ (le_ 4 25 rfl) (Eq.refl 0))) tr) (r1_ (a_ (a_ (a_ (Eq.refl 1) (a_ (le_ 5 25 rfl) (Eq.refl 0))) tr) (r1_ (a_ (a_ (a_ (Eq.refl 1) (a_ (le_ 25 25 rfl) (Eq.refl 0))) tr) tr)))))))))))))))) (a_ (m_ 25 25 rfl (a_ (a_ (a_ (Eq.refl 25) (a_ (le_ 25 25 rfl) (Eq.refl 0))) tr) tr)) (a_ (a_ tr (a_ (LO.Sub.var (lel_set [.int .u8 s.f_Kind, .int .i64 s.f_Node, Z8_, .int .i64 s.f_N, .bool s.f_Cut, Z1_, Z4_, Z1_, Z1_, Z4_, Z4_, Z1_, Z1_, Z1_, Z1_, Z1_, Z1_, Z1_, Z1_, .str [], Z1_, Z1_, .nilsl, Z8_, .ds 1 (s.f_Bytes).length (rowF (cInt .u8) default s.f_Bytes)] 22 .nilsl zn_ rfl (le_nil_ds 1 (rowF (cInt .u8) default [])))) tr)) tr))) (a_ (a_ tr (le_ 25 25 rfl)) tr))
theorem r27_kept_c15_ok {w0 : World} {W : Nat → Prop} {μ0 : Emb} (hμ : ∀ c p, μ0 c = some p → c < 0) (s : T_r27_Step)   (r : (T_r27_Step)) (h : r27_kept_c15 s   = some r) : kont Tryz.prog w0 W μ0 (FnPost Tryz.prog Tryz.f77 0 0 (r27_kept_v r) []) (kAtR (bodyOf Tryz.f77) 15) none (r27_kept_T1000015 s ) (r27_kept_H1000015 s ) := by
 unfold r27_kept_c15 at h
 rcases itb_some h with ⟨C1, h⟩ | ⟨C1, h⟩
 ·obtain rfl := si_ h
  exact rr_ [] 20 [.reg [(1, hT)], .reg [], .reg [], .wk [] [(1, .var [.int .u8 s.f_Kind, .int .i64 s.f_Node, Z8_, .int .i64 s.f_N, .bool false, Z1_, Z4_, Z1_, Z1_, Z4_, Z4_, Z1_, Z1_, Z1_, Z1_, Z1_, Z1_, Z1_, Z1_, .str [], Z1_, Z1_, zn_, Z8_, .nilsl])], .wk [] [(1, .var (c_T_r27_Step (T_r27_Step.mk s.f_Kind s.f_Node 0 s.f_N false (T_r27_Call.mk 0 0 0 (TX.mk 0 0 0) (A8.mk 0 0 0 0 0 0 0 0) [] 0 0 ([] : List (Int))) 0 ([] : List (Int)))))]]
   (a_ (a_ (r1_ (f_ C1 tr)) (a_ (r1_ (l_ 1 25 rfl (r1_ (l_ 3 25 rfl (r1_ (a_ (a_ (a_ (Eq.refl 1) (a_ (le_ 2 25 rfl) (Eq.refl 0))) tr) (r1_ (a_ (a_ (a_ (Eq.refl 1) (a_ (le_ 4 25 rfl) (Eq.refl 0))) tr) tr)))))))) (a_ (m_ 25 25 rfl (a_ (a_ (a_ (Eq.refl 25) (a_ (le_ 25 25 rfl) (Eq.refl 0))) tr) tr)) (a_ (a_ tr (a_ (LO.Sub.var (lel_set [.int .u8 s.f_Kind, .int .i64 s.f_Node, Z8_, .int .i64 s.f_N, .bool false, Z1_, Z4_, Z1_, Z1_, Z4_, Z4_, Z1_, Z1_, Z1_, Z1_, Z1_, Z1_, Z1_, Z1_, .str [], Z1_, Z1_, .nilsl, Z8_, .nilsl] 22 .nilsl zn_ rfl (le_nil_ds 1 (rowF (cInt .u8) default [])))) tr)) (a_ (a_ tr (a_ (LO.Sub.var (lel_set [.int .u8 s.f_Kind, .int .i64 s.f_Node, Z8_, .int .i64 s.f_N, .bool false, Z1_, Z4_, Z1_, Z1_, Z4_, Z4_, Z1_, Z1_, Z1_, Z1_, Z1_, Z1_, Z1_, Z1_, .str [], Z1_, Z1_, zn_, Z8_, .nilsl] 24 .nilsl zn_ rfl (le_nil_ds 1 (rowF (cInt .u8) default [])))) tr)) tr))))) (a_ (a_ tr (le_ 25 25 rfl)) tr))
 ·rcases itb_some h with ⟨C2, h⟩ | ⟨C2, h⟩
  ·obtain rfl := si_ h
   exact rr_ [] 23 [.reg [(1, hF)], .reg [(1, hT)], .reg [], .reg [], .wk [] [(1, .var (c_T_r27_Step (T_r27_Step.mk s.f_Kind s.f_Node 0 0 false (T_r27_Call.mk 0 0 0 (TX.mk 0 0 0) (A8.mk 0 0 0 0 0 0 0 0) [] 0 0 ([] : List (Int))) s.f_To s.f_Bytes)))]]
    (a_ (a_ (r1_ (f_ C1 tr)) (a_ (r1_ (f_ C2 tr)) (a_ (r1_ (l_ 1 25 rfl (r1_ (l_ 23 25 rfl (r1_ (l_ 24 25 rfl (r1_ (a_ (a_ (a_ (Eq.refl 1) (a_ (le_ 2 25 rfl) (Eq.refl 0))) tr) (r1_ (a_ (a_ (a_ (Eq.refl 1) (a_ (le_ 24 25 rfl) (Eq.refl 0))) tr) (r1_ (a_ (a_ (a_ (Eq.refl 1) (a_ (le_ 25 25 rfl) (Eq.refl 0))) tr) tr)))))))))))) (a_ (m_ 25 25 rfl (a_ (a_ (a_ (Eq.refl 25) (a_ (le_ 25 25 rfl) (Eq.refl 0))) tr) tr)) (a_ (a_ tr (a_ (LO.Sub.var (lel_set [.int .u8 s.f_Kind, .int .i64 s.f_Node, Z8_, Z8_, .bool false, Z1_, Z4_, Z1_, Z1_, Z4_, Z4_, Z1_, Z1_, Z1_, Z1_, Z1_, Z1_, Z1_, Z1_, .str [], Z1_, Z1_, .nilsl, .int .i64 s.f_To, .ds 1 (s.f_Bytes).length (rowF (cInt .u8) default s.f_Bytes)] 22 .nilsl zn_ rfl (le_nil_ds 1 (rowF (cInt .u8) default [])))) tr)) tr))))) (a_ (a_ tr (le_ 25 25 rfl)) tr))
  ·obtain rfl := si_ h
   exact rr_ [] 23 [.reg [(1, hF)], .reg [(1, hF)], .reg [], .wk [] [(1, .var [.int .u8 s.f_Kind, Z8_, Z8_, Z8_, .bool false, Z1_, Z4_, Z1_, Z1_, Z4_, Z4_, Z1_, Z1_, Z1_, Z1_, Z1_, Z1_, Z1_, Z1_, .str [], Z1_, Z1_, zn_, Z8_, .nilsl])], .wk [] [(1, .var (c_T_r27_Step (T_r27_Step.mk s.f_Kind 0 0 0 false (T_r27_Call.mk 0 0 0 (TX.mk 0 0 0) (A8.mk 0 0 0 0 0 0 0 0) [] 0 0 ([] : List (Int))) 0 ([] : List (Int)))))]]
    (a_ (a_ (r1_ (f_ C1 tr)) (a_ (r1_ (f_ C2 tr)) (a_ (m_ 25 25 rfl (a_ (a_ (a_ (Eq.refl 25) (a_ (le_ 25 25 rfl) (Eq.refl 0))) tr) tr)) (a_ (a_ tr (a_ (LO.Sub.var (lel_set [.int .u8 s.f_Kind, Z8_, Z8_, Z8_, .bool false, Z1_, Z4_, Z1_, Z1_, Z4_, Z4_, Z1_, Z1_, Z1_, Z1_, Z1_, Z1_, Z1_, Z1_, .str [], Z1_, Z1_, .nilsl, Z8_, .nilsl] 22 .nilsl zn_ rfl (le_nil_ds 1 (rowF (cInt .u8) default [])))) tr)) (a_ (a_ tr (a_ (LO.Sub.var (lel_set [.int .u8 s.f_Kind, Z8_, Z8_, Z8_, .bool false, Z1_, Z4_, Z1_, Z1_, Z4_, Z4_, Z1_, Z1_, Z1_, Z1_, Z1_, Z1_, Z1_, Z1_, .str [], Z1_, Z1_, zn_, Z8_, .nilsl] 24 .nilsl zn_ rfl (le_nil_ds 1 (rowF (cInt .u8) default [])))) tr)) tr))))) (a_ (a_ tr (le_ 25 25 rfl)) tr))
theorem r27_kept_ok (s : T_r27_Step) (r : (T_r27_Step)) (h : r27_kept s = some r) : ∀ σ, Inj 0 σ → FnTri Tryz.prog 77 (renL σ [v_T_r27_Step s]) (preOf σ 0 []) ((r27_kept_v r).ren σ) (upOf σ []) := by
 refine fo_ Tryz.func77 trivial trivial ?_
 intro w0 W μ0 hμ
 unfold r27_kept at h
 rcases itb_some h with ⟨c1, h⟩ | ⟨c1, h⟩
 ·obtain ⟨y3, e2, h⟩ := bind_some h
  obtain rfl := si_ h
  exact rr_ [] 31 [.reg [], .reg [], .reg [], .reg [(1, hT)], .reg [(4, hC (r27_call_v y3))], .reg [], .wk [] [(1, .var (c_T_r27_Step (T_r27_Step.mk s.f_Kind s.f_Node 0 0 false y3 0 ([] : List (Int)))))]]
   (a_ (a_ (r2_ tr) (a_ (r1_ (l_ 0 25 rfl (a_ (a_ (Eq.refl true) tr) (r1_ (a_ (a_ (a_ (Eq.refl 25) (a_ (le_ 25 25 rfl) (Eq.refl 0))) tr) tr))))) (a_ (r1_ (l_ 0 25 rfl tr)) (a_ (r1_ (f_ c1 tr)) (a_ (r1_ (l_ 1 25 rfl (r1_ (m_ 23 25 rfl (c_ (r27_call_tri s.f_Call y3 e2) (r1_ (a_ (a_ (a_ (Eq.refl 1) (a_ (le_ 2 25 rfl) (Eq.refl 0))) tr) (r1_ (a_ (a_ (a_ (Eq.refl 18) (a_ (le_ 23 25 rfl) (Eq.refl 0))) tr) tr))))))))) (a_ (m_ 25 25 rfl (a_ (a_ (a_ (Eq.refl 25) (a_ (le_ 25 25 rfl) (Eq.refl 0))) tr) tr)) (a_ (a_ tr (a_ (LO.Sub.var (lel_set [.int .u8 s.f_Kind, .int .i64 s.f_Node, Z8_, Z8_, .bool false, .int .u8 y3.f_Client, .int .u32 y3.f_Seq, .int .u8 y3.f_Kind, .int .u8 y3.f_Tx.f_Node, .int .u32 y3.f_Tx.f_Boot, .int .u32 y3.f_Tx.f_Num, .int .u8 y3.f_Key.a0, .int .u8 y3.f_Key.a1, .int .u8 y3.f_Key.a2, .int .u8 y3.f_Key.a3, .int .u8 y3.f_Key.a4, .int .u8 y3.f_Key.a5, .int .u8 y3.f_Key.a6, .int .u8 y3.f_Key.a7, .str y3.f_Value, .int .u8 y3.f_R, .int .u8 y3.f_W, .ds 1 (y3.f_Votes).length (rowF (cInt .u8) default y3.f_Votes), Z8_, .nilsl] 24 .nilsl zn_ rfl (le_nil_ds 1 (rowF (cInt .u8) default [])))) tr)) tr))))))) (a_ (a_ tr (le_ 25 25 rfl)) tr))
 ·rcases itb_some h with ⟨c2, h⟩ | ⟨c2, h⟩
  ·obtain rfl := si_ h
   exact rr_ [] 39 [.reg [], .reg [], .reg [], .reg [(1, hF)], .reg [(1, hT)], .reg [], .reg [], .wk [] [(1, .var [.int .u8 s.f_Kind, Z8_, .int .i64 s.f_Wire, Z8_, .bool false, Z1_, Z4_, Z1_, Z1_, Z4_, Z4_, Z1_, Z1_, Z1_, Z1_, Z1_, Z1_, Z1_, Z1_, .str [], Z1_, Z1_, zn_, Z8_, .nilsl])], .wk [] [(1, .var (c_T_r27_Step (T_r27_Step.mk s.f_Kind 0 s.f_Wire 0 false (T_r27_Call.mk 0 0 0 (TX.mk 0 0 0) (A8.mk 0 0 0 0 0 0 0 0) [] 0 0 ([] : List (Int))) 0 ([] : List (Int)))))]]
    (a_ (a_ (r2_ tr) (a_ (r1_ (l_ 0 25 rfl (a_ (a_ (Eq.refl true) tr) (r1_ (a_ (a_ (a_ (Eq.refl 25) (a_ (le_ 25 25 rfl) (Eq.refl 0))) tr) tr))))) (a_ (r1_ (l_ 0 25 rfl tr)) (a_ (r1_ (f_ c1 tr)) (a_ (r1_ (f_ c2 tr)) (a_ (r1_ (l_ 2 25 rfl (r1_ (a_ (a_ (a_ (Eq.refl 1) (a_ (le_ 3 25 rfl) (Eq.refl 0))) tr) tr)))) (a_ (m_ 25 25 rfl (a_ (a_ (a_ (Eq.refl 25) (a_ (le_ 25 25 rfl) (Eq.refl 0))) tr) tr)) (a_ (a_ tr (a_ (LO.Sub.var (lel_set [.int .u8 s.f_Kind, Z8_, .int .i64 s.f_Wire, Z8_, .bool false, Z1_, Z4_, Z1_, Z1_, Z4_, Z4_, Z1_, Z1_, Z1_, Z1_, Z1_, Z1_, Z1_, Z1_, .str [], Z1_, Z1_, .nilsl, Z8_, .nilsl] 22 .nilsl zn_ rfl (le_nil_ds 1 (rowF (cInt .u8) default [])))) tr)) (a_ (a_ tr (a_ (LO.Sub.var (lel_set [.int .u8 s.f_Kind, Z8_, .int .i64 s.f_Wire, Z8_, .bool false, Z1_, Z4_, Z1_, Z1_, Z4_, Z4_, Z1_, Z1_, Z1_, Z1_, Z1_, Z1_, Z1_, Z1_, .str [], Z1_, Z1_, zn_, Z8_, .nilsl] 24 .nilsl zn_ rfl (le_nil_ds 1 (rowF (cInt .u8) default [])))) tr)) tr))))))))) (a_ (a_ tr (le_ 25 25 rfl)) tr))
  ·rcases itb_some h with ⟨c3, h⟩ | ⟨c3, h⟩
   ·obtain rfl := si_ h
    exact rr_ [] 43 [.reg [], .reg [], .reg [], .reg [(1, hF)], .reg [(1, hF)], .reg [(1, hT)], .reg [], .reg [], .wk [] [(1, .var [.int .u8 s.f_Kind, Z8_, .int .i64 s.f_Wire, Z8_, .bool false, Z1_, Z4_, Z1_, Z1_, Z4_, Z4_, Z1_, Z1_, Z1_, Z1_, Z1_, Z1_, Z1_, Z1_, .str [], Z1_, Z1_, zn_, Z8_, .nilsl])], .wk [] [(1, .var (c_T_r27_Step (T_r27_Step.mk s.f_Kind 0 s.f_Wire 0 false (T_r27_Call.mk 0 0 0 (TX.mk 0 0 0) (A8.mk 0 0 0 0 0 0 0 0) [] 0 0 ([] : List (Int))) 0 ([] : List (Int)))))]]
     (a_ (a_ (r2_ tr) (a_ (r1_ (l_ 0 25 rfl (a_ (a_ (Eq.refl true) tr) (r1_ (a_ (a_ (a_ (Eq.refl 25) (a_ (le_ 25 25 rfl) (Eq.refl 0))) tr) tr))))) (a_ (r1_ (l_ 0 25 rfl tr)) (a_ (r1_ (f_ c1 tr)) (a_ (r1_ (f_ c2 tr)) (a_ (r1_ (f_ c3 tr)) (a_ (r1_ (l_ 2 25 rfl (r1_ (a_ (a_ (a_ (Eq.refl 1) (a_ (le_ 3 25 rfl) (Eq.refl 0))) tr) tr)))) (a_ (m_ 25 25 rfl (a_ (a_ (a_ (Eq.refl 25) (a_ (le_ 25 25 rfl) (Eq.refl 0))) tr) tr)) (a_ (a_ tr (a_ (LO.Sub.var (lel_set [.int .u8 s.f_Kind, Z8_, .int .i64 s.f_Wire, Z8_, .bool false, Z1_, Z4_, Z1_, Z1_, Z4_, Z4_, Z1_, Z1_, Z1_, Z1_, Z1_, Z1_, Z1_, Z1_, .str [], Z1_, Z1_, .nilsl, Z8_, .nilsl] 22 .nilsl zn_ rfl (le_nil_ds 1 (rowF (cInt .u8) default [])))) tr)) (a_ (a_ tr (a_ (LO.Sub.var (lel_set [.int .u8 s.f_Kind, Z8_, .int .i64 s.f_Wire, Z8_, .bool false, Z1_, Z4_, Z1_, Z1_, Z4_, Z4_, Z1_, Z1_, Z1_, Z1_, Z1_, Z1_, Z1_, Z1_, .str [], Z1_, Z1_, zn_, Z8_, .nilsl] 24 .nilsl zn_ rfl (le_nil_ds 1 (rowF (cInt .u8) default [])))) tr)) tr)))))))))) (a_ (a_ tr (le_ 25 25 rfl)) tr))
   ·rcases itb_some h with ⟨c4, h⟩ | ⟨c4, h⟩
    ·obtain rfl := si_ h
     exact rr_ [] 47 [.reg [], .reg [], .reg [], .reg [(1, hF)], .reg [(1, hF)], .reg [(1, hF)], .reg [(1, hT)], .reg [], .reg [], .wk [] [(1, .var [.int .u8 s.f_Kind, Z8_, .int .i64 s.f_Wire, Z8_, .bool false, Z1_, Z4_, Z1_, Z1_, Z4_, Z4_, Z1_, Z1_, Z1_, Z1_, Z1_, Z1_, Z1_, Z1_, .str [], Z1_, Z1_, zn_, Z8_, .nilsl])], .wk [] [(1, .var (c_T_r27_Step (T_r27_Step.mk s.f_Kind 0 s.f_Wire 0 false (T_r27_Call.mk 0 0 0 (TX.mk 0 0 0) (A8.mk 0 0 0 0 0 0 0 0) [] 0 0 ([] : List (Int))) 0 ([] : List (Int)))))]]
      (a_ (a_ (r2_ tr) (a_ (r1_ (l_ 0 25 rfl (a_ (a_ (Eq.refl true) tr) (r1_ (a_ (a_ (a_ (Eq.refl 25) (a_ (le_ 25 25 rfl) (Eq.refl 0))) tr) tr))))) (a_ (r1_ (l_ 0 25 rfl tr)) (a_ (r1_ (f_ c1 tr)) (a_ (r1_ (f_ c2 tr)) (a_ (r1_ (f_ c3 tr)) (a_ (r1_ (f_ c4 tr)) (a_ (r1_ (l_ 2 25 rfl (r1_ (a_ (a_ (a_ (Eq.refl 1) (a_ (le_ 3 25 rfl) (Eq.refl 0))) tr) tr)))) (a_ (m_ 25 25 rfl (a_ (a_ (a_ (Eq.refl 25) (a_ (le_ 25 25 rfl) (Eq.refl 0))) tr) tr)) (a_ (a_ tr (a_ (LO.Sub.var (lel_set [.int .u8 s.f_Kind, Z8_, .int .i64 s.f_Wire, Z8_, .bool false, Z1_, Z4_, Z1_, Z1_, Z4_, Z4_, Z1_, Z1_, Z1_, Z1_, Z1_, Z1_, Z1_, Z1_, .str [], Z1_, Z1_, .nilsl, Z8_, .nilsl] 22 .nilsl zn_ rfl (le_nil_ds 1 (rowF (cInt .u8) default [])))) tr)) (a_ (a_ tr (a_ (LO.Sub.var (lel_set [.int .u8 s.f_Kind, Z8_, .int .i64 s.f_Wire, Z8_, .bool false, Z1_, Z4_, Z1_, Z1_, Z4_, Z4_, Z1_, Z1_, Z1_, Z1_, Z1_, Z1_, Z1_, Z1_, .str [], Z1_, Z1_, zn_, Z8_, .nilsl] 24 .nilsl zn_ rfl (le_nil_ds 1 (rowF (cInt .u8) default [])))) tr)) tr))))))))))) (a_ (a_ tr (le_ 25 25 rfl)) tr))
    ·rcases itb_some h with ⟨c5, h⟩ | ⟨c5, h⟩
     ·exact rt_ hμ [1, 2] 44 [.reg [], .reg [], .reg [], .reg [(1, hF)], .reg [(1, hF)], .reg [(1, hF)], .reg [(1, hF)], .reg [(1, hT)], .reg []]
       (a_ (r2_ tr) (a_ (r1_ (l_ 0 25 rfl (a_ (a_ (Eq.refl true) tr) (r1_ (a_ (a_ (a_ (Eq.refl 25) (a_ (le_ 25 25 rfl) (Eq.refl 0))) tr) tr))))) (a_ (r1_ (l_ 0 25 rfl tr)) (a_ (r1_ (f_ c1 tr)) (a_ (r1_ (f_ c2 tr)) (a_ (r1_ (f_ c3 tr)) (a_ (r1_ (f_ c4 tr)) (a_ (r1_ (f_ c5 tr)) (a_ (r1_ (l_ 2 25 rfl (r1_ (a_ (a_ (a_ (Eq.refl 1) (a_ (le_ 3 25 rfl) (Eq.refl 0))) tr) tr)))) tr))))))))) (r27_kept_c19_ok hμ s   r h) ⟨rfl, rfl, trivial⟩
     ·rcases itb_some h with ⟨c6, h⟩ | ⟨c6, h⟩
      ·exact rt_ hμ [1, 2] 51 [.reg [], .reg [], .reg [], .reg [(1, hF)], .reg [(1, hF)], .reg [(1, hF)], .reg [(1, hF)], .reg [(1, hF)], .reg [(1, hT)], .reg []]
        (a_ (r2_ tr) (a_ (r1_ (l_ 0 25 rfl (a_ (a_ (Eq.refl true) tr) (r1_ (a_ (a_ (a_ (Eq.refl 25) (a_ (le_ 25 25 rfl) (Eq.refl 0))) tr) tr))))) (a_ (r1_ (l_ 0 25 rfl tr)) (a_ (r1_ (f_ c1 tr)) (a_ (r1_ (f_ c2 tr)) (a_ (r1_ (f_ c3 tr)) (a_ (r1_ (f_ c4 tr)) (a_ (r1_ (f_ c5 tr)) (a_ (r1_ (f_ c6 tr)) (a_ (r1_ (l_ 1 25 rfl (r1_ (a_ (a_ (a_ (Eq.refl 1) (a_ (le_ 2 25 rfl) (Eq.refl 0))) tr) tr)))) tr)))))))))) (r27_kept_c1019_ok hμ s   r h) ⟨rfl, rfl, trivial⟩
      ·rcases itb_some h with ⟨c7, h⟩ | ⟨c7, h⟩
       ·exact rt_ hμ [1, 2] 52 [.reg [], .reg [], .reg [], .reg [(1, hF)], .reg [(1, hF)], .reg [(1, hF)], .reg [(1, hF)], .reg [(1, hF)], .reg [(1, hF)], .reg [(1, hT)], .reg []]
         (a_ (r2_ tr) (a_ (r1_ (l_ 0 25 rfl (a_ (a_ (Eq.refl true) tr) (r1_ (a_ (a_ (a_ (Eq.refl 25) (a_ (le_ 25 25 rfl) (Eq.refl 0))) tr) tr))))) (a_ (r1_ (l_ 0 25 rfl tr)) (a_ (r1_ (f_ c1 tr)) (a_ (r1_ (f_ c2 tr)) (a_ (r1_ (f_ c3 tr)) (a_ (r1_ (f_ c4 tr)) (a_ (r1_ (f_ c5 tr)) (a_ (r1_ (f_ c6 tr)) (a_ (r1_ (f_ c7 tr)) (a_ (r1_ (l_ 1 25 rfl (r1_ (a_ (a_ (a_ (Eq.refl 1) (a_ (le_ 2 25 rfl) (Eq.refl 0))) tr) tr)))) tr))))))))))) (r27_kept_c1019_ok hμ s   r h) ⟨rfl, rfl, trivial⟩
       ·rcases itb_some h with ⟨c8, h⟩ | ⟨c8, h⟩
        ·exact rt_ hμ [0, 1, 2] 52 [.reg [], .reg [], .reg [], .reg [(1, hF)], .reg [(1, hF)], .reg [(1, hF)], .reg [(1, hF)], .reg [(1, hF)], .reg [(1, hF)], .reg [(1, hF)], .reg [(1, hT)]]
          (a_ (r2_ tr) (a_ (r1_ (l_ 0 25 rfl (a_ (a_ (Eq.refl true) tr) (r1_ (a_ (a_ (a_ (Eq.refl 25) (a_ (le_ 25 25 rfl) (Eq.refl 0))) tr) tr))))) (a_ (r1_ (l_ 0 25 rfl tr)) (a_ (r1_ (f_ c1 tr)) (a_ (r1_ (f_ c2 tr)) (a_ (r1_ (f_ c3 tr)) (a_ (r1_ (f_ c4 tr)) (a_ (r1_ (f_ c5 tr)) (a_ (r1_ (f_ c6 tr)) (a_ (r1_ (f_ c7 tr)) (a_ (r1_ (f_ c8 tr)) tr))))))))))) (r27_kept_c14_ok hμ s   r h) ⟨rfl, rfl, rfl, trivial⟩
        ·exact rt_ hμ [0, 1, 2] 53 [.reg [], .reg [], .reg [], .reg [(1, hF)], .reg [(1, hF)], .reg [(1, hF)], .reg [(1, hF)], .reg [(1, hF)], .reg [(1, hF)], .reg [(1, hF)], .reg [(1, hF)]]
          (a_ (r2_ tr) (a_ (r1_ (l_ 0 25 rfl (a_ (a_ (Eq.refl true) tr) (r1_ (a_ (a_ (a_ (Eq.refl 25) (a_ (le_ 25 25 rfl) (Eq.refl 0))) tr) tr))))) (a_ (r1_ (l_ 0 25 rfl tr)) (a_ (r1_ (f_ c1 tr)) (a_ (r1_ (f_ c2 tr)) (a_ (r1_ (f_ c3 tr)) (a_ (r1_ (f_ c4 tr)) (a_ (r1_ (f_ c5 tr)) (a_ (r1_ (f_ c6 tr)) (a_ (r1_ (f_ c7 tr)) (a_ (r1_ (f_ c8 tr)) tr))))))))))) (r27_kept_c15_ok hμ s   r h) ⟨rfl, rfl, rfl, trivial⟩
theorem r27_kept_tri (s : T_r27_Step) (r : (T_r27_Step)) (h : r27_kept s = some r) : FnTri Tryz.prog 77 [v_T_r27_Step s] [] (r27_kept_v r) [] := FnTri.none (r27_kept_ok s r h) rfl rfl
/-- parrel/parrelref27.SameCall -/
def r27_SameCall_v (r : (Bool)) : LV := .bool r
def r27_SameCall (a : T_r27_Call) (b : T_r27_Call) : Option ((Bool)) :=
 if ((a.f_Client == b.f_Client) : Bool) then
  if ((a.f_Seq == b.f_Seq) : Bool) then
   if ((a.f_Kind == b.f_Kind) : Bool) then
    if ((decide (a.f_Tx = b.f_Tx)) : Bool) then
     if ((decide (a.f_Key = b.f_Key)) : Bool) then
      if ((a.f_Value == b.f_Value) : Bool) then
       if ((a.f_R == b.f_R) : Bool) then
        if ((a.f_W == b.f_W) : Bool) then
         some ((strI a.f_Votes) == (strI b.f_Votes))
        else
         some false
       else
        some false
      else
       some false
     else
      some false
    else
     some false
   else
    some false
  else
   some false
 else
  some false
theorem r27_SameCall_ok (a : T_r27_Call) (b : T_r27_Call) (r : (Bool)) (h : r27_SameCall a b = some r) : ∀ σ, Inj 0 σ → FnTri Tryz.prog 22 (renL σ [v_T_r27_Call a, v_T_r27_Call b]) (preOf σ 0 []) ((r27_SameCall_v r).ren σ) (upOf σ []) := by
 refine fo_ Tryz.func22 trivial trivial ?_
 intro w0 W μ0 hμ
 unfold r27_SameCall at h
 rcases itb_some h with ⟨c1, h⟩ | ⟨c1, h⟩
 ·rcases itb_some h with ⟨c2, h⟩ | ⟨c2, h⟩
  ·rcases itb_some h with ⟨c3, h⟩ | ⟨c3, h⟩
   ·rcases itb_some h with ⟨c4, h⟩ | ⟨c4, h⟩
    ·rcases itb_some h with ⟨c5, h⟩ | ⟨c5, h⟩
     ·rcases itb_some h with ⟨c6, h⟩ | ⟨c6, h⟩
      ·rcases itb_some h with ⟨c7, h⟩ | ⟨c7, h⟩
       ·rcases itb_some h with ⟨c8, h⟩ | ⟨c8, h⟩
        ·obtain rfl := si_ h
         exact rr_ [] 15 [.reg [], .reg [(5, hT), (12, hT), (19, hT), (24, { v := some (.bool (decide (a.f_Tx = b.f_Tx))) }), (26, hT), (31, { v := some (.bool (decide (a.f_Key = b.f_Key))) }), (33, hT), (40, hT), (47, hT), (54, hT), (57, { v := some (.str (strI a.f_Votes)) }), (60, { v := some (.str (strI b.f_Votes)) })]]
          (a_ (a_ (r1_ (r2_ tr)) (a_ (r1_ (l_ 0 18 rfl (r1_ (l_ 0 18 rfl (r1_ (f_ c1 (r1_ (l_ 1 18 rfl (r1_ (l_ 1 18 rfl (r2_ (f_ c2 (r1_ (l_ 2 18 rfl (r1_ (l_ 2 18 rfl (r2_ (f_ c3 (r1_ (m_ 6 18 rfl (r1_ (m_ 6 18 rfl (a_ (a_ tr (a_ (leB (k_TX a.f_Tx b.f_Tx)) tr)) (r1_ (f_ c4 (r1_ (m_ 14 18 rfl (r1_ (m_ 14 18 rfl (a_ (a_ tr (a_ (leB ((k_arr8 .u8) a.f_Key b.f_Key)) tr)) (r1_ (f_ c5 (r1_ (l_ 14 18 rfl (r1_ (l_ 14 18 rfl (r2_ (f_ c6 (r1_ (l_ 15 18 rfl (r1_ (l_ 15 18 rfl (r2_ (f_ c7 (r1_ (l_ 16 18 rfl (r1_ (l_ 16 18 rfl (r2_ (f_ c8 (r1_ (l_ 17 18 rfl (a_ (a_ (a_ (Eq.refl 1) (str_ob a.f_Votes)) (a_ (le_str a.f_Votes) tr)) (r1_ (l_ 17 18 rfl (a_ (a_ (a_ (Eq.refl 1) (str_ob b.f_Votes)) (a_ (le_str b.f_Votes) tr)) (r1_ (r2_ tr)))))))))))))))))))))))))))))))))))))))))))))))))))))))))) tr)) tr)
        ·obtain rfl := si_ h
         exact rr_ [] 15 [.reg [], .reg [(5, hT), (12, hT), (19, hT), (24, { v := some (.bool (decide (a.f_Tx = b.f_Tx))) }), (26, hT), (31, { v := some (.bool (decide (a.f_Key = b.f_Key))) }), (33, hT), (40, hT), (47, hT), (54, hF)]]
          (a_ (a_ (r1_ (r2_ tr)) (a_ (r1_ (l_ 0 18 rfl (r1_ (l_ 0 18 rfl (r1_ (f_ c1 (r1_ (l_ 1 18 rfl (r1_ (l_ 1 18 rfl (r2_ (f_ c2 (r1_ (l_ 2 18 rfl (r1_ (l_ 2 18 rfl (r2_ (f_ c3 (r1_ (m_ 6 18 rfl (r1_ (m_ 6 18 rfl (a_ (a_ tr (a_ (leB (k_TX a.f_Tx b.f_Tx)) tr)) (r1_ (f_ c4 (r1_ (m_ 14 18 rfl (r1_ (m_ 14 18 rfl (a_ (a_ tr (a_ (leB ((k_arr8 .u8) a.f_Key b.f_Key)) tr)) (r1_ (f_ c5 (r1_ (l_ 14 18 rfl (r1_ (l_ 14 18 rfl (r2_ (f_ c6 (r1_ (l_ 15 18 rfl (r1_ (l_ 15 18 rfl (r2_ (f_ c7 (r1_ (l_ 16 18 rfl (r1_ (l_ 16 18 rfl (r2_ (f_ c8 (a_ tr (t2_ (t4_ (r2_ tr)))))))))))))))))))))))))))))))))))))))))))))))))))))) tr)) tr)
       ·obtain rfl := si_ h
        exact rr_ [] 15 [.reg [], .reg [(5, hT), (12, hT), (19, hT), (24, { v := some (.bool (decide (a.f_Tx = b.f_Tx))) }), (26, hT), (31, { v := some (.bool (decide (a.f_Key = b.f_Key))) }), (33, hT), (40, hT), (47, hF)]]
         (a_ (a_ (r1_ (r2_ tr)) (a_ (r1_ (l_ 0 18 rfl (r1_ (l_ 0 18 rfl (r1_ (f_ c1 (r1_ (l_ 1 18 rfl (r1_ (l_ 1 18 rfl (r2_ (f_ c2 (r1_ (l_ 2 18 rfl (r1_ (l_ 2 18 rfl (r2_ (f_ c3 (r1_ (m_ 6 18 rfl (r1_ (m_ 6 18 rfl (a_ (a_ tr (a_ (leB (k_TX a.f_Tx b.f_Tx)) tr)) (r1_ (f_ c4 (r1_ (m_ 14 18 rfl (r1_ (m_ 14 18 rfl (a_ (a_ tr (a_ (leB ((k_arr8 .u8) a.f_Key b.f_Key)) tr)) (r1_ (f_ c5 (r1_ (l_ 14 18 rfl (r1_ (l_ 14 18 rfl (r2_ (f_ c6 (r1_ (l_ 15 18 rfl (r1_ (l_ 15 18 rfl (r2_ (f_ c7 (a_ tr (t4_ (r2_ (a_ tr (t2_ (t4_ (r2_ tr))))))))))))))))))))))))))))))))))))))))))))))))))) tr)) tr)
      ·obtain rfl := si_ h
       exact rr_ [] 15 [.reg [], .reg [(5, hT), (12, hT), (19, hT), (24, { v := some (.bool (decide (a.f_Tx = b.f_Tx))) }), (26, hT), (31, { v := some (.bool (decide (a.f_Key = b.f_Key))) }), (33, hT), (40, hF)]]
        (a_ (a_ (r1_ (r2_ tr)) (a_ (r1_ (l_ 0 18 rfl (r1_ (l_ 0 18 rfl (r1_ (f_ c1 (r1_ (l_ 1 18 rfl (r1_ (l_ 1 18 rfl (r2_ (f_ c2 (r1_ (l_ 2 18 rfl (r1_ (l_ 2 18 rfl (r2_ (f_ c3 (r1_ (m_ 6 18 rfl (r1_ (m_ 6 18 rfl (a_ (a_ tr (a_ (leB (k_TX a.f_Tx b.f_Tx)) tr)) (r1_ (f_ c4 (r1_ (m_ 14 18 rfl (r1_ (m_ 14 18 rfl (a_ (a_ tr (a_ (leB ((k_arr8 .u8) a.f_Key b.f_Key)) tr)) (r1_ (f_ c5 (r1_ (l_ 14 18 rfl (r1_ (l_ 14 18 rfl (r2_ (f_ c6 (a_ tr (t4_ (r2_ (a_ tr (t4_ (r2_ (a_ tr (t2_ (t4_ (r2_ tr)))))))))))))))))))))))))))))))))))))))))))))))) tr)) tr)
     ·obtain rfl := si_ h
      exact rr_ [] 15 [.reg [], .reg [(5, hT), (12, hT), (19, hT), (24, { v := some (.bool (decide (a.f_Tx = b.f_Tx))) }), (26, hT), (31, { v := some (.bool (decide (a.f_Key = b.f_Key))) }), (33, hF)]]
       (a_ (a_ (r1_ (r2_ tr)) (a_ (r1_ (l_ 0 18 rfl (r1_ (l_ 0 18 rfl (r1_ (f_ c1 (r1_ (l_ 1 18 rfl (r1_ (l_ 1 18 rfl (r2_ (f_ c2 (r1_ (l_ 2 18 rfl (r1_ (l_ 2 18 rfl (r2_ (f_ c3 (r1_ (m_ 6 18 rfl (r1_ (m_ 6 18 rfl (a_ (a_ tr (a_ (leB (k_TX a.f_Tx b.f_Tx)) tr)) (r1_ (f_ c4 (r1_ (m_ 14 18 rfl (r1_ (m_ 14 18 rfl (a_ (a_ tr (a_ (leB ((k_arr8 .u8) a.f_Key b.f_Key)) tr)) (r1_ (f_ c5 (a_ tr (t4_ (r2_ (a_ tr (t4_ (r2_ (a_ tr (t4_ (r2_ (a_ tr (t2_ (t4_ (r2_ tr))))))))))))))))))))))))))))))))))))))))))))) tr)) tr)
    ·obtain rfl := si_ h
     exact rr_ [] 15 [.reg [], .reg [(5, hT), (12, hT), (19, hT), (24, { v := some (.bool (decide (a.f_Tx = b.f_Tx))) }), (26, hF)]]
      (a_ (a_ (r1_ (r2_ tr)) (a_ (r1_ (l_ 0 18 rfl (r1_ (l_ 0 18 rfl (r1_ (f_ c1 (r1_ (l_ 1 18 rfl (r1_ (l_ 1 18 rfl (r2_ (f_ c2 (r1_ (l_ 2 18 rfl (r1_ (l_ 2 18 rfl (r2_ (f_ c3 (r1_ (m_ 6 18 rfl (r1_ (m_ 6 18 rfl (a_ (a_ tr (a_ (leB (k_TX a.f_Tx b.f_Tx)) tr)) (r1_ (f_ c4 (a_ tr (t4_ (r2_ (a_ tr (t4_ (r2_ (a_ tr (t4_ (r2_ (a_ tr (t4_ (r2_ (a_ tr (t2_ (t4_ (r2_ tr))))))))))))))))))))))))))))))))))))))))) tr)) tr)
   ·obtain rfl := si_ h
    exact rr_ [] 15 [.reg [], .reg [(5, hT), (12, hT), (19, hF)]]
     (a_ (a_ (r1_ (r2_ tr)) (a_ (r1_ (l_ 0 18 rfl (r1_ (l_ 0 18 rfl (r1_ (f_ c1 (r1_ (l_ 1 18 rfl (r1_ (l_ 1 18 rfl (r2_ (f_ c2 (r1_ (l_ 2 18 rfl (r1_ (l_ 2 18 rfl (r2_ (f_ c3 (a_ tr (t4_ (r2_ (a_ tr (t4_ (r2_ (a_ tr (t4_ (r2_ (a_ tr (t4_ (r2_ (a_ tr (t4_ (r2_ (a_ tr (t2_ (t4_ (r2_ tr))))))))))))))))))))))))))))))))))))) tr)) tr)
  ·obtain rfl := si_ h
   exact rr_ [] 15 [.reg [], .reg [(5, hT), (12, hF)]]
    (a_ (a_ (r1_ (r2_ tr)) (a_ (r1_ (l_ 0 18 rfl (r1_ (l_ 0 18 rfl (r1_ (f_ c1 (r1_ (l_ 1 18 rfl (r1_ (l_ 1 18 rfl (r2_ (f_ c2 (a_ tr (t4_ (r2_ (a_ tr (t4_ (r2_ (a_ tr (t4_ (r2_ (a_ tr (t4_ (r2_ (a_ tr (t4_ (r2_ (a_ tr (t4_ (r2_ (a_ tr (t2_ (t4_ (r2_ tr)))))))))))))))))))))))))))))))))) tr)) tr)
 ·obtain rfl := si_ h
  exact rr_ [] 15 [.reg [], .reg [(5, hF)]]
   (a_ (a_ (r1_ (r2_ tr)) (a_ (r1_ (l_ 0 18 rfl (r1_ (l_ 0 18 rfl (r1_ (f_ c1 (a_ tr (t4_ (r2_ (a_ tr (t4_ (r2_ (a_ tr (t4_ (r2_ (a_ tr (t4_ (r2_ (a_ tr (t4_ (r2_ (a_ tr (t4_ (r2_ (a_ tr (t4_ (r2_ (a_ tr (t2_ (t4_ (r2_ tr))))))))))))))))))))))))))))))) tr)) tr)
theorem r27_SameCall_tri (a : T_r27_Call) (b : T_r27_Call) (r : (Bool)) (h : r27_SameCall a b = some r) : FnTri Tryz.prog 22 [v_T_r27_Call a, v_T_r27_Call b] [] (r27_SameCall_v r) [] := FnTri.none (r27_SameCall_ok a b r h) rfl rfl
/-- parrel/parrelref27.Same -/
def r27_Same_v (r : (Bool)) : LV := .bool r
def r27_Same (a : T_r27_Step) (b : T_r27_Step) : Option ((Bool)) :=
 if ((a.f_Kind == b.f_Kind) : Bool) then
  if ((a.f_Node == b.f_Node) : Bool) then
   if ((a.f_Wire == b.f_Wire) : Bool) then
    if ((a.f_N == b.f_N) : Bool) then
     if ((a.f_Cut == b.f_Cut) : Bool) then
      (r27_SameCall a.f_Call b.f_Call).bind fun y7 =>
      if (y7 : Bool) then
       if ((a.f_To == b.f_To) : Bool) then
        some ((strI a.f_Bytes) == (strI b.f_Bytes))
       else
        some false
      else
       some false
     else
      some false
    else
     some false
   else
    some false
  else
   some false
 else
  some false
theorem r27_Same_ok (a : T_r27_Step) (b : T_r27_Step) (r : (Bool)) (h : r27_Same a b = some r) : ∀ σ, Inj 0 σ → FnTri Tryz.prog 8 (renL σ [v_T_r27_Step a, v_T_r27_Step b]) (preOf σ 0 []) ((r27_Same_v r).ren σ) (upOf σ []) := by
 refine fo_ Tryz.func8 trivial trivial ?_
 intro w0 W μ0 hμ
 unfold r27_Same at h
 rcases itb_some h with ⟨c1, h⟩ | ⟨c1, h⟩
 ·rcases itb_some h with ⟨c2, h⟩ | ⟨c2, h⟩
  ·rcases itb_some h with ⟨c3, h⟩ | ⟨c3, h⟩
   ·rcases itb_some h with ⟨c4, h⟩ | ⟨c4, h⟩
    ·rcases itb_some h with ⟨c5, h⟩ | ⟨c5, h⟩
     ·obtain ⟨y7, e6, h⟩ := bind_some h
      rcases itb_some h with ⟨c8, h⟩ | ⟨c8, h⟩
      ·rcases itb_some h with ⟨c9, h⟩ | ⟨c9, h⟩
       ·obtain rfl := si_ h
        exact rr_ [] 15 [.reg [], .reg [(5, hT), (12, hT), (19, hT), (26, hT), (33, hT), (38, hC (r27_SameCall_v y7)), (40, hT), (47, hT), (50, { v := some (.str (strI a.f_Bytes)) }), (53, { v := some (.str (strI b.f_Bytes)) })]]
         (a_ (a_ (r1_ (r2_ tr)) (a_ (r1_ (l_ 0 25 rfl (r1_ (l_ 0 25 rfl (r1_ (f_ c1 (r1_ (l_ 1 25 rfl (r1_ (l_ 1 25 rfl (r2_ (f_ c2 (r1_ (l_ 2 25 rfl (r1_ (l_ 2 25 rfl (r2_ (f_ c3 (r1_ (l_ 3 25 rfl (r1_ (l_ 3 25 rfl (r2_ (f_ c4 (r1_ (l_ 4 25 rfl (r1_ (l_ 4 25 rfl (r2_ (f_ c5 (r1_ (m_ 23 25 rfl (r1_ (m_ 23 25 rfl (c_ (r27_SameCall_tri a.f_Call b.f_Call y7 e6) (r1_ (f_ c8 (r1_ (l_ 23 25 rfl (r1_ (l_ 23 25 rfl (r2_ (f_ c9 (r1_ (l_ 24 25 rfl (a_ (a_ (a_ (Eq.refl 1) (str_ob a.f_Bytes)) (a_ (le_str a.f_Bytes) tr)) (r1_ (l_ 24 25 rfl (a_ (a_ (a_ (Eq.refl 1) (str_ob b.f_Bytes)) (a_ (le_str b.f_Bytes) tr)) (r1_ (r2_ tr))))))))))))))))))))))))))))))))))))))))))))))))))) tr)) tr)
       ·obtain rfl := si_ h
        exact rr_ [] 15 [.reg [], .reg [(5, hT), (12, hT), (19, hT), (26, hT), (33, hT), (38, hC (r27_SameCall_v y7)), (40, hT), (47, hF)]]
         (a_ (a_ (r1_ (r2_ tr)) (a_ (r1_ (l_ 0 25 rfl (r1_ (l_ 0 25 rfl (r1_ (f_ c1 (r1_ (l_ 1 25 rfl (r1_ (l_ 1 25 rfl (r2_ (f_ c2 (r1_ (l_ 2 25 rfl (r1_ (l_ 2 25 rfl (r2_ (f_ c3 (r1_ (l_ 3 25 rfl (r1_ (l_ 3 25 rfl (r2_ (f_ c4 (r1_ (l_ 4 25 rfl (r1_ (l_ 4 25 rfl (r2_ (f_ c5 (r1_ (m_ 23 25 rfl (r1_ (m_ 23 25 rfl (c_ (r27_SameCall_tri a.f_Call b.f_Call y7 e6) (r1_ (f_ c8 (r1_ (l_ 23 25 rfl (r1_ (l_ 23 25 rfl (r2_ (f_ c9 (a_ tr (t2_ (t4_ (r2_ tr))))))))))))))))))))))))))))))))))))))))))))))) tr)) tr)
      ·obtain rfl := si_ h
       exact rr_ [] 15 [.reg [], .reg [(5, hT), (12, hT), (19, hT), (26, hT), (33, hT), (38, hC (r27_SameCall_v y7)), (40, hF)]]
        (a_ (a_ (r1_ (r2_ tr)) (a_ (r1_ (l_ 0 25 rfl (r1_ (l_ 0 25 rfl (r1_ (f_ c1 (r1_ (l_ 1 25 rfl (r1_ (l_ 1 25 rfl (r2_ (f_ c2 (r1_ (l_ 2 25 rfl (r1_ (l_ 2 25 rfl (r2_ (f_ c3 (r1_ (l_ 3 25 rfl (r1_ (l_ 3 25 rfl (r2_ (f_ c4 (r1_ (l_ 4 25 rfl (r1_ (l_ 4 25 rfl (r2_ (f_ c5 (r1_ (m_ 23 25 rfl (r1_ (m_ 23 25 rfl (c_ (r27_SameCall_tri a.f_Call b.f_Call y7 e6) (r1_ (f_ c8 (a_ tr (t4_ (r2_ (a_ tr (t2_ (t4_ (r2_ tr)))))))))))))))))))))))))))))))))))))))))))) tr)) tr)
     ·obtain rfl := si_ h
      exact rr_ [] 15 [.reg [], .reg [(5, hT), (12, hT), (19, hT), (26, hT), (33, hF)]]
       (a_ (a_ (r1_ (r2_ tr)) (a_ (r1_ (l_ 0 25 rfl (r1_ (l_ 0 25 rfl (r1_ (f_ c1 (r1_ (l_ 1 25 rfl (r1_ (l_ 1 25 rfl (r2_ (f_ c2 (r1_ (l_ 2 25 rfl (r1_ (l_ 2 25 rfl (r2_ (f_ c3 (r1_ (l_ 3 25 rfl (r1_ (l_ 3 25 rfl (r2_ (f_ c4 (r1_ (l_ 4 25 rfl (r1_ (l_ 4 25 rfl (r2_ (f_ c5 (a_ tr (t4_ (r2_ (a_ tr (t4_ (r2_ (a_ tr (t2_ (t4_ (r2_ tr)))))))))))))))))))))))))))))))))))))))) tr)) tr)
    ·obtain rfl := si_ h
     exact rr_ [] 15 [.reg [], .reg [(5, hT), (12, hT), (19, hT), (26, hF)]]
      (a_ (a_ (r1_ (r2_ tr)) (a_ (r1_ (l_ 0 25 rfl (r1_ (l_ 0 25 rfl (r1_ (f_ c1 (r1_ (l_ 1 25 rfl (r1_ (l_ 1 25 rfl (r2_ (f_ c2 (r1_ (l_ 2 25 rfl (r1_ (l_ 2 25 rfl (r2_ (f_ c3 (r1_ (l_ 3 25 rfl (r1_ (l_ 3 25 rfl (r2_ (f_ c4 (a_ tr (t4_ (r2_ (a_ tr (t4_ (r2_ (a_ tr (t4_ (r2_ (a_ tr (t2_ (t4_ (r2_ tr))))))))))))))))))))))))))))))))))))) tr)) tr)
   ·obtain rfl := si_ h
    exact rr_ [] 15 [.reg [], .reg [(5, hT), (12, hT), (19, hF)]]
     (a_ (a_ (r1_ (r2_ tr)) (a_ (r1_ (l_ 0 25 rfl (r1_ (l_ 0 25 rfl (r1_ (f_ c1 (r1_ (l_ 1 25 rfl (r1_ (l_ 1 25 rfl (r2_ (f_ c2 (r1_ (l_ 2 25 rfl (r1_ (l_ 2 25 rfl (r2_ (f_ c3 (a_ tr (t4_ (r2_ (a_ tr (t4_ (r2_ (a_ tr (t4_ (r2_ (a_ tr (t4_ (r2_ (a_ tr (t2_ (t4_ (r2_ tr)))))))))))))))))))))))))))))))))) tr)) tr)
  ·obtain rfl := si_ h
   exact rr_ [] 15 [.reg [], .reg [(5, hT), (12, hF)]]
    (a_ (a_ (r1_ (r2_ tr)) (a_ (r1_ (l_ 0 25 rfl (r1_ (l_ 0 25 rfl (r1_ (f_ c1 (r1_ (l_ 1 25 rfl (r1_ (l_ 1 25 rfl (r2_ (f_ c2 (a_ tr (t4_ (r2_ (a_ tr (t4_ (r2_ (a_ tr (t4_ (r2_ (a_ tr (t4_ (r2_ (a_ tr (t4_ (r2_ (a_ tr (t2_ (t4_ (r2_ tr))))))))))))))))))))))))))))))) tr)) tr)
 ·obtain rfl := si_ h
  exact rr_ [] 15 [.reg [], .reg [(5, hF)]]
   (a_ (a_ (r1_ (r2_ tr)) (a_ (r1_ (l_ 0 25 rfl (r1_ (l_ 0 25 rfl (r1_ (f_ c1 (a_ tr (t4_ (r2_ (a_ tr (t4_ (r2_ (a_ tr (t4_ (r2_ (a_ tr (t4_ (r2_ (a_ tr (t4_ (r2_ (a_ tr (t4_ (r2_ (a_ tr (t2_ (t4_ (r2_ tr)))))))))))))))))))))))))))) tr)) tr)
theorem r27_Same_tri (a : T_r27_Step) (b : T_r27_Step) (r : (Bool)) (h : r27_Same a b = some r) : FnTri Tryz.prog 8 [v_T_r27_Step a, v_T_r27_Step b] [] (r27_Same_v r) [] := FnTri.none (r27_Same_ok a b r h) rfl rfl
/-- parrel/parrelref05.Name -/
def parrelref05_Name_v (r : (List UInt8) × (Bool)) : LV := .tup [.str r.1, .bool r.2]
def parrelref05_Name_T1 (x_k : A8 (Int)) (x_n : Int) (i : Int) : List LV := .any :: (.ptr 0 0 0) :: .any :: .any :: (.int .i64 x_n) :: (.int .i64 i) :: n_ 24 []
def parrelref05_Name_H1 (x_k : A8 (Int)) (x_n : Int) (i : Int) : Heap := [some (.var [.int .u8 x_k.a0, .int .u8 x_k.a1, .int .u8 x_k.a2, .int .u8 x_k.a3, .int .u8 x_k.a4, .int .u8 x_k.a5, .int .u8 x_k.a6, .int .u8 x_k.a7])]
def parrelref05_Name_T0 (x_k : A8 (Int)) (x_n : Int) : List LV := .any :: (.ptr 0 0 0) :: .any :: .any :: (.int .i64 x_n) :: n_ 25 []
def parrelref05_Name_H0 (x_k : A8 (Int)) (x_n : Int) : Heap := [some (.var [.int .u8 x_k.a0, .int .u8 x_k.a1, .int .u8 x_k.a2, .int .u8 x_k.a3, .int .u8 x_k.a4, .int .u8 x_k.a5, .int .u8 x_k.a6, .int .u8 x_k.a7])]
def parrelref05_Name_l1 (x_k : A8 (Int)) (x_n : Int)  : Nat → (Int) → Option ((List UInt8) × (Bool))
 | 0, _ => none
 | fuel + 1, i =>
  if ((decide (i < 8)) : Bool) then
   if 0 ≤ i ∧ i < 8 then
   if (((A8.get x_k i.toNat) != 0) : Bool) then
    some ([], false)
   else
    parrelref05_Name_l1 x_k x_n  fuel (IntKind.wrap .i64 (i + 1))
   else none
  else
   if ((x_n == 0) : Bool) then
    some ([], false)
   else
    if 0 ≤ (0 : Int) ∧ 0 ≤ x_n ∧ x_n ≤ 8 then
    some ((strI (([x_k.a0, x_k.a1, x_k.a2, x_k.a3, x_k.a4, x_k.a5, x_k.a6, x_k.a7] : List Int).take (x_n.toNat))), true)
    else none
def parrelref05_Name_l0 (x_k : A8 (Int))  : Nat → (Int) → Option ((List UInt8) × (Bool))
 | 0, _ => none
 | fuel + 1, x_n =>
  if ((decide (x_n < 8)) : Bool) then
   if 0 ≤ x_n ∧ x_n < 8 then
   if (((A8.get x_k x_n.toNat) != 0) : Bool) then
    parrelref05_Name_l0 x_k  fuel (IntKind.wrap .i64 (x_n + 1))
   else
    parrelref05_Name_l1 x_k x_n  big x_n
   else none
  else
   parrelref05_Name_l1 x_k x_n  big x_n
def parrelref05_Name (x_k : A8 (Int)) : Option ((List UInt8) × (Bool)) :=
 parrelref05_Name_l0 x_k  big 0
theorem parrelref05_Name_l1_ok {w0 : World} {W : Nat → Prop} {μ0 : Emb} (hμ : ∀ c p, μ0 c = some p → c < 0) (x_k : A8 (Int)) (x_n : Int) : ∀ (fuel : Nat) (i : Int) (r : (List UInt8) × (Bool)), parrelref05_Name_l1 x_k x_n  fuel i = some r → kont Tryz.prog w0 W μ0 (FnPost Tryz.prog Tryz.f93 0 0 (parrelref05_Name_v r) []) (kAt (bodyOf Tryz.f93) 1) none (parrelref05_Name_T1 x_k x_n i) (parrelref05_Name_H1 x_k x_n i) := by
 intro fuel
 induction fuel with
 | zero => intro i r h; rw [parrelref05_Name_l1] at h; cases h
 | succ fuel ih =>
  intro i r h
  rw [parrelref05_Name_l1] at h
  rcases itb_some h with ⟨C1, h⟩ | ⟨C1, h⟩
  ·obtain ⟨G2, h⟩ := guard_some h
   rcases itb_some h with ⟨C3, h⟩ | ⟨C3, h⟩
   ·obtain rfl := si_ h
    exact rr_ [] 25 [.go, .reg [(1, hT)], .reg [(2, { v := some (.int .u8 (A8.get x_k i.toNat)) }), (3, hT)], .reg []]
     (a_ (a_ (r1_ (f_ C1 tr)) (a_ (r1_ (a_ (a_ G2 tr) (a_ (a_ (a_ tr (arrLt (len := 8) G2 0 1 8 rfl rfl)) (a_ (ld8s (cInt .u8) 1 (fun _ => rfl) x_k [] [] 0 rfl i.toNat (lt8N G2) (le_ (0 + 1) 1 rfl)) tr)) (f_ C3 tr)))) (a_ (r2_ tr) tr))) tr)
   ·exact rt_ hμ [0] 26 [.go, .reg [(1, hT)], .reg [(2, { v := some (.int .u8 (A8.get x_k i.toNat)) }), (3, hF)], .reg []]
     (a_ (r1_ (f_ C1 tr)) (a_ (r1_ (a_ (a_ G2 tr) (a_ (a_ (a_ tr (arrLt (len := 8) G2 0 1 8 rfl rfl)) (a_ (ld8s (cInt .u8) 1 (fun _ => rfl) x_k [] [] 0 rfl i.toNat (lt8N G2) (le_ (0 + 1) 1 rfl)) tr)) (f_ C3 tr)))) (a_ (r1_ (r2_ tr)) tr))) (ih _ r h) ⟨rfl, trivial⟩
  ·rcases itb_some h with ⟨C2, h⟩ | ⟨C2, h⟩
   ·obtain rfl := si_ h
    exact rr_ [] 24 [.go, .reg [(1, hF)], .reg [(1, hT)], .reg []]
     (a_ (a_ (r1_ (f_ C1 tr)) (a_ (r1_ (f_ C2 tr)) (a_ (r2_ tr) tr))) tr)
   ·obtain ⟨G3, h⟩ := guard_some h
    obtain rfl := si_ h
    exact rr_ [] 25 [.go, .reg [(1, hF)], .reg [(1, hF)], .reg [(2, { v := some (.str (strI (([x_k.a0, x_k.a1, x_k.a2, x_k.a3, x_k.a4, x_k.a5, x_k.a6, x_k.a7] : List Int).take (x_n.toNat)))) })]]
     (a_ (a_ (r1_ (f_ C1 tr)) (a_ (r1_ (f_ C2 tr)) (a_ (r1_ (a_ (a_ G3 tr) (a_ (a_ (arr_ob [x_k.a0, x_k.a1, x_k.a2, x_k.a3, x_k.a4, x_k.a5, x_k.a6, x_k.a7] (x_n.toNat) 8 (toN_le (n := 8) G3.2.2) rfl) (a_ (le_arr [x_k.a0, x_k.a1, x_k.a2, x_k.a3, x_k.a4, x_k.a5, x_k.a6, x_k.a7] (x_n.toNat) 8 (toN_le (n := 8) G3.2.2) rfl) tr)) (r2_ tr)))) tr))) tr)
theorem parrelref05_Name_l0_ok {w0 : World} {W : Nat → Prop} {μ0 : Emb} (hμ : ∀ c p, μ0 c = some p → c < 0) (x_k : A8 (Int)) : ∀ (fuel : Nat) (x_n : Int) (r : (List UInt8) × (Bool)), parrelref05_Name_l0 x_k  fuel x_n = some r → kont Tryz.prog w0 W μ0 (FnPost Tryz.prog Tryz.f93 0 0 (parrelref05_Name_v r) []) (kAt (bodyOf Tryz.f93) 0) none (parrelref05_Name_T0 x_k x_n) (parrelref05_Name_H0 x_k x_n) := by
 intro fuel
 induction fuel with
 | zero => intro x_n r h; rw [parrelref05_Name_l0] at h; cases h
 | succ fuel ih =>
  intro x_n r h
  rw [parrelref05_Name_l0] at h
  rcases itb_some h with ⟨C1, h⟩ | ⟨C1, h⟩
  ·obtain ⟨G2, h⟩ := guard_some h
   rcases itb_some h with ⟨C3, h⟩ | ⟨C3, h⟩
   ·exact rt_ hμ [0] 20 [.go, .reg [(2, hT), (5, { v := some (.int .u8 (A8.get x_k x_n.toNat)) }), (7, hT)], .reg []]
     (a_ (r2_ (f_ C1 (r1_ (a_ (a_ G2 tr) (a_ (a_ (a_ tr (arrLt (len := 8) G2 0 1 8 rfl rfl)) (a_ (ld8s (cInt .u8) 1 (fun _ => rfl) x_k [] [] 0 rfl x_n.toNat (lt8N G2) (le_ (0 + 1) 1 rfl)) tr)) (r1_ (f_ C3 tr))))))) (a_ (r1_ (r2_ tr)) tr)) (ih _ r h) ⟨rfl, trivial⟩
   ·exact rt_ hμ [0] 22 [.go, .reg [(2, hT), (5, { v := some (.int .u8 (A8.get x_k x_n.toNat)) }), (7, hF)], .reg []]
     (a_ (r2_ (f_ C1 (r1_ (a_ (a_ G2 tr) (a_ (a_ (a_ tr (arrLt (len := 8) G2 0 1 8 rfl rfl)) (a_ (ld8s (cInt .u8) 1 (fun _ => rfl) x_k [] [] 0 rfl x_n.toNat (lt8N G2) (le_ (0 + 1) 1 rfl)) tr)) (r1_ (f_ C3 tr))))))) (a_ (r2_ tr) tr)) (parrelref05_Name_l1_ok hμ x_k x_n  big _ r h) ⟨rfl, trivial⟩
  ·exact rt_ hμ [0] 22 [.go, .reg [(2, hF)], .reg []]
    (a_ (r2_ (f_ C1 (t4_ (r1_ tr)))) (a_ (r2_ tr) tr)) (parrelref05_Name_l1_ok hμ x_k x_n  big _ r h) ⟨rfl, trivial⟩
theorem parrelref05_Name_ok (x_k : A8 (Int)) (r : (List UInt8) × (Bool)) (h : parrelref05_Name x_k = some r) : ∀ σ, Inj 0 σ → FnTri Tryz.prog 93 (renL σ [.agg [.int .u8 x_k.a0, .int .u8 x_k.a1, .int .u8 x_k.a2, .int .u8 x_k.a3, .int .u8 x_k.a4, .int .u8 x_k.a5, .int .u8 x_k.a6, .int .u8 x_k.a7]]) (preOf σ 0 []) ((parrelref05_Name_v r).ren σ) (upOf σ []) := by
 refine fo_ Tryz.func93 trivial trivial ?_
 intro w0 W μ0 hμ
 unfold parrelref05_Name at h
 exact rt_ hμ [0] 18 [.reg [], .reg []]
  (a_ (r1_ (r2_ tr)) (a_ (r1_ tr) tr)) (parrelref05_Name_l0_ok hμ x_k  big _ r h) ⟨rfl, trivial⟩
theorem parrelref05_Name_tri (x_k : A8 (Int)) (r : (List UInt8) × (Bool)) (h : parrelref05_Name x_k = some r) : FnTri Tryz.prog 93 [.agg [.int .u8 x_k.a0, .int .u8 x_k.a1, .int .u8 x_k.a2, .int .u8 x_k.a3, .int .u8 x_k.a4, .int .u8 x_k.a5, .int .u8 x_k.a6, .int .u8 x_k.a7]] [] (parrelref05_Name_v r) [] := FnTri.none (parrelref05_Name_ok x_k r h) rfl rfl
/-- parrel/parrelref10.KeyMay -/
def parrelref10_KeyMay_v (r : (Bool)) : LV := .bool r
def parrelref10_KeyMay (x_k : A8 (Int)) : Option ((Bool)) :=
 (parrelref05_Name x_k).bind fun y2 =>
 some y2.2
theorem parrelref10_KeyMay_ok (x_k : A8 (Int)) (r : (Bool)) (h : parrelref10_KeyMay x_k = some r) : ∀ σ, Inj 0 σ → FnTri Tryz.prog 78 (renL σ [.agg [.int .u8 x_k.a0, .int .u8 x_k.a1, .int .u8 x_k.a2, .int .u8 x_k.a3, .int .u8 x_k.a4, .int .u8 x_k.a5, .int .u8 x_k.a6, .int .u8 x_k.a7]]) (preOf σ 0 []) ((parrelref10_KeyMay_v r).ren σ) (upOf σ []) := by
 refine fo_ Tryz.func78 trivial trivial ?_
 intro w0 W μ0 hμ
 unfold parrelref10_KeyMay at h
 obtain ⟨y2, e1, h⟩ := bind_some h
 obtain rfl := si_ h
 exact rr_ [] 18 [.reg [], .reg [(1, hC (parrelref05_Name_v y2))], .reg []]
  (a_ (a_ (r2_ tr) (a_ (m_ 8 8 rfl (c_ (parrelref05_Name_tri x_k y2 e1) (r1_ (r4_ tr)))) (a_ (r2_ tr) tr))) tr)
theorem parrelref10_KeyMay_tri (x_k : A8 (Int)) (r : (Bool)) (h : parrelref10_KeyMay x_k = some r) : FnTri Tryz.prog 78 [.agg [.int .u8 x_k.a0, .int .u8 x_k.a1, .int .u8 x_k.a2, .int .u8 x_k.a3, .int .u8 x_k.a4, .int .u8 x_k.a5, .int .u8 x_k.a6, .int .u8 x_k.a7]] [] (parrelref10_KeyMay_v r) [] := FnTri.none (parrelref10_KeyMay_ok x_k r h) rfl rfl
/-- parrel/parrelref27.number -/
def r27_number_v (r : (Bool)) : LV := .bool r
def r27_number (x_n : Int) : Option ((Bool)) :=
 if ((decide (0 ≤ x_n)) : Bool) then
  some (decide (x_n ≤ 2147483647))
 else
  some false
theorem r27_number_ok (x_n : Int) (r : (Bool)) (h : r27_number x_n = some r) : ∀ σ, Inj 0 σ → FnTri Tryz.prog 79 (renL σ [.int .i64 x_n]) (preOf σ 0 []) ((r27_number_v r).ren σ) (upOf σ []) := by
 refine fo_ Tryz.func79 trivial trivial ?_
 intro w0 W μ0 hμ
 unfold r27_number at h
 rcases itb_some h with ⟨c1, h⟩ | ⟨c1, h⟩
 ·obtain rfl := si_ h
  exact rr_ [] 15 [.reg [], .reg [(2, hT)]]
   (a_ (a_ (r1_ tr) (a_ (r2_ (f_ c1 (r4_ tr))) tr)) tr)
 ·obtain rfl := si_ h
  exact rr_ [] 15 [.reg [], .reg [(2, hF)]]
   (a_ (a_ (r1_ tr) (a_ (r2_ (f_ c1 (t2_ (r2_ tr)))) tr)) tr)
theorem r27_number_tri (x_n : Int) (r : (Bool)) (h : r27_number x_n = some r) : FnTri Tryz.prog 79 [.int .i64 x_n] [] (r27_number_v r) [] := FnTri.none (r27_number_ok x_n r h) rfl rfl
/-- parrel/parrelref27.May -/
def r27_May_v (r : (Bool)) : LV := .bool r
def r27_May_T1000008 (s : T_r27_Step)  : List LV := .any :: (.ptr 0 0 0) :: n_ 111 []
def r27_May_H1000008 (s : T_r27_Step)  : Heap := [some (.var (c_T_r27_Step s))]
def r27_May_T1000007   : List LV := n_ 113 []
def r27_May_H1000007   : Heap := []
def r27_May_T1000004 (s : T_r27_Step)  : List LV := .any :: (.ptr 0 0 0) :: .any :: (.ptr 1 0 0) :: n_ 109 []
def r27_May_H1000004 (s : T_r27_Step)  : Heap := [some (.var (c_T_r27_Step s)), some (.var (c_T_r27_Call s.f_Call))]
def r27_May_c8 (s : T_r27_Step)   : Option ((Bool)) :=
 (r27_number s.f_Node).bind fun yC8_2 =>
 if (yC8_2 : Bool) then
  (r27_number s.f_Wire).bind fun yC8_5 =>
  if (yC8_5 : Bool) then
   (r27_number s.f_To).bind fun yC8_8 =>
   if (yC8_8 : Bool) then
    (r27_number s.f_N).bind fun yC8_11 =>
    if (yC8_11 : Bool) then
     some (decide (((s.f_Bytes).length : Int) ≤ 4096))
    else
     if ((s.f_N == (-1)) : Bool) then
      some (decide (((s.f_Bytes).length : Int) ≤ 4096))
     else
      some false
   else
    some false
  else
   some false
 else
  some false
def r27_May_c7    : Option ((Bool)) :=
 some false
def r27_May_c4 (s : T_r27_Step)   : Option ((Bool)) :=
 if ((s.f_Kind == 1) : Bool) then
  if ((s.f_Call.f_Kind == 2) : Bool) then
   if ((decide (s.f_Call.f_Kind < 1)) : Bool) then
    some false
   else
    if ((decide (6 < s.f_Call.f_Kind)) : Bool) then
     some false
    else
     (parrelref10_KeyMay s.f_Call.f_Key).bind fun yC4_6 =>
     if ((!yC4_6) : Bool) then
      r27_May_c7   
     else
      if ((decide (2147483647 < s.f_Call.f_Seq)) : Bool) then
       r27_May_c7   
      else
       if ((decide (2147483647 < s.f_Call.f_Tx.f_Boot)) : Bool) then
        r27_May_c7   
       else
        if ((decide (2147483647 < s.f_Call.f_Tx.f_Num)) : Bool) then
         r27_May_c7   
        else
         if ((decide (8 < ((s.f_Call.f_Votes).length : Int))) : Bool) then
          r27_May_c7   
         else
          if ((decide (64 < ((s.f_Call.f_Value).length : Int))) : Bool) then
           r27_May_c7   
          else
           r27_May_c8 s  
  else
   if ((s.f_Call.f_Kind == 3) : Bool) then
    if ((decide (s.f_Call.f_Kind < 1)) : Bool) then
     some false
    else
     if ((decide (6 < s.f_Call.f_Kind)) : Bool) then
      some false
     else
      (parrelref10_KeyMay s.f_Call.f_Key).bind fun yC4_7 =>
      if ((!yC4_7) : Bool) then
       r27_May_c7   
      else
       if ((decide (2147483647 < s.f_Call.f_Seq)) : Bool) then
        r27_May_c7   
       else
        if ((decide (2147483647 < s.f_Call.f_Tx.f_Boot)) : Bool) then
         r27_May_c7   
        else
         if ((decide (2147483647 < s.f_Call.f_Tx.f_Num)) : Bool) then
          r27_May_c7   
         else
          if ((decide (8 < ((s.f_Call.f_Votes).length : Int))) : Bool) then
           r27_May_c7   
          else
           if ((decide (64 < ((s.f_Call.f_Value).length : Int))) : Bool) then
            r27_May_c7   
           else
            r27_May_c8 s  
   else
    if ((decide (s.f_Call.f_Kind < 1)) : Bool) then
     some false
    else
     if ((decide (6 < s.f_Call.f_Kind)) : Bool) then
      some false
     else
      if ((s.f_Call.f_Kind == 6) : Bool) then
       (parrelref10_KeyMay s.f_Call.f_Key).bind fun yC4_8 =>
       if ((!yC4_8) : Bool) then
        r27_May_c7   
       else
        if ((decide (2147483647 < s.f_Call.f_Seq)) : Bool) then
         r27_May_c7   
        else
         if ((decide (2147483647 < s.f_Call.f_Tx.f_Boot)) : Bool) then
          r27_May_c7   
         else
          if ((decide (2147483647 < s.f_Call.f_Tx.f_Num)) : Bool) then
           r27_May_c7   
          else
           if ((decide (8 < ((s.f_Call.f_Votes).length : Int))) : Bool) then
            r27_May_c7   
           else
            if ((decide (64 < ((s.f_Call.f_Value).length : Int))) : Bool) then
             r27_May_c7   
            else
             r27_May_c8 s  
      else
       if ((decide (2147483647 < s.f_Call.f_Seq)) : Bool) then
        r27_May_c7   
       else
        if ((decide (2147483647 < s.f_Call.f_Tx.f_Boot)) : Bool) then
         r27_May_c7   
        else
         if ((decide (2147483647 < s.f_Call.f_Tx.f_Num)) : Bool) then
          r27_May_c7   
         else
          if ((decide (8 < ((s.f_Call.f_Votes).length : Int))) : Bool) then
           r27_May_c7   
          else
           if ((decide (64 < ((s.f_Call.f_Value).length : Int))) : Bool) then
            r27_May_c7   
           else
            r27_May_c8 s  
 else
  (r27_number s.f_Node).bind fun yC4_3 =>
  if (yC4_3 : Bool) then
   (r27_number s.f_Wire).bind fun yC4_6 =>
   if (yC4_6 : Bool) then
    (r27_number s.f_To).bind fun yC4_9 =>
    if (yC4_9 : Bool) then
     (r27_number s.f_N).bind fun yC4_12 =>
     if (yC4_12 : Bool) then
      some (decide (((s.f_Bytes).length : Int) ≤ 4096))
     else
      if ((s.f_N == (-1)) : Bool) then
       some (decide (((s.f_Bytes).length : Int) ≤ 4096))
      else
       some false
    else
     some false
   else
    some false
  else
   some false
def r27_May (s : T_r27_Step) : Option ((Bool)) :=
 if ((decide (s.f_Kind < 1)) : Bool) then
  some false
 else
  if ((decide (10 < s.f_Kind)) : Bool) then
   some false
  else
   (r27_kept s).bind fun y4 =>
   (r27_Same y4 s).bind fun y6 =>
   if ((!y6) : Bool) then
    some false
   else
    r27_May_c4 s  
theorem r27_May_c8_ok {w0 : World} {W : Nat → Prop} {μ0 : Emb} (hμ : ∀ c p, μ0 c = some p → c < 0) (s : T_r27_Step)   (r : (Bool)) (h : r27_May_c8 s   = some r) : kont Tryz.prog w0 W μ0 (FnPost Tryz.prog Tryz.f47 0 0 (r27_May_v r) []) (kAtR (bodyOf Tryz.f47) 8) none (r27_May_T1000008 s ) (r27_May_H1000008 s ) := by
 unfold r27_May_c8 at h
 obtain ⟨yC8_2, E1, h⟩ := bind_some h
 rcases itb_some h with ⟨C3, h⟩ | ⟨C3, h⟩
 ·obtain ⟨yC8_5, E4, h⟩ := bind_some h
  rcases itb_some h with ⟨C6, h⟩ | ⟨C6, h⟩
  ·obtain ⟨yC8_8, E7, h⟩ := bind_some h
   rcases itb_some h with ⟨C9, h⟩ | ⟨C9, h⟩
   ·obtain ⟨yC8_11, E10, h⟩ := bind_some h
    rcases itb_some h with ⟨C12, h⟩ | ⟨C12, h⟩
    ·obtain rfl := si_ h
     exact rr_ [] 11 [.reg [(2, hC (r27_number_v yC8_2)), (3, hT), (6, hC (r27_number_v yC8_5)), (8, hT), (11, hC (r27_number_v yC8_8)), (13, hT), (16, hC (r27_number_v yC8_11)), (17, hT)]]
      (a_ (a_ (r1_ (l_ 1 25 rfl (c_ (r27_number_tri s.f_Node yC8_2 E1) (f_ C3 (r1_ (l_ 2 25 rfl (c_ (r27_number_tri s.f_Wire yC8_5 E4) (r1_ (f_ C6 (r1_ (l_ 23 25 rfl (c_ (r27_number_tri s.f_To yC8_8 E7) (r1_ (f_ C9 (r1_ (l_ 3 25 rfl (c_ (r27_number_tri s.f_N yC8_11 E10) (f_ C12 (a_ tr (t2_ (r4_ (l_ 24 25 rfl (r4_ tr))))))))))))))))))))))) tr) tr)
    ·rcases itb_some h with ⟨C13, h⟩ | ⟨C13, h⟩
     ·obtain rfl := si_ h
      exact rr_ [] 11 [.reg [(2, hC (r27_number_v yC8_2)), (3, hT), (6, hC (r27_number_v yC8_5)), (8, hT), (11, hC (r27_number_v yC8_8)), (13, hT), (16, hC (r27_number_v yC8_11)), (17, hF), (23, hT)]]
       (a_ (a_ (r1_ (l_ 1 25 rfl (c_ (r27_number_tri s.f_Node yC8_2 E1) (f_ C3 (r1_ (l_ 2 25 rfl (c_ (r27_number_tri s.f_Wire yC8_5 E4) (r1_ (f_ C6 (r1_ (l_ 23 25 rfl (c_ (r27_number_tri s.f_To yC8_8 E7) (r1_ (f_ C9 (r1_ (l_ 3 25 rfl (c_ (r27_number_tri s.f_N yC8_11 E10) (f_ C12 (r1_ (l_ 3 25 rfl (r1_ (r2_ (f_ C13 (r1_ (l_ 24 25 rfl (r4_ tr)))))))))))))))))))))))))) tr) tr)
     ·obtain rfl := si_ h
      exact rr_ [] 11 [.reg [(2, hC (r27_number_v yC8_2)), (3, hT), (6, hC (r27_number_v yC8_5)), (8, hT), (11, hC (r27_number_v yC8_8)), (13, hT), (16, hC (r27_number_v yC8_11)), (17, hF), (23, hF)]]
       (a_ (a_ (r1_ (l_ 1 25 rfl (c_ (r27_number_tri s.f_Node yC8_2 E1) (f_ C3 (r1_ (l_ 2 25 rfl (c_ (r27_number_tri s.f_Wire yC8_5 E4) (r1_ (f_ C6 (r1_ (l_ 23 25 rfl (c_ (r27_number_tri s.f_To yC8_8 E7) (r1_ (f_ C9 (r1_ (l_ 3 25 rfl (c_ (r27_number_tri s.f_N yC8_11 E10) (f_ C12 (r1_ (l_ 3 25 rfl (r1_ (r2_ (f_ C13 (t4_ (r2_ tr))))))))))))))))))))))))) tr) tr)
   ·obtain rfl := si_ h
    exact rr_ [] 11 [.reg [(2, hC (r27_number_v yC8_2)), (3, hT), (6, hC (r27_number_v yC8_5)), (8, hT), (11, hC (r27_number_v yC8_8)), (13, hF)]]
     (a_ (a_ (r1_ (l_ 1 25 rfl (c_ (r27_number_tri s.f_Node yC8_2 E1) (f_ C3 (r1_ (l_ 2 25 rfl (c_ (r27_number_tri s.f_Wire yC8_5 E4) (r1_ (f_ C6 (r1_ (l_ 23 25 rfl (c_ (r27_number_tri s.f_To yC8_8 E7) (r1_ (f_ C9 (t8_ (r2_ (t4_ (r2_ tr)))))))))))))))))) tr) tr)
  ·obtain rfl := si_ h
   exact rr_ [] 11 [.reg [(2, hC (r27_number_v yC8_2)), (3, hT), (6, hC (r27_number_v yC8_5)), (8, hF)]]
    (a_ (a_ (r1_ (l_ 1 25 rfl (c_ (r27_number_tri s.f_Node yC8_2 E1) (f_ C3 (r1_ (l_ 2 25 rfl (c_ (r27_number_tri s.f_Wire yC8_5 E4) (r1_ (f_ C6 (a_ tr (t2_ (r2_ (t8_ (r2_ (t4_ (r2_ tr)))))))))))))))) tr) tr)
 ·obtain rfl := si_ h
  exact rr_ [] 11 [.reg [(2, hC (r27_number_v yC8_2)), (3, hF)]]
   (a_ (a_ (r1_ (l_ 1 25 rfl (c_ (r27_number_tri s.f_Node yC8_2 E1) (f_ C3 (a_ tr (t2_ (r2_ (a_ tr (t2_ (r2_ (t8_ (r2_ (t4_ (r2_ tr)))))))))))))) tr) tr)
theorem r27_May_c7_ok {w0 : World} {W : Nat → Prop} {μ0 : Emb} (hμ : ∀ c p, μ0 c = some p → c < 0)    (r : (Bool)) (h : r27_May_c7    = some r) : kont Tryz.prog w0 W μ0 (FnPost Tryz.prog Tryz.f47 0 0 (r27_May_v r) []) (kAtR (bodyOf Tryz.f47) 7) none (r27_May_T1000007 ) (r27_May_H1000007 ) := by
 unfold r27_May_c7 at h
 obtain rfl := si_ h
 exact rr_ [] 11 [.reg []]
  (a_ (a_ (r1_ tr) tr) tr)
theorem r27_May_c4_ok {w0 : World} {W : Nat → Prop} {μ0 : Emb} (hμ : ∀ c p, μ0 c = some p → c < 0) (s : T_r27_Step)   (r : (Bool)) (h : r27_May_c4 s   = some r) : kont Tryz.prog w0 W μ0 (FnPost Tryz.prog Tryz.f47 0 0 (r27_May_v r) []) (kAtR (bodyOf Tryz.f47) 4) none (r27_May_T1000004 s ) (r27_May_H1000004 s ) := by
 unfold r27_May_c4 at h
 rcases itb_some h with ⟨C1, h⟩ | ⟨C1, h⟩
 ·rcases itb_some h with ⟨C2, h⟩ | ⟨C2, h⟩
  ·rcases itb_some h with ⟨C3, h⟩ | ⟨C3, h⟩
   ·obtain rfl := si_ h
    exact rr_ [] 22 [.reg [(2, hT)], .reg [(3, hT)], .reg [(3, hT)], .reg []]
     (a_ (a_ (r1_ (l_ 0 25 rfl (f_ C1 tr))) (a_ (r1_ (l_ 2 18 rfl (r1_ (f_ C2 (a_ tr (t2_ (r2_ (a_ tr (t2_ (r2_ tr)))))))))) (a_ (r1_ (l_ 2 18 rfl (r1_ (f_ C3 (a_ tr (t2_ (r2_ (a_ tr (t2_ (t4_ (r2_ (a_ tr (t2_ (r2_ (t4_ (r2_ (t4_ (r2_ (t4_ (r2_ (t4_ (r1_ tr)))))))))))))))))))))) (a_ (r1_ tr) tr)))) tr)
   ·rcases itb_some h with ⟨C4, h⟩ | ⟨C4, h⟩
    ·obtain rfl := si_ h
     exact rr_ [] 22 [.reg [(2, hT)], .reg [(3, hT)], .reg [(3, hF), (8, hT)], .reg []]
      (a_ (a_ (r1_ (l_ 0 25 rfl (f_ C1 tr))) (a_ (r1_ (l_ 2 18 rfl (r1_ (f_ C2 (a_ tr (t2_ (r2_ (a_ tr (t2_ (r2_ tr)))))))))) (a_ (r1_ (l_ 2 18 rfl (r1_ (f_ C3 (r1_ (l_ 2 18 rfl (r2_ (f_ C4 (a_ tr (t2_ (t4_ (r2_ (a_ tr (t2_ (r2_ (t4_ (r2_ (t4_ (r2_ (t4_ (r2_ (t4_ (r1_ tr))))))))))))))))))))))) (a_ (r1_ tr) tr)))) tr)
    ·obtain ⟨yC4_6, E5, h⟩ := bind_some h
     rcases itb_some h with ⟨C7, h⟩ | ⟨C7, h⟩
     ·exact rt_ hμ [] 20 [.reg [(2, hT)], .reg [(3, hT)], .reg [(3, hF), (8, hF), (13, hC (parrelref10_KeyMay_v yC4_6)), (17, hT)]]
       (a_ (r1_ (l_ 0 25 rfl (f_ C1 tr))) (a_ (r1_ (l_ 2 18 rfl (r1_ (f_ C2 (a_ tr (t2_ (r2_ (a_ tr (t2_ (r2_ tr)))))))))) (a_ (r1_ (l_ 2 18 rfl (r1_ (f_ C3 (r1_ (l_ 2 18 rfl (r2_ (f_ C4 (r1_ (r2_ (m_ 14 18 rfl (c_ (parrelref10_KeyMay_tri s.f_Call.f_Key yC4_6 E5) (r1_ (r2_ (f_ C7 (a_ tr (t2_ (r2_ (t4_ (r2_ (t4_ (r2_ (t4_ (r2_ (t4_ (r1_ tr)))))))))))))))))))))))))) tr))) (r27_May_c7_ok hμ    r h) trivial
     ·rcases itb_some h with ⟨C8, h⟩ | ⟨C8, h⟩
      ·exact rt_ hμ [] 20 [.reg [(2, hT)], .reg [(3, hT)], .reg [(3, hF), (8, hF), (13, hC (parrelref10_KeyMay_v yC4_6)), (17, hF), (22, hT)]]
        (a_ (r1_ (l_ 0 25 rfl (f_ C1 tr))) (a_ (r1_ (l_ 2 18 rfl (r1_ (f_ C2 (a_ tr (t2_ (r2_ (a_ tr (t2_ (r2_ tr)))))))))) (a_ (r1_ (l_ 2 18 rfl (r1_ (f_ C3 (r1_ (l_ 2 18 rfl (r2_ (f_ C4 (r1_ (r2_ (m_ 14 18 rfl (c_ (parrelref10_KeyMay_tri s.f_Call.f_Key yC4_6 E5) (r1_ (r2_ (f_ C7 (r1_ (l_ 1 18 rfl (r2_ (f_ C8 (t4_ (r2_ (t4_ (r2_ (t4_ (r2_ (t4_ (r1_ tr))))))))))))))))))))))))))) tr))) (r27_May_c7_ok hμ    r h) trivial
      ·rcases itb_some h with ⟨C9, h⟩ | ⟨C9, h⟩
       ·exact rt_ hμ [] 20 [.reg [(2, hT)], .reg [(3, hT)], .reg [(3, hF), (8, hF), (13, hC (parrelref10_KeyMay_v yC4_6)), (17, hF), (22, hF), (28, hT)]]
         (a_ (r1_ (l_ 0 25 rfl (f_ C1 tr))) (a_ (r1_ (l_ 2 18 rfl (r1_ (f_ C2 (a_ tr (t2_ (r2_ (a_ tr (t2_ (r2_ tr)))))))))) (a_ (r1_ (l_ 2 18 rfl (r1_ (f_ C3 (r1_ (l_ 2 18 rfl (r2_ (f_ C4 (r1_ (r2_ (m_ 14 18 rfl (c_ (parrelref10_KeyMay_tri s.f_Call.f_Key yC4_6 E5) (r1_ (r2_ (f_ C7 (r1_ (l_ 1 18 rfl (r2_ (f_ C8 (r2_ (l_ 4 18 rfl (r2_ (f_ C9 (t4_ (r2_ (t4_ (r2_ (t4_ (r1_ tr))))))))))))))))))))))))))))) tr))) (r27_May_c7_ok hμ    r h) trivial
       ·rcases itb_some h with ⟨C10, h⟩ | ⟨C10, h⟩
        ·exact rt_ hμ [] 20 [.reg [(2, hT)], .reg [(3, hT)], .reg [(3, hF), (8, hF), (13, hC (parrelref10_KeyMay_v yC4_6)), (17, hF), (22, hF), (28, hF), (34, hT)]]
          (a_ (r1_ (l_ 0 25 rfl (f_ C1 tr))) (a_ (r1_ (l_ 2 18 rfl (r1_ (f_ C2 (a_ tr (t2_ (r2_ (a_ tr (t2_ (r2_ tr)))))))))) (a_ (r1_ (l_ 2 18 rfl (r1_ (f_ C3 (r1_ (l_ 2 18 rfl (r2_ (f_ C4 (r1_ (r2_ (m_ 14 18 rfl (c_ (parrelref10_KeyMay_tri s.f_Call.f_Key yC4_6 E5) (r1_ (r2_ (f_ C7 (r1_ (l_ 1 18 rfl (r2_ (f_ C8 (r2_ (l_ 4 18 rfl (r2_ (f_ C9 (r2_ (l_ 5 18 rfl (r2_ (f_ C10 (t4_ (r2_ (t4_ (r1_ tr))))))))))))))))))))))))))))))) tr))) (r27_May_c7_ok hμ    r h) trivial
        ·rcases itb_some h with ⟨C11, h⟩ | ⟨C11, h⟩
         ·exact rt_ hμ [] 20 [.reg [(2, hT)], .reg [(3, hT)], .reg [(3, hF), (8, hF), (13, hC (parrelref10_KeyMay_v yC4_6)), (17, hF), (22, hF), (28, hF), (34, hF), (40, hT)]]
           (a_ (r1_ (l_ 0 25 rfl (f_ C1 tr))) (a_ (r1_ (l_ 2 18 rfl (r1_ (f_ C2 (a_ tr (t2_ (r2_ (a_ tr (t2_ (r2_ tr)))))))))) (a_ (r1_ (l_ 2 18 rfl (r1_ (f_ C3 (r1_ (l_ 2 18 rfl (r2_ (f_ C4 (r1_ (r2_ (m_ 14 18 rfl (c_ (parrelref10_KeyMay_tri s.f_Call.f_Key yC4_6 E5) (r1_ (r2_ (f_ C7 (r1_ (l_ 1 18 rfl (r2_ (f_ C8 (r2_ (l_ 4 18 rfl (r2_ (f_ C9 (r2_ (l_ 5 18 rfl (r2_ (f_ C10 (r1_ (l_ 17 18 rfl (r1_ (r2_ (f_ C11 (t4_ (r1_ tr)))))))))))))))))))))))))))))))))) tr))) (r27_May_c7_ok hμ    r h) trivial
         ·rcases itb_some h with ⟨C12, h⟩ | ⟨C12, h⟩
          ·exact rt_ hμ [] 20 [.reg [(2, hT)], .reg [(3, hT)], .reg [(3, hF), (8, hF), (13, hC (parrelref10_KeyMay_v yC4_6)), (17, hF), (22, hF), (28, hF), (34, hF), (40, hF), (45, hT)]]
            (a_ (r1_ (l_ 0 25 rfl (f_ C1 tr))) (a_ (r1_ (l_ 2 18 rfl (r1_ (f_ C2 (a_ tr (t2_ (r2_ (a_ tr (t2_ (r2_ tr)))))))))) (a_ (r1_ (l_ 2 18 rfl (r1_ (f_ C3 (r1_ (l_ 2 18 rfl (r2_ (f_ C4 (r1_ (r2_ (m_ 14 18 rfl (c_ (parrelref10_KeyMay_tri s.f_Call.f_Key yC4_6 E5) (r1_ (r2_ (f_ C7 (r1_ (l_ 1 18 rfl (r2_ (f_ C8 (r2_ (l_ 4 18 rfl (r2_ (f_ C9 (r2_ (l_ 5 18 rfl (r2_ (f_ C10 (r1_ (l_ 17 18 rfl (r1_ (r2_ (f_ C11 (r1_ (l_ 14 18 rfl (r2_ (f_ C12 tr)))))))))))))))))))))))))))))))))))) tr))) (r27_May_c7_ok hμ    r h) trivial
          ·exact rt_ hμ [0] 21 [.reg [(2, hT)], .reg [(3, hT)], .reg [(3, hF), (8, hF), (13, hC (parrelref10_KeyMay_v yC4_6)), (17, hF), (22, hF), (28, hF), (34, hF), (40, hF), (45, hF)]]
            (a_ (r1_ (l_ 0 25 rfl (f_ C1 tr))) (a_ (r1_ (l_ 2 18 rfl (r1_ (f_ C2 (a_ tr (t2_ (r2_ (a_ tr (t2_ (r2_ tr)))))))))) (a_ (r1_ (l_ 2 18 rfl (r1_ (f_ C3 (r1_ (l_ 2 18 rfl (r2_ (f_ C4 (r1_ (r2_ (m_ 14 18 rfl (c_ (parrelref10_KeyMay_tri s.f_Call.f_Key yC4_6 E5) (r1_ (r2_ (f_ C7 (r1_ (l_ 1 18 rfl (r2_ (f_ C8 (r2_ (l_ 4 18 rfl (r2_ (f_ C9 (r2_ (l_ 5 18 rfl (r2_ (f_ C10 (r1_ (l_ 17 18 rfl (r1_ (r2_ (f_ C11 (r1_ (l_ 14 18 rfl (r2_ (f_ C12 tr)))))))))))))))))))))))))))))))))))) tr))) (r27_May_c8_ok hμ s   r h) ⟨rfl, trivial⟩
  ·rcases itb_some h with ⟨C3, h⟩ | ⟨C3, h⟩
   ·rcases itb_some h with ⟨C4, h⟩ | ⟨C4, h⟩
    ·obtain rfl := si_ h
     exact rr_ [] 22 [.reg [(2, hT)], .reg [(3, hF), (8, hT)], .reg [(3, hT)], .reg []]
      (a_ (a_ (r1_ (l_ 0 25 rfl (f_ C1 tr))) (a_ (r1_ (l_ 2 18 rfl (r1_ (f_ C2 (r1_ (l_ 2 18 rfl (r2_ (f_ C3 (a_ tr (t2_ (r2_ tr))))))))))) (a_ (r1_ (l_ 2 18 rfl (r1_ (f_ C4 (a_ tr (t2_ (r2_ (a_ tr (t2_ (t4_ (r2_ (a_ tr (t2_ (r2_ (t4_ (r2_ (t4_ (r2_ (t4_ (r2_ (t4_ (r1_ tr)))))))))))))))))))))) (a_ (r1_ tr) tr)))) tr)
    ·rcases itb_some h with ⟨C5, h⟩ | ⟨C5, h⟩
     ·obtain rfl := si_ h
      exact rr_ [] 22 [.reg [(2, hT)], .reg [(3, hF), (8, hT)], .reg [(3, hF), (8, hT)], .reg []]
       (a_ (a_ (r1_ (l_ 0 25 rfl (f_ C1 tr))) (a_ (r1_ (l_ 2 18 rfl (r1_ (f_ C2 (r1_ (l_ 2 18 rfl (r2_ (f_ C3 (a_ tr (t2_ (r2_ tr))))))))))) (a_ (r1_ (l_ 2 18 rfl (r1_ (f_ C4 (r1_ (l_ 2 18 rfl (r2_ (f_ C5 (a_ tr (t2_ (t4_ (r2_ (a_ tr (t2_ (r2_ (t4_ (r2_ (t4_ (r2_ (t4_ (r2_ (t4_ (r1_ tr))))))))))))))))))))))) (a_ (r1_ tr) tr)))) tr)
     ·obtain ⟨yC4_7, E6, h⟩ := bind_some h
      rcases itb_some h with ⟨C8, h⟩ | ⟨C8, h⟩
      ·exact rt_ hμ [] 20 [.reg [(2, hT)], .reg [(3, hF), (8, hT)], .reg [(3, hF), (8, hF), (13, hC (parrelref10_KeyMay_v yC4_7)), (17, hT)]]
        (a_ (r1_ (l_ 0 25 rfl (f_ C1 tr))) (a_ (r1_ (l_ 2 18 rfl (r1_ (f_ C2 (r1_ (l_ 2 18 rfl (r2_ (f_ C3 (a_ tr (t2_ (r2_ tr))))))))))) (a_ (r1_ (l_ 2 18 rfl (r1_ (f_ C4 (r1_ (l_ 2 18 rfl (r2_ (f_ C5 (r1_ (r2_ (m_ 14 18 rfl (c_ (parrelref10_KeyMay_tri s.f_Call.f_Key yC4_7 E6) (r1_ (r2_ (f_ C8 (a_ tr (t2_ (r2_ (t4_ (r2_ (t4_ (r2_ (t4_ (r2_ (t4_ (r1_ tr)))))))))))))))))))))))))) tr))) (r27_May_c7_ok hμ    r h) trivial
      ·rcases itb_some h with ⟨C9, h⟩ | ⟨C9, h⟩
       ·exact rt_ hμ [] 20 [.reg [(2, hT)], .reg [(3, hF), (8, hT)], .reg [(3, hF), (8, hF), (13, hC (parrelref10_KeyMay_v yC4_7)), (17, hF), (22, hT)]]
         (a_ (r1_ (l_ 0 25 rfl (f_ C1 tr))) (a_ (r1_ (l_ 2 18 rfl (r1_ (f_ C2 (r1_ (l_ 2 18 rfl (r2_ (f_ C3 (a_ tr (t2_ (r2_ tr))))))))))) (a_ (r1_ (l_ 2 18 rfl (r1_ (f_ C4 (r1_ (l_ 2 18 rfl (r2_ (f_ C5 (r1_ (r2_ (m_ 14 18 rfl (c_ (parrelref10_KeyMay_tri s.f_Call.f_Key yC4_7 E6) (r1_ (r2_ (f_ C8 (r1_ (l_ 1 18 rfl (r2_ (f_ C9 (t4_ (r2_ (t4_ (r2_ (t4_ (r2_ (t4_ (r1_ tr))))))))))))))))))))))))))) tr))) (r27_May_c7_ok hμ    r h) trivial
       ·rcases itb_some h with ⟨C10, h⟩ | ⟨C10, h⟩
        ·exact rt_ hμ [] 20 [.reg [(2, hT)], .reg [(3, hF), (8, hT)], .reg [(3, hF), (8, hF), (13, hC (parrelref10_KeyMay_v yC4_7)), (17, hF), (22, hF), (28, hT)]]
          (a_ (r1_ (l_ 0 25 rfl (f_ C1 tr))) (a_ (r1_ (l_ 2 18 rfl (r1_ (f_ C2 (r1_ (l_ 2 18 rfl (r2_ (f_ C3 (a_ tr (t2_ (r2_ tr))))))))))) (a_ (r1_ (l_ 2 18 rfl (r1_ (f_ C4 (r1_ (l_ 2 18 rfl (r2_ (f_ C5 (r1_ (r2_ (m_ 14 18 rfl (c_ (parrelref10_KeyMay_tri s.f_Call.f_Key yC4_7 E6) (r1_ (r2_ (f_ C8 (r1_ (l_ 1 18 rfl (r2_ (f_ C9 (r2_ (l_ 4 18 rfl (r2_ (f_ C10 (t4_ (r2_ (t4_ (r2_ (t4_ (r1_ tr))))))))))))))))))))))))))))) tr))) (r27_May_c7_ok hμ    r h) trivial
        ·rcases itb_some h with ⟨C11, h⟩ | ⟨C11, h⟩
         ·exact rt_ hμ [] 20 [.reg [(2, hT)], .reg [(3, hF), (8, hT)], .reg [(3, hF), (8, hF), (13, hC (parrelref10_KeyMay_v yC4_7)), (17, hF), (22, hF), (28, hF), (34, hT)]]
           (a_ (r1_ (l_ 0 25 rfl (f_ C1 tr))) (a_ (r1_ (l_ 2 18 rfl (r1_ (f_ C2 (r1_ (l_ 2 18 rfl (r2_ (f_ C3 (a_ tr (t2_ (r2_ tr))))))))))) (a_ (r1_ (l_ 2 18 rfl (r1_ (f_ C4 (r1_ (l_ 2 18 rfl (r2_ (f_ C5 (r1_ (r2_ (m_ 14 18 rfl (c_ (parrelref10_KeyMay_tri s.f_Call.f_Key yC4_7 E6) (r1_ (r2_ (f_ C8 (r1_ (l_ 1 18 rfl (r2_ (f_ C9 (r2_ (l_ 4 18 rfl (r2_ (f_ C10 (r2_ (l_ 5 18 rfl (r2_ (f_ C11 (t4_ (r2_ (t4_ (r1_ tr))))))))))))))))))))))))))))))) tr))) (r27_May_c7_ok hμ    r h) trivial
         ·rcases itb_some h with ⟨C12, h⟩ | ⟨C12, h⟩
          ·exact rt_ hμ [] 20 [.reg [(2, hT)], .reg [(3, hF), (8, hT)], .reg [(3, hF), (8, hF), (13, hC (parrelref10_KeyMay_v yC4_7)), (17, hF), (22, hF), (28, hF), (34, hF), (40, hT)]]
            (a_ (r1_ (l_ 0 25 rfl (f_ C1 tr))) (a_ (r1_ (l_ 2 18 rfl (r1_ (f_ C2 (r1_ (l_ 2 18 rfl (r2_ (f_ C3 (a_ tr (t2_ (r2_ tr))))))))))) (a_ (r1_ (l_ 2 18 rfl (r1_ (f_ C4 (r1_ (l_ 2 18 rfl (r2_ (f_ C5 (r1_ (r2_ (m_ 14 18 rfl (c_ (parrelref10_KeyMay_tri s.f_Call.f_Key yC4_7 E6) (r1_ (r2_ (f_ C8 (r1_ (l_ 1 18 rfl (r2_ (f_ C9 (r2_ (l_ 4 18 rfl (r2_ (f_ C10 (r2_ (l_ 5 18 rfl (r2_ (f_ C11 (r1_ (l_ 17 18 rfl (r1_ (r2_ (f_ C12 (t4_ (r1_ tr)))))))))))))))))))))))))))))))))) tr))) (r27_May_c7_ok hμ    r h) trivial
          ·rcases itb_some h with ⟨C13, h⟩ | ⟨C13, h⟩
           ·exact rt_ hμ [] 20 [.reg [(2, hT)], .reg [(3, hF), (8, hT)], .reg [(3, hF), (8, hF), (13, hC (parrelref10_KeyMay_v yC4_7)), (17, hF), (22, hF), (28, hF), (34, hF), (40, hF), (45, hT)]]
             (a_ (r1_ (l_ 0 25 rfl (f_ C1 tr))) (a_ (r1_ (l_ 2 18 rfl (r1_ (f_ C2 (r1_ (l_ 2 18 rfl (r2_ (f_ C3 (a_ tr (t2_ (r2_ tr))))))))))) (a_ (r1_ (l_ 2 18 rfl (r1_ (f_ C4 (r1_ (l_ 2 18 rfl (r2_ (f_ C5 (r1_ (r2_ (m_ 14 18 rfl (c_ (parrelref10_KeyMay_tri s.f_Call.f_Key yC4_7 E6) (r1_ (r2_ (f_ C8 (r1_ (l_ 1 18 rfl (r2_ (f_ C9 (r2_ (l_ 4 18 rfl (r2_ (f_ C10 (r2_ (l_ 5 18 rfl (r2_ (f_ C11 (r1_ (l_ 17 18 rfl (r1_ (r2_ (f_ C12 (r1_ (l_ 14 18 rfl (r2_ (f_ C13 tr)))))))))))))))))))))))))))))))))))) tr))) (r27_May_c7_ok hμ    r h) trivial
           ·exact rt_ hμ [0] 21 [.reg [(2, hT)], .reg [(3, hF), (8, hT)], .reg [(3, hF), (8, hF), (13, hC (parrelref10_KeyMay_v yC4_7)), (17, hF), (22, hF), (28, hF), (34, hF), (40, hF), (45, hF)]]
             (a_ (r1_ (l_ 0 25 rfl (f_ C1 tr))) (a_ (r1_ (l_ 2 18 rfl (r1_ (f_ C2 (r1_ (l_ 2 18 rfl (r2_ (f_ C3 (a_ tr (t2_ (r2_ tr))))))))))) (a_ (r1_ (l_ 2 18 rfl (r1_ (f_ C4 (r1_ (l_ 2 18 rfl (r2_ (f_ C5 (r1_ (r2_ (m_ 14 18 rfl (c_ (parrelref10_KeyMay_tri s.f_Call.f_Key yC4_7 E6) (r1_ (r2_ (f_ C8 (r1_ (l_ 1 18 rfl (r2_ (f_ C9 (r2_ (l_ 4 18 rfl (r2_ (f_ C10 (r2_ (l_ 5 18 rfl (r2_ (f_ C11 (r1_ (l_ 17 18 rfl (r1_ (r2_ (f_ C12 (r1_ (l_ 14 18 rfl (r2_ (f_ C13 tr)))))))))))))))))))))))))))))))))))) tr))) (r27_May_c8_ok hμ s   r h) ⟨rfl, trivial⟩
   ·rcases itb_some h with ⟨C4, h⟩ | ⟨C4, h⟩
    ·obtain rfl := si_ h
     exact rr_ [] 22 [.reg [(2, hT)], .reg [(3, hF), (8, hF)], .reg [(3, hT)], .reg []]
      (a_ (a_ (r1_ (l_ 0 25 rfl (f_ C1 tr))) (a_ (r1_ (l_ 2 18 rfl (r1_ (f_ C2 (r1_ (l_ 2 18 rfl (r2_ (f_ C3 (r1_ (l_ 2 18 rfl (r1_ (r2_ tr)))))))))))) (a_ (r1_ (l_ 2 18 rfl (r1_ (f_ C4 (a_ tr (t2_ (r2_ (a_ tr (t2_ (t4_ (r2_ (a_ tr (t2_ (r2_ (t4_ (r2_ (t4_ (r2_ (t4_ (r2_ (t4_ (r1_ tr)))))))))))))))))))))) (a_ (r1_ tr) tr)))) tr)
    ·rcases itb_some h with ⟨C5, h⟩ | ⟨C5, h⟩
     ·obtain rfl := si_ h
      exact rr_ [] 22 [.reg [(2, hT)], .reg [(3, hF), (8, hF)], .reg [(3, hF), (8, hT)], .reg []]
       (a_ (a_ (r1_ (l_ 0 25 rfl (f_ C1 tr))) (a_ (r1_ (l_ 2 18 rfl (r1_ (f_ C2 (r1_ (l_ 2 18 rfl (r2_ (f_ C3 (r1_ (l_ 2 18 rfl (r1_ (r2_ tr)))))))))))) (a_ (r1_ (l_ 2 18 rfl (r1_ (f_ C4 (r1_ (l_ 2 18 rfl (r2_ (f_ C5 (a_ tr (t2_ (t4_ (r2_ (a_ tr (t2_ (r2_ (t4_ (r2_ (t4_ (r2_ (t4_ (r2_ (t4_ (r1_ tr))))))))))))))))))))))) (a_ (r1_ tr) tr)))) tr)
     ·rcases itb_some h with ⟨C6, h⟩ | ⟨C6, h⟩
      ·obtain ⟨yC4_8, E7, h⟩ := bind_some h
       rcases itb_some h with ⟨C9, h⟩ | ⟨C9, h⟩
       ·exact rt_ hμ [] 20 [.reg [(2, hT)], .reg [(3, hF), (8, hF)], .reg [(3, hF), (8, hF), (10, hT), (13, hC (parrelref10_KeyMay_v yC4_8)), (17, hT)]]
         (a_ (r1_ (l_ 0 25 rfl (f_ C1 tr))) (a_ (r1_ (l_ 2 18 rfl (r1_ (f_ C2 (r1_ (l_ 2 18 rfl (r2_ (f_ C3 (r1_ (l_ 2 18 rfl (r1_ (r2_ tr)))))))))))) (a_ (r1_ (l_ 2 18 rfl (r1_ (f_ C4 (r1_ (l_ 2 18 rfl (r2_ (f_ C5 (r1_ (f_ C6 (r1_ (m_ 14 18 rfl (c_ (parrelref10_KeyMay_tri s.f_Call.f_Key yC4_8 E7) (r1_ (r2_ (f_ C9 (a_ tr (t2_ (r2_ (t4_ (r2_ (t4_ (r2_ (t4_ (r2_ (t4_ (r1_ tr))))))))))))))))))))))))))) tr))) (r27_May_c7_ok hμ    r h) trivial
       ·rcases itb_some h with ⟨C10, h⟩ | ⟨C10, h⟩
        ·exact rt_ hμ [] 20 [.reg [(2, hT)], .reg [(3, hF), (8, hF)], .reg [(3, hF), (8, hF), (10, hT), (13, hC (parrelref10_KeyMay_v yC4_8)), (17, hF), (22, hT)]]
          (a_ (r1_ (l_ 0 25 rfl (f_ C1 tr))) (a_ (r1_ (l_ 2 18 rfl (r1_ (f_ C2 (r1_ (l_ 2 18 rfl (r2_ (f_ C3 (r1_ (l_ 2 18 rfl (r1_ (r2_ tr)))))))))))) (a_ (r1_ (l_ 2 18 rfl (r1_ (f_ C4 (r1_ (l_ 2 18 rfl (r2_ (f_ C5 (r1_ (f_ C6 (r1_ (m_ 14 18 rfl (c_ (parrelref10_KeyMay_tri s.f_Call.f_Key yC4_8 E7) (r1_ (r2_ (f_ C9 (r1_ (l_ 1 18 rfl (r2_ (f_ C10 (t4_ (r2_ (t4_ (r2_ (t4_ (r2_ (t4_ (r1_ tr)))))))))))))))))))))))))))) tr))) (r27_May_c7_ok hμ    r h) trivial
        ·rcases itb_some h with ⟨C11, h⟩ | ⟨C11, h⟩
         ·exact rt_ hμ [] 20 [.reg [(2, hT)], .reg [(3, hF), (8, hF)], .reg [(3, hF), (8, hF), (10, hT), (13, hC (parrelref10_KeyMay_v yC4_8)), (17, hF), (22, hF), (28, hT)]]
           (a_ (r1_ (l_ 0 25 rfl (f_ C1 tr))) (a_ (r1_ (l_ 2 18 rfl (r1_ (f_ C2 (r1_ (l_ 2 18 rfl (r2_ (f_ C3 (r1_ (l_ 2 18 rfl (r1_ (r2_ tr)))))))))))) (a_ (r1_ (l_ 2 18 rfl (r1_ (f_ C4 (r1_ (l_ 2 18 rfl (r2_ (f_ C5 (r1_ (f_ C6 (r1_ (m_ 14 18 rfl (c_ (parrelref10_KeyMay_tri s.f_Call.f_Key yC4_8 E7) (r1_ (r2_ (f_ C9 (r1_ (l_ 1 18 rfl (r2_ (f_ C10 (r2_ (l_ 4 18 rfl (r2_ (f_ C11 (t4_ (r2_ (t4_ (r2_ (t4_ (r1_ tr)))))))))))))))))))))))))))))) tr))) (r27_May_c7_ok hμ    r h) trivial
         ·rcases itb_some h with ⟨C12, h⟩ | ⟨C12, h⟩
          ·exact rt_ hμ [] 20 [.reg [(2, hT)], .reg [(3, hF), (8, hF)], .reg [(3, hF), (8, hF), (10, hT), (13, hC (parrelref10_KeyMay_v yC4_8)), (17, hF), (22, hF), (28, hF), (34, hT)]]
            (a_ (r1_ (l_ 0 25 rfl (f_ C1 tr))) (a_ (r1_ (l_ 2 18 rfl (r1_ (f_ C2 (r1_ (l_ 2 18 rfl (r2_ (f_ C3 (r1_ (l_ 2 18 rfl (r1_ (r2_ tr)))))))))))) (a_ (r1_ (l_ 2 18 rfl (r1_ (f_ C4 (r1_ (l_ 2 18 rfl (r2_ (f_ C5 (r1_ (f_ C6 (r1_ (m_ 14 18 rfl (c_ (parrelref10_KeyMay_tri s.f_Call.f_Key yC4_8 E7) (r1_ (r2_ (f_ C9 (r1_ (l_ 1 18 rfl (r2_ (f_ C10 (r2_ (l_ 4 18 rfl (r2_ (f_ C11 (r2_ (l_ 5 18 rfl (r2_ (f_ C12 (t4_ (r2_ (t4_ (r1_ tr)))))))))))))))))))))))))))))))) tr))) (r27_May_c7_ok hμ    r h) trivial
          ·rcases itb_some h with ⟨C13, h⟩ | ⟨C13, h⟩
           ·exact rt_ hμ [] 20 [.reg [(2, hT)], .reg [(3, hF), (8, hF)], .reg [(3, hF), (8, hF), (10, hT), (13, hC (parrelref10_KeyMay_v yC4_8)), (17, hF), (22, hF), (28, hF), (34, hF), (40, hT)]]
             (a_ (r1_ (l_ 0 25 rfl (f_ C1 tr))) (a_ (r1_ (l_ 2 18 rfl (r1_ (f_ C2 (r1_ (l_ 2 18 rfl (r2_ (f_ C3 (r1_ (l_ 2 18 rfl (r1_ (r2_ tr)))))))))))) (a_ (r1_ (l_ 2 18 rfl (r1_ (f_ C4 (r1_ (l_ 2 18 rfl (r2_ (f_ C5 (r1_ (f_ C6 (r1_ (m_ 14 18 rfl (c_ (parrelref10_KeyMay_tri s.f_Call.f_Key yC4_8 E7) (r1_ (r2_ (f_ C9 (r1_ (l_ 1 18 rfl (r2_ (f_ C10 (r2_ (l_ 4 18 rfl (r2_ (f_ C11 (r2_ (l_ 5 18 rfl (r2_ (f_ C12 (r1_ (l_ 17 18 rfl (r1_ (r2_ (f_ C13 (t4_ (r1_ tr))))))))))))))))))))))))))))))))))) tr))) (r27_May_c7_ok hμ    r h) trivial
           ·rcases itb_some h with ⟨C14, h⟩ | ⟨C14, h⟩
            ·exact rt_ hμ [] 20 [.reg [(2, hT)], .reg [(3, hF), (8, hF)], .reg [(3, hF), (8, hF), (10, hT), (13, hC (parrelref10_KeyMay_v yC4_8)), (17, hF), (22, hF), (28, hF), (34, hF), (40, hF), (45, hT)]]
              (a_ (r1_ (l_ 0 25 rfl (f_ C1 tr))) (a_ (r1_ (l_ 2 18 rfl (r1_ (f_ C2 (r1_ (l_ 2 18 rfl (r2_ (f_ C3 (r1_ (l_ 2 18 rfl (r1_ (r2_ tr)))))))))))) (a_ (r1_ (l_ 2 18 rfl (r1_ (f_ C4 (r1_ (l_ 2 18 rfl (r2_ (f_ C5 (r1_ (f_ C6 (r1_ (m_ 14 18 rfl (c_ (parrelref10_KeyMay_tri s.f_Call.f_Key yC4_8 E7) (r1_ (r2_ (f_ C9 (r1_ (l_ 1 18 rfl (r2_ (f_ C10 (r2_ (l_ 4 18 rfl (r2_ (f_ C11 (r2_ (l_ 5 18 rfl (r2_ (f_ C12 (r1_ (l_ 17 18 rfl (r1_ (r2_ (f_ C13 (r1_ (l_ 14 18 rfl (r2_ (f_ C14 tr))))))))))))))))))))))))))))))))))))) tr))) (r27_May_c7_ok hμ    r h) trivial
            ·exact rt_ hμ [0] 21 [.reg [(2, hT)], .reg [(3, hF), (8, hF)], .reg [(3, hF), (8, hF), (10, hT), (13, hC (parrelref10_KeyMay_v yC4_8)), (17, hF), (22, hF), (28, hF), (34, hF), (40, hF), (45, hF)]]
              (a_ (r1_ (l_ 0 25 rfl (f_ C1 tr))) (a_ (r1_ (l_ 2 18 rfl (r1_ (f_ C2 (r1_ (l_ 2 18 rfl (r2_ (f_ C3 (r1_ (l_ 2 18 rfl (r1_ (r2_ tr)))))))))))) (a_ (r1_ (l_ 2 18 rfl (r1_ (f_ C4 (r1_ (l_ 2 18 rfl (r2_ (f_ C5 (r1_ (f_ C6 (r1_ (m_ 14 18 rfl (c_ (parrelref10_KeyMay_tri s.f_Call.f_Key yC4_8 E7) (r1_ (r2_ (f_ C9 (r1_ (l_ 1 18 rfl (r2_ (f_ C10 (r2_ (l_ 4 18 rfl (r2_ (f_ C11 (r2_ (l_ 5 18 rfl (r2_ (f_ C12 (r1_ (l_ 17 18 rfl (r1_ (r2_ (f_ C13 (r1_ (l_ 14 18 rfl (r2_ (f_ C14 tr))))))))))))))))))))))))))))))))))))) tr))) (r27_May_c8_ok hμ s   r h) ⟨rfl, trivial⟩
      ·rcases itb_some h with ⟨C7, h⟩ | ⟨C7, h⟩
       ·exact rt_ hμ [] 20 [.reg [(2, hT)], .reg [(3, hF), (8, hF)], .reg [(3, hF), (8, hF), (10, hF), (22, hT)]]
         (a_ (r1_ (l_ 0 25 rfl (f_ C1 tr))) (a_ (r1_ (l_ 2 18 rfl (r1_ (f_ C2 (r1_ (l_ 2 18 rfl (r2_ (f_ C3 (r1_ (l_ 2 18 rfl (r1_ (r2_ tr)))))))))))) (a_ (r1_ (l_ 2 18 rfl (r1_ (f_ C4 (r1_ (l_ 2 18 rfl (r2_ (f_ C5 (r1_ (f_ C6 (t4_ (r4_ (l_ 1 18 rfl (r2_ (f_ C7 (t4_ (r2_ (t4_ (r2_ (t4_ (r2_ (t4_ (r1_ tr))))))))))))))))))))))) tr))) (r27_May_c7_ok hμ    r h) trivial
       ·rcases itb_some h with ⟨C8, h⟩ | ⟨C8, h⟩
        ·exact rt_ hμ [] 20 [.reg [(2, hT)], .reg [(3, hF), (8, hF)], .reg [(3, hF), (8, hF), (10, hF), (22, hF), (28, hT)]]
          (a_ (r1_ (l_ 0 25 rfl (f_ C1 tr))) (a_ (r1_ (l_ 2 18 rfl (r1_ (f_ C2 (r1_ (l_ 2 18 rfl (r2_ (f_ C3 (r1_ (l_ 2 18 rfl (r1_ (r2_ tr)))))))))))) (a_ (r1_ (l_ 2 18 rfl (r1_ (f_ C4 (r1_ (l_ 2 18 rfl (r2_ (f_ C5 (r1_ (f_ C6 (t4_ (r4_ (l_ 1 18 rfl (r2_ (f_ C7 (r2_ (l_ 4 18 rfl (r2_ (f_ C8 (t4_ (r2_ (t4_ (r2_ (t4_ (r1_ tr))))))))))))))))))))))))) tr))) (r27_May_c7_ok hμ    r h) trivial
        ·rcases itb_some h with ⟨C9, h⟩ | ⟨C9, h⟩
         ·exact rt_ hμ [] 20 [.reg [(2, hT)], .reg [(3, hF), (8, hF)], .reg [(3, hF), (8, hF), (10, hF), (22, hF), (28, hF), (34, hT)]]
           (a_ (r1_ (l_ 0 25 rfl (f_ C1 tr))) (a_ (r1_ (l_ 2 18 rfl (r1_ (f_ C2 (r1_ (l_ 2 18 rfl (r2_ (f_ C3 (r1_ (l_ 2 18 rfl (r1_ (r2_ tr)))))))))))) (a_ (r1_ (l_ 2 18 rfl (r1_ (f_ C4 (r1_ (l_ 2 18 rfl (r2_ (f_ C5 (r1_ (f_ C6 (t4_ (r4_ (l_ 1 18 rfl (r2_ (f_ C7 (r2_ (l_ 4 18 rfl (r2_ (f_ C8 (r2_ (l_ 5 18 rfl (r2_ (f_ C9 (t4_ (r2_ (t4_ (r1_ tr))))))))))))))))))))))))))) tr))) (r27_May_c7_ok hμ    r h) trivial
         ·rcases itb_some h with ⟨C10, h⟩ | ⟨C10, h⟩
          ·exact rt_ hμ [] 20 [.reg [(2, hT)], .reg [(3, hF), (8, hF)], .reg [(3, hF), (8, hF), (10, hF), (22, hF), (28, hF), (34, hF), (40, hT)]]
            (a_ (r1_ (l_ 0 25 rfl (f_ C1 tr))) (a_ (r1_ (l_ 2 18 rfl (r1_ (f_ C2 (r1_ (l_ 2 18 rfl (r2_ (f_ C3 (r1_ (l_ 2 18 rfl (r1_ (r2_ tr)))))))))))) (a_ (r1_ (l_ 2 18 rfl (r1_ (f_ C4 (r1_ (l_ 2 18 rfl (r2_ (f_ C5 (r1_ (f_ C6 (t4_ (r4_ (l_ 1 18 rfl (r2_ (f_ C7 (r2_ (l_ 4 18 rfl (r2_ (f_ C8 (r2_ (l_ 5 18 rfl (r2_ (f_ C9 (r1_ (l_ 17 18 rfl (r1_ (r2_ (f_ C10 (t4_ (r1_ tr)))))))))))))))))))))))))))))) tr))) (r27_May_c7_ok hμ    r h) trivial
          ·rcases itb_some h with ⟨C11, h⟩ | ⟨C11, h⟩
           ·exact rt_ hμ [] 20 [.reg [(2, hT)], .reg [(3, hF), (8, hF)], .reg [(3, hF), (8, hF), (10, hF), (22, hF), (28, hF), (34, hF), (40, hF), (45, hT)]]
             (a_ (r1_ (l_ 0 25 rfl (f_ C1 tr))) (a_ (r1_ (l_ 2 18 rfl (r1_ (f_ C2 (r1_ (l_ 2 18 rfl (r2_ (f_ C3 (r1_ (l_ 2 18 rfl (r1_ (r2_ tr)))))))))))) (a_ (r1_ (l_ 2 18 rfl (r1_ (f_ C4 (r1_ (l_ 2 18 rfl (r2_ (f_ C5 (r1_ (f_ C6 (t4_ (r4_ (l_ 1 18 rfl (r2_ (f_ C7 (r2_ (l_ 4 18 rfl (r2_ (f_ C8 (r2_ (l_ 5 18 rfl (r2_ (f_ C9 (r1_ (l_ 17 18 rfl (r1_ (r2_ (f_ C10 (r1_ (l_ 14 18 rfl (r2_ (f_ C11 tr)))))))))))))))))))))))))))))))) tr))) (r27_May_c7_ok hμ    r h) trivial
           ·exact rt_ hμ [0] 21 [.reg [(2, hT)], .reg [(3, hF), (8, hF)], .reg [(3, hF), (8, hF), (10, hF), (22, hF), (28, hF), (34, hF), (40, hF), (45, hF)]]
             (a_ (r1_ (l_ 0 25 rfl (f_ C1 tr))) (a_ (r1_ (l_ 2 18 rfl (r1_ (f_ C2 (r1_ (l_ 2 18 rfl (r2_ (f_ C3 (r1_ (l_ 2 18 rfl (r1_ (r2_ tr)))))))))))) (a_ (r1_ (l_ 2 18 rfl (r1_ (f_ C4 (r1_ (l_ 2 18 rfl (r2_ (f_ C5 (r1_ (f_ C6 (t4_ (r4_ (l_ 1 18 rfl (r2_ (f_ C7 (r2_ (l_ 4 18 rfl (r2_ (f_ C8 (r2_ (l_ 5 18 rfl (r2_ (f_ C9 (r1_ (l_ 17 18 rfl (r1_ (r2_ (f_ C10 (r1_ (l_ 14 18 rfl (r2_ (f_ C11 tr)))))))))))))))))))))))))))))))) tr))) (r27_May_c8_ok hμ s   r h) ⟨rfl, trivial⟩
 ·obtain ⟨yC4_3, E2, h⟩ := bind_some h
  rcases itb_some h with ⟨C4, h⟩ | ⟨C4, h⟩
  ·obtain ⟨yC4_6, E5, h⟩ := bind_some h
   rcases itb_some h with ⟨C7, h⟩ | ⟨C7, h⟩
   ·obtain ⟨yC4_9, E8, h⟩ := bind_some h
    rcases itb_some h with ⟨C10, h⟩ | ⟨C10, h⟩
    ·obtain ⟨yC4_12, E11, h⟩ := bind_some h
     rcases itb_some h with ⟨C13, h⟩ | ⟨C13, h⟩
     ·obtain rfl := si_ h
      exact rr_ [] 16 [.reg [(2, hF)], .reg [(2, hC (r27_number_v yC4_3)), (3, hT), (6, hC (r27_number_v yC4_6)), (8, hT), (11, hC (r27_number_v yC4_9)), (13, hT), (16, hC (r27_number_v yC4_12)), (17, hT)]]
       (a_ (a_ (r1_ (l_ 0 25 rfl (f_ C1 tr))) (a_ (r1_ (l_ 1 25 rfl (c_ (r27_number_tri s.f_Node yC4_3 E2) (f_ C4 (r1_ (l_ 2 25 rfl (c_ (r27_number_tri s.f_Wire yC4_6 E5) (r1_ (f_ C7 (r1_ (l_ 23 25 rfl (c_ (r27_number_tri s.f_To yC4_9 E8) (r1_ (f_ C10 (r1_ (l_ 3 25 rfl (c_ (r27_number_tri s.f_N yC4_12 E11) (f_ C13 (a_ tr (t2_ (r4_ (l_ 24 25 rfl (r4_ tr))))))))))))))))))))))) tr)) tr)
     ·rcases itb_some h with ⟨C14, h⟩ | ⟨C14, h⟩
      ·obtain rfl := si_ h
       exact rr_ [] 16 [.reg [(2, hF)], .reg [(2, hC (r27_number_v yC4_3)), (3, hT), (6, hC (r27_number_v yC4_6)), (8, hT), (11, hC (r27_number_v yC4_9)), (13, hT), (16, hC (r27_number_v yC4_12)), (17, hF), (23, hT)]]
        (a_ (a_ (r1_ (l_ 0 25 rfl (f_ C1 tr))) (a_ (r1_ (l_ 1 25 rfl (c_ (r27_number_tri s.f_Node yC4_3 E2) (f_ C4 (r1_ (l_ 2 25 rfl (c_ (r27_number_tri s.f_Wire yC4_6 E5) (r1_ (f_ C7 (r1_ (l_ 23 25 rfl (c_ (r27_number_tri s.f_To yC4_9 E8) (r1_ (f_ C10 (r1_ (l_ 3 25 rfl (c_ (r27_number_tri s.f_N yC4_12 E11) (f_ C13 (r1_ (l_ 3 25 rfl (r1_ (r2_ (f_ C14 (r1_ (l_ 24 25 rfl (r4_ tr)))))))))))))))))))))))))) tr)) tr)
      ·obtain rfl := si_ h
       exact rr_ [] 16 [.reg [(2, hF)], .reg [(2, hC (r27_number_v yC4_3)), (3, hT), (6, hC (r27_number_v yC4_6)), (8, hT), (11, hC (r27_number_v yC4_9)), (13, hT), (16, hC (r27_number_v yC4_12)), (17, hF), (23, hF)]]
        (a_ (a_ (r1_ (l_ 0 25 rfl (f_ C1 tr))) (a_ (r1_ (l_ 1 25 rfl (c_ (r27_number_tri s.f_Node yC4_3 E2) (f_ C4 (r1_ (l_ 2 25 rfl (c_ (r27_number_tri s.f_Wire yC4_6 E5) (r1_ (f_ C7 (r1_ (l_ 23 25 rfl (c_ (r27_number_tri s.f_To yC4_9 E8) (r1_ (f_ C10 (r1_ (l_ 3 25 rfl (c_ (r27_number_tri s.f_N yC4_12 E11) (f_ C13 (r1_ (l_ 3 25 rfl (r1_ (r2_ (f_ C14 (t4_ (r2_ tr))))))))))))))))))))))))) tr)) tr)
    ·obtain rfl := si_ h
     exact rr_ [] 16 [.reg [(2, hF)], .reg [(2, hC (r27_number_v yC4_3)), (3, hT), (6, hC (r27_number_v yC4_6)), (8, hT), (11, hC (r27_number_v yC4_9)), (13, hF)]]
      (a_ (a_ (r1_ (l_ 0 25 rfl (f_ C1 tr))) (a_ (r1_ (l_ 1 25 rfl (c_ (r27_number_tri s.f_Node yC4_3 E2) (f_ C4 (r1_ (l_ 2 25 rfl (c_ (r27_number_tri s.f_Wire yC4_6 E5) (r1_ (f_ C7 (r1_ (l_ 23 25 rfl (c_ (r27_number_tri s.f_To yC4_9 E8) (r1_ (f_ C10 (t8_ (r2_ (t4_ (r2_ tr)))))))))))))))))) tr)) tr)
   ·obtain rfl := si_ h
    exact rr_ [] 16 [.reg [(2, hF)], .reg [(2, hC (r27_number_v yC4_3)), (3, hT), (6, hC (r27_number_v yC4_6)), (8, hF)]]
     (a_ (a_ (r1_ (l_ 0 25 rfl (f_ C1 tr))) (a_ (r1_ (l_ 1 25 rfl (c_ (r27_number_tri s.f_Node yC4_3 E2) (f_ C4 (r1_ (l_ 2 25 rfl (c_ (r27_number_tri s.f_Wire yC4_6 E5) (r1_ (f_ C7 (a_ tr (t2_ (r2_ (t8_ (r2_ (t4_ (r2_ tr)))))))))))))))) tr)) tr)
  ·obtain rfl := si_ h
   exact rr_ [] 16 [.reg [(2, hF)], .reg [(2, hC (r27_number_v yC4_3)), (3, hF)]]
    (a_ (a_ (r1_ (l_ 0 25 rfl (f_ C1 tr))) (a_ (r1_ (l_ 1 25 rfl (c_ (r27_number_tri s.f_Node yC4_3 E2) (f_ C4 (a_ tr (t2_ (r2_ (a_ tr (t2_ (r2_ (t8_ (r2_ (t4_ (r2_ tr)))))))))))))) tr)) tr)
theorem r27_May_ok (s : T_r27_Step) (r : (Bool)) (h : r27_May s = some r) : ∀ σ, Inj 0 σ → FnTri Tryz.prog 47 (renL σ [v_T_r27_Step s]) (preOf σ 0 []) ((r27_May_v r).ren σ) (upOf σ []) := by
 refine fo_ Tryz.func47 trivial trivial ?_
 intro w0 W μ0 hμ
 unfold r27_May at h
 rcases itb_some h with ⟨c1, h⟩ | ⟨c1, h⟩
 ·obtain rfl := si_ h
  exact rr_ [] 20 [.reg [], .reg [(3, hT)], .reg []]
   (a_ (a_ (r2_ tr) (a_ (r1_ (l_ 0 25 rfl (r1_ (f_ c1 (a_ tr (t2_ (r2_ (a_ tr (t4_ (r1_ tr)))))))))) (a_ (r1_ tr) tr))) tr)
 ·rcases itb_some h with ⟨c2, h⟩ | ⟨c2, h⟩
  ·obtain rfl := si_ h
   exact rr_ [] 20 [.reg [], .reg [(3, hF), (8, hT)], .reg []]
    (a_ (a_ (r2_ tr) (a_ (r1_ (l_ 0 25 rfl (r1_ (f_ c1 (r1_ (l_ 0 25 rfl (r2_ (f_ c2 (a_ tr (t4_ (r1_ tr))))))))))) (a_ (r1_ tr) tr))) tr)
  ·obtain ⟨y4, e3, h⟩ := bind_some h
   obtain ⟨y6, e5, h⟩ := bind_some h
   rcases itb_some h with ⟨c7, h⟩ | ⟨c7, h⟩
   ·obtain rfl := si_ h
    exact rr_ [] 20 [.reg [], .reg [(3, hF), (8, hF), (10, hC (r27_kept_v y4)), (12, hC (r27_Same_v y6)), (14, hT)], .reg []]
     (a_ (a_ (r2_ tr) (a_ (r1_ (l_ 0 25 rfl (r1_ (f_ c1 (r1_ (l_ 0 25 rfl (r2_ (f_ c2 (m_ 25 25 rfl (c_ (r27_kept_tri s y4 e3) (m_ 25 25 rfl (c_ (r27_Same_tri y4 s y6 e5) (r1_ (f_ c7 tr)))))))))))))) (a_ (r1_ tr) tr))) tr)
   ·exact rt_ hμ [0, 1] 23 [.reg [], .reg [(3, hF), (8, hF), (10, hC (r27_kept_v y4)), (12, hC (r27_Same_v y6)), (14, hF)], .reg []]
     (a_ (r2_ tr) (a_ (r1_ (l_ 0 25 rfl (r1_ (f_ c1 (r1_ (l_ 0 25 rfl (r2_ (f_ c2 (m_ 25 25 rfl (c_ (r27_kept_tri s y4 e3) (m_ 25 25 rfl (c_ (r27_Same_tri y4 s y6 e5) (r1_ (f_ c7 tr)))))))))))))) (a_ (r1_ (m_ 23 25 rfl (r1_ (a_ (a_ (a_ (Eq.refl 18) (a_ (le_ 18 18 rfl) (Eq.refl 0))) tr) tr)))) tr))) (r27_May_c4_ok hμ s   r h) ⟨rfl, rfl, trivial⟩
theorem r27_May_tri (s : T_r27_Step) (r : (Bool)) (h : r27_May s = some r) : FnTri Tryz.prog 47 [v_T_r27_Step s] [] (r27_May_v r) [] := FnTri.none (r27_May_ok s r h) rfl rfl
/-- parrel/parrelref27.digits -/
def r27_digits_v (r : (List UInt8)) : LV := .str r
def r27_digits_T0  (x_n2 : Int) (s : List UInt8) : List LV := (.int .u64 x_n2) :: .any :: .any :: (.str s) :: n_ 13 []
def r27_digits_H0  (x_n2 : Int) (s : List UInt8) : Heap := []
def r27_digits_l0   : Nat → (Int) → (List UInt8) → Option ((List UInt8))
 | 0, _, _ => none
 | fuel + 1, x_n2, s =>
  if ((strI ([(IntKind.wrap .u8 (IntKind.wrap .u64 (48 + (Int.tmod x_n2 10))))] : List (Int)))).length + (s).length ≤ 9223372036854775807 then
  if (((IntKind.wrap .u64 (Int.tdiv x_n2 10)) == 0) : Bool) then
   some ((strI ([(IntKind.wrap .u8 (IntKind.wrap .u64 (48 + (Int.tmod x_n2 10))))] : List (Int))) ++ s)
  else
   r27_digits_l0   fuel (IntKind.wrap .u64 (Int.tdiv x_n2 10)) ((strI ([(IntKind.wrap .u8 (IntKind.wrap .u64 (48 + (Int.tmod x_n2 10))))] : List (Int))) ++ s)
  else none
def r27_digits (x_n : Int) : Option ((List UInt8)) :=
 r27_digits_l0   big x_n ([])
theorem r27_digits_l0_ok {w0 : World} {W : Nat → Prop} {μ0 : Emb} (hμ : ∀ c p, μ0 c = some p → c < 0) : ∀ (fuel : Nat) (x_n2 : Int) (s : List UInt8) (r : (List UInt8)), r27_digits_l0   fuel x_n2 s = some r → kont Tryz.prog w0 W μ0 (FnPost Tryz.prog Tryz.f48 0 0 (r27_digits_v r) []) (kAt (bodyOf Tryz.f48) 0) none (r27_digits_T0  x_n2 s) (r27_digits_H0  x_n2 s) := by
 intro fuel
 induction fuel with
 | zero => intro x_n2 s r h; rw [r27_digits_l0] at h; cases h
 | succ fuel ih =>
  intro x_n2 s r h
  rw [r27_digits_l0] at h
  obtain ⟨G1, h⟩ := guard_some h
  rcases itb_some h with ⟨C2, h⟩ | ⟨C2, h⟩
  ·obtain rfl := si_ h
   exact rr_ [] 24 [.go, .reg [(4, { os := [(0, .gr 1 (([(IntKind.wrap .u8 (IntKind.wrap .u64 (48 + (Int.tmod x_n2 10))))] : List (Int))).length (rowF (cInt .u8) default ([(IntKind.wrap .u8 (IntKind.wrap .u64 (48 + (Int.tmod x_n2 10))))] : List (Int))))], v := some (.gs 0 (([(IntKind.wrap .u8 (IntKind.wrap .u64 (48 + (Int.tmod x_n2 10))))] : List (Int))).length), fz := true }), (5, { v := some (.str (strI ([(IntKind.wrap .u8 (IntKind.wrap .u64 (48 + (Int.tmod x_n2 10))))] : List (Int)))) })], .reg [], .reg [(1, hT)], .reg []]
    (a_ (a_ (r1_ (a_ (a_ (ne0 10 rfl) tr) (r2_ (a_ (a_ (a_ (a_ (Eq.refl true) (a_ (Eq.refl 1) (a_ (lt_ 0 1 rfl) (le_ 1 16777216 rfl)))) (a_ (le_sl_gs 0 1 (some 1) rfl) (a_ (sub_lit (cInt .u8) default 1 (fun _ => rfl) ([(IntKind.wrap .u8 (IntKind.wrap .u64 (48 + (Int.tmod x_n2 10))))] : List (Int))) tr))) (a_ (Nat.le_refl (([(IntKind.wrap .u8 (IntKind.wrap .u64 (48 + (Int.tmod x_n2 10))))] : List (Int))).length) (fz_row (enc := (cInt .u8)) (d := default) (fun _ => rfl) ([(IntKind.wrap .u8 (IntKind.wrap .u64 (48 + (Int.tmod x_n2 10))))] : List (Int))))) (a_ (a_ (a_ (Eq.refl 1) (str_ob ([(IntKind.wrap .u8 (IntKind.wrap .u64 (48 + (Int.tmod x_n2 10))))] : List (Int)))) (a_ (le_str ([(IntKind.wrap .u8 (IntKind.wrap .u64 (48 + (Int.tmod x_n2 10))))] : List (Int))) tr)) (r1_ (a_ (a_ G1 tr) (r1_ tr)))))))) (a_ (r1_ (a_ (a_ (ne0 10 rfl) tr) (r1_ tr))) (a_ (r1_ (f_ C2 tr)) (a_ (r2_ tr) tr)))) tr)
  ·exact rt_ hμ [] 23 [.go, .reg [(4, { os := [(0, .gr 1 (([(IntKind.wrap .u8 (IntKind.wrap .u64 (48 + (Int.tmod x_n2 10))))] : List (Int))).length (rowF (cInt .u8) default ([(IntKind.wrap .u8 (IntKind.wrap .u64 (48 + (Int.tmod x_n2 10))))] : List (Int))))], v := some (.gs 0 (([(IntKind.wrap .u8 (IntKind.wrap .u64 (48 + (Int.tmod x_n2 10))))] : List (Int))).length), fz := true }), (5, { v := some (.str (strI ([(IntKind.wrap .u8 (IntKind.wrap .u64 (48 + (Int.tmod x_n2 10))))] : List (Int)))) })], .reg [], .reg [(1, hF)]]
    (a_ (r1_ (a_ (a_ (ne0 10 rfl) tr) (r2_ (a_ (a_ (a_ (a_ (Eq.refl true) (a_ (Eq.refl 1) (a_ (lt_ 0 1 rfl) (le_ 1 16777216 rfl)))) (a_ (le_sl_gs 0 1 (some 1) rfl) (a_ (sub_lit (cInt .u8) default 1 (fun _ => rfl) ([(IntKind.wrap .u8 (IntKind.wrap .u64 (48 + (Int.tmod x_n2 10))))] : List (Int))) tr))) (a_ (Nat.le_refl (([(IntKind.wrap .u8 (IntKind.wrap .u64 (48 + (Int.tmod x_n2 10))))] : List (Int))).length) (fz_row (enc := (cInt .u8)) (d := default) (fun _ => rfl) ([(IntKind.wrap .u8 (IntKind.wrap .u64 (48 + (Int.tmod x_n2 10))))] : List (Int))))) (a_ (a_ (a_ (Eq.refl 1) (str_ob ([(IntKind.wrap .u8 (IntKind.wrap .u64 (48 + (Int.tmod x_n2 10))))] : List (Int)))) (a_ (le_str ([(IntKind.wrap .u8 (IntKind.wrap .u64 (48 + (Int.tmod x_n2 10))))] : List (Int))) tr)) (r1_ (a_ (a_ G1 tr) (r1_ tr)))))))) (a_ (r1_ (a_ (a_ (ne0 10 rfl) tr) (r1_ tr))) (a_ (r1_ (f_ C2 tr)) tr))) (ih _ _ r h) trivial
theorem r27_digits_ok (x_n : Int) (r : (List UInt8)) (h : r27_digits x_n = some r) : ∀ σ, Inj 0 σ → FnTri Tryz.prog 48 (renL σ [.int .u64 x_n]) (preOf σ 0 []) ((r27_digits_v r).ren σ) (upOf σ []) := by
 refine fo_ Tryz.func48 trivial trivial ?_
 intro w0 W μ0 hμ
 unfold r27_digits at h
 exact rt_ hμ [] 17 [.reg [], .reg []]
  (a_ (r1_ tr) (a_ (r1_ tr) tr)) (r27_digits_l0_ok hμ   big _ _ r h) trivial
theorem r27_digits_tri (x_n : Int) (r : (List UInt8)) (h : r27_digits x_n = some r) : FnTri Tryz.prog 48 [.int .u64 x_n] [] (r27_digits_v r) [] := FnTri.none (r27_digits_ok x_n r h) rfl rfl
/-- parrel/parrelref27.name -/
def r27_name_v (r : (List UInt8)) : LV := .str r
def r27_name (t : TX) : Option ((List UInt8)) :=
 (r27_digits (IntKind.wrap .u64 t.f_Node)).bind fun y2 =>
 if (y2).length + (([46] : List UInt8)).length ≤ 9223372036854775807 then
 (r27_digits (IntKind.wrap .u64 t.f_Boot)).bind fun y5 =>
 if ((y2 ++ ([46] : List UInt8))).length + (y5).length ≤ 9223372036854775807 then
 if (((y2 ++ ([46] : List UInt8)) ++ y5)).length + (([46] : List UInt8)).length ≤ 9223372036854775807 then
 (r27_digits (IntKind.wrap .u64 t.f_Num)).bind fun y9 =>
 if ((((y2 ++ ([46] : List UInt8)) ++ y5) ++ ([46] : List UInt8))).length + (y9).length ≤ 9223372036854775807 then
 some ((((y2 ++ ([46] : List UInt8)) ++ y5) ++ ([46] : List UInt8)) ++ y9)
 else none
 else none
 else none
 else none
theorem r27_name_ok (t : TX) (r : (List UInt8)) (h : r27_name t = some r) : ∀ σ, Inj 0 σ → FnTri Tryz.prog 80 (renL σ [v_TX t]) (preOf σ 0 []) ((r27_name_v r).ren σ) (upOf σ []) := by
 refine fo_ Tryz.func80 trivial trivial ?_
 intro w0 W μ0 hμ
 unfold r27_name at h
 obtain ⟨y2, e1, h⟩ := bind_some h
 obtain ⟨g3, h⟩ := guard_some h
 obtain ⟨y5, e4, h⟩ := bind_some h
 obtain ⟨g6, h⟩ := guard_some h
 obtain ⟨g7, h⟩ := guard_some h
 obtain ⟨y9, e8, h⟩ := bind_some h
 obtain ⟨g10, h⟩ := guard_some h
 obtain rfl := si_ h
 exact rr_ [] 15 [.reg [], .reg [(3, hC (r27_digits_v y2)), (8, hC (r27_digits_v y5)), (14, hC (r27_digits_v y9))]]
  (a_ (a_ (r2_ tr) (a_ (r1_ (l_ 0 3 rfl (r1_ (a_ (a_ (a_ (r27_digits_tri (IntKind.wrap .u64 t.f_Node) y2 e1) tr) tr) (a_ (a_ g3 tr) (r1_ (l_ 1 3 rfl (r1_ (a_ (a_ (a_ (r27_digits_tri (IntKind.wrap .u64 t.f_Boot) y5 e4) tr) tr) (a_ (a_ g6 tr) (a_ (a_ g7 tr) (r1_ (l_ 2 3 rfl (r1_ (a_ (a_ (a_ (r27_digits_tri (IntKind.wrap .u64 t.f_Num) y9 e8) tr) tr) (a_ (a_ g10 tr) (r1_ tr))))))))))))))))) tr)) tr)
theorem r27_name_tri (t : TX) (r : (List UInt8)) (h : r27_name t = some r) : FnTri Tryz.prog 80 [v_TX t] [] (r27_name_v r) [] := FnTri.none (r27_name_ok t r h) rfl rfl
/-- parrel/parrelref27.hex -/
def r27_hex_v (r : (List UInt8)) : LV := .str r
def r27_hex_T0 (b : List UInt8) (s : List UInt8) (i : Int) : List LV := (.str b) :: .any :: .any :: (.str sg_) :: (.str s) :: (.int .i64 i) :: n_ 25 []
def r27_hex_H0 (b : List UInt8) (s : List UInt8) (i : Int) : Heap := []
def r27_hex_l0 (b : List UInt8)  : Nat → (List UInt8) → (Int) → Option ((List UInt8))
 | 0, _, _ => none
 | fuel + 1, s, i =>
  if ((decide (i < ((b).length : Int))) : Bool) then
   if 0 ≤ i ∧ i < (((b).length : Nat) : Int) then
   if 0 ≤ (IntKind.wrap .u8 (Int.tdiv ((b.getD i.toNat 0).toNat : Int) 16)) ∧ (IntKind.wrap .u8 (Int.tdiv ((b.getD i.toNat 0).toNat : Int) 16)) < (((([48, 49, 50, 51, 52, 53, 54, 55, 56, 57, 97, 98, 99, 100, 101, 102] : List UInt8)).length : Nat) : Int) then
   if 0 ≤ (Int.tmod ((b.getD i.toNat 0).toNat : Int) 16) ∧ (Int.tmod ((b.getD i.toNat 0).toNat : Int) 16) < (((([48, 49, 50, 51, 52, 53, 54, 55, 56, 57, 97, 98, 99, 100, 101, 102] : List UInt8)).length : Nat) : Int) then
   if (s).length + ((strI ([((([48, 49, 50, 51, 52, 53, 54, 55, 56, 57, 97, 98, 99, 100, 101, 102] : List UInt8).getD ((IntKind.wrap .u8 (Int.tdiv ((b.getD i.toNat 0).toNat : Int) 16))).toNat 0).toNat : Int), ((([48, 49, 50, 51, 52, 53, 54, 55, 56, 57, 97, 98, 99, 100, 101, 102] : List UInt8).getD ((Int.tmod ((b.getD i.toNat 0).toNat : Int) 16)).toNat 0).toNat : Int)] : List (Int)))).length ≤ 9223372036854775807 then
   r27_hex_l0 b  fuel (s ++ (strI ([((([48, 49, 50, 51, 52, 53, 54, 55, 56, 57, 97, 98, 99, 100, 101, 102] : List UInt8).getD ((IntKind.wrap .u8 (Int.tdiv ((b.getD i.toNat 0).toNat : Int) 16))).toNat 0).toNat : Int), ((([48, 49, 50, 51, 52, 53, 54, 55, 56, 57, 97, 98, 99, 100, 101, 102] : List UInt8).getD ((Int.tmod ((b.getD i.toNat 0).toNat : Int) 16)).toNat 0).toNat : Int)] : List (Int)))) (IntKind.wrap .i64 (i + 1))
   else none
   else none
   else none
   else none
  else
   some s
def r27_hex (b : List UInt8) : Option ((List UInt8)) :=
 if ((b == []) : Bool) then
  some ([45] : List UInt8)
 else
  r27_hex_l0 b  big ([]) 0
theorem r27_hex_l0_ok {w0 : World} {W : Nat → Prop} {μ0 : Emb} (hμ : ∀ c p, μ0 c = some p → c < 0) (b : List UInt8) : ∀ (fuel : Nat) (s : List UInt8) (i : Int) (r : (List UInt8)), r27_hex_l0 b  fuel s i = some r → kont Tryz.prog w0 W μ0 (FnPost Tryz.prog Tryz.f51 0 0 (r27_hex_v r) []) (kAt (bodyOf Tryz.f51) 0) none (r27_hex_T0 b s i) (r27_hex_H0 b s i) := by
 intro fuel
 induction fuel with
 | zero => intro s i r h; rw [r27_hex_l0] at h; cases h
 | succ fuel ih =>
  intro s i r h
  rw [r27_hex_l0] at h
  rcases itb_some h with ⟨C1, h⟩ | ⟨C1, h⟩
  ·obtain ⟨G2, h⟩ := guard_some h
   obtain ⟨G3, h⟩ := guard_some h
   obtain ⟨G4, h⟩ := guard_some h
   obtain ⟨G5, h⟩ := guard_some h
   exact rt_ hμ [] 23 [.go, .reg [(3, hT)], .reg [(13, { os := [(0, .gr 1 (([((sg_.getD ((IntKind.wrap .u8 (Int.tdiv ((b.getD i.toNat 0).toNat : Int) 16))).toNat 0).toNat : Int), ((sg_.getD ((Int.tmod ((b.getD i.toNat 0).toNat : Int) 16)).toNat 0).toNat : Int)] : List (Int))).length (rowF (cInt .u8) default ([((sg_.getD ((IntKind.wrap .u8 (Int.tdiv ((b.getD i.toNat 0).toNat : Int) 16))).toNat 0).toNat : Int), ((sg_.getD ((Int.tmod ((b.getD i.toNat 0).toNat : Int) 16)).toNat 0).toNat : Int)] : List (Int))))], v := some (.gs 0 (([((sg_.getD ((IntKind.wrap .u8 (Int.tdiv ((b.getD i.toNat 0).toNat : Int) 16))).toNat 0).toNat : Int), ((sg_.getD ((Int.tmod ((b.getD i.toNat 0).toNat : Int) 16)).toNat 0).toNat : Int)] : List (Int))).length), fz := true }), (14, { v := some (.str (strI ([((sg_.getD ((IntKind.wrap .u8 (Int.tdiv ((b.getD i.toNat 0).toNat : Int) 16))).toNat 0).toNat : Int), ((sg_.getD ((Int.tmod ((b.getD i.toNat 0).toNat : Int) 16)).toNat 0).toNat : Int)] : List (Int)))) })], .reg []]
    (a_ (r1_ (r2_ (f_ C1 tr))) (a_ (r4_ (a_ (a_ G2 tr) (a_ (a_ (ne0 16 rfl) tr) (a_ (a_ G3 tr) (r1_ (r2_ (a_ (a_ G2 tr) (a_ (a_ (ne0 16 rfl) tr) (a_ (a_ G4 tr) (a_ (a_ (a_ (a_ (Eq.refl true) (a_ (Eq.refl 1) (a_ (lt_ 0 1 rfl) (le_ 2 16777216 rfl)))) (a_ (le_sl_gs 0 2 (some 2) rfl) (a_ (sub_lit (cInt .u8) default 1 (fun _ => rfl) ([((sg_.getD ((IntKind.wrap .u8 (Int.tdiv ((b.getD i.toNat 0).toNat : Int) 16))).toNat 0).toNat : Int), ((sg_.getD ((Int.tmod ((b.getD i.toNat 0).toNat : Int) 16)).toNat 0).toNat : Int)] : List (Int))) tr))) (a_ (Nat.le_refl (([((sg_.getD ((IntKind.wrap .u8 (Int.tdiv ((b.getD i.toNat 0).toNat : Int) 16))).toNat 0).toNat : Int), ((sg_.getD ((Int.tmod ((b.getD i.toNat 0).toNat : Int) 16)).toNat 0).toNat : Int)] : List (Int))).length) (fz_row (enc := (cInt .u8)) (d := default) (fun _ => rfl) ([((sg_.getD ((IntKind.wrap .u8 (Int.tdiv ((b.getD i.toNat 0).toNat : Int) 16))).toNat 0).toNat : Int), ((sg_.getD ((Int.tmod ((b.getD i.toNat 0).toNat : Int) 16)).toNat 0).toNat : Int)] : List (Int))))) (a_ (a_ (a_ (Eq.refl 1) (str_ob ([((sg_.getD ((IntKind.wrap .u8 (Int.tdiv ((b.getD i.toNat 0).toNat : Int) 16))).toNat 0).toNat : Int), ((sg_.getD ((Int.tmod ((b.getD i.toNat 0).toNat : Int) 16)).toNat 0).toNat : Int)] : List (Int)))) (a_ (le_str ([((sg_.getD ((IntKind.wrap .u8 (Int.tdiv ((b.getD i.toNat 0).toNat : Int) 16))).toNat 0).toNat : Int), ((sg_.getD ((Int.tmod ((b.getD i.toNat 0).toNat : Int) 16)).toNat 0).toNat : Int)] : List (Int))) tr)) (a_ (a_ G5 tr) (r1_ tr))))))))))))) (a_ (r1_ (r2_ tr)) tr))) (ih _ _ r h) trivial
  ·obtain rfl := si_ h
   exact rr_ [] 19 [.go, .reg [(3, hF)], .reg []]
    (a_ (a_ (r1_ (r2_ (f_ C1 tr))) (a_ (r2_ tr) tr)) tr)
theorem r27_hex_ok (b : List UInt8) (r : (List UInt8)) (h : r27_hex b = some r) : ∀ σ, Inj 0 σ → FnTri Tryz.prog 51 (renL σ [.str b]) (preOf σ 0 []) ((r27_hex_v r).ren σ) (upOf σ []) := by
 refine fo_ Tryz.func51 trivial trivial ?_
 intro w0 W μ0 hμ
 unfold r27_hex at h
 rcases itb_some h with ⟨c1, h⟩ | ⟨c1, h⟩
 ·obtain rfl := si_ h
  exact rr_ [] 20 [.reg [], .reg [(1, hT)], .reg []]
   (a_ (a_ (r1_ tr) (a_ (r1_ (f_ c1 tr)) (a_ (r1_ tr) tr))) tr)
 ·exact rt_ hμ [] 30 [.reg [], .reg [(1, hF)], .reg [], .reg [], .reg []]
   (a_ (r1_ tr) (a_ (r1_ (f_ c1 tr)) (a_ (r1_ tr) (a_ (r1_ tr) (a_ (r1_ tr) tr))))) (r27_hex_l0_ok hμ b  big _ _ r h) trivial
theorem r27_hex_tri (b : List UInt8) (r : (List UInt8)) (h : r27_hex b = some r) : FnTri Tryz.prog 51 [.str b] [] (r27_hex_v r) [] := FnTri.none (r27_hex_ok b r h) rfl rfl
/-- parrel/parrelref27.key -/
def r27_key_v (r : (List UInt8)) : LV := .str r
def r27_key_T0 (x_k : A8 (Int)) (x_n : Int) : List LV := .any :: (.ptr 0 0 0) :: .any :: (.int .i64 x_n) :: n_ 14 []
def r27_key_H0 (x_k : A8 (Int)) (x_n : Int) : Heap := [some (.var [.int .u8 x_k.a0, .int .u8 x_k.a1, .int .u8 x_k.a2, .int .u8 x_k.a3, .int .u8 x_k.a4, .int .u8 x_k.a5, .int .u8 x_k.a6, .int .u8 x_k.a7])]
def r27_key_l0 (x_k : A8 (Int))  : Nat → (Int) → Option ((List UInt8))
 | 0, _ => none
 | fuel + 1, x_n =>
  if ((decide (x_n < 8)) : Bool) then
   if 0 ≤ x_n ∧ x_n < 8 then
   if (((A8.get x_k x_n.toNat) != 0) : Bool) then
    r27_key_l0 x_k  fuel (IntKind.wrap .i64 (x_n + 1))
   else
    if 0 ≤ (0 : Int) ∧ 0 ≤ x_n ∧ x_n ≤ 8 then
    (r27_hex (strI (([x_k.a0, x_k.a1, x_k.a2, x_k.a3, x_k.a4, x_k.a5, x_k.a6, x_k.a7] : List Int).take (x_n.toNat)))).bind fun yL0_6 =>
    some yL0_6
    else none
   else none
  else
   if 0 ≤ (0 : Int) ∧ 0 ≤ x_n ∧ x_n ≤ 8 then
   (r27_hex (strI (([x_k.a0, x_k.a1, x_k.a2, x_k.a3, x_k.a4, x_k.a5, x_k.a6, x_k.a7] : List Int).take (x_n.toNat)))).bind fun yL0_4 =>
   some yL0_4
   else none
def r27_key (x_k : A8 (Int)) : Option ((List UInt8)) :=
 r27_key_l0 x_k  big 0
theorem r27_key_l0_ok {w0 : World} {W : Nat → Prop} {μ0 : Emb} (hμ : ∀ c p, μ0 c = some p → c < 0) (x_k : A8 (Int)) : ∀ (fuel : Nat) (x_n : Int) (r : (List UInt8)), r27_key_l0 x_k  fuel x_n = some r → kont Tryz.prog w0 W μ0 (FnPost Tryz.prog Tryz.f81 0 0 (r27_key_v r) []) (kAt (bodyOf Tryz.f81) 0) none (r27_key_T0 x_k x_n) (r27_key_H0 x_k x_n) := by
 intro fuel
 induction fuel with
 | zero => intro x_n r h; rw [r27_key_l0] at h; cases h
 | succ fuel ih =>
  intro x_n r h
  rw [r27_key_l0] at h
  rcases itb_some h with ⟨C1, h⟩ | ⟨C1, h⟩
  ·obtain ⟨G2, h⟩ := guard_some h
   rcases itb_some h with ⟨C3, h⟩ | ⟨C3, h⟩
   ·exact rt_ hμ [0] 20 [.go, .reg [(2, hT), (5, { v := some (.int .u8 (A8.get x_k x_n.toNat)) }), (7, hT)], .reg []]
     (a_ (r2_ (f_ C1 (r1_ (a_ (a_ G2 tr) (a_ (a_ (a_ tr (arrLt (len := 8) G2 0 1 8 rfl rfl)) (a_ (ld8s (cInt .u8) 1 (fun _ => rfl) x_k [] [] 0 rfl x_n.toNat (lt8N G2) (le_ (0 + 1) 1 rfl)) tr)) (r1_ (f_ C3 tr))))))) (a_ (r1_ (r2_ tr)) tr)) (ih _ r h) ⟨rfl, trivial⟩
   ·obtain ⟨G4, h⟩ := guard_some h
    obtain ⟨yL0_6, E5, h⟩ := bind_some h
    obtain rfl := si_ h
    exact rr_ [] 19 [.go, .reg [(2, hT), (5, { v := some (.int .u8 (A8.get x_k x_n.toNat)) }), (7, hF)], .reg [(2, { v := some (.str (strI (([x_k.a0, x_k.a1, x_k.a2, x_k.a3, x_k.a4, x_k.a5, x_k.a6, x_k.a7] : List Int).take (x_n.toNat)))) }), (3, hC (r27_hex_v yL0_6))]]
     (a_ (a_ (r2_ (f_ C1 (r1_ (a_ (a_ G2 tr) (a_ (a_ (a_ tr (arrLt (len := 8) G2 0 1 8 rfl rfl)) (a_ (ld8s (cInt .u8) 1 (fun _ => rfl) x_k [] [] 0 rfl x_n.toNat (lt8N G2) (le_ (0 + 1) 1 rfl)) tr)) (r1_ (f_ C3 tr))))))) (a_ (r1_ (a_ (a_ G4 tr) (a_ (a_ (arr_ob [x_k.a0, x_k.a1, x_k.a2, x_k.a3, x_k.a4, x_k.a5, x_k.a6, x_k.a7] (x_n.toNat) 8 (toN_le (n := 8) G4.2.2) rfl) (a_ (le_arr [x_k.a0, x_k.a1, x_k.a2, x_k.a3, x_k.a4, x_k.a5, x_k.a6, x_k.a7] (x_n.toNat) 8 (toN_le (n := 8) G4.2.2) rfl) tr)) (a_ (a_ (a_ (r27_hex_tri (strI (([x_k.a0, x_k.a1, x_k.a2, x_k.a3, x_k.a4, x_k.a5, x_k.a6, x_k.a7] : List Int).take (x_n.toNat))) yL0_6 E5) tr) tr) (r1_ tr))))) tr)) tr)
  ·obtain ⟨G2, h⟩ := guard_some h
   obtain ⟨yL0_4, E3, h⟩ := bind_some h
   obtain rfl := si_ h
   exact rr_ [] 19 [.go, .reg [(2, hF)], .reg [(2, { v := some (.str (strI (([x_k.a0, x_k.a1, x_k.a2, x_k.a3, x_k.a4, x_k.a5, x_k.a6, x_k.a7] : List Int).take (x_n.toNat)))) }), (3, hC (r27_hex_v yL0_4))]]
    (a_ (a_ (r2_ (f_ C1 (t4_ (r1_ tr)))) (a_ (r1_ (a_ (a_ G2 tr) (a_ (a_ (arr_ob [x_k.a0, x_k.a1, x_k.a2, x_k.a3, x_k.a4, x_k.a5, x_k.a6, x_k.a7] (x_n.toNat) 8 (toN_le (n := 8) G2.2.2) rfl) (a_ (le_arr [x_k.a0, x_k.a1, x_k.a2, x_k.a3, x_k.a4, x_k.a5, x_k.a6, x_k.a7] (x_n.toNat) 8 (toN_le (n := 8) G2.2.2) rfl) tr)) (a_ (a_ (a_ (r27_hex_tri (strI (([x_k.a0, x_k.a1, x_k.a2, x_k.a3, x_k.a4, x_k.a5, x_k.a6, x_k.a7] : List Int).take (x_n.toNat))) yL0_4 E3) tr) tr) (r1_ tr))))) tr)) tr)
theorem r27_key_ok (x_k : A8 (Int)) (r : (List UInt8)) (h : r27_key x_k = some r) : ∀ σ, Inj 0 σ → FnTri Tryz.prog 81 (renL σ [.agg [.int .u8 x_k.a0, .int .u8 x_k.a1, .int .u8 x_k.a2, .int .u8 x_k.a3, .int .u8 x_k.a4, .int .u8 x_k.a5, .int .u8 x_k.a6, .int .u8 x_k.a7]]) (preOf σ 0 []) ((r27_key_v r).ren σ) (upOf σ []) := by
 refine fo_ Tryz.func81 trivial trivial ?_
 intro w0 W μ0 hμ
 unfold r27_key at h
 exact rt_ hμ [0] 18 [.reg [], .reg []]
  (a_ (r2_ tr) (a_ (r1_ tr) tr)) (r27_key_l0_ok hμ x_k  big _ r h) ⟨rfl, trivial⟩
theorem r27_key_tri (x_k : A8 (Int)) (r : (List UInt8)) (h : r27_key x_k = some r) : FnTri Tryz.prog 81 [.agg [.int .u8 x_k.a0, .int .u8 x_k.a1, .int .u8 x_k.a2, .int .u8 x_k.a3, .int .u8 x_k.a4, .int .u8 x_k.a5, .int .u8 x_k.a6, .int .u8 x_k.a7]] [] (r27_key_v r) [] := FnTri.none (r27_key_ok x_k r h) rfl rfl
/-- parrel/parrelref27.words -/
def r27_words_v (r : (List UInt8)) : LV := .str r
def r27_words_T0 (c : T_r27_Call) (s : List UInt8) (i : Int) : List LV := .any :: (.ptr 0 0 0) :: .any :: (.str s) :: (.int .i64 i) :: n_ 82 []
def r27_words_H0 (c : T_r27_Call) (s : List UInt8) (i : Int) : Heap := [some (.var (c_T_r27_Call c))]
def r27_words_T1000013 (c : T_r27_Call) (y7 : (List UInt8)) (y11 : (List UInt8)) (y15 : (List UInt8)) (y19 : (List UInt8))  : List LV := .any :: (.ptr 0 0 0) :: .any :: (.str (((((((([99, 104, 97, 110, 103, 101, 32] : List UInt8) ++ y7) ++ ([32] : List UInt8)) ++ y11) ++ ([32] : List UInt8)) ++ y15) ++ ([32] : List UInt8)) ++ y19)) :: n_ 83 []
def r27_words_H1000013 (c : T_r27_Call) (y7 : (List UInt8)) (y11 : (List UInt8)) (y15 : (List UInt8)) (y19 : (List UInt8))  : Heap := [some (.var (c_T_r27_Call c))]
def r27_words_l0 (c : T_r27_Call)  : Nat → (List UInt8) → (Int) → Option ((List UInt8))
 | 0, _, _ => none
 | fuel + 1, s, i =>
  if ((decide (i < ((c.f_Votes).length : Int))) : Bool) then
   if 0 ≤ i ∧ i < (((c.f_Votes).length : Nat) : Int) then
   (r27_digits (IntKind.wrap .u64 (c.f_Votes.getD i.toNat default))).bind fun yL0_4 =>
   if (([32] : List UInt8)).length + (yL0_4).length ≤ 9223372036854775807 then
   if (s).length + ((([32] : List UInt8) ++ yL0_4)).length ≤ 9223372036854775807 then
   r27_words_l0 c  fuel (s ++ (([32] : List UInt8) ++ yL0_4)) (IntKind.wrap .i64 (i + 1))
   else none
   else none
   else none
  else
   some s
def r27_words_c13 (c : T_r27_Call) (y7 : (List UInt8)) (y11 : (List UInt8)) (y15 : (List UInt8)) (y19 : (List UInt8))   : Option ((List UInt8)) :=
 r27_words_l0 c  big (((((((([99, 104, 97, 110, 103, 101, 32] : List UInt8) ++ y7) ++ ([32] : List UInt8)) ++ y11) ++ ([32] : List UInt8)) ++ y15) ++ ([32] : List UInt8)) ++ y19) 0
def r27_words (c : T_r27_Call) : Option ((List UInt8)) :=
 if ((c.f_Kind == 1) : Bool) then
  some ([98, 101, 103, 105, 110] : List UInt8)
 else
  if ((c.f_Kind == 2) : Bool) then
   (r27_name c.f_Tx).bind fun y4 =>
   if (([114, 101, 97, 100, 32] : List UInt8)).length + (y4).length ≤ 9223372036854775807 then
   if ((([114, 101, 97, 100, 32] : List UInt8) ++ y4)).length + (([32] : List UInt8)).length ≤ 9223372036854775807 then
   (r27_key c.f_Key).bind fun y8 =>
   if (((([114, 101, 97, 100, 32] : List UInt8) ++ y4) ++ ([32] : List UInt8))).length + (y8).length ≤ 9223372036854775807 then
   some (((([114, 101, 97, 100, 32] : List UInt8) ++ y4) ++ ([32] : List UInt8)) ++ y8)
   else none
   else none
   else none
  else
   if ((c.f_Kind == 3) : Bool) then
    (r27_name c.f_Tx).bind fun y5 =>
    if (([119, 114, 105, 116, 101, 32] : List UInt8)).length + (y5).length ≤ 9223372036854775807 then
    if ((([119, 114, 105, 116, 101, 32] : List UInt8) ++ y5)).length + (([32] : List UInt8)).length ≤ 9223372036854775807 then
    (r27_key c.f_Key).bind fun y9 =>
    if (((([119, 114, 105, 116, 101, 32] : List UInt8) ++ y5) ++ ([32] : List UInt8))).length + (y9).length ≤ 9223372036854775807 then
    if ((((([119, 114, 105, 116, 101, 32] : List UInt8) ++ y5) ++ ([32] : List UInt8)) ++ y9)).length + (([32] : List UInt8)).length ≤ 9223372036854775807 then
    (r27_hex c.f_Value).bind fun y13 =>
    if (((((([119, 114, 105, 116, 101, 32] : List UInt8) ++ y5) ++ ([32] : List UInt8)) ++ y9) ++ ([32] : List UInt8))).length + (y13).length ≤ 9223372036854775807 then
    some (((((([119, 114, 105, 116, 101, 32] : List UInt8) ++ y5) ++ ([32] : List UInt8)) ++ y9) ++ ([32] : List UInt8)) ++ y13)
    else none
    else none
    else none
    else none
    else none
   else
    if ((c.f_Kind == 4) : Bool) then
     (r27_name c.f_Tx).bind fun y6 =>
     if (([99, 111, 109, 109, 105, 116, 32] : List UInt8)).length + (y6).length ≤ 9223372036854775807 then
     some (([99, 111, 109, 109, 105, 116, 32] : List UInt8) ++ y6)
     else none
    else
     if ((c.f_Kind == 5) : Bool) then
      (r27_name c.f_Tx).bind fun y7 =>
      if (([97, 98, 111, 114, 116, 32] : List UInt8)).length + (y7).length ≤ 9223372036854775807 then
      some (([97, 98, 111, 114, 116, 32] : List UInt8) ++ y7)
      else none
     else
      (r27_name c.f_Tx).bind fun y7 =>
      if (([99, 104, 97, 110, 103, 101, 32] : List UInt8)).length + (y7).length ≤ 9223372036854775807 then
      if ((([99, 104, 97, 110, 103, 101, 32] : List UInt8) ++ y7)).length + (([32] : List UInt8)).length ≤ 9223372036854775807 then
      (r27_key c.f_Key).bind fun y11 =>
      if (((([99, 104, 97, 110, 103, 101, 32] : List UInt8) ++ y7) ++ ([32] : List UInt8))).length + (y11).length ≤ 9223372036854775807 then
      if ((((([99, 104, 97, 110, 103, 101, 32] : List UInt8) ++ y7) ++ ([32] : List UInt8)) ++ y11)).length + (([32] : List UInt8)).length ≤ 9223372036854775807 then
      (r27_digits (IntKind.wrap .u64 c.f_R)).bind fun y15 =>
      if (((((([99, 104, 97, 110, 103, 101, 32] : List UInt8) ++ y7) ++ ([32] : List UInt8)) ++ y11) ++ ([32] : List UInt8))).length + (y15).length ≤ 9223372036854775807 then
      if ((((((([99, 104, 97, 110, 103, 101, 32] : List UInt8) ++ y7) ++ ([32] : List UInt8)) ++ y11) ++ ([32] : List UInt8)) ++ y15)).length + (([32] : List UInt8)).length ≤ 9223372036854775807 then
      (r27_digits (IntKind.wrap .u64 c.f_W)).bind fun y19 =>
      if (((((((([99, 104, 97, 110, 103, 101, 32] : List UInt8) ++ y7) ++ ([32] : List UInt8)) ++ y11) ++ ([32] : List UInt8)) ++ y15) ++ ([32] : List UInt8))).length + (y19).length ≤ 9223372036854775807 then
      r27_words_c13 c y7 y11 y15 y19  
      else none
      else none
      else none
      else none
      else none
      else none
      else none
theorem r27_words_l0_ok {w0 : World} {W : Nat → Prop} {μ0 : Emb} (hμ : ∀ c p, μ0 c = some p → c < 0) (c : T_r27_Call) : ∀ (fuel : Nat) (s : List UInt8) (i : Int) (r : (List UInt8)), r27_words_l0 c  fuel s i = some r → kont Tryz.prog w0 W μ0 (FnPost Tryz.prog Tryz.f49 0 0 (r27_words_v r) []) (kAt (bodyOf Tryz.f49) 0) none (r27_words_T0 c s i) (r27_words_H0 c s i) := by
 intro fuel
 induction fuel with
 | zero => intro s i r h; rw [r27_words_l0] at h; cases h
 | succ fuel ih =>
  intro s i r h
  rw [r27_words_l0] at h
  rcases itb_some h with ⟨C1, h⟩ | ⟨C1, h⟩
  ·obtain ⟨G2, h⟩ := guard_some h
   obtain ⟨yL0_4, E3, h⟩ := bind_some h
   obtain ⟨G5, h⟩ := guard_some h
   obtain ⟨G6, h⟩ := guard_some h
   exact rt_ hμ [0] 23 [.go, .reg [(4, hT)], .reg [(7, hC (r27_digits_v yL0_4))], .reg []]
    (a_ (r2_ (l_ 17 18 rfl (r1_ (f_ C1 tr)))) (a_ (r2_ (l_ 17 18 rfl (r1_ (a_ (a_ (a_ (Eq.refl 1) G2) tr) (a_ (a_ (lt_ 0 1 rfl) tr) (r1_ (a_ (a_ (a_ (r27_digits_tri (IntKind.wrap .u64 (c.f_Votes.getD i.toNat default)) yL0_4 E3) tr) tr) (a_ (a_ G5 tr) (a_ (a_ G6 tr) (r1_ tr)))))))))) (a_ (r1_ (r2_ tr)) tr))) (ih _ _ r h) ⟨rfl, trivial⟩
  ·obtain rfl := si_ h
   exact rr_ [] 19 [.go, .reg [(4, hF)], .reg []]
    (a_ (a_ (r2_ (l_ 17 18 rfl (r1_ (f_ C1 tr)))) (a_ (r2_ tr) tr)) tr)
theorem r27_words_c13_ok {w0 : World} {W : Nat → Prop} {μ0 : Emb} (hμ : ∀ c p, μ0 c = some p → c < 0) (c : T_r27_Call) (y7 : (List UInt8)) (y11 : (List UInt8)) (y15 : (List UInt8)) (y19 : (List UInt8))   (r : (List UInt8)) (h : r27_words_c13 c y7 y11 y15 y19   = some r) : kont Tryz.prog w0 W μ0 (FnPost Tryz.prog Tryz.f49 0 0 (r27_words_v r) []) (kAtR (bodyOf Tryz.f49) 13) none (r27_words_T1000013 c y7 y11 y15 y19 ) (r27_words_H1000013 c y7 y11 y15 y19 ) := by
 unfold r27_words_c13 at h
 exact rt_ hμ [0] 13 [.reg []]
  (a_ (r1_ tr) tr) (r27_words_l0_ok hμ c  big _ _ r h) ⟨rfl, trivial⟩
theorem r27_words_ok (c : T_r27_Call) (r : (List UInt8)) (h : r27_words c = some r) : ∀ σ, Inj 0 σ → FnTri Tryz.prog 49 (renL σ [v_T_r27_Call c]) (preOf σ 0 []) ((r27_words_v r).ren σ) (upOf σ []) := by
 refine fo_ Tryz.func49 trivial trivial ?_
 intro w0 W μ0 hμ
 unfold r27_words at h
 rcases itb_some h with ⟨c1, h⟩ | ⟨c1, h⟩
 ·obtain rfl := si_ h
  exact rr_ [] 24 [.reg [], .reg [], .reg [(1, hT)], .reg []]
   (a_ (a_ (r2_ tr) (a_ (r1_ (l_ 2 18 rfl tr)) (a_ (r1_ (f_ c1 tr)) (a_ (r1_ tr) tr)))) tr)
 ·rcases itb_some h with ⟨c2, h⟩ | ⟨c2, h⟩
  ·obtain ⟨y4, e3, h⟩ := bind_some h
   obtain ⟨g5, h⟩ := guard_some h
   obtain ⟨g6, h⟩ := guard_some h
   obtain ⟨y8, e7, h⟩ := bind_some h
   obtain ⟨g9, h⟩ := guard_some h
   obtain rfl := si_ h
   exact rr_ [] 28 [.reg [], .reg [], .reg [(1, hF)], .reg [(1, hT)], .reg [(2, hC (r27_name_v y4)), (7, hC (r27_key_v y8))]]
    (a_ (a_ (r2_ tr) (a_ (r1_ (l_ 2 18 rfl tr)) (a_ (r1_ (f_ c1 tr)) (a_ (r1_ (f_ c2 tr)) (a_ (r1_ (m_ 6 18 rfl (c_ (r27_name_tri c.f_Tx y4 e3) (a_ (a_ g5 tr) (a_ (a_ g6 tr) (r1_ (m_ 14 18 rfl (c_ (r27_key_tri c.f_Key y8 e7) (a_ (a_ g9 tr) (r1_ tr)))))))))) tr))))) tr)
  ·rcases itb_some h with ⟨c3, h⟩ | ⟨c3, h⟩
   ·obtain ⟨y5, e4, h⟩ := bind_some h
    obtain ⟨g6, h⟩ := guard_some h
    obtain ⟨g7, h⟩ := guard_some h
    obtain ⟨y9, e8, h⟩ := bind_some h
    obtain ⟨g10, h⟩ := guard_some h
    obtain ⟨g11, h⟩ := guard_some h
    obtain ⟨y13, e12, h⟩ := bind_some h
    obtain ⟨g14, h⟩ := guard_some h
    obtain rfl := si_ h
    exact rr_ [] 32 [.reg [], .reg [], .reg [(1, hF)], .reg [(1, hF)], .reg [(1, hT)], .reg [(2, hC (r27_name_v y5)), (7, hC (r27_key_v y9)), (12, hC (r27_hex_v y13))]]
     (a_ (a_ (r2_ tr) (a_ (r1_ (l_ 2 18 rfl tr)) (a_ (r1_ (f_ c1 tr)) (a_ (r1_ (f_ c2 tr)) (a_ (r1_ (f_ c3 tr)) (a_ (r1_ (m_ 6 18 rfl (c_ (r27_name_tri c.f_Tx y5 e4) (a_ (a_ g6 tr) (a_ (a_ g7 tr) (r1_ (m_ 14 18 rfl (c_ (r27_key_tri c.f_Key y9 e8) (a_ (a_ g10 tr) (a_ (a_ g11 tr) (r1_ (l_ 14 18 rfl (c_ (r27_hex_tri c.f_Value y13 e12) (a_ (a_ g14 tr) (r1_ tr))))))))))))))) tr)))))) tr)
   ·rcases itb_some h with ⟨c4, h⟩ | ⟨c4, h⟩
    ·obtain ⟨y6, e5, h⟩ := bind_some h
     obtain ⟨g7, h⟩ := guard_some h
     obtain rfl := si_ h
     exact rr_ [] 36 [.reg [], .reg [], .reg [(1, hF)], .reg [(1, hF)], .reg [(1, hF)], .reg [(1, hT)], .reg [(2, hC (r27_name_v y6))]]
      (a_ (a_ (r2_ tr) (a_ (r1_ (l_ 2 18 rfl tr)) (a_ (r1_ (f_ c1 tr)) (a_ (r1_ (f_ c2 tr)) (a_ (r1_ (f_ c3 tr)) (a_ (r1_ (f_ c4 tr)) (a_ (r1_ (m_ 6 18 rfl (c_ (r27_name_tri c.f_Tx y6 e5) (a_ (a_ g7 tr) (r1_ tr))))) tr))))))) tr)
    ·rcases itb_some h with ⟨c5, h⟩ | ⟨c5, h⟩
     ·obtain ⟨y7, e6, h⟩ := bind_some h
      obtain ⟨g8, h⟩ := guard_some h
      obtain rfl := si_ h
      exact rr_ [] 40 [.reg [], .reg [], .reg [(1, hF)], .reg [(1, hF)], .reg [(1, hF)], .reg [(1, hF)], .reg [(1, hT)], .reg [(2, hC (r27_name_v y7))]]
       (a_ (a_ (r2_ tr) (a_ (r1_ (l_ 2 18 rfl tr)) (a_ (r1_ (f_ c1 tr)) (a_ (r1_ (f_ c2 tr)) (a_ (r1_ (f_ c3 tr)) (a_ (r1_ (f_ c4 tr)) (a_ (r1_ (f_ c5 tr)) (a_ (r1_ (m_ 6 18 rfl (c_ (r27_name_tri c.f_Tx y7 e6) (a_ (a_ g8 tr) (r1_ tr))))) tr)))))))) tr)
     ·obtain ⟨y7, e6, h⟩ := bind_some h
      obtain ⟨g8, h⟩ := guard_some h
      obtain ⟨g9, h⟩ := guard_some h
      obtain ⟨y11, e10, h⟩ := bind_some h
      obtain ⟨g12, h⟩ := guard_some h
      obtain ⟨g13, h⟩ := guard_some h
      obtain ⟨y15, e14, h⟩ := bind_some h
      obtain ⟨g16, h⟩ := guard_some h
      obtain ⟨g17, h⟩ := guard_some h
      obtain ⟨y19, e18, h⟩ := bind_some h
      obtain ⟨g20, h⟩ := guard_some h
      exact rt_ hμ [0] 44 [.reg [], .reg [], .reg [(1, hF)], .reg [(1, hF)], .reg [(1, hF)], .reg [(1, hF)], .reg [(1, hF)], .reg [(2, hC (r27_name_v y7)), (7, hC (r27_key_v y11)), (13, hC (r27_digits_v y15)), (19, hC (r27_digits_v y19))]]
       (a_ (r2_ tr) (a_ (r1_ (l_ 2 18 rfl tr)) (a_ (r1_ (f_ c1 tr)) (a_ (r1_ (f_ c2 tr)) (a_ (r1_ (f_ c3 tr)) (a_ (r1_ (f_ c4 tr)) (a_ (r1_ (f_ c5 tr)) (a_ (r1_ (m_ 6 18 rfl (c_ (r27_name_tri c.f_Tx y7 e6) (a_ (a_ g8 tr) (a_ (a_ g9 tr) (r1_ (m_ 14 18 rfl (c_ (r27_key_tri c.f_Key y11 e10) (a_ (a_ g12 tr) (a_ (a_ g13 tr) (r1_ (l_ 15 18 rfl (r1_ (a_ (a_ (a_ (r27_digits_tri (IntKind.wrap .u64 c.f_R) y15 e14) tr) tr) (a_ (a_ g16 tr) (a_ (a_ g17 tr) (r1_ (l_ 16 18 rfl (r1_ (a_ (a_ (a_ (r27_digits_tri (IntKind.wrap .u64 c.f_W) y19 e18) tr) tr) (a_ (a_ g20 tr) (r1_ tr)))))))))))))))))))))) tr)))))))) (r27_words_c13_ok hμ c y7 y11 y15 y19   r h) ⟨rfl, trivial⟩
theorem r27_words_tri (c : T_r27_Call) (r : (List UInt8)) (h : r27_words c = some r) : FnTri Tryz.prog 49 [v_T_r27_Call c] [] (r27_words_v r) [] := FnTri.none (r27_words_ok c r h) rfl rfl
/-- parrel/parrelref27.signed -/
def r27_signed_v (r : (List UInt8)) : LV := .str r
def r27_signed (x_n : Int) : Option ((List UInt8)) :=
 if ((decide (x_n < 0)) : Bool) then
  some ([45, 49] : List UInt8)
 else
  (r27_digits (IntKind.wrap .u64 x_n)).bind fun y3 =>
  some y3
theorem r27_signed_ok (x_n : Int) (r : (List UInt8)) (h : r27_signed x_n = some r) : ∀ σ, Inj 0 σ → FnTri Tryz.prog 50 (renL σ [.int .i64 x_n]) (preOf σ 0 []) ((r27_signed_v r).ren σ) (upOf σ []) := by
 refine fo_ Tryz.func50 trivial trivial ?_
 intro w0 W μ0 hμ
 unfold r27_signed at h
 rcases itb_some h with ⟨c1, h⟩ | ⟨c1, h⟩
 ·obtain rfl := si_ h
  exact rr_ [] 20 [.reg [], .reg [(1, hT)], .reg []]
   (a_ (a_ (r1_ tr) (a_ (r1_ (f_ c1 tr)) (a_ (r1_ tr) tr))) tr)
 ·obtain ⟨y3, e2, h⟩ := bind_some h
  obtain rfl := si_ h
  exact rr_ [] 21 [.reg [], .reg [(1, hF)], .reg [(2, hC (r27_digits_v y3))]]
   (a_ (a_ (r1_ tr) (a_ (r1_ (f_ c1 tr)) (a_ (r2_ (a_ (a_ (a_ (r27_digits_tri (IntKind.wrap .u64 x_n) y3 e2) tr) tr) (r1_ tr))) tr))) tr)
theorem r27_signed_tri (x_n : Int) (r : (List UInt8)) (h : r27_signed x_n = some r) : FnTri Tryz.prog 50 [.int .i64 x_n] [] (r27_signed_v r) [] := FnTri.none (r27_signed_ok x_n r h) rfl rfl
end
end Go.Proofs.YtdchgoaokceomaaGreatDoor.Wk
