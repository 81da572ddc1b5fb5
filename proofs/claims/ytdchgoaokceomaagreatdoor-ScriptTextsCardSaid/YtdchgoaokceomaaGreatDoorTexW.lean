/- Printed by tr.py: Go functions as Lean functions, with the proofs that they walk so. -/
import Derived.Test.YtdchgoaokceomaaGreatDoorTexWc
namespace Go.Proofs.YtdchgoaokceomaaGreatDoor.Wk
open Go Go.Cn Go.RowKit
set_option maxRecDepth 100000
set_option maxHeartbeats 4000000
set_option linter.unusedVariables false
set_option linter.unusedSimpArgs false
noncomputable section
/-- parrel/parrelref27.Line -/
def r27_Line_v (r : (List UInt8) × (Int)) : LV := .tup [.str r.1, .int .i64 r.2]
def r27_Line_T1000006 (s : T_r27_Step) (y5 : (List UInt8))  : List LV := .any :: (.ptr 0 0 0) :: .any :: .any :: (.str y5) :: n_ 103 []
def r27_Line_H1000006 (s : T_r27_Step) (y5 : (List UInt8))  : Heap := [some (.var (c_T_r27_Step s))]
def r27_Line_T1000007 (s : T_r27_Step) (y5 : (List UInt8)) (y7 : (List UInt8))  : List LV := .any :: (.ptr 0 0 0) :: .any :: .any :: (.str y5) :: (.str y7) :: n_ 13 ((.int .u8 s.f_Kind) :: n_ 88 [])
def r27_Line_H1000007 (s : T_r27_Step) (y5 : (List UInt8)) (y7 : (List UInt8))  : Heap := [some (.var (c_T_r27_Step s))]
def r27_Line_c6 (s : T_r27_Step) (y5 : (List UInt8))   : Option ((List UInt8) × (Int)) :=
 if (([100, 111, 32] : List UInt8)).length + (y5).length ≤ 9223372036854775807 then
 if ((([100, 111, 32] : List UInt8) ++ y5)).length + (([32] : List UInt8)).length ≤ 9223372036854775807 then
 (r27_digits (IntKind.wrap .u64 s.f_Call.f_Client)).bind fun yC6_4 =>
 if (((([100, 111, 32] : List UInt8) ++ y5) ++ ([32] : List UInt8))).length + (yC6_4).length ≤ 9223372036854775807 then
 if ((((([100, 111, 32] : List UInt8) ++ y5) ++ ([32] : List UInt8)) ++ yC6_4)).length + (([32] : List UInt8)).length ≤ 9223372036854775807 then
 (r27_digits (IntKind.wrap .u64 s.f_Call.f_Seq)).bind fun yC6_8 =>
 if (((((([100, 111, 32] : List UInt8) ++ y5) ++ ([32] : List UInt8)) ++ yC6_4) ++ ([32] : List UInt8))).length + (yC6_8).length ≤ 9223372036854775807 then
 if ((((((([100, 111, 32] : List UInt8) ++ y5) ++ ([32] : List UInt8)) ++ yC6_4) ++ ([32] : List UInt8)) ++ yC6_8)).length + (([32] : List UInt8)).length ≤ 9223372036854775807 then
 (r27_words s.f_Call).bind fun yC6_12 =>
 if (((((((([100, 111, 32] : List UInt8) ++ y5) ++ ([32] : List UInt8)) ++ yC6_4) ++ ([32] : List UInt8)) ++ yC6_8) ++ ([32] : List UInt8))).length + (yC6_12).length ≤ 9223372036854775807 then
 some ((((((((([100, 111, 32] : List UInt8) ++ y5) ++ ([32] : List UInt8)) ++ yC6_4) ++ ([32] : List UInt8)) ++ yC6_8) ++ ([32] : List UInt8)) ++ yC6_12), 0)
 else none
 else none
 else none
 else none
 else none
 else none
 else none
def r27_Line_c7 (s : T_r27_Step) (y5 : (List UInt8)) (y7 : (List UInt8))   : Option ((List UInt8) × (Int)) :=
 if ((s.f_Kind == 2) : Bool) then
  if (([100, 101, 108, 105, 118, 101, 114, 32] : List UInt8)).length + (y7).length ≤ 9223372036854775807 then
  some ((([100, 101, 108, 105, 118, 101, 114, 32] : List UInt8) ++ y7), 0)
  else none
 else
  if ((s.f_Kind == 3) : Bool) then
   if (([100, 114, 111, 112, 32] : List UInt8)).length + (y7).length ≤ 9223372036854775807 then
   some ((([100, 114, 111, 112, 32] : List UInt8) ++ y7), 0)
   else none
  else
   if ((s.f_Kind == 4) : Bool) then
    if (([116, 119, 105, 99, 101, 32] : List UInt8)).length + (y7).length ≤ 9223372036854775807 then
    some ((([116, 119, 105, 99, 101, 32] : List UInt8) ++ y7), 0)
    else none
   else
    if ((s.f_Kind == 5) : Bool) then
     if (([108, 97, 116, 101, 32] : List UInt8)).length + (y7).length ≤ 9223372036854775807 then
     some ((([108, 97, 116, 101, 32] : List UInt8) ++ y7), 0)
     else none
    else
     if ((s.f_Kind == 6) : Bool) then
      if (([116, 105, 99, 107, 32] : List UInt8)).length + (y5).length ≤ 9223372036854775807 then
      some ((([116, 105, 99, 107, 32] : List UInt8) ++ y5), 0)
      else none
     else
      if ((s.f_Kind == 7) : Bool) then
       if (([99, 114, 97, 115, 104, 32] : List UInt8)).length + (y5).length ≤ 9223372036854775807 then
       some ((([99, 114, 97, 115, 104, 32] : List UInt8) ++ y5), 0)
       else none
      else
       if ((s.f_Kind == 8) : Bool) then
        if (s.f_Cut : Bool) then
         if (([115, 116, 97, 114, 116, 32] : List UInt8)).length + (y5).length ≤ 9223372036854775807 then
         if ((([115, 116, 97, 114, 116, 32] : List UInt8) ++ y5)).length + (([32] : List UInt8)).length ≤ 9223372036854775807 then
         (r27_signed s.f_N).bind fun yC7_12 =>
         if (((([115, 116, 97, 114, 116, 32] : List UInt8) ++ y5) ++ ([32] : List UInt8))).length + (yC7_12).length ≤ 9223372036854775807 then
         if ((((([115, 116, 97, 114, 116, 32] : List UInt8) ++ y5) ++ ([32] : List UInt8)) ++ yC7_12)).length + (([32, 99, 117, 116, 32] : List UInt8)).length ≤ 9223372036854775807 then
         (r27_hex (strI s.f_Bytes)).bind fun yC7_16 =>
         if (((((([115, 116, 97, 114, 116, 32] : List UInt8) ++ y5) ++ ([32] : List UInt8)) ++ yC7_12) ++ ([32, 99, 117, 116, 32] : List UInt8))).length + (yC7_16).length ≤ 9223372036854775807 then
         some ((((((([115, 116, 97, 114, 116, 32] : List UInt8) ++ y5) ++ ([32] : List UInt8)) ++ yC7_12) ++ ([32, 99, 117, 116, 32] : List UInt8)) ++ yC7_16), 0)
         else none
         else none
         else none
         else none
         else none
        else
         if (([115, 116, 97, 114, 116, 32] : List UInt8)).length + (y5).length ≤ 9223372036854775807 then
         if ((([115, 116, 97, 114, 116, 32] : List UInt8) ++ y5)).length + (([32] : List UInt8)).length ≤ 9223372036854775807 then
         (r27_signed s.f_N).bind fun yC7_12 =>
         if (((([115, 116, 97, 114, 116, 32] : List UInt8) ++ y5) ++ ([32] : List UInt8))).length + (yC7_12).length ≤ 9223372036854775807 then
         if ((((([115, 116, 97, 114, 116, 32] : List UInt8) ++ y5) ++ ([32] : List UInt8)) ++ yC7_12)).length + (([32, 119, 104, 111, 108, 101, 32] : List UInt8)).length ≤ 9223372036854775807 then
         (r27_hex (strI s.f_Bytes)).bind fun yC7_16 =>
         if (((((([115, 116, 97, 114, 116, 32] : List UInt8) ++ y5) ++ ([32] : List UInt8)) ++ yC7_12) ++ ([32, 119, 104, 111, 108, 101, 32] : List UInt8))).length + (yC7_16).length ≤ 9223372036854775807 then
         some ((((((([115, 116, 97, 114, 116, 32] : List UInt8) ++ y5) ++ ([32] : List UInt8)) ++ yC7_12) ++ ([32, 119, 104, 111, 108, 101, 32] : List UInt8)) ++ yC7_16), 0)
         else none
         else none
         else none
         else none
         else none
       else
        if ((s.f_Kind == 9) : Bool) then
         if (([97, 114, 109, 32] : List UInt8)).length + (y5).length ≤ 9223372036854775807 then
         if ((([97, 114, 109, 32] : List UInt8) ++ y5)).length + (([32] : List UInt8)).length ≤ 9223372036854775807 then
         (r27_signed s.f_N).bind fun yC7_12 =>
         if (((([97, 114, 109, 32] : List UInt8) ++ y5) ++ ([32] : List UInt8))).length + (yC7_12).length ≤ 9223372036854775807 then
         some ((((([97, 114, 109, 32] : List UInt8) ++ y5) ++ ([32] : List UInt8)) ++ yC7_12), 0)
         else none
         else none
         else none
        else
         if (([105, 110, 106, 101, 99, 116, 32] : List UInt8)).length + (y5).length ≤ 9223372036854775807 then
         if ((([105, 110, 106, 101, 99, 116, 32] : List UInt8) ++ y5)).length + (([32] : List UInt8)).length ≤ 9223372036854775807 then
         (r27_digits (IntKind.wrap .u64 s.f_To)).bind fun yC7_12 =>
         if (((([105, 110, 106, 101, 99, 116, 32] : List UInt8) ++ y5) ++ ([32] : List UInt8))).length + (yC7_12).length ≤ 9223372036854775807 then
         if ((((([105, 110, 106, 101, 99, 116, 32] : List UInt8) ++ y5) ++ ([32] : List UInt8)) ++ yC7_12)).length + (([32] : List UInt8)).length ≤ 9223372036854775807 then
         (r27_hex (strI s.f_Bytes)).bind fun yC7_16 =>
         if (((((([105, 110, 106, 101, 99, 116, 32] : List UInt8) ++ y5) ++ ([32] : List UInt8)) ++ yC7_12) ++ ([32] : List UInt8))).length + (yC7_16).length ≤ 9223372036854775807 then
         some ((((((([105, 110, 106, 101, 99, 116, 32] : List UInt8) ++ y5) ++ ([32] : List UInt8)) ++ yC7_12) ++ ([32] : List UInt8)) ++ yC7_16), 0)
         else none
         else none
         else none
         else none
         else none
def r27_Line (s : T_r27_Step) : Option ((List UInt8) × (Int)) :=
 (r27_May s).bind fun y2 =>
 if ((!y2) : Bool) then
  some ([], 1)
 else
  (r27_digits (IntKind.wrap .u64 s.f_Node)).bind fun y5 =>
  (r27_digits (IntKind.wrap .u64 s.f_Wire)).bind fun y7 =>
  if ((s.f_Kind == 1) : Bool) then
   r27_Line_c6 s y5  
  else
   r27_Line_c7 s y5 y7  
theorem r27_Line_c6_ok {w0 : World} {W : Nat → Prop} {μ0 : Emb} (hμ : ∀ c p, μ0 c = some p → c < 0) (s : T_r27_Step) (y5 : (List UInt8))   (r : (List UInt8) × (Int)) (h : r27_Line_c6 s y5   = some r) : kont Tryz.prog w0 W μ0 (FnPost Tryz.prog Tryz.f21 0 0 (r27_Line_v r) []) (kAtR (bodyOf Tryz.f21) 6) none (r27_Line_T1000006 s y5 ) (r27_Line_H1000006 s y5 ) := by
 unfold r27_Line_c6 at h
 obtain ⟨G1, h⟩ := guard_some h
 obtain ⟨G2, h⟩ := guard_some h
 obtain ⟨yC6_4, E3, h⟩ := bind_some h
 obtain ⟨G5, h⟩ := guard_some h
 obtain ⟨G6, h⟩ := guard_some h
 obtain ⟨yC6_8, E7, h⟩ := bind_some h
 obtain ⟨G9, h⟩ := guard_some h
 obtain ⟨G10, h⟩ := guard_some h
 obtain ⟨yC6_12, E11, h⟩ := bind_some h
 obtain ⟨G13, h⟩ := guard_some h
 obtain rfl := si_ h
 exact rr_ [] 11 [.reg [(7, hC (r27_digits_v yC6_4)), (14, hC (r27_digits_v yC6_8)), (19, hC (r27_words_v yC6_12))]]
  (a_ (a_ (r1_ (a_ (a_ G1 tr) (a_ (a_ G2 tr) (r2_ (l_ 5 25 rfl (r1_ (a_ (a_ (a_ (r27_digits_tri (IntKind.wrap .u64 s.f_Call.f_Client) yC6_4 E3) tr) tr) (a_ (a_ G5 tr) (a_ (a_ G6 tr) (r2_ (l_ 6 25 rfl (r1_ (a_ (a_ (a_ (r27_digits_tri (IntKind.wrap .u64 s.f_Call.f_Seq) yC6_8 E7) tr) tr) (a_ (a_ G9 tr) (a_ (a_ G10 tr) (r1_ (m_ 23 25 rfl (c_ (r27_words_tri s.f_Call yC6_12 E11) (a_ (a_ G13 tr) (r2_ tr)))))))))))))))))))) tr) tr)
theorem r27_Line_c7_ok {w0 : World} {W : Nat → Prop} {μ0 : Emb} (hμ : ∀ c p, μ0 c = some p → c < 0) (s : T_r27_Step) (y5 : (List UInt8)) (y7 : (List UInt8))   (r : (List UInt8) × (Int)) (h : r27_Line_c7 s y5 y7   = some r) : kont Tryz.prog w0 W μ0 (FnPost Tryz.prog Tryz.f21 0 0 (r27_Line_v r) []) (kAtR (bodyOf Tryz.f21) 7) none (r27_Line_T1000007 s y5 y7 ) (r27_Line_H1000007 s y5 y7 ) := by
 unfold r27_Line_c7 at h
 rcases itb_some h with ⟨C1, h⟩ | ⟨C1, h⟩
 ·obtain ⟨G2, h⟩ := guard_some h
  obtain rfl := si_ h
  exact rr_ [] 15 [.reg [(1, hT)], .reg []]
   (a_ (a_ (r1_ (f_ C1 tr)) (a_ (r1_ (a_ (a_ G2 tr) (r2_ tr))) tr)) tr)
 ·rcases itb_some h with ⟨C2, h⟩ | ⟨C2, h⟩
  ·obtain ⟨G3, h⟩ := guard_some h
   obtain rfl := si_ h
   exact rr_ [] 19 [.reg [(1, hF)], .reg [(1, hT)], .reg []]
    (a_ (a_ (r1_ (f_ C1 tr)) (a_ (r1_ (f_ C2 tr)) (a_ (r1_ (a_ (a_ G3 tr) (r2_ tr))) tr))) tr)
  ·rcases itb_some h with ⟨C3, h⟩ | ⟨C3, h⟩
   ·obtain ⟨G4, h⟩ := guard_some h
    obtain rfl := si_ h
    exact rr_ [] 23 [.reg [(1, hF)], .reg [(1, hF)], .reg [(1, hT)], .reg []]
     (a_ (a_ (r1_ (f_ C1 tr)) (a_ (r1_ (f_ C2 tr)) (a_ (r1_ (f_ C3 tr)) (a_ (r1_ (a_ (a_ G4 tr) (r2_ tr))) tr)))) tr)
   ·rcases itb_some h with ⟨C4, h⟩ | ⟨C4, h⟩
    ·obtain ⟨G5, h⟩ := guard_some h
     obtain rfl := si_ h
     exact rr_ [] 27 [.reg [(1, hF)], .reg [(1, hF)], .reg [(1, hF)], .reg [(1, hT)], .reg []]
      (a_ (a_ (r1_ (f_ C1 tr)) (a_ (r1_ (f_ C2 tr)) (a_ (r1_ (f_ C3 tr)) (a_ (r1_ (f_ C4 tr)) (a_ (r1_ (a_ (a_ G5 tr) (r2_ tr))) tr))))) tr)
    ·rcases itb_some h with ⟨C5, h⟩ | ⟨C5, h⟩
     ·obtain ⟨G6, h⟩ := guard_some h
      obtain rfl := si_ h
      exact rr_ [] 31 [.reg [(1, hF)], .reg [(1, hF)], .reg [(1, hF)], .reg [(1, hF)], .reg [(1, hT)], .reg []]
       (a_ (a_ (r1_ (f_ C1 tr)) (a_ (r1_ (f_ C2 tr)) (a_ (r1_ (f_ C3 tr)) (a_ (r1_ (f_ C4 tr)) (a_ (r1_ (f_ C5 tr)) (a_ (r1_ (a_ (a_ G6 tr) (r2_ tr))) tr)))))) tr)
     ·rcases itb_some h with ⟨C6, h⟩ | ⟨C6, h⟩
      ·obtain ⟨G7, h⟩ := guard_some h
       obtain rfl := si_ h
       exact rr_ [] 35 [.reg [(1, hF)], .reg [(1, hF)], .reg [(1, hF)], .reg [(1, hF)], .reg [(1, hF)], .reg [(1, hT)], .reg []]
        (a_ (a_ (r1_ (f_ C1 tr)) (a_ (r1_ (f_ C2 tr)) (a_ (r1_ (f_ C3 tr)) (a_ (r1_ (f_ C4 tr)) (a_ (r1_ (f_ C5 tr)) (a_ (r1_ (f_ C6 tr)) (a_ (r1_ (a_ (a_ G7 tr) (r2_ tr))) tr))))))) tr)
      ·rcases itb_some h with ⟨C7, h⟩ | ⟨C7, h⟩
       ·rcases itb_some h with ⟨C8, h⟩ | ⟨C8, h⟩
        ·obtain ⟨G9, h⟩ := guard_some h
         obtain ⟨G10, h⟩ := guard_some h
         obtain ⟨yC7_12, E11, h⟩ := bind_some h
         obtain ⟨G13, h⟩ := guard_some h
         obtain ⟨G14, h⟩ := guard_some h
         obtain ⟨yC7_16, E15, h⟩ := bind_some h
         obtain ⟨G17, h⟩ := guard_some h
         obtain rfl := si_ h
         exact rr_ [] 49 [.reg [(1, hF)], .reg [(1, hF)], .reg [(1, hF)], .reg [(1, hF)], .reg [(1, hF)], .reg [(1, hF)], .reg [(1, hT)], .reg [], .reg [(1, hT)], .reg [], .reg [(5, hC (r27_signed_v yC7_12)), (11, { v := some (.str (strI s.f_Bytes)) }), (12, hC (r27_hex_v yC7_16))]]
          (a_ (a_ (r1_ (f_ C1 tr)) (a_ (r1_ (f_ C2 tr)) (a_ (r1_ (f_ C3 tr)) (a_ (r1_ (f_ C4 tr)) (a_ (r1_ (f_ C5 tr)) (a_ (r1_ (f_ C6 tr)) (a_ (r1_ (f_ C7 tr)) (a_ (r1_ tr) (a_ (r1_ (a_ (a_ (a_ tr (lt_ 4 25 rfl)) (a_ (leB C8) tr)) tr)) (a_ (r1_ tr) (a_ (r1_ (a_ (a_ G9 tr) (a_ (a_ G10 tr) (r1_ (l_ 3 25 rfl (c_ (r27_signed_tri s.f_N yC7_12 E11) (a_ (a_ G13 tr) (r1_ (a_ (a_ G14 tr) (r1_ (l_ 24 25 rfl (a_ (a_ (a_ (Eq.refl 1) (str_ob s.f_Bytes)) (a_ (le_str s.f_Bytes) tr)) (a_ (a_ (a_ (r27_hex_tri (strI s.f_Bytes) yC7_16 E15) tr) tr) (a_ (a_ G17 tr) (r2_ tr))))))))))))))) tr))))))))))) tr)
        ·obtain ⟨G9, h⟩ := guard_some h
         obtain ⟨G10, h⟩ := guard_some h
         obtain ⟨yC7_12, E11, h⟩ := bind_some h
         obtain ⟨G13, h⟩ := guard_some h
         obtain ⟨G14, h⟩ := guard_some h
         obtain ⟨yC7_16, E15, h⟩ := bind_some h
         obtain ⟨G17, h⟩ := guard_some h
         obtain rfl := si_ h
         exact rr_ [] 48 [.reg [(1, hF)], .reg [(1, hF)], .reg [(1, hF)], .reg [(1, hF)], .reg [(1, hF)], .reg [(1, hF)], .reg [(1, hT)], .reg [], .reg [(1, hF)], .reg [(5, hC (r27_signed_v yC7_12)), (11, { v := some (.str (strI s.f_Bytes)) }), (12, hC (r27_hex_v yC7_16))]]
          (a_ (a_ (r1_ (f_ C1 tr)) (a_ (r1_ (f_ C2 tr)) (a_ (r1_ (f_ C3 tr)) (a_ (r1_ (f_ C4 tr)) (a_ (r1_ (f_ C5 tr)) (a_ (r1_ (f_ C6 tr)) (a_ (r1_ (f_ C7 tr)) (a_ (r1_ tr) (a_ (r1_ (a_ (a_ (a_ tr (lt_ 4 25 rfl)) (a_ (leB C8) tr)) tr)) (a_ (r1_ (a_ (a_ G9 tr) (a_ (a_ G10 tr) (r1_ (l_ 3 25 rfl (c_ (r27_signed_tri s.f_N yC7_12 E11) (a_ (a_ G13 tr) (r1_ (a_ (a_ G14 tr) (r1_ (l_ 24 25 rfl (a_ (a_ (a_ (Eq.refl 1) (str_ob s.f_Bytes)) (a_ (le_str s.f_Bytes) tr)) (a_ (a_ (a_ (r27_hex_tri (strI s.f_Bytes) yC7_16 E15) tr) tr) (a_ (a_ G17 tr) (r2_ tr))))))))))))))) tr)))))))))) tr)
       ·rcases itb_some h with ⟨C8, h⟩ | ⟨C8, h⟩
        ·obtain ⟨G9, h⟩ := guard_some h
         obtain ⟨G10, h⟩ := guard_some h
         obtain ⟨yC7_12, E11, h⟩ := bind_some h
         obtain ⟨G13, h⟩ := guard_some h
         obtain rfl := si_ h
         exact rr_ [] 43 [.reg [(1, hF)], .reg [(1, hF)], .reg [(1, hF)], .reg [(1, hF)], .reg [(1, hF)], .reg [(1, hF)], .reg [(1, hF)], .reg [(1, hT)], .reg [(5, hC (r27_signed_v yC7_12))]]
          (a_ (a_ (r1_ (f_ C1 tr)) (a_ (r1_ (f_ C2 tr)) (a_ (r1_ (f_ C3 tr)) (a_ (r1_ (f_ C4 tr)) (a_ (r1_ (f_ C5 tr)) (a_ (r1_ (f_ C6 tr)) (a_ (r1_ (f_ C7 tr)) (a_ (r1_ (f_ C8 tr)) (a_ (r1_ (a_ (a_ G9 tr) (a_ (a_ G10 tr) (r1_ (l_ 3 25 rfl (c_ (r27_signed_tri s.f_N yC7_12 E11) (a_ (a_ G13 tr) (r2_ tr)))))))) tr))))))))) tr)
        ·obtain ⟨G9, h⟩ := guard_some h
         obtain ⟨G10, h⟩ := guard_some h
         obtain ⟨yC7_12, E11, h⟩ := bind_some h
         obtain ⟨G13, h⟩ := guard_some h
         obtain ⟨G14, h⟩ := guard_some h
         obtain ⟨yC7_16, E15, h⟩ := bind_some h
         obtain ⟨G17, h⟩ := guard_some h
         obtain rfl := si_ h
         exact rr_ [] 45 [.reg [(1, hF)], .reg [(1, hF)], .reg [(1, hF)], .reg [(1, hF)], .reg [(1, hF)], .reg [(1, hF)], .reg [(1, hF)], .reg [(1, hF)], .reg [(6, hC (r27_digits_v yC7_12)), (11, { v := some (.str (strI s.f_Bytes)) }), (12, hC (r27_hex_v yC7_16))]]
          (a_ (a_ (r1_ (f_ C1 tr)) (a_ (r1_ (f_ C2 tr)) (a_ (r1_ (f_ C3 tr)) (a_ (r1_ (f_ C4 tr)) (a_ (r1_ (f_ C5 tr)) (a_ (r1_ (f_ C6 tr)) (a_ (r1_ (f_ C7 tr)) (a_ (r1_ (f_ C8 tr)) (a_ (r1_ (a_ (a_ G9 tr) (a_ (a_ G10 tr) (r1_ (l_ 23 25 rfl (r1_ (a_ (a_ (a_ (r27_digits_tri (IntKind.wrap .u64 s.f_To) yC7_12 E11) tr) tr) (a_ (a_ G13 tr) (a_ (a_ G14 tr) (r1_ (l_ 24 25 rfl (a_ (a_ (a_ (Eq.refl 1) (str_ob s.f_Bytes)) (a_ (le_str s.f_Bytes) tr)) (a_ (a_ (a_ (r27_hex_tri (strI s.f_Bytes) yC7_16 E15) tr) tr) (a_ (a_ G17 tr) (r2_ tr))))))))))))))) tr))))))))) tr)
theorem r27_Line_ok (s : T_r27_Step) (r : (List UInt8) × (Int)) (h : r27_Line s = some r) : ∀ σ, Inj 0 σ → FnTri Tryz.prog 21 (renL σ [v_T_r27_Step s]) (preOf σ 0 []) ((r27_Line_v r).ren σ) (upOf σ []) := by
 refine fo_ Tryz.func21 trivial trivial ?_
 intro w0 W μ0 hμ
 unfold r27_Line at h
 obtain ⟨y2, e1, h⟩ := bind_some h
 rcases itb_some h with ⟨c3, h⟩ | ⟨c3, h⟩
 ·obtain rfl := si_ h
  exact rr_ [] 20 [.reg [], .reg [(1, hC (r27_May_v y2)), (2, hT)], .reg []]
   (a_ (a_ (r1_ (r2_ tr)) (a_ (m_ 25 25 rfl (c_ (r27_May_tri s y2 e1) (f_ c3 tr))) (a_ (r2_ tr) tr))) tr)
 ·obtain ⟨y5, e4, h⟩ := bind_some h
  obtain ⟨y7, e6, h⟩ := bind_some h
  rcases itb_some h with ⟨c8, h⟩ | ⟨c8, h⟩
  ·exact rt_ hμ [0] 31 [.reg [], .reg [(1, hC (r27_May_v y2)), (2, hF)], .reg [(3, hC (r27_digits_v y5)), (7, hC (r27_digits_v y7))], .reg [], .reg [(1, hT)]]
    (a_ (r1_ (r2_ tr)) (a_ (m_ 25 25 rfl (c_ (r27_May_tri s y2 e1) (f_ c3 tr))) (a_ (r1_ (l_ 1 25 rfl (r1_ (a_ (a_ (a_ (r27_digits_tri (IntKind.wrap .u64 s.f_Node) y5 e4) tr) tr) (r1_ (l_ 2 25 rfl (r1_ (a_ (a_ (a_ (r27_digits_tri (IntKind.wrap .u64 s.f_Wire) y7 e6) tr) tr) (r2_ tr))))))))) (a_ (r1_ (l_ 0 25 rfl tr)) (a_ (r1_ (f_ c8 tr)) tr))))) (r27_Line_c6_ok hμ s y5   r h) ⟨rfl, trivial⟩
  ·exact rt_ hμ [0] 31 [.reg [], .reg [(1, hC (r27_May_v y2)), (2, hF)], .reg [(3, hC (r27_digits_v y5)), (7, hC (r27_digits_v y7))], .reg [], .reg [(1, hF)]]
    (a_ (r1_ (r2_ tr)) (a_ (m_ 25 25 rfl (c_ (r27_May_tri s y2 e1) (f_ c3 tr))) (a_ (r1_ (l_ 1 25 rfl (r1_ (a_ (a_ (a_ (r27_digits_tri (IntKind.wrap .u64 s.f_Node) y5 e4) tr) tr) (r1_ (l_ 2 25 rfl (r1_ (a_ (a_ (a_ (r27_digits_tri (IntKind.wrap .u64 s.f_Wire) y7 e6) tr) tr) (r2_ tr))))))))) (a_ (r1_ (l_ 0 25 rfl tr)) (a_ (r1_ (f_ c8 tr)) tr))))) (r27_Line_c7_ok hμ s y5 y7   r h) ⟨rfl, trivial⟩
theorem r27_Line_tri (s : T_r27_Step) (r : (List UInt8) × (Int)) (h : r27_Line s = some r) : FnTri Tryz.prog 21 [v_T_r27_Step s] [] (r27_Line_v r) [] := FnTri.none (r27_Line_ok s r h) rfl rfl
/-- parrel/parrelref27.Parse -/
def r27_Parse_v (r : (T_r27_Step) × (Int)) : LV := .tup [v_T_r27_Step r.1, .int .i64 r.2]
def r27_Parse_T1000006   : List LV := .any :: .any :: (.ptr 0 0 0) :: n_ 25 []
def r27_Parse_H1000006   : Heap := [some (.var [Z1_, Z8_, Z8_, Z8_, .bool false, Z1_, Z4_, Z1_, Z1_, Z4_, Z4_, Z1_, Z1_, Z1_, Z1_, Z1_, Z1_, Z1_, Z1_, .str [], Z1_, Z1_, .nilsl, Z8_, .nilsl])]
def r27_Parse_T1000007 (y5 : (T_r27_Step))  : List LV := .any :: .any :: (.ptr 0 0 0) :: .any :: (.ptr 1 0 0) :: n_ 23 []
def r27_Parse_H1000007 (y5 : (T_r27_Step))  : Heap := [some (.var [Z1_, Z8_, Z8_, Z8_, .bool false, Z1_, Z4_, Z1_, Z1_, Z4_, Z4_, Z1_, Z1_, Z1_, Z1_, Z1_, Z1_, Z1_, Z1_, .str [], Z1_, Z1_, .nilsl, Z8_, .nilsl]), some (.var (c_T_r27_Step y5))]
def r27_Parse_c6    : Option ((T_r27_Step) × (Int)) :=
 some ((T_r27_Step.mk 0 0 0 0 false (T_r27_Call.mk 0 0 0 (TX.mk 0 0 0) (A8.mk 0 0 0 0 0 0 0 0) [] 0 0 ([] : List (Int))) 0 ([] : List (Int))), 3)
def r27_Parse_c7 (y5 : (T_r27_Step))   : Option ((T_r27_Step) × (Int)) :=
 some (y5, 0)
def r27_Parse (line : List UInt8) : Option ((T_r27_Step) × (Int)) :=
 if ((decide (16384 < ((line).length : Int))) : Bool) then
  some ((T_r27_Step.mk 0 0 0 0 false (T_r27_Call.mk 0 0 0 (TX.mk 0 0 0) (A8.mk 0 0 0 0 0 0 0 0) [] 0 0 ([] : List (Int))) 0 ([] : List (Int))), 5)
 else
  (r27_split line 32).bind fun y3 =>
  (r27_guess y3).bind fun y5 =>
  (r27_Line y5).bind fun y7 =>
  if ((y7.2 != 0) : Bool) then
   r27_Parse_c6   
  else
   if ((!(y7.1 == line)) : Bool) then
    r27_Parse_c6   
   else
    r27_Parse_c7 y5  
theorem r27_Parse_c6_ok {w0 : World} {W : Nat → Prop} {μ0 : Emb} (hμ : ∀ c p, μ0 c = some p → c < 0)    (r : (T_r27_Step) × (Int)) (h : r27_Parse_c6    = some r) : kont Tryz.prog w0 W μ0 (FnPost Tryz.prog Tryz.f7 0 0 (r27_Parse_v r) []) (kAtR (bodyOf Tryz.f7) 6) none (r27_Parse_T1000006 ) (r27_Parse_H1000006 ) := by
 unfold r27_Parse_c6 at h
 obtain rfl := si_ h
 exact rr_ [] 13 [.reg [], .wk [] [(0, .var [Z1_, Z8_, Z8_, Z8_, .bool false, Z1_, Z4_, Z1_, Z1_, Z4_, Z4_, Z1_, Z1_, Z1_, Z1_, Z1_, Z1_, Z1_, Z1_, .str [], Z1_, Z1_, zn_, Z8_, .nilsl])], .wk [] [(0, .var (c_T_r27_Step (T_r27_Step.mk 0 0 0 0 false (T_r27_Call.mk 0 0 0 (TX.mk 0 0 0) (A8.mk 0 0 0 0 0 0 0 0) [] 0 0 ([] : List (Int))) 0 ([] : List (Int)))))]]
  (a_ (a_ (a_ (a_ (Eq.refl true) tr) (a_ (a_ (a_ (Eq.refl 25) (a_ (le_ 25 25 rfl) (Eq.refl 0))) tr) (r1_ tr))) (a_ (a_ tr (a_ (LO.Sub.var (lel_set [Z1_, Z8_, Z8_, Z8_, .bool false, Z1_, Z4_, Z1_, Z1_, Z4_, Z4_, Z1_, Z1_, Z1_, Z1_, Z1_, Z1_, Z1_, Z1_, .str [], Z1_, Z1_, .nilsl, Z8_, .nilsl] 22 .nilsl zn_ rfl (le_nil_ds 1 (rowF (cInt .u8) default [])))) tr)) (a_ (a_ tr (a_ (LO.Sub.var (lel_set [Z1_, Z8_, Z8_, Z8_, .bool false, Z1_, Z4_, Z1_, Z1_, Z4_, Z4_, Z1_, Z1_, Z1_, Z1_, Z1_, Z1_, Z1_, Z1_, .str [], Z1_, Z1_, zn_, Z8_, .nilsl] 24 .nilsl zn_ rfl (le_nil_ds 1 (rowF (cInt .u8) default [])))) tr)) tr))) (a_ (a_ tr (le_ 25 25 rfl)) tr))
theorem r27_Parse_c7_ok {w0 : World} {W : Nat → Prop} {μ0 : Emb} (hμ : ∀ c p, μ0 c = some p → c < 0) (y5 : (T_r27_Step))   (r : (T_r27_Step) × (Int)) (h : r27_Parse_c7 y5   = some r) : kont Tryz.prog w0 W μ0 (FnPost Tryz.prog Tryz.f7 0 0 (r27_Parse_v r) []) (kAtR (bodyOf Tryz.f7) 7) none (r27_Parse_T1000007 y5 ) (r27_Parse_H1000007 y5 ) := by
 unfold r27_Parse_c7 at h
 obtain rfl := si_ h
 exact rr_ [] 11 [.reg []]
  (a_ (a_ (m_ 25 25 rfl (a_ (a_ (a_ (Eq.refl 25) (a_ (le_ 25 25 rfl) (Eq.refl 0))) tr) (r1_ tr))) tr) (a_ (a_ tr (le_ 25 25 rfl)) tr))
theorem r27_Parse_ok (line : List UInt8) (r : (T_r27_Step) × (Int)) (h : r27_Parse line = some r) : ∀ σ, Inj 0 σ → FnTri Tryz.prog 7 (renL σ [.str line]) (preOf σ 0 []) ((r27_Parse_v r).ren σ) (upOf σ []) := by
 refine fo_ Tryz.func7 trivial trivial ?_
 intro w0 W μ0 hμ
 unfold r27_Parse at h
 rcases itb_some h with ⟨c1, h⟩ | ⟨c1, h⟩
 ·obtain rfl := si_ h
  exact rr_ [] 22 [.reg [], .reg [(2, hT)], .reg [], .wk [] [(0, .var [Z1_, Z8_, Z8_, Z8_, .bool false, Z1_, Z4_, Z1_, Z1_, Z4_, Z4_, Z1_, Z1_, Z1_, Z1_, Z1_, Z1_, Z1_, Z1_, .str [], Z1_, Z1_, zn_, Z8_, .nilsl])], .wk [] [(0, .var (c_T_r27_Step (T_r27_Step.mk 0 0 0 0 false (T_r27_Call.mk 0 0 0 (TX.mk 0 0 0) (A8.mk 0 0 0 0 0 0 0 0) [] 0 0 ([] : List (Int))) 0 ([] : List (Int)))))]]
   (a_ (a_ (r2_ tr) (a_ (r2_ (f_ c1 tr)) (a_ (a_ (a_ (Eq.refl true) tr) (a_ (a_ (a_ (Eq.refl 25) (a_ (le_ 25 25 rfl) (Eq.refl 0))) tr) (r1_ tr))) (a_ (a_ tr (a_ (LO.Sub.var (lel_set [Z1_, Z8_, Z8_, Z8_, .bool false, Z1_, Z4_, Z1_, Z1_, Z4_, Z4_, Z1_, Z1_, Z1_, Z1_, Z1_, Z1_, Z1_, Z1_, .str [], Z1_, Z1_, .nilsl, Z8_, .nilsl] 22 .nilsl zn_ rfl (le_nil_ds 1 (rowF (cInt .u8) default [])))) tr)) (a_ (a_ tr (a_ (LO.Sub.var (lel_set [Z1_, Z8_, Z8_, Z8_, .bool false, Z1_, Z4_, Z1_, Z1_, Z4_, Z4_, Z1_, Z1_, Z1_, Z1_, Z1_, Z1_, Z1_, Z1_, .str [], Z1_, Z1_, zn_, Z8_, .nilsl] 24 .nilsl zn_ rfl (le_nil_ds 1 (rowF (cInt .u8) default [])))) tr)) tr))))) (a_ (a_ tr (le_ 25 25 rfl)) tr))
 ·obtain ⟨y3, e2, h⟩ := bind_some h
  obtain ⟨y5, e4, h⟩ := bind_some h
  obtain ⟨y7, e6, h⟩ := bind_some h
  rcases itb_some h with ⟨c8, h⟩ | ⟨c8, h⟩
  ·exact rt_ hμ [0] 30 [.reg [], .reg [(2, hF)], .reg [(1, hC (r27_split_v y3)), (2, hC (r27_guess_v y5))], .reg [(1, hC (r27_Line_v y7))], .reg [(2, hT)]]
    (a_ (r2_ tr) (a_ (r2_ (f_ c1 tr)) (a_ (r1_ (c_ (r27_split_tri line 32 y3 e2) (c_ (r27_guess_tri y3 y5 e4) (r1_ (a_ (a_ (a_ (Eq.refl 25) (a_ (le_ 25 25 rfl) (Eq.refl 0))) tr) tr))))) (a_ (m_ 25 25 rfl (c_ (r27_Line_tri y5 y7 e6) (r1_ (r4_ tr)))) (a_ (r2_ (f_ c8 (a_ tr (t2_ (r1_ tr))))) tr))))) (r27_Parse_c6_ok hμ    r h) ⟨rfl, trivial⟩
  ·rcases itb_some h with ⟨c9, h⟩ | ⟨c9, h⟩
   ·exact rt_ hμ [0] 30 [.reg [], .reg [(2, hF)], .reg [(1, hC (r27_split_v y3)), (2, hC (r27_guess_v y5))], .reg [(1, hC (r27_Line_v y7))], .reg [(2, hF), (6, hT)]]
     (a_ (r2_ tr) (a_ (r2_ (f_ c1 tr)) (a_ (r1_ (c_ (r27_split_tri line 32 y3 e2) (c_ (r27_guess_tri y3 y5 e4) (r1_ (a_ (a_ (a_ (Eq.refl 25) (a_ (le_ 25 25 rfl) (Eq.refl 0))) tr) tr))))) (a_ (m_ 25 25 rfl (c_ (r27_Line_tri y5 y7 e6) (r1_ (r4_ tr)))) (a_ (r2_ (f_ c8 (r1_ (r2_ (f_ c9 tr))))) tr))))) (r27_Parse_c6_ok hμ    r h) ⟨rfl, trivial⟩
   ·exact rt_ hμ [0, 1] 31 [.reg [], .reg [(2, hF)], .reg [(1, hC (r27_split_v y3)), (2, hC (r27_guess_v y5))], .reg [(1, hC (r27_Line_v y7))], .reg [(2, hF), (6, hF)]]
     (a_ (r2_ tr) (a_ (r2_ (f_ c1 tr)) (a_ (r1_ (c_ (r27_split_tri line 32 y3 e2) (c_ (r27_guess_tri y3 y5 e4) (r1_ (a_ (a_ (a_ (Eq.refl 25) (a_ (le_ 25 25 rfl) (Eq.refl 0))) tr) tr))))) (a_ (m_ 25 25 rfl (c_ (r27_Line_tri y5 y7 e6) (r1_ (r4_ tr)))) (a_ (r2_ (f_ c8 (r1_ (r2_ (f_ c9 tr))))) tr))))) (r27_Parse_c7_ok hμ y5   r h) ⟨rfl, rfl, trivial⟩
theorem r27_Parse_tri (line : List UInt8) (r : (T_r27_Step) × (Int)) (h : r27_Parse line = some r) : FnTri Tryz.prog 7 [.str line] [] (r27_Parse_v r) [] := FnTri.none (r27_Parse_ok line r h) rfl rfl
/-- parrel/parrelref27.All -/
def r27_All_v (r : (List (T_r27_Step)) × (TF)) : LV := .tup [.ds 25 (r.1).length (rowF c_T_r27_Step default r.1), v_TF r.2]
def r27_All_T1 (text2 : List UInt8) (l : List (T_r27_Step)) (x_n : Int) : List LV := (.str text2) :: .any :: .any :: (.ptr 0 0 0) :: (.gs 1 (l).length) :: (.int .i64 x_n) :: n_ 54 []
def r27_All_H1 (text2 : List UInt8) (l : List (T_r27_Step)) (x_n : Int) : Heap := [some (.var (c_TF (TF.mk 0 0))), some (.gr 25 (l).length (rowF c_T_r27_Step default l))]
def r27_All_T0  (text2 : List UInt8) (l : List (T_r27_Step)) : List LV := (.str text2) :: .any :: .any :: (.ptr 0 0 0) :: (.gs 1 (l).length) :: n_ 55 []
def r27_All_H0  (text2 : List UInt8) (l : List (T_r27_Step)) : Heap := [some (.var (c_TF (TF.mk 0 0))), some (.gr 25 (l).length (rowF c_T_r27_Step default l))]
def r27_All_l1 (text2 : List UInt8) (l : List (T_r27_Step)) (k0 : (List UInt8) → (List (T_r27_Step)) → Option ((List (T_r27_Step)) × (TF))) : Nat → (Int) → Option ((List (T_r27_Step)) × (TF))
 | 0, _ => none
 | fuel + 1, x_n =>
  if ((decide (x_n < ((text2).length : Int))) : Bool) then
   if 0 ≤ x_n ∧ x_n < (((text2).length : Nat) : Int) then
   if ((((text2.getD x_n.toNat 0).toNat : Int) != 10) : Bool) then
    r27_All_l1 text2 l k0 fuel (IntKind.wrap .i64 (x_n + 1))
   else
    if 0 ≤ (0 : Int) ∧ (0 : Int) ≤ x_n ∧ x_n ≤ (((text2).length : Nat) : Int) then
    (r27_Parse ((text2.drop 0).take (x_n.toNat - 0))).bind fun yL1_6 =>
    if ((yL1_6.2 == 0) : Bool) then
     if ((x_n == ((text2).length : Int)) : Bool) then
      some (([] : List (T_r27_Step)), (TF.mk 3 ((l).length : Int)))
     else
      if ((yL1_6.2 != 0) : Bool) then
       some (([] : List (T_r27_Step)), (TF.mk yL1_6.2 ((l).length : Int)))
      else
       if ((l).length + (([yL1_6.1] : List (T_r27_Step))).length) * 152 ≤ 140737488351232 then
       if 0 ≤ (IntKind.wrap .i64 (x_n + 1)) ∧ (IntKind.wrap .i64 (x_n + 1)) ≤ (((text2).length : Nat) : Int) ∧ (((text2).length : Nat) : Int) ≤ (((text2).length : Nat) : Int) then
       k0 ((text2.drop ((IntKind.wrap .i64 (x_n + 1))).toNat).take (((text2).length) - ((IntKind.wrap .i64 (x_n + 1))).toNat)) (l ++ ([yL1_6.1] : List (T_r27_Step)))
       else none
       else none
    else
     if ((yL1_6.2 != 0) : Bool) then
      some (([] : List (T_r27_Step)), (TF.mk yL1_6.2 ((l).length : Int)))
     else
      if ((l).length + (([yL1_6.1] : List (T_r27_Step))).length) * 152 ≤ 140737488351232 then
      if 0 ≤ (IntKind.wrap .i64 (x_n + 1)) ∧ (IntKind.wrap .i64 (x_n + 1)) ≤ (((text2).length : Nat) : Int) ∧ (((text2).length : Nat) : Int) ≤ (((text2).length : Nat) : Int) then
      k0 ((text2.drop ((IntKind.wrap .i64 (x_n + 1))).toNat).take (((text2).length) - ((IntKind.wrap .i64 (x_n + 1))).toNat)) (l ++ ([yL1_6.1] : List (T_r27_Step)))
      else none
      else none
    else none
   else none
  else
   if 0 ≤ (0 : Int) ∧ (0 : Int) ≤ x_n ∧ x_n ≤ (((text2).length : Nat) : Int) then
   (r27_Parse ((text2.drop 0).take (x_n.toNat - 0))).bind fun yL1_4 =>
   if ((yL1_4.2 == 0) : Bool) then
    if ((x_n == ((text2).length : Int)) : Bool) then
     some (([] : List (T_r27_Step)), (TF.mk 3 ((l).length : Int)))
    else
     if ((yL1_4.2 != 0) : Bool) then
      some (([] : List (T_r27_Step)), (TF.mk yL1_4.2 ((l).length : Int)))
     else
      if ((l).length + (([yL1_4.1] : List (T_r27_Step))).length) * 152 ≤ 140737488351232 then
      if 0 ≤ (IntKind.wrap .i64 (x_n + 1)) ∧ (IntKind.wrap .i64 (x_n + 1)) ≤ (((text2).length : Nat) : Int) ∧ (((text2).length : Nat) : Int) ≤ (((text2).length : Nat) : Int) then
      k0 ((text2.drop ((IntKind.wrap .i64 (x_n + 1))).toNat).take (((text2).length) - ((IntKind.wrap .i64 (x_n + 1))).toNat)) (l ++ ([yL1_4.1] : List (T_r27_Step)))
      else none
      else none
   else
    if ((yL1_4.2 != 0) : Bool) then
     some (([] : List (T_r27_Step)), (TF.mk yL1_4.2 ((l).length : Int)))
    else
     if ((l).length + (([yL1_4.1] : List (T_r27_Step))).length) * 152 ≤ 140737488351232 then
     if 0 ≤ (IntKind.wrap .i64 (x_n + 1)) ∧ (IntKind.wrap .i64 (x_n + 1)) ≤ (((text2).length : Nat) : Int) ∧ (((text2).length : Nat) : Int) ≤ (((text2).length : Nat) : Int) then
     k0 ((text2.drop ((IntKind.wrap .i64 (x_n + 1))).toNat).take (((text2).length) - ((IntKind.wrap .i64 (x_n + 1))).toNat)) (l ++ ([yL1_4.1] : List (T_r27_Step)))
     else none
     else none
   else none
def r27_All_l0   : Nat → (List UInt8) → (List (T_r27_Step)) → Option ((List (T_r27_Step)) × (TF))
 | 0, _, _ => none
 | fuel + 1, text2, l =>
  if ((decide (0 < ((text2).length : Int))) : Bool) then
   if ((decide (4096 ≤ ((l).length : Int))) : Bool) then
    some (([] : List (T_r27_Step)), (TF.mk 5 ((l).length : Int)))
   else
    r27_All_l1 text2 l (r27_All_l0   fuel) big 0
  else
   some (l, (TF.mk 0 0))
def r27_All (text : List UInt8) : Option ((List (T_r27_Step)) × (TF)) :=
 r27_All_l0   big text ([] : List (T_r27_Step))
theorem r27_All_l1_ok {w0 : World} {W : Nat → Prop} {μ0 : Emb} (hμ : ∀ c p, μ0 c = some p → c < 0) (text2 : List UInt8) (l : List (T_r27_Step)) (k0 : (List UInt8) → (List (T_r27_Step)) → Option ((List (T_r27_Step)) × (TF))) (hk0 : ∀ (text2 : List UInt8) (l : List (T_r27_Step)) (r : (List (T_r27_Step)) × (TF)), k0 text2 l = some r → kont Tryz.prog w0 W μ0 (FnPost Tryz.prog Tryz.f11 0 0 (r27_All_v r) []) (kAt (bodyOf Tryz.f11) 0) none (r27_All_T0  text2 l) (r27_All_H0  text2 l)) : ∀ (fuel : Nat) (x_n : Int) (r : (List (T_r27_Step)) × (TF)), r27_All_l1 text2 l k0 fuel x_n = some r → kont Tryz.prog w0 W μ0 (FnPost Tryz.prog Tryz.f11 0 0 (r27_All_v r) []) (kAt (bodyOf Tryz.f11) 1) none (r27_All_T1 text2 l x_n) (r27_All_H1 text2 l x_n) := by
 intro fuel
 induction fuel with
 | zero => intro x_n r h; rw [r27_All_l1] at h; cases h
 | succ fuel ih =>
  intro x_n r h
  rw [r27_All_l1] at h
  rcases itb_some h with ⟨C1, h⟩ | ⟨C1, h⟩
  ·obtain ⟨G2, h⟩ := guard_some h
   rcases itb_some h with ⟨C3, h⟩ | ⟨C3, h⟩
   ·exact rt_ hμ [0, 1] 20 [.go, .reg [(4, hT), (9, hT)], .reg []]
     (a_ (r4_ (f_ C1 (r2_ (a_ (a_ G2 tr) (r1_ (f_ C3 tr)))))) (a_ (r1_ (r2_ tr)) tr)) (ih _ r h) ⟨rfl, fun _ _ => rfl, trivial⟩
   ·obtain ⟨G4, h⟩ := guard_some h
    obtain ⟨yL1_6, E5, h⟩ := bind_some h
    rcases itb_some h with ⟨C7, h⟩ | ⟨C7, h⟩
    ·rcases itb_some h with ⟨C8, h⟩ | ⟨C8, h⟩
     ·obtain rfl := si_ h
      exact rr_ [] 34 [.go, .reg [(4, hT), (9, hF)], .reg [(3, hC (r27_Parse_v yL1_6))], .reg [(2, hT), (7, hT)], .reg [], .reg [], .reg [(4, { v := some (.ds 25 (([] : List (T_r27_Step))).length (rowF c_T_r27_Step default ([] : List (T_r27_Step)))) })]]
       (a_ (a_ (r4_ (f_ C1 (r2_ (a_ (a_ G2 tr) (r1_ (f_ C3 tr)))))) (a_ (r2_ (a_ (a_ G4 tr) (a_ (a_ (a_ (r27_Parse_tri ((text2.drop 0).take (x_n.toNat - 0)) yL1_6 E5) tr) tr) (r4_ (a_ (a_ (a_ (Eq.refl 25) (a_ (le_ 25 25 rfl) (Eq.refl 0))) tr) (r1_ tr)))))) (a_ (r2_ (f_ C7 (r4_ (f_ C8 tr)))) (a_ (r1_ tr) (a_ (r2_ tr) (a_ (r1_ (r2_ (a_ (a_ (Eq.refl true) tr) (a_ (a_ tr (a_ (le_nil_ds 25 (rowF c_T_r27_Step default [])) tr)) (a_ (a_ (a_ (Eq.refl 2) (a_ (le_ 2 2 rfl) (Eq.refl 0))) tr) tr))))) tr)))))) (a_ (a_ tr (le_ 2 2 rfl)) tr))
     ·rcases itb_some h with ⟨C9, h⟩ | ⟨C9, h⟩
      ·obtain rfl := si_ h
       exact rr_ [] 33 [.go, .reg [(4, hT), (9, hF)], .reg [(3, hC (r27_Parse_v yL1_6))], .reg [(2, hT), (7, hF)], .reg [(1, hT)], .reg [(4, { v := some (.ds 25 (([] : List (T_r27_Step))).length (rowF c_T_r27_Step default ([] : List (T_r27_Step)))) })]]
        (a_ (a_ (r4_ (f_ C1 (r2_ (a_ (a_ G2 tr) (r1_ (f_ C3 tr)))))) (a_ (r2_ (a_ (a_ G4 tr) (a_ (a_ (a_ (r27_Parse_tri ((text2.drop 0).take (x_n.toNat - 0)) yL1_6 E5) tr) tr) (r4_ (a_ (a_ (a_ (Eq.refl 25) (a_ (le_ 25 25 rfl) (Eq.refl 0))) tr) (r1_ tr)))))) (a_ (r2_ (f_ C7 (r4_ (f_ C8 tr)))) (a_ (r1_ (f_ C9 tr)) (a_ (r1_ (r2_ (a_ (a_ (Eq.refl true) tr) (a_ (a_ tr (a_ (le_nil_ds 25 (rowF c_T_r27_Step default [])) tr)) (a_ (a_ (a_ (Eq.refl 2) (a_ (le_ 2 2 rfl) (Eq.refl 0))) tr) tr))))) tr))))) (a_ (a_ tr (le_ 2 2 rfl)) tr))
      ·obtain ⟨G10, h⟩ := guard_some h
       obtain ⟨G11, h⟩ := guard_some h
       exact rt_ hμ [0, 4] 37 [.go, .reg [(4, hT), (9, hF)], .reg [(3, hC (r27_Parse_v yL1_6))], .reg [(2, hT), (7, hF)], .reg [(1, hF)], .reg [(2, { os := [(3, .gr 25 (([yL1_6.1] : List (T_r27_Step))).length (rowF c_T_r27_Step default ([yL1_6.1] : List (T_r27_Step))))], v := some (.gs 3 (([yL1_6.1] : List (T_r27_Step))).length) }), (3, { app := 3, os := [(4, .gr 25 ((l ++ ([yL1_6.1] : List (T_r27_Step)))).length (rowF c_T_r27_Step default (l ++ ([yL1_6.1] : List (T_r27_Step)))))], v := some (.gs 4 ((l ++ ([yL1_6.1] : List (T_r27_Step)))).length) })], .reg []]
        (a_ (r4_ (f_ C1 (r2_ (a_ (a_ G2 tr) (r1_ (f_ C3 tr)))))) (a_ (r2_ (a_ (a_ G4 tr) (a_ (a_ (a_ (r27_Parse_tri ((text2.drop 0).take (x_n.toNat - 0)) yL1_6 E5) tr) tr) (r4_ (a_ (a_ (a_ (Eq.refl 25) (a_ (le_ 25 25 rfl) (Eq.refl 0))) tr) (r1_ tr)))))) (a_ (r2_ (f_ C7 (r4_ (f_ C8 tr)))) (a_ (r1_ (f_ C9 tr)) (a_ (r1_ (m_ 25 25 rfl (a_ (a_ (a_ (Eq.refl true) (a_ (Eq.refl 25) (a_ (lt_ 0 25 rfl) (le_ 25 16777216 rfl)))) (a_ (le_sl_gs 3 1 (some 1) rfl) (a_ (sub_lit c_T_r27_Step default 25 (fun _ => rfl) ([yL1_6.1] : List (T_r27_Step))) tr))) (a_ (a_ (a_ (a_ (Eq.refl 25) (Nat.le_refl (([yL1_6.1] : List (T_r27_Step))).length)) (a_ (a_ (lt_ 0 25 rfl) (a_ (lt_ 0 152 rfl) (a_ G10 (a_ (Eq.refl 25) (Eq.refl true))))) (a_ (Eq.refl 25) (Nat.le_refl (l).length)))) (a_ (le_gs_app 4 l ([yL1_6.1] : List (T_r27_Step))) (a_ (sub_app c_T_r27_Step default 25 l ([yL1_6.1] : List (T_r27_Step))) tr))) (r1_ tr))))) (a_ (r1_ (r2_ (a_ (a_ G11 tr) (r1_ tr)))) tr)))))) (hk0 _ _ r h) ⟨rfl, fun _ _ => rfl, trivial⟩
    ·rcases itb_some h with ⟨C8, h⟩ | ⟨C8, h⟩
     ·obtain rfl := si_ h
      exact rr_ [] 33 [.go, .reg [(4, hT), (9, hF)], .reg [(3, hC (r27_Parse_v yL1_6))], .reg [(2, hF)], .reg [(1, hT)], .reg [(4, { v := some (.ds 25 (([] : List (T_r27_Step))).length (rowF c_T_r27_Step default ([] : List (T_r27_Step)))) })]]
       (a_ (a_ (r4_ (f_ C1 (r2_ (a_ (a_ G2 tr) (r1_ (f_ C3 tr)))))) (a_ (r2_ (a_ (a_ G4 tr) (a_ (a_ (a_ (r27_Parse_tri ((text2.drop 0).take (x_n.toNat - 0)) yL1_6 E5) tr) tr) (r4_ (a_ (a_ (a_ (Eq.refl 25) (a_ (le_ 25 25 rfl) (Eq.refl 0))) tr) (r1_ tr)))))) (a_ (r2_ (f_ C7 (t4_ (r1_ tr)))) (a_ (r1_ (f_ C8 tr)) (a_ (r1_ (r2_ (a_ (a_ (Eq.refl true) tr) (a_ (a_ tr (a_ (le_nil_ds 25 (rowF c_T_r27_Step default [])) tr)) (a_ (a_ (a_ (Eq.refl 2) (a_ (le_ 2 2 rfl) (Eq.refl 0))) tr) tr))))) tr))))) (a_ (a_ tr (le_ 2 2 rfl)) tr))
     ·obtain ⟨G9, h⟩ := guard_some h
      obtain ⟨G10, h⟩ := guard_some h
      exact rt_ hμ [0, 4] 37 [.go, .reg [(4, hT), (9, hF)], .reg [(3, hC (r27_Parse_v yL1_6))], .reg [(2, hF)], .reg [(1, hF)], .reg [(2, { os := [(3, .gr 25 (([yL1_6.1] : List (T_r27_Step))).length (rowF c_T_r27_Step default ([yL1_6.1] : List (T_r27_Step))))], v := some (.gs 3 (([yL1_6.1] : List (T_r27_Step))).length) }), (3, { app := 3, os := [(4, .gr 25 ((l ++ ([yL1_6.1] : List (T_r27_Step)))).length (rowF c_T_r27_Step default (l ++ ([yL1_6.1] : List (T_r27_Step)))))], v := some (.gs 4 ((l ++ ([yL1_6.1] : List (T_r27_Step)))).length) })], .reg []]
       (a_ (r4_ (f_ C1 (r2_ (a_ (a_ G2 tr) (r1_ (f_ C3 tr)))))) (a_ (r2_ (a_ (a_ G4 tr) (a_ (a_ (a_ (r27_Parse_tri ((text2.drop 0).take (x_n.toNat - 0)) yL1_6 E5) tr) tr) (r4_ (a_ (a_ (a_ (Eq.refl 25) (a_ (le_ 25 25 rfl) (Eq.refl 0))) tr) (r1_ tr)))))) (a_ (r2_ (f_ C7 (t4_ (r1_ tr)))) (a_ (r1_ (f_ C8 tr)) (a_ (r1_ (m_ 25 25 rfl (a_ (a_ (a_ (Eq.refl true) (a_ (Eq.refl 25) (a_ (lt_ 0 25 rfl) (le_ 25 16777216 rfl)))) (a_ (le_sl_gs 3 1 (some 1) rfl) (a_ (sub_lit c_T_r27_Step default 25 (fun _ => rfl) ([yL1_6.1] : List (T_r27_Step))) tr))) (a_ (a_ (a_ (a_ (Eq.refl 25) (Nat.le_refl (([yL1_6.1] : List (T_r27_Step))).length)) (a_ (a_ (lt_ 0 25 rfl) (a_ (lt_ 0 152 rfl) (a_ G9 (a_ (Eq.refl 25) (Eq.refl true))))) (a_ (Eq.refl 25) (Nat.le_refl (l).length)))) (a_ (le_gs_app 4 l ([yL1_6.1] : List (T_r27_Step))) (a_ (sub_app c_T_r27_Step default 25 l ([yL1_6.1] : List (T_r27_Step))) tr))) (r1_ tr))))) (a_ (r1_ (r2_ (a_ (a_ G10 tr) (r1_ tr)))) tr)))))) (hk0 _ _ r h) ⟨rfl, fun _ _ => rfl, trivial⟩
  ·obtain ⟨G2, h⟩ := guard_some h
   obtain ⟨yL1_4, E3, h⟩ := bind_some h
   rcases itb_some h with ⟨C5, h⟩ | ⟨C5, h⟩
   ·rcases itb_some h with ⟨C6, h⟩ | ⟨C6, h⟩
    ·obtain rfl := si_ h
     exact rr_ [] 34 [.go, .reg [(4, hF)], .reg [(3, hC (r27_Parse_v yL1_4))], .reg [(2, hT), (7, hT)], .reg [], .reg [], .reg [(4, { v := some (.ds 25 (([] : List (T_r27_Step))).length (rowF c_T_r27_Step default ([] : List (T_r27_Step)))) })]]
      (a_ (a_ (r4_ (f_ C1 (t4_ (r1_ tr)))) (a_ (r2_ (a_ (a_ G2 tr) (a_ (a_ (a_ (r27_Parse_tri ((text2.drop 0).take (x_n.toNat - 0)) yL1_4 E3) tr) tr) (r4_ (a_ (a_ (a_ (Eq.refl 25) (a_ (le_ 25 25 rfl) (Eq.refl 0))) tr) (r1_ tr)))))) (a_ (r2_ (f_ C5 (r4_ (f_ C6 tr)))) (a_ (r1_ tr) (a_ (r2_ tr) (a_ (r1_ (r2_ (a_ (a_ (Eq.refl true) tr) (a_ (a_ tr (a_ (le_nil_ds 25 (rowF c_T_r27_Step default [])) tr)) (a_ (a_ (a_ (Eq.refl 2) (a_ (le_ 2 2 rfl) (Eq.refl 0))) tr) tr))))) tr)))))) (a_ (a_ tr (le_ 2 2 rfl)) tr))
    ·rcases itb_some h with ⟨C7, h⟩ | ⟨C7, h⟩
     ·obtain rfl := si_ h
      exact rr_ [] 33 [.go, .reg [(4, hF)], .reg [(3, hC (r27_Parse_v yL1_4))], .reg [(2, hT), (7, hF)], .reg [(1, hT)], .reg [(4, { v := some (.ds 25 (([] : List (T_r27_Step))).length (rowF c_T_r27_Step default ([] : List (T_r27_Step)))) })]]
       (a_ (a_ (r4_ (f_ C1 (t4_ (r1_ tr)))) (a_ (r2_ (a_ (a_ G2 tr) (a_ (a_ (a_ (r27_Parse_tri ((text2.drop 0).take (x_n.toNat - 0)) yL1_4 E3) tr) tr) (r4_ (a_ (a_ (a_ (Eq.refl 25) (a_ (le_ 25 25 rfl) (Eq.refl 0))) tr) (r1_ tr)))))) (a_ (r2_ (f_ C5 (r4_ (f_ C6 tr)))) (a_ (r1_ (f_ C7 tr)) (a_ (r1_ (r2_ (a_ (a_ (Eq.refl true) tr) (a_ (a_ tr (a_ (le_nil_ds 25 (rowF c_T_r27_Step default [])) tr)) (a_ (a_ (a_ (Eq.refl 2) (a_ (le_ 2 2 rfl) (Eq.refl 0))) tr) tr))))) tr))))) (a_ (a_ tr (le_ 2 2 rfl)) tr))
     ·obtain ⟨G8, h⟩ := guard_some h
      obtain ⟨G9, h⟩ := guard_some h
      exact rt_ hμ [0, 4] 37 [.go, .reg [(4, hF)], .reg [(3, hC (r27_Parse_v yL1_4))], .reg [(2, hT), (7, hF)], .reg [(1, hF)], .reg [(2, { os := [(3, .gr 25 (([yL1_4.1] : List (T_r27_Step))).length (rowF c_T_r27_Step default ([yL1_4.1] : List (T_r27_Step))))], v := some (.gs 3 (([yL1_4.1] : List (T_r27_Step))).length) }), (3, { app := 3, os := [(4, .gr 25 ((l ++ ([yL1_4.1] : List (T_r27_Step)))).length (rowF c_T_r27_Step default (l ++ ([yL1_4.1] : List (T_r27_Step)))))], v := some (.gs 4 ((l ++ ([yL1_4.1] : List (T_r27_Step)))).length) })], .reg []]
       (a_ (r4_ (f_ C1 (t4_ (r1_ tr)))) (a_ (r2_ (a_ (a_ G2 tr) (a_ (a_ (a_ (r27_Parse_tri ((text2.drop 0).take (x_n.toNat - 0)) yL1_4 E3) tr) tr) (r4_ (a_ (a_ (a_ (Eq.refl 25) (a_ (le_ 25 25 rfl) (Eq.refl 0))) tr) (r1_ tr)))))) (a_ (r2_ (f_ C5 (r4_ (f_ C6 tr)))) (a_ (r1_ (f_ C7 tr)) (a_ (r1_ (m_ 25 25 rfl (a_ (a_ (a_ (Eq.refl true) (a_ (Eq.refl 25) (a_ (lt_ 0 25 rfl) (le_ 25 16777216 rfl)))) (a_ (le_sl_gs 3 1 (some 1) rfl) (a_ (sub_lit c_T_r27_Step default 25 (fun _ => rfl) ([yL1_4.1] : List (T_r27_Step))) tr))) (a_ (a_ (a_ (a_ (Eq.refl 25) (Nat.le_refl (([yL1_4.1] : List (T_r27_Step))).length)) (a_ (a_ (lt_ 0 25 rfl) (a_ (lt_ 0 152 rfl) (a_ G8 (a_ (Eq.refl 25) (Eq.refl true))))) (a_ (Eq.refl 25) (Nat.le_refl (l).length)))) (a_ (le_gs_app 4 l ([yL1_4.1] : List (T_r27_Step))) (a_ (sub_app c_T_r27_Step default 25 l ([yL1_4.1] : List (T_r27_Step))) tr))) (r1_ tr))))) (a_ (r1_ (r2_ (a_ (a_ G9 tr) (r1_ tr)))) tr)))))) (hk0 _ _ r h) ⟨rfl, fun _ _ => rfl, trivial⟩
   ·rcases itb_some h with ⟨C6, h⟩ | ⟨C6, h⟩
    ·obtain rfl := si_ h
     exact rr_ [] 33 [.go, .reg [(4, hF)], .reg [(3, hC (r27_Parse_v yL1_4))], .reg [(2, hF)], .reg [(1, hT)], .reg [(4, { v := some (.ds 25 (([] : List (T_r27_Step))).length (rowF c_T_r27_Step default ([] : List (T_r27_Step)))) })]]
      (a_ (a_ (r4_ (f_ C1 (t4_ (r1_ tr)))) (a_ (r2_ (a_ (a_ G2 tr) (a_ (a_ (a_ (r27_Parse_tri ((text2.drop 0).take (x_n.toNat - 0)) yL1_4 E3) tr) tr) (r4_ (a_ (a_ (a_ (Eq.refl 25) (a_ (le_ 25 25 rfl) (Eq.refl 0))) tr) (r1_ tr)))))) (a_ (r2_ (f_ C5 (t4_ (r1_ tr)))) (a_ (r1_ (f_ C6 tr)) (a_ (r1_ (r2_ (a_ (a_ (Eq.refl true) tr) (a_ (a_ tr (a_ (le_nil_ds 25 (rowF c_T_r27_Step default [])) tr)) (a_ (a_ (a_ (Eq.refl 2) (a_ (le_ 2 2 rfl) (Eq.refl 0))) tr) tr))))) tr))))) (a_ (a_ tr (le_ 2 2 rfl)) tr))
    ·obtain ⟨G7, h⟩ := guard_some h
     obtain ⟨G8, h⟩ := guard_some h
     exact rt_ hμ [0, 4] 37 [.go, .reg [(4, hF)], .reg [(3, hC (r27_Parse_v yL1_4))], .reg [(2, hF)], .reg [(1, hF)], .reg [(2, { os := [(3, .gr 25 (([yL1_4.1] : List (T_r27_Step))).length (rowF c_T_r27_Step default ([yL1_4.1] : List (T_r27_Step))))], v := some (.gs 3 (([yL1_4.1] : List (T_r27_Step))).length) }), (3, { app := 3, os := [(4, .gr 25 ((l ++ ([yL1_4.1] : List (T_r27_Step)))).length (rowF c_T_r27_Step default (l ++ ([yL1_4.1] : List (T_r27_Step)))))], v := some (.gs 4 ((l ++ ([yL1_4.1] : List (T_r27_Step)))).length) })], .reg []]
      (a_ (r4_ (f_ C1 (t4_ (r1_ tr)))) (a_ (r2_ (a_ (a_ G2 tr) (a_ (a_ (a_ (r27_Parse_tri ((text2.drop 0).take (x_n.toNat - 0)) yL1_4 E3) tr) tr) (r4_ (a_ (a_ (a_ (Eq.refl 25) (a_ (le_ 25 25 rfl) (Eq.refl 0))) tr) (r1_ tr)))))) (a_ (r2_ (f_ C5 (t4_ (r1_ tr)))) (a_ (r1_ (f_ C6 tr)) (a_ (r1_ (m_ 25 25 rfl (a_ (a_ (a_ (Eq.refl true) (a_ (Eq.refl 25) (a_ (lt_ 0 25 rfl) (le_ 25 16777216 rfl)))) (a_ (le_sl_gs 3 1 (some 1) rfl) (a_ (sub_lit c_T_r27_Step default 25 (fun _ => rfl) ([yL1_4.1] : List (T_r27_Step))) tr))) (a_ (a_ (a_ (a_ (Eq.refl 25) (Nat.le_refl (([yL1_4.1] : List (T_r27_Step))).length)) (a_ (a_ (lt_ 0 25 rfl) (a_ (lt_ 0 152 rfl) (a_ G7 (a_ (Eq.refl 25) (Eq.refl true))))) (a_ (Eq.refl 25) (Nat.le_refl (l).length)))) (a_ (le_gs_app 4 l ([yL1_4.1] : List (T_r27_Step))) (a_ (sub_app c_T_r27_Step default 25 l ([yL1_4.1] : List (T_r27_Step))) tr))) (r1_ tr))))) (a_ (r1_ (r2_ (a_ (a_ G8 tr) (r1_ tr)))) tr)))))) (hk0 _ _ r h) ⟨rfl, fun _ _ => rfl, trivial⟩
theorem r27_All_l0_ok {w0 : World} {W : Nat → Prop} {μ0 : Emb} (hμ : ∀ c p, μ0 c = some p → c < 0) : ∀ (fuel : Nat) (text2 : List UInt8) (l : List (T_r27_Step)) (r : (List (T_r27_Step)) × (TF)), r27_All_l0   fuel text2 l = some r → kont Tryz.prog w0 W μ0 (FnPost Tryz.prog Tryz.f11 0 0 (r27_All_v r) []) (kAt (bodyOf Tryz.f11) 0) none (r27_All_T0  text2 l) (r27_All_H0  text2 l) := by
 intro fuel
 induction fuel with
 | zero => intro text2 l r h; rw [r27_All_l0] at h; cases h
 | succ fuel ih =>
  intro text2 l r h
  rw [r27_All_l0] at h
  rcases itb_some h with ⟨C1, h⟩ | ⟨C1, h⟩
  ·rcases itb_some h with ⟨C2, h⟩ | ⟨C2, h⟩
   ·obtain rfl := si_ h
    exact rr_ [] 25 [.go, .reg [(2, hT)], .reg [(2, hT)], .reg [(3, { v := some (.ds 25 (([] : List (T_r27_Step))).length (rowF c_T_r27_Step default ([] : List (T_r27_Step)))) })]]
     (a_ (a_ (r2_ (f_ C1 tr)) (a_ (r2_ (f_ C2 tr)) (a_ (r2_ (a_ (a_ (Eq.refl true) tr) (a_ (a_ tr (a_ (le_nil_ds 25 (rowF c_T_r27_Step default [])) tr)) (a_ (a_ (a_ (Eq.refl 2) (a_ (le_ 2 2 rfl) (Eq.refl 0))) tr) tr)))) tr))) (a_ (a_ tr (le_ 2 2 rfl)) tr))
   ·exact rt_ hμ [0, 1] 29 [.go, .reg [(2, hT)], .reg [(2, hF)], .reg []]
     (a_ (r2_ (f_ C1 tr)) (a_ (r2_ (f_ C2 tr)) (a_ (r1_ tr) tr))) (r27_All_l1_ok hμ text2 l (r27_All_l0   fuel) (fun text2 l r h => ih text2 l r h) big _ r h) ⟨rfl, fun _ _ => rfl, trivial⟩
  ·obtain rfl := si_ h
   exact rr_ [] 20 [.go, .reg [(2, hF)], .reg [], .frz 1]
    (a_ (a_ (r2_ (f_ C1 tr)) (a_ (r1_ (a_ (a_ (Eq.refl true) tr) (r1_ (a_ (a_ (a_ (Eq.refl 2) (a_ (le_ 2 2 rfl) (Eq.refl 0))) tr) tr)))) (a_ (a_ (fz_row (enc := c_T_r27_Step) (d := default) (fun _ => rfl) l) (a_ (Nat.le_refl (l).length) (a_ (Nat.le_refl (l).length) (a_ (Nat.le_refl (l).length) tr)))) tr))) (a_ (a_ tr (le_ 2 2 rfl)) tr))
theorem r27_All_ok (text : List UInt8) (r : (List (T_r27_Step)) × (TF)) (h : r27_All text = some r) : ∀ σ, Inj 0 σ → FnTri Tryz.prog 11 (renL σ [.str text]) (preOf σ 0 []) ((r27_All_v r).ren σ) (upOf σ []) := by
 refine fo_ Tryz.func11 trivial trivial ?_
 intro w0 W μ0 hμ
 unfold r27_All at h
 exact rt_ hμ [0, 1] 19 [.reg [(0, { v := some (.ds 25 (([] : List (T_r27_Step))).length (rowF c_T_r27_Step default ([] : List (T_r27_Step)))) })], .void (.gr 25 (([] : List (T_r27_Step))).length (rowF c_T_r27_Step default ([] : List (T_r27_Step)))), .reg [(0, { v := some (.gs 1 (([] : List (T_r27_Step))).length) })]]
  (a_ (a_ (a_ tr (a_ (le_nil_ds 25 (rowF c_T_r27_Step default [])) tr)) (r1_ tr)) (a_ (Eq.refl 0) (a_ (a_ (a_ tr (a_ (le_nil_gs 1) tr)) tr) tr))) (r27_All_l0_ok hμ   big _ _ r h) ⟨rfl, fun _ _ => rfl, trivial⟩
theorem r27_All_tri (text : List UInt8) (r : (List (T_r27_Step)) × (TF)) (h : r27_All text = some r) : FnTri Tryz.prog 11 [.str text] [] (r27_All_v r) [] := FnTri.none (r27_All_ok text r h) rfl rfl
/-- parrel/parrellaw27.ours -/
def l27_ours_v (r : (T_r27_Step)) : LV := v_T_r27_Step r
def l27_ours (s : TS) : Option ((T_r27_Step)) :=
 some (T_r27_Step.mk s.f_Kind s.f_Node s.f_Wire s.f_N s.f_Cut (T_r27_Call.mk s.f_Call.f_Call.f_Client s.f_Call.f_Call.f_Seq s.f_Call.f_Kind s.f_Call.f_Tx s.f_Call.f_Key s.f_Call.f_Value s.f_Call.f_R s.f_Call.f_W s.f_Call.f_Votes) s.f_To s.f_Bytes)
theorem l27_ours_ok (s : TS) (r : (T_r27_Step)) (h : l27_ours s = some r) : ∀ σ, Inj 0 σ → FnTri Tryz.prog 9 (renL σ [v_TS s]) (preOf σ 0 []) ((l27_ours_v r).ren σ) (upOf σ []) := by
 refine fo_ Tryz.func9 trivial trivial ?_
 intro w0 W μ0 hμ
 unfold l27_ours at h
 obtain rfl := si_ h
 exact rr_ [] 18 [.reg [], .reg [], .reg []]
  (a_ (a_ (r2_ tr) (a_ (r1_ (m_ 23 25 rfl (r1_ (a_ (a_ (a_ (Eq.refl 18) (a_ (le_ 18 18 rfl) (Eq.refl 0))) tr) tr)))) (a_ (r1_ (l_ 0 25 rfl (r1_ (l_ 1 25 rfl (r1_ (l_ 2 25 rfl (r1_ (l_ 3 25 rfl (r1_ (l_ 4 25 rfl (r1_ (l_ 23 25 rfl (r1_ (l_ 24 25 rfl (r2_ (l_ 0 18 rfl (r2_ (l_ 1 18 rfl (r1_ (l_ 2 18 rfl (r1_ (m_ 6 18 rfl (r1_ (m_ 14 18 rfl (r1_ (l_ 14 18 rfl (r1_ (l_ 15 18 rfl (r1_ (l_ 16 18 rfl (r1_ (l_ 17 18 rfl (a_ (a_ (Eq.refl true) tr) (a_ (a_ (Eq.refl true) tr) (a_ (a_ (a_ (Eq.refl 25) (a_ (le_ 25 25 rfl) (Eq.refl 0))) tr) tr))))))))))))))))))))))))))))))))))) tr))) (a_ (a_ tr (le_ 25 25 rfl)) tr))
theorem l27_ours_tri (s : TS) (r : (T_r27_Step)) (h : l27_ours s = some r) : FnTri Tryz.prog 9 [v_TS s] [] (l27_ours_v r) [] := FnTri.none (l27_ours_ok s r h) rfl rfl
/-- parrel/parrellaw27.theirs -/
def l27_theirs_v (r : (TS)) : LV := v_TS r
def l27_theirs (s : T_r27_Step) : Option ((TS)) :=
 some (TS.mk s.f_Kind s.f_Node s.f_Wire s.f_N s.f_Cut (TN.mk (TE.mk s.f_Call.f_Client s.f_Call.f_Seq) s.f_Call.f_Kind s.f_Call.f_Tx s.f_Call.f_Key s.f_Call.f_Value s.f_Call.f_R s.f_Call.f_W s.f_Call.f_Votes) s.f_To s.f_Bytes)
theorem l27_theirs_ok (s : T_r27_Step) (r : (TS)) (h : l27_theirs s = some r) : ∀ σ, Inj 0 σ → FnTri Tryz.prog 12 (renL σ [v_T_r27_Step s]) (preOf σ 0 []) ((l27_theirs_v r).ren σ) (upOf σ []) := by
 refine fo_ Tryz.func12 trivial trivial ?_
 intro w0 W μ0 hμ
 unfold l27_theirs at h
 obtain rfl := si_ h
 exact rr_ [] 18 [.reg [], .reg [], .reg []]
  (a_ (a_ (r2_ tr) (a_ (r1_ (m_ 23 25 rfl (r1_ (a_ (a_ (a_ (Eq.refl 18) (a_ (le_ 18 18 rfl) (Eq.refl 0))) tr) tr)))) (a_ (r1_ (l_ 0 25 rfl (r1_ (l_ 1 25 rfl (r1_ (l_ 2 25 rfl (r1_ (l_ 3 25 rfl (r1_ (l_ 4 25 rfl (r1_ (l_ 23 25 rfl (r1_ (l_ 24 25 rfl (r1_ (l_ 0 18 rfl (r1_ (l_ 1 18 rfl (a_ (a_ (Eq.refl true) tr) (r1_ (l_ 2 18 rfl (r1_ (m_ 6 18 rfl (r1_ (m_ 14 18 rfl (r1_ (l_ 14 18 rfl (r1_ (l_ 15 18 rfl (r1_ (l_ 16 18 rfl (r1_ (l_ 17 18 rfl (a_ (a_ (Eq.refl true) tr) (a_ (a_ (Eq.refl true) tr) (a_ (a_ (a_ (Eq.refl 25) (a_ (le_ 25 25 rfl) (Eq.refl 0))) tr) tr)))))))))))))))))))))))))))))))))))) tr))) (a_ (a_ tr (le_ 25 25 rfl)) tr))
theorem l27_theirs_tri (s : T_r27_Step) (r : (TS)) (h : l27_theirs s = some r) : FnTri Tryz.prog 12 [v_T_r27_Step s] [] (l27_theirs_v r) [] := FnTri.none (l27_theirs_ok s r h) rfl rfl
/-! strings.Builder: PRE -/
theorem bd_info : ∃ i, Tryz.prog.info? 5 = some i ∧ i.zero = some (.int .u8 0) ∧ i.size = 1 ∧ i.bytes = 1 := by
 have h : (Tryz.prog.info? 5).map (fun i => (i.zero, i.size, i.bytes)) = some (some (.int .u8 0), 1, 1) := by kernel_rfl
 obtain ⟨i, h1, h2⟩ := Option.map_eq_some_iff.1 h
 simp only [Prod.mk.injEq] at h2
 exact ⟨i, h1, h2⟩
/-- The buffer as it is. -/
abbrev bd_Own (w : World) (v : Value) (l : List UInt8) : Prop := w.ownsRow 0 5 1 v l.length (Lib.byteCells l)
def bd_New (w : World) (v v' : Value) : Prop := ∀ g, v'.ownBlock = some g → v.ownBlock = some g ∨ w.heap.size ≤ g
theorem bd_shape {w : World} {v : Value} {l : List UInt8} (h : bd_Own w v l) : (v = .slice none 0 0 ∧ l = []) ∨ ∃ g cap cur, v = .slice (some ⟨g, 0, none⟩) l.length cap ∧ w.heap[g]? = some (.cells cur 5 (0, 0)) ∧ l.length ≤ cap ∧ cap ≤ maxLen ∧ cur.size = cap ∧ cur.toList.take l.length = Lib.byteCells l := by
 rcases h.2 with ⟨h1, h2⟩ | ⟨g, cap, cur, h1, _, h2, h3, h4, h5, h6⟩
 ·exact .inl ⟨h1, List.eq_nil_of_length_eq_zero h2⟩
 ·exact .inr ⟨g, cap, cur, h1, h2, h3, h4, by omega, by simpa using h6⟩
theorem bd_appS (w : World) (v : Value) (l s : List UInt8) (hown : bd_Own w v l) (hb : l.length + s.length ≤ 140737488351232) :
  ∃ v' w', (∀ ty, (Builtin.append_ #[30, 9] ty #[v, .string ⟨s.toArray⟩]).run Tryz.prog w = .ok v' w') ∧ bd_Own w' v' (l ++ s) ∧ w.grownBy w' v.ownBlock ∧ bd_New w v v' ∧ (v' = .slice none 0 0 ↔ v = .slice none 0 0 ∧ s = []) := by
 obtain ⟨i, hi, hz, hs, hby⟩ := bd_info
 have hss : (⟨s.toArray⟩ : ByteArray).size = s.length := by simp [ByteArray.size]
 have hsc : Lib.strCells ⟨s.toArray⟩ = Lib.byteCells s := by simp [Lib.strCells_eq]
 obtain ⟨v', w', hr, h2, h3, h4⟩ := Lib.run_append_own_string (P := Tryz.prog) w 0 30 9 30 5 i Tryz.underlying30 Tryz.underlying9 hi hz hs hby v l.length (Lib.byteCells l) hown ⟨s.toArray⟩ (by rw [hss]; unfold maxLen; omega) (by rw [hss]; omega) (Nat.zero_le _)
 have e : ∀ ty, Builtin.append_ #[30, 9] ty #[v, .string ⟨s.toArray⟩] = Builtin.append_ #[30, 9] 30 #[v, .string ⟨s.toArray⟩] := fun ty => rfl
 refine ⟨v', w', fun ty => by rw [e]; exact hr, by rw [hss, hsc] at h2; simpa [bd_Own, Lib.byteCells_append] using h2, h3, ?_, by rw [hss] at h4; simpa using h4⟩
 rcases bd_shape hown with ⟨rfl, rfl⟩ | ⟨g, cap, cur, rfl, hg, hc, hm, hcs, ht⟩
 ·obtain ⟨v2, w2, hr2, k2, _⟩ := Lib.run_append_own_string (P := Tryz.prog) w w.heap.size 30 9 30 5 i Tryz.underlying30 Tryz.underlying9 hi hz hs hby (.slice none 0 0) 0 [] (World.ownsRow_nil w _ _ _) ⟨s.toArray⟩ (by rw [hss]; unfold maxLen; simp at hb; omega) (by rw [hss]; simp at hb; omega) (Nat.le_refl _)
  rw [hr] at hr2
  cases hr2
  exact fun g hg => .inr (k2.lt g hg).1
 ·by_cases hroom : l.length + s.length ≤ cap
  ·have := Lib.run_append_room_string (P := Tryz.prog) w 30 9 30 5 i Tryz.underlying30 Tryz.underlying9 hi hs g l.length cap cur hg ⟨s.toArray⟩ (by rw [hss]; exact hroom) (by rw [hss]; omega)
   rw [hr] at this
   cases this
   exact fun k hk => .inl hk
  ·have := Lib.run_append_grow_string (P := Tryz.prog) w 30 9 30 5 i (.int .u8 0) Tryz.underlying30 Tryz.underlying9 hi hz ⟨g, 0, none⟩ l.length cap (Lib.byteCells l) (by rw [hs]; simp [Lib.byteCells_length]) (hown.cells (g := g) rfl) ⟨s.toArray⟩ (by rw [hss]; omega) (by rw [hss]; omega) (by rw [hby]; exact growslice_fits (by omega) (by omega))
   rw [hr] at this
   cases this
   intro k hk
   simp only [Value.ownBlock, Option.some.injEq] at hk
   exact .inr (by omega)
theorem bd_appB (w : World) (v : Value) (l : List UInt8) (c : UInt8) (hown : bd_Own w v l) (hb : l.length + 1 ≤ 140737488351232) (a : Addr) (ha : w.cell? (a.add 0) = some (.int .u8 c.toNat)) :
  ∃ v' w', (∀ ty, (Builtin.append_ #[30, 30] ty #[v, .slice (some a) 1 1]).run Tryz.prog w = .ok v' w') ∧ bd_Own w' v' (l ++ [c]) ∧ w.grownBy w' v.ownBlock ∧ bd_New w v v' ∧ (v' = .slice none 0 0 ↔ v = .slice none 0 0 ∧ 1 = 0) := by
 obtain ⟨i, hi, hz, hs, hby⟩ := bd_info
 have hn : ∀ (j : Nat) (u : Value), [Value.int .u8 c.toNat][j]? = some u → w.cell? (a.add j) = some u := by
  intro j u hj
  cases j with
  | zero => simp at hj; subst hj; exact ha
  | succ j => simp at hj
 have h1 : ∀ u ∈ [Value.int .u8 c.toNat], u.oneCell' = true := by simp [Value.oneCell']
 obtain ⟨v', w', hr, h2, h3, h4⟩ := run_append_own (P := Tryz.prog) w 0 30 30 5 i (.int .u8 0) 1 1 Tryz.underlying30 hi hz hs hby rfl (by decide) v l.length (Lib.byteCells l) hown a 1 1 [.int .u8 c.toNat] rfl hn h1 (by unfold maxLen; omega) (by omega) (Nat.zero_le _)
 have e : ∀ ty, Builtin.append_ #[30, 30] ty #[v, .slice (some a) 1 1] = Builtin.append_ #[30, 30] 30 #[v, .slice (some a) 1 1] := fun ty => rfl
 refine ⟨v', w', fun ty => by rw [e]; exact hr, by simpa [bd_Own, Lib.byteCells] using h2, h3, ?_, h4⟩
 rcases bd_shape hown with ⟨rfl, rfl⟩ | ⟨g, cap, cur, rfl, hg, hc, hm, hcs, ht⟩
 ·obtain ⟨v2, w2, hr2, k2, _⟩ := run_append_own (P := Tryz.prog) w w.heap.size 30 30 5 i (.int .u8 0) 1 1 Tryz.underlying30 hi hz hs hby rfl (by decide) (.slice none 0 0) 0 [] (World.ownsRow_nil w _ _ _) a 1 1 [.int .u8 c.toNat] rfl hn h1 (by unfold maxLen; omega) (by omega) (Nat.le_refl _)
  rw [hr] at hr2
  cases hr2
  exact fun g hg => .inr (k2.lt g hg).1
 ·by_cases hroom : l.length + 1 ≤ cap
  ·have := run_append_room (P := Tryz.prog) w 30 30 5 i Tryz.underlying30 hi g l.length cap cur hg a 1 1 [.int .u8 c.toNat] (by rw [hs]; rfl) hn h1 hroom (by rw [hs]; simp; omega)
   rw [hr] at this
   cases this
   exact fun k hk => .inl hk
  ·have := run_append_grow (P := Tryz.prog) w 30 30 5 i (.int .u8 0) Tryz.underlying30 hi hz ⟨g, 0, none⟩ l.length cap (Lib.byteCells l) (by rw [hs]; simp [Lib.byteCells_length]) (hown.cells (g := g) rfl) a 1 1 [.int .u8 c.toNat] (by rw [hs]; rfl) hn (by omega) (by omega) (growslice_fits (by omega) (by rw [hby]; omega))
   rw [hr] at this
   cases this
   intro k hk
   simp only [Value.ownBlock, Option.some.injEq] at hk
   exact .inr (by omega)
theorem bd_hn (w : World) (o : Obj) : (w.alloc o).heap[w.heap.size]? = some o := by
 show (w.heap.push o)[w.heap.size]? = some o
 simp
/-- A builder in the world. -/
structure bd_At (w : World) (b : Nat) (v : Value) (l : List UInt8) : Prop where
 hb : w.heap[b]? = some (.cells #[.pointer none, v] 77 (0, 0)) ∨ w.heap[b]? = some (.cells #[.pointer (some ⟨b, 0, none⟩), v] 77 (0, 0))
 own : bd_Own w v l
 ne : v.ownBlock ≠ some b
theorem bd_At.is {w : World} {b : Nat} {v : Value} {l : List UInt8} (h : bd_At w b v l) : Lib.IsBuilder 77 5 0 b (Lib.byteCells l) w := by
 have ho : w.ownsRow 0 5 1 v (Lib.byteCells l).length (Lib.byteCells l) := by rw [Lib.byteCells_length]; exact h.own
 exact h.hb.imp (fun k => ⟨Nat.zero_le _, v, k, ho, h.ne⟩) (fun k => ⟨Nat.zero_le _, v, k, ho, h.ne⟩)
theorem bd_At.lt {w : World} {b : Nat} {v : Value} {l : List UInt8} (h : bd_At w b v l) : b < w.heap.size := by
 rcases h.hb with k | k <;> exact (Array.getElem?_eq_some_iff.1 k).1
/-- What the copy check leaves. -/
structure bd_Chk (w : World) (b : Nat) (v : Value) (w' : World) : Prop where
 hb : w'.heap[b]? = some (.cells #[.pointer (some ⟨b, 0, none⟩), v] 77 (0, 0))
 os : w'.os = w.os
 tape : w'.tape = w.tape
 output : w'.output = w.output
 size : w'.heap.size = w.heap.size
 block : ∀ k, k ≠ b → w'.heap[k]? = w.heap[k]?
theorem bd_cc (w : World) (b : Nat) (v : Value) (l : List UInt8) (h : bd_At w b v l) : Calls Tryz.prog 53 #[.pointer (some ⟨b, 0, none⟩)] w fun e w' => e = .returned (.tuple #[]) ∧ bd_Chk w b v w' := by
 rcases h.hb with k | k
 ·have hA : Lib.BuilderAt 77 5 0 b (.pointer none) (Lib.byteCells l) w := ⟨Nat.zero_le _, v, k, by rw [Lib.byteCells_length]; exact h.own, h.ne⟩
  refine (Go.Proofs.Any.Builder_copyCheck_fresh { jn31_lays with } jn31_extra.toX72 b w hA.cell0 hA.shape hA.frozen0).mono ?_
  rintro e w' ⟨rfl, rfl⟩
  have hlt := h.lt
  have e1 : w.heap[b]? = some w.heap[b] := Array.getElem?_eq_getElem hlt
  exact ⟨rfl, by simp [World.setCell, Array.getElem?_modify, k], rfl, rfl, rfl, by simp [World.setCell], fun j hj => Below.heap_setCell _ _ _ _ hj⟩
 ·have hA : Lib.BuilderAt 77 5 0 b (.pointer (some ⟨b, 0, none⟩)) (Lib.byteCells l) w := ⟨Nat.zero_le _, v, k, by rw [Lib.byteCells_length]; exact h.own, h.ne⟩
  refine (Go.Proofs.Any.Builder_copyCheck_used { jn31_lays with } jn31_extra.toX72 b w hA.cell0).mono ?_
  rintro e w' ⟨rfl, rfl⟩
  exact ⟨rfl, k, rfl, rfl, rfl, rfl, fun _ _ => rfl⟩
/-- What a write leaves. -/
structure bd_Post (w : World) (b : Nat) (v : Value) (l : List UInt8) (v' : Value) (w' : World) : Prop where
 hb : w'.heap[b]? = some (.cells #[.pointer (some ⟨b, 0, none⟩), v'] 77 (0, 0))
 own : bd_Own w' v' l
 os : w'.os = w.os
 tape : w'.tape = w.tape
 output : w'.output = w.output
 size : w.heap.size ≤ w'.heap.size
 block : ∀ k, k < w.heap.size → k ≠ b → some k ≠ v.ownBlock → w'.heap[k]? = w.heap[k]?
 new : bd_New w v v'
theorem bd_end {w w1 w2 : World} {b : Nat} {v v' : Value} {l : List UInt8} (hc : bd_Chk w b v w1) (hlt : b < w.heap.size) (hne : v.ownBlock ≠ some b) {w0 : World} (h0 : w0 = w1 ∨ ∃ o, w0 = w1.alloc o) (hown : bd_Own w2 v' l) (hg : w0.grownBy w2 v.ownBlock) (hn : bd_New w0 v v') :
  bd_Post w b v l v' (w2.setCell ⟨b, 1, none⟩ v') := by
 have hs0 : w.heap.size ≤ w0.heap.size := by rcases h0 with rfl | ⟨o, rfl⟩ <;> simp [hc.size]
 have hk0 : ∀ k, k < w.heap.size → w0.heap[k]? = w1.heap[k]? := by
  intro k hk
  rcases h0 with rfl | ⟨o, rfl⟩
  ·rfl
  ·exact Lib.alloc_old w1 o k (by rw [hc.size]; exact hk)
 have hb2 : w2.heap[b]? = some (.cells #[.pointer (some ⟨b, 0, none⟩), v] 77 (0, 0)) := by rw [hg.block b (by omega) (fun e => hne e.symm), hk0 b hlt]; exact hc.hb
 have hnb : v'.ownBlock ≠ some b := fun e => by
  rcases hn b e with h | h
  ·exact hne h
  ·omega
 refine ⟨by simp [World.setCell, Array.getElem?_modify, hb2], ?_, ?_, ?_, ?_, ?_, ?_, ?_⟩
 ·exact hown.kept (row := some b) ⟨rfl, rfl, rfl, by simp [World.setCell], fun k _ hk => Below.heap_setCell _ _ _ _ (fun e => hk (by simp [e]))⟩ (Or.inr hnb)
 ·show w2.os = _; rw [hg.os]; rcases h0 with rfl | ⟨o, rfl⟩ <;> exact hc.os
 ·show w2.tape = _; rw [hg.tape]; rcases h0 with rfl | ⟨o, rfl⟩ <;> exact hc.tape
 ·show w2.output = _; rw [hg.output]; rcases h0 with rfl | ⟨o, rfl⟩ <;> exact hc.output
 ·have := hg.size; simp [World.setCell]; omega
 ·intro k hk hkb hkv
  rw [Below.heap_setCell _ _ _ _ hkb, hg.block k (by omega) hkv, hk0 k hk]
  exact hc.block k hkb
 ·intro g hg'
  exact (hn g hg').imp id (fun h => by omega)
theorem bd_ws (w : World) (b : Nat) (v : Value) (l s : List UInt8) (h : bd_At w b v l) (hb : l.length + s.length ≤ 140737488351232) :
  Calls Tryz.prog 24 #[.pointer (some ⟨b, 0, none⟩), .string ⟨s.toArray⟩] w fun e w' => e = .returned (.tuple #[.int .i64 s.length, .nilIface]) ∧ ∃ v', bd_Post w b v (l ++ s) v' w' ∧ (v' = .slice none 0 0 ↔ v = .slice none 0 0 ∧ s = []) := by
 have hlt := h.lt
 have A0 : Aside (bd_At w b v l) := h
 clear h
 go_enter Tryz.func24, Tryz.ntmps24
 go_wp2_with (go_at_call 53; refine (bd_cc w b v l A0.out).mono ?_)
 rintro e w1 ⟨rfl, hck⟩
 have hown1 : bd_Own w1 v l := A0.out.own.kept (row := some b) ⟨hck.os, hck.tape, hck.output, by rw [hck.size]; exact Nat.le_refl _, fun k _ hk => hck.block k (fun e => hk (by rw [e]))⟩ (Or.inr A0.out.ne)
 obtain ⟨v', w2, hrun, r1, r2, r3, r4⟩ := bd_appS w1 v l s hown1 hb
 have c0 : w1.cell? ⟨b, 0, none⟩ = some (.pointer (some ⟨b, 0, none⟩)) := by rw [Lib.cell_of_heap hck.hb]; rfl
 have c1 : w1.cell? ⟨b, 1, none⟩ = some v := by rw [Lib.cell_of_heap hck.hb]; rfl
 have hb2 : w2.heap[b]? = some (.cells #[.pointer (some ⟨b, 0, none⟩), v] 77 (0, 0)) := by
  rw [r2.block b (by rw [hck.size]; exact hlt) (fun e => A0.out.ne e.symm)]; exact hck.hb
 have d0 : w2.cell? ⟨b, 0, none⟩ = some (.pointer (some ⟨b, 0, none⟩)) := by rw [Lib.cell_of_heap hb2]; rfl
 have d1 : w2.cell? ⟨b, 1, none⟩ = some v := by rw [Lib.cell_of_heap hb2]; rfl
 have f1 : w2.frozen? ⟨b, 1, none⟩ = false := Lib.frozen_of_heap hb2 1
 have F : Aside (bd_Post w b v (l ++ s) v' (w2.setCell ⟨b, 1, none⟩ v') ∧ (v' = .slice none 0 0 ↔ v = .slice none 0 0 ∧ s = [])) := ⟨bd_end hck hlt A0.out.ne (.inl rfl) r1 r2 r3, r4⟩
 obtain ⟨ao, n', cap, rfl⟩ : ∃ ao n' cap, v' = .slice ao n' cap := by
  rcases r1.2 with ⟨hv, _⟩ | ⟨g, cap, cur, hv, _⟩
  ·exact ⟨_, _, _, hv⟩
  ·exact ⟨_, _, _, hv⟩
 clear r1 r2 r3 r4 hown1 hck hb2
 go_wp2_with (at_builtin; refine Lib.wpList_append_run _ rfl _ _ _ _ rfl _ _ rfl rfl _ _ (hrun _) ?_)
 go_ret2
 exact ⟨rfl, _, F.out.1, F.out.2⟩
theorem bd_wb (w : World) (b : Nat) (v : Value) (l : List UInt8) (c : UInt8) (h : bd_At w b v l) (hb : l.length + 1 ≤ 140737488351232) :
  Calls Tryz.prog 25 #[.pointer (some ⟨b, 0, none⟩), .int .u8 c.toNat] w fun e w' => e = .returned .nilIface ∧ ∃ v', bd_Post w b v (l ++ [c]) v' w' ∧ (v' = .slice none 0 0 ↔ v = .slice none 0 0 ∧ 1 = 0) := by
 have hlt := h.lt
 have A0 : Aside (bd_At w b v l) := h
 clear h
 go_enter Tryz.func25, Tryz.ntmps25
 go_wp2_with (go_at_call 53; refine (bd_cc w b v l A0.out).mono ?_)
 rintro e w1 ⟨rfl, hck⟩
 have hown1 : bd_Own w1 v l := A0.out.own.kept (row := some b) ⟨hck.os, hck.tape, hck.output, by rw [hck.size]; exact Nat.le_refl _, fun k _ hk => hck.block k (fun e => hk (by rw [e]))⟩ (Or.inr A0.out.ne)
 have c0 : w1.cell? ⟨b, 0, none⟩ = some (.pointer (some ⟨b, 0, none⟩)) := by rw [Lib.cell_of_heap hck.hb]; rfl
 have c1 : w1.cell? ⟨b, 1, none⟩ = some v := by rw [Lib.cell_of_heap hck.hb]; rfl
 obtain ⟨v', w2, hrun, r1, r2, r3, r4⟩ := bd_appB (w1.alloc (.cells #[.int .u8 c.toNat] 5)) v l c (hown1.alloc _) hb ⟨w1.heap.size, 0, none⟩ (by show (w1.alloc _).cell? ⟨w1.heap.size, 0, none⟩ = _; rw [Lib.cell_of_heap (bd_hn w1 _)]; rfl)
 have hb2 : w2.heap[b]? = some (.cells #[.pointer (some ⟨b, 0, none⟩), v] 77 (0, 0)) := by
  have hlt1 : b < w1.heap.size := by rw [hck.size]; exact hlt
  rw [r2.block b (by simp; omega) (fun e => A0.out.ne e.symm), Lib.alloc_old _ _ _ hlt1]; exact hck.hb
 have d0 : w2.cell? ⟨b, 0, none⟩ = some (.pointer (some ⟨b, 0, none⟩)) := by rw [Lib.cell_of_heap hb2]; rfl
 have d1 : w2.cell? ⟨b, 1, none⟩ = some v := by rw [Lib.cell_of_heap hb2]; rfl
 have f1 : w2.frozen? ⟨b, 1, none⟩ = false := Lib.frozen_of_heap hb2 1
 have F : Aside (bd_Post w b v (l ++ [c]) v' (w2.setCell ⟨b, 1, none⟩ v') ∧ (v' = .slice none 0 0 ↔ v = .slice none 0 0 ∧ 1 = 0)) := ⟨bd_end hck hlt A0.out.ne (.inr ⟨_, rfl⟩) r1 r2 r3, r4⟩
 obtain ⟨ao, n', cap, rfl⟩ : ∃ ao n' cap, v' = .slice ao n' cap := by
  rcases r1.2 with ⟨hv, _⟩ | ⟨g, cap, cur, hv, _⟩
  ·exact ⟨_, _, _, hv⟩
  ·exact ⟨_, _, _, hv⟩
 clear r1 r2 r3 r4 hown1 hck hb2
 go_wp2_with (at_builtin; refine Lib.wpList_append_run _ rfl _ _ _ _ rfl _ _ rfl rfl _ _ (hrun _) ?_)
 go_wp2
 go_ret
 exact ⟨rfl, _, F.out.1, F.out.2⟩
theorem bd_st (w : World) (b : Nat) (p v : Value) (l : List UInt8) (hbk : w.heap[b]? = some (.cells #[p, v] 77 (0, 0))) (hown : bd_Own w v l) (hv : v = .slice none 0 0 ↔ l = []) :
  Calls Tryz.prog 26 #[.pointer (some ⟨b, 0, none⟩)] w fun e w' => e = .returned (.string ⟨l.toArray⟩) ∧ (w' = w.drew ∨ ∃ g, v.ownBlock = some g ∧ w' = w.drew.freeze ⟨g, 0, none⟩ l.length) := by
 rcases bd_shape hown with ⟨rfl, rfl⟩ | ⟨g, cap, cur, rfl, hg, hc, hm, hcs, ht⟩
 ·have hUS : ∀ (W : World) q, (Builtin.unsafeString_ #[106, 3] 9 #[.pointer q, .int .i64 0]).run Tryz.prog W = .ok (.string .empty) W := fun W q => Lib.run_unsafeString_none W _ _ _ q
  have c1 : w.drew.cell? ⟨b, 1, none⟩ = some (.slice none 0 0) := by
   have : w.drew.heap[b]? = some (.cells #[p, .slice none 0 0] 77 (0, 0)) := hbk
   rw [Lib.cell_of_heap this]; rfl
  have hSD : (Builtin.unsafeSliceData_ #[30] 106 #[.slice none 0 0]).run Tryz.prog w.drew = .ok (.pointer none) w.drew := rfl
  have mixed := mixed
  go_enter Tryz.func26, Tryz.ntmps26
  go_wp2
  go_region_o
  all_goals (go_wp2; go_ret; exact ⟨rfl, .inl rfl⟩)
 ·have hne : l ≠ [] := fun h => by cases hv.2 h
  have c1 : w.drew.cell? ⟨b, 1, none⟩ = some (.slice (some ⟨g, 0, none⟩) l.length cap) := by
   have : w.drew.heap[b]? = some (.cells #[p, .slice (some ⟨g, 0, none⟩) l.length cap] 77 (0, 0)) := hbk
   rw [Lib.cell_of_heap this]; rfl
  have hSD : (Builtin.unsafeSliceData_ #[30] 106 #[.slice (some ⟨g, 0, none⟩) l.length cap]).run Tryz.prog w.drew = .ok (.pointer (some ⟨g, 0, none⟩)) w.drew :=
   Lib.run_unsafeSliceData_row _ _ _ _ _ _ (by have := List.length_pos_iff.2 hne; omega)
  have hUS : (Builtin.unsafeString_ #[106, 3] 9 #[.pointer (some ⟨g, 0, none⟩), .int .i64 l.length]).run Tryz.prog w.drew = .ok (.string ⟨l.toArray⟩) (w.drew.freeze ⟨g, 0, none⟩ l.length) := by
   refine Lib.run_unsafeString_row w.drew 106 3 9 5 Tryz.underlying106 jn31_extra.cellsByte g cur.size (by have hg' : w.drew.heap[g]? = some (.cells cur 5 (0, 0)) := hg; simp [World.shape?, hg']) l hne (by omega) (by unfold maxLen at hm; omega) ?_
   intro j x hx
   exact hown.cells (g := g) rfl j (.int .u8 x.toNat) (by simp [Lib.byteCells, hx])
  have hrc : cap ≠ 0 := by have := List.length_pos_iff.2 hne; omega
  clear hg hown hm hcs ht
  have mixed := mixed
  go_enter Tryz.func26, Tryz.ntmps26
  go_wp2
  go_region_o
  all_goals (go_wp2; go_ret; exact ⟨rfl, .inr ⟨g, rfl, rfl⟩⟩)
theorem bd_pre {μ : Emb} {w : World} {c0 c1 : Nat} {l : List UInt8} (h01 : c0 ≠ c1) (hp : PreOK μ [(c0, .bld 77 c1 l.length), (c1, .tg 5 l)] w) :
  ∃ p0 v, μ c0 = some p0 ∧ p0.off = 0 ∧ bd_At w p0.rb v l ∧ (∀ g, v.ownBlock = some g → ∃ p1, μ c1 = some p1 ∧ p1.rb = g) ∧ (v = .slice none 0 0 ↔ l = []) ∧ μ.fro p0.rb = none := by
 obtain ⟨p0, hp0, hoff, v0, v, hb, hv0, hbuf⟩ := hp.obj c0 (.bld 77 c1 l.length) List.mem_cons_self
 refine ⟨p0, v, hp0, hoff, ?_⟩
 have hfr := hp.frs c0 _ p0 (List.mem_cons_self) rfl hp0
 have hh : w.heap[p0.rb]? = some (.cells #[.pointer none, v] 77 (0, 0)) ∨ w.heap[p0.rb]? = some (.cells #[.pointer (some ⟨p0.rb, 0, none⟩), v] 77 (0, 0)) := by
  rcases hv0 with rfl | rfl
  ·exact .inl hb
  ·exact .inr hb
 rcases hbuf with ⟨h0, rfl⟩ | ⟨h0, q, hq, hqo, rfl⟩
 ·have hl : l = [] := List.eq_nil_of_length_eq_zero h0
  subst hl
  exact ⟨⟨hh, World.ownsRow_nil w _ _ _, by simp [Value.ownBlock]⟩, by simp [Value.ownBlock], by simp, hfr⟩
 ·rcases hp.obj' c1 _ (List.mem_cons_of_mem _ List.mem_cons_self) with ⟨h1, _⟩ | ⟨p, hpc, hok⟩
  ·rw [h1] at hq; cases hq
  obtain rfl := Option.some.inj (hq.symm.trans hpc)
  obtain ⟨k0, k1, k2, k3, cells, k4, k5, k6⟩ := hok
  have hlen : (Lib.byteCells l).length = l.length * 1 := by simp [Lib.byteCells_length]
  have hne := hp.sep c0 _ c1 _ p0 q List.mem_cons_self (List.mem_cons_of_mem _ List.mem_cons_self) h01 (.inl rfl) hp0 hq
  refine ⟨⟨hh, ⟨hlen, .inr ⟨q.rb, q.ext, cells, rfl, Nat.zero_le _, k4, k2, k3, by omega, by rw [Nat.mul_one]; exact k6⟩⟩, ?_⟩, ?_, ?_, hfr⟩
  ·simp only [Value.ownBlock, ne_eq, Option.some.injEq]; exact fun e => hne e.symm
  ·intro g hg
   simp only [Value.ownBlock, Option.some.injEq] at hg
   exact ⟨q, hq, hg⟩
  ·constructor
   ·intro h; cases h
   ·rintro rfl; exact absurd rfl h0
theorem bd_delta {μ : Emb} {w w' : World} {c0 c1 c2 : Nat} {l l' : List UInt8} (h01 : c0 ≠ c1) (h02 : c2 ≠ c0) (h12 : c2 ≠ c1) (hp : PreOK μ [(c0, .bld 77 c1 l.length), (c1, .tg 5 l)] w) (hc2 : μ c2 = none)
  {p0 : Pl} {v v' : Value} (hp0 : μ c0 = some p0) (ho0 : p0.off = 0) (hat : bd_At w p0.rb v l) (h1 : ∀ g, v.ownBlock = some g → ∃ p1, μ c1 = some p1 ∧ p1.rb = g) (hpo : bd_Post w p0.rb v l' v' w') (hv' : v' = .slice none 0 0 ↔ l' = []) :
  ∃ μ', Delta μ w [(c0, .bld 77 c1 l.length), (c1, .tg 5 l)] [(c0, some (.bld 77 c2 l'.length)), (c1, none), (c2, some (.tg 5 l'))] μ' w' := by
 have hlt := hat.lt
 have hnb : v'.ownBlock ≠ some p0.rb := fun e => by
  rcases hpo.new _ e with h | h
  ·exact hat.ne h
  ·omega
 have keep : ∀ b, b < w.heap.size → (∀ c o p, (c, o) ∈ [(c0, LO.bld 77 c1 l.length), (c1, LO.tg 5 l)] → o.wr = true → Upd.has [(c0, some (.bld 77 c2 l'.length)), (c1, none), (c2, some (.tg 5 l'))] c = true → μ c = some p → p.rb ≠ b) → w'.heap[b]? = w.heap[b]? := by
  intro b hb hk
  refine hpo.block b hb (fun e => hk c0 _ p0 List.mem_cons_self rfl (by simp [Upd.has]) hp0 e.symm) (fun e => ?_)
  obtain ⟨p1, hp1, e1⟩ := h1 b e.symm
  exact hk c1 _ p1 (List.mem_cons_of_mem _ List.mem_cons_self) rfl (by simp [Upd.has]) hp1 e1
 have hdr : drawsOn = true → w.drawn ≤ w'.drawn := fun h => absurd h (by decide)
 rcases bd_shape hpo.own with ⟨rfl, hl⟩ | ⟨g, cap, cur, rfl, hg, hc, hm, hcs, ht⟩
 ·subst hl
  refine ⟨μ, ⟨Ext.refl μ, fun _ _ h => .inl h, hpo.os, hpo.tape, hpo.output, hdr, hpo.size, keep, ?_, ?_, ?_, fun _ _ h => .inl h, ?_⟩⟩
  ·intro c o hco
   simp only [List.mem_cons, Prod.mk.injEq, Option.some.injEq, List.not_mem_nil, or_false, reduceCtorEq, and_false, false_or] at hco
   rcases hco with ⟨rfl, rfl⟩ | ⟨rfl, rfl⟩
   ·exact .inr ⟨p0, hp0, ho0, _, _, hpo.hb, .inr rfl, .inl ⟨rfl, rfl⟩⟩
   ·exact .inl ⟨hc2, rfl⟩
  ·intro c o p hco hpc
   simp only [List.mem_cons, Prod.mk.injEq, Option.some.injEq, List.not_mem_nil, or_false, reduceCtorEq, and_false, false_or] at hco
   rcases hco with ⟨rfl, rfl⟩ | ⟨rfl, rfl⟩
   ·exact .inr ⟨c, _, p0, List.mem_cons_self, rfl, by simp [Upd.has], hp0, by rw [hp0] at hpc; rw [Option.some.inj hpc]⟩
   ·rw [hc2] at hpc; cases hpc
  ·intro c o c' o' p p' hco hco' hne hw hpc hpc'
   simp only [List.mem_cons, Prod.mk.injEq, Option.some.injEq, List.not_mem_nil, or_false, reduceCtorEq, and_false, false_or] at hco hco'
   rcases hco with ⟨rfl, rfl⟩ | ⟨rfl, rfl⟩ <;> rcases hco' with ⟨rfl, rfl⟩ | ⟨rfl, rfl⟩
   ·exact absurd rfl hne
   ·rw [hc2] at hpc'; cases hpc'
   ·rw [hc2] at hpc; cases hpc
   ·exact absurd rfl hne
  ·intro hf c o p hco hw hpc
   simp only [List.mem_cons, Prod.mk.injEq, Option.some.injEq, List.not_mem_nil, or_false, reduceCtorEq, and_false, false_or] at hco
   rcases hco with ⟨rfl, rfl⟩ | ⟨rfl, rfl⟩
   ·exact hf.2 c _ p List.mem_cons_self rfl hpc
   ·rw [hc2] at hpc; cases hpc
 ·have hl0 : l' ≠ [] := fun h => by cases hv'.2 h
  have hgp : g ≠ p0.rb := fun e => hnb (by simp [Value.ownBlock, e])
  have e0 : (μ.set c2 ⟨g, 0, 1, cap⟩) c0 = some p0 := by rw [Emb.set_at, if_neg (Ne.symm h02)]; exact hp0
  have hold : v.ownBlock = some g ∨ w.heap.size ≤ g := hpo.new g rfl
  refine ⟨μ.set c2 ⟨g, 0, 1, cap⟩, ⟨Emb.ext_set hc2, ?_, hpo.os, hpo.tape, hpo.output, hdr, hpo.size, keep, ?_, ?_, ?_, fun _ _ h => .inl h, ?_⟩⟩
  ·intro c p hpc
   rw [Emb.set_at] at hpc
   split at hpc
   ·rename_i e; subst e; exact .inr ⟨by simp [Upd.has], hc2⟩
   ·exact .inl hpc
  ·intro c o hco
   simp only [List.mem_cons, Prod.mk.injEq, Option.some.injEq, List.not_mem_nil, or_false, reduceCtorEq, and_false, false_or] at hco
   rcases hco with ⟨rfl, rfl⟩ | ⟨rfl, rfl⟩
   ·exact .inr ⟨p0, e0, ho0, _, _, hpo.hb, .inr rfl, .inr ⟨fun h => hl0 (List.eq_nil_of_length_eq_zero h), _, Emb.set_self, rfl, rfl⟩⟩
   ·exact .inr ⟨_, Emb.set_self, rfl, rfl, hc, hm, cur, hg, hcs, ht⟩
  ·intro c o p hco hpc
   simp only [List.mem_cons, Prod.mk.injEq, Option.some.injEq, List.not_mem_nil, or_false, reduceCtorEq, and_false, false_or] at hco
   rcases hco with ⟨rfl, rfl⟩ | ⟨rfl, rfl⟩
   ·exact .inr ⟨c, _, p0, List.mem_cons_self, rfl, by simp [Upd.has], hp0, by rw [e0] at hpc; rw [Option.some.inj hpc]⟩
   ·rw [Emb.set_self] at hpc
    obtain rfl := Option.some.inj hpc
    rcases hold with h | h
    ·obtain ⟨p1, hp1, hr⟩ := h1 g h
     exact .inr ⟨c1, _, p1, List.mem_cons_of_mem _ List.mem_cons_self, rfl, by simp [Upd.has], hp1, hr⟩
    ·exact .inl h
  ·intro c o c' o' p p' hco hco' hne hw hpc hpc'
   simp only [List.mem_cons, Prod.mk.injEq, Option.some.injEq, List.not_mem_nil, or_false, reduceCtorEq, and_false, false_or] at hco hco'
   rcases hco with ⟨rfl, rfl⟩ | ⟨rfl, rfl⟩ <;> rcases hco' with ⟨rfl, rfl⟩ | ⟨rfl, rfl⟩
   ·exact absurd rfl hne
   ·rw [e0] at hpc; rw [Emb.set_self] at hpc'; cases hpc; cases hpc'; exact fun e => hgp e.symm
   ·rw [e0] at hpc'; rw [Emb.set_self] at hpc; cases hpc; cases hpc'; exact hgp
   ·exact absurd rfl hne
  ·intro hf c o p hco hw hpc
   simp only [List.mem_cons, Prod.mk.injEq, Option.some.injEq, List.not_mem_nil, or_false, reduceCtorEq, and_false, false_or] at hco
   rcases hco with ⟨rfl, rfl⟩ | ⟨rfl, rfl⟩
   ·rw [e0] at hpc; exact hf.2 c _ p List.mem_cons_self rfl (hp0.trans hpc)
   ·rw [Emb.set_self] at hpc
    obtain rfl := Option.some.inj hpc
    rcases hold with h | h
    ·obtain ⟨p1, hp1, hr⟩ := h1 g h
     have := hf.2 c1 _ p1 (List.mem_cons_of_mem _ List.mem_cons_self) rfl hp1
     rw [hr] at this; exact this
    ·cases hx : (μ.set c ⟨g, 0, 1, cap⟩).fro g with
     | none => rfl
     | some cs => have := hf.1 _ _ hx; omega
theorem bd_free {μ : Emb} {c0 c1 c2 : Nat} {o0 o1 : LO} {a b c : Option LO} (h02 : c2 ≠ c0) (h12 : c2 ≠ c1) (hf : Fits μ [(c0, o0), (c1, o1)] [(c0, a), (c1, b), (c2, c)]) : μ c2 = none := by
 rcases hf c2 (by simp [Upd.has]) with ⟨o, h, _⟩ | h
 ·simp only [List.mem_cons, Prod.mk.injEq, List.not_mem_nil, or_false] at h
  rcases h with ⟨h, _⟩ | ⟨h, _⟩
  ·exact absurd h h02
  ·exact absurd h h12
 ·exact h
theorem bd_wsT (c0 c1 c2 : Nat) (h01 : c0 ≠ c1) (h02 : c2 ≠ c0) (h12 : c2 ≠ c1) (l s : List UInt8) (hb : l.length + s.length ≤ 140737488351232) :
  FnTri Tryz.prog 24 [.ptr c0 0 0, .str s] [(c0, .bld 77 c1 l.length), (c1, .tg 5 l)] (.tup [.int .i64 s.length, .any]) [(c0, some (.bld 77 c2 (l ++ s).length)), (c1, none), (c2, some (.tg 5 (l ++ s)))] := by
 refine ⟨⟨Tryz.f24, Tryz.func24, by kernel_rfl, by kernel_rfl⟩, ?_⟩
 rintro μ w vals ⟨v1, r1, rfl, ⟨q, hq, rfl⟩, v2, r2, rfl, rfl, rfl⟩ hp hf
 obtain ⟨p0, v, hp0, ho0, hat, h1, hv, hfr⟩ := bd_pre h01 hp
 obtain rfl := Option.some.inj (hp0.symm.trans hq)
 have ea : p0.addr 0 0 = ⟨p0.rb, 0, none⟩ := by simp [Pl.addr, ho0]
 rw [ea]
 refine (bd_ws w p0.rb v l s hat hb).mono ?_
 rintro e w' ⟨rfl, v', hpo, hv'⟩
 obtain ⟨μ', hd⟩ := bd_delta h01 h02 h12 hp (bd_free h02 h12 hf) hp0 ho0 hat h1 hpo (by rw [hv', hv]; simp)
 exact ⟨_, μ', rfl, ⟨_, rfl, _, _, rfl, rfl, _, _, rfl, trivial, rfl⟩, hd⟩
theorem bd_wbT (c0 c1 c2 : Nat) (h01 : c0 ≠ c1) (h02 : c2 ≠ c0) (h12 : c2 ≠ c1) (l : List UInt8) (c : UInt8) (hb : l.length + 1 ≤ 140737488351232) :
  FnTri Tryz.prog 25 [.ptr c0 0 0, .int .u8 c.toNat] [(c0, .bld 77 c1 l.length), (c1, .tg 5 l)] .any [(c0, some (.bld 77 c2 (l ++ [c]).length)), (c1, none), (c2, some (.tg 5 (l ++ [c])))] := by
 refine ⟨⟨Tryz.f25, Tryz.func25, by kernel_rfl, by kernel_rfl⟩, ?_⟩
 rintro μ w vals ⟨v1, r1, rfl, ⟨q, hq, rfl⟩, v2, r2, rfl, rfl, rfl⟩ hp hf
 obtain ⟨p0, v, hp0, ho0, hat, h1, hv, hfr⟩ := bd_pre h01 hp
 obtain rfl := Option.some.inj (hp0.symm.trans hq)
 have ea : p0.addr 0 0 = ⟨p0.rb, 0, none⟩ := by simp [Pl.addr, ho0]
 rw [ea]
 refine (bd_wb w p0.rb v l c hat hb).mono ?_
 rintro e w' ⟨rfl, v', hpo, hv'⟩
 obtain ⟨μ', hd⟩ := bd_delta h01 h02 h12 hp (bd_free h02 h12 hf) hp0 ho0 hat h1 hpo (by rw [hv']; simp)
 exact ⟨_, μ', rfl, trivial, hd⟩
theorem bd_stT (c0 c1 : Nat) (h01 : c0 ≠ c1) (l : List UInt8) :
  FnTri Tryz.prog 26 [.ptr c0 0 0] [(c0, .bld 77 c1 l.length), (c1, .tg 5 l)] (.str l) [(c0, none), (c1, none)] := by
 refine ⟨⟨Tryz.f26, Tryz.func26, by kernel_rfl, by kernel_rfl⟩, ?_⟩
 rintro μ w vals ⟨v1, r1, rfl, ⟨q, hq, rfl⟩, rfl⟩ hp hf
 obtain ⟨p0, v, hp0, ho0, hat, h1, hv, hfr⟩ := bd_pre h01 hp
 obtain rfl := Option.some.inj (hp0.symm.trans hq)
 have ea : p0.addr 0 0 = ⟨p0.rb, 0, none⟩ := by simp [Pl.addr, ho0]
 rw [ea]
 obtain ⟨p, hbk⟩ : ∃ p, w.heap[p0.rb]? = some (.cells #[p, v] 77 (0, 0)) := by rcases hat.hb with h | h <;> exact ⟨_, h⟩
 refine (bd_st w p0.rb p v l hbk hat.own hv).mono ?_
 rintro e w' ⟨rfl, hw'⟩
 have hkeep : ∀ b, (∀ g, v.ownBlock = some g → g ≠ b) → w'.heap[b]? = w.heap[b]? := by
  intro b hb
  rcases hw' with rfl | ⟨g, hg, rfl⟩
  ·rfl
  ·unfold World.freeze
   split
   ·rfl
   ·simp only [Array.getElem?_modify]
    rw [if_neg (hb g hg)]; rfl
 have hside : w'.os = w.os ∧ w'.tape = w.tape ∧ w'.output = w.output ∧ w'.heap.size = w.heap.size := by
  rcases hw' with rfl | ⟨g, hg, rfl⟩
  ·exact ⟨rfl, rfl, rfl, rfl⟩
  ·unfold World.freeze
   split
   ·exact ⟨rfl, rfl, rfl, rfl⟩
   ·exact ⟨rfl, rfl, rfl, by simp⟩
 refine ⟨_, μ, rfl, rfl, ⟨Ext.refl μ, fun _ _ h => .inl h, hside.1, hside.2.1, hside.2.2.1, fun h => absurd h (by decide), by rw [hside.2.2.2]; exact Nat.le_refl _, ?_, ?_, ?_, ?_, fun _ _ h => .inl h, ?_⟩⟩
 ·intro b hb hk
  refine hkeep b (fun g hg e => ?_)
  obtain ⟨p1, hp1, e1⟩ := h1 g hg
  exact hk c1 _ p1 (List.mem_cons_of_mem _ List.mem_cons_self) rfl (by simp [Upd.has]) hp1 (e1.trans e)
 all_goals intros
 all_goals simp_all
/-- parrel/script.Text -/
def script_Text_v (r : (List UInt8) × (Int)) : LV := .tup [.str r.1, .int .i64 r.2]
def script_Text_T0 (l : List (TS)) (t11 : Int) (text : List UInt8) : List LV := (.ds 25 (l).length (rowF c_TS default l)) :: .any :: .any :: .any :: (.ptr 0 0 0) :: n_ 4 ((.ds 25 (l).length (rowF c_TS default l)) :: (.int .i64 ((l).length : Int)) :: (.int .i64 t11) :: n_ 19 [])
def script_Text_H0 (l : List (TS)) (t11 : Int) (text : List UInt8) : Heap := [some (.bld 77 1 (text).length), some (.tg 5 text)]
def script_Text_l0 (l : List (TS))  : Nat → (Int) → (List UInt8) → Option ((List UInt8) × (Int))
 | 0, _, _ => none
 | fuel + 1, t11, text =>
  if ((decide (t11 < ((l).length : Int))) : Bool) then
   if 0 ≤ t11 ∧ t11 < (((l).length : Nat) : Int) then
   (script_Line (l.getD t11.toNat default)).bind fun yL0_4 =>
   if ((yL0_4.2 != 0) : Bool) then
    some ([], yL0_4.2)
   else
    if (text).length + (yL0_4.1).length ≤ 140737488351232 then
    if ((text ++ yL0_4.1)).length + 1 ≤ 140737488351232 then
    script_Text_l0 l  fuel (IntKind.wrap .i64 (t11 + 1)) ((text ++ yL0_4.1) ++ [10])
    else none
    else none
   else none
  else
   if ((decide (4096 < ((l).length : Int))) : Bool) then
    some ([], 5)
   else
    some (text, 0)
def script_Text (l : List (TS)) : Option ((List UInt8) × (Int)) :=
 script_Text_l0 l  big 0 ([] : List UInt8)
theorem script_Text_l0_ok {w0 : World} {W : Nat → Prop} {μ0 : Emb} (hμ : ∀ c p, μ0 c = some p → c < 0) (l : List (TS)) : ∀ (fuel : Nat) (t11 : Int) (text : List UInt8) (r : (List UInt8) × (Int)), script_Text_l0 l  fuel t11 text = some r → kont Tryz.prog w0 W μ0 (FnPost Tryz.prog Tryz.f13 0 0 (script_Text_v r) []) (kAt (bodyOf Tryz.f13) 0) none (script_Text_T0 l t11 text) (script_Text_H0 l t11 text) := by
 intro fuel
 induction fuel with
 | zero => intro t11 text r h; rw [script_Text_l0] at h; cases h
 | succ fuel ih =>
  intro t11 text r h
  rw [script_Text_l0] at h
  rcases itb_some h with ⟨C1, h⟩ | ⟨C1, h⟩
  ·obtain ⟨G2, h⟩ := guard_some h
   obtain ⟨yL0_4, E3, h⟩ := bind_some h
   rcases itb_some h with ⟨C5, h⟩ | ⟨C5, h⟩
   ·obtain rfl := si_ h
    exact rr_ [] 32 [.go, .reg [(0, hT)], .reg [], .reg [(1, hC (script_Line_v yL0_4))], .reg [(1, hT)], .reg []]
     (a_ (a_ (f_ C1 tr) (a_ (a_ (a_ (a_ (Eq.refl 25) G2) tr) (a_ (a_ (le_ 25 25 rfl) tr) (r1_ (a_ (a_ (a_ (Eq.refl 25) (a_ (le_ 25 25 rfl) (Eq.refl 0))) tr) tr)))) (a_ (m_ 25 25 rfl (a_ (a_ (a_ (script_Line_tri (l.getD t11.toNat default) yL0_4 E3) tr) tr) (r1_ (r4_ tr)))) (a_ (r1_ (f_ C5 tr)) (a_ (r1_ (r2_ tr)) tr))))) tr)
   ·obtain ⟨G6, h⟩ := guard_some h
    obtain ⟨G7, h⟩ := guard_some h
    exact rt_ hμ [0, 4] 38 [.go, .reg [(0, hT)], .reg [], .reg [(1, hC (script_Line_v yL0_4))], .reg [(1, hF)], .reg [(1, { call := some (.tup [.int .i64 (((yL0_4.1).length : Nat) : Int), .any], [(0, .bld 77 1 (text).length), (1, .tg 5 text)], [(0, some (.bld 77 3 ((text ++ yL0_4.1)).length)), (1, none), (3, some (.tg 5 (text ++ yL0_4.1)))]) })], .reg [(0, { call := some (.any, [(0, .bld 77 3 ((text ++ yL0_4.1)).length), (3, .tg 5 (text ++ yL0_4.1))], [(0, some (.bld 77 4 (((text ++ yL0_4.1) ++ [10])).length)), (3, none), (4, some (.tg 5 ((text ++ yL0_4.1) ++ [10])))]) })], .reg []]
     (a_ (f_ C1 tr) (a_ (a_ (a_ (a_ (Eq.refl 25) G2) tr) (a_ (a_ (le_ 25 25 rfl) tr) (r1_ (a_ (a_ (a_ (Eq.refl 25) (a_ (le_ 25 25 rfl) (Eq.refl 0))) tr) tr)))) (a_ (m_ 25 25 rfl (a_ (a_ (a_ (script_Line_tri (l.getD t11.toNat default) yL0_4 E3) tr) tr) (r1_ (r4_ tr)))) (a_ (r1_ (f_ C5 tr)) (a_ (r1_ (a_ (a_ (a_ (bd_wsT 0 1 3 (by decide) (by decide) (by decide) text yL0_4.1 G6) (a_ (LO.Le.refl (.bld 77 1 (text).length)) (a_ (LO.Le.refl (.tg 5 text)) tr))) tr) tr)) (a_ (a_ (a_ (a_ (bd_wbT 0 3 4 (by decide) (by decide) (by decide) (text ++ yL0_4.1) 10 G7) (a_ (LO.Le.refl (.bld 77 3 ((text ++ yL0_4.1)).length)) (a_ (LO.Le.refl (.tg 5 (text ++ yL0_4.1))) tr))) tr) tr) (a_ (r2_ tr) tr))))))) (ih _ _ r h) ⟨lt_ 1 2 rfl, trivial, trivial⟩
  ·rcases itb_some h with ⟨C2, h⟩ | ⟨C2, h⟩
   ·obtain rfl := si_ h
    exact rr_ [] 24 [.go, .reg [(0, hF)], .reg [(2, hT)], .reg []]
     (a_ (a_ (f_ C1 tr) (a_ (r2_ (f_ C2 tr)) (a_ (r2_ tr) tr))) tr)
   ·obtain rfl := si_ h
    exact rr_ [] 25 [.go, .reg [(0, hF)], .reg [(2, hF)], .reg [(0, { call := some (.str text, [(0, .bld 77 1 (text).length), (1, .tg 5 text)], [(0, none), (1, none)]) })]]
     (a_ (a_ (f_ C1 tr) (a_ (r2_ (f_ C2 tr)) (a_ (a_ (a_ (a_ (bd_stT 0 1 (by decide) text) (a_ (LO.Le.refl (.bld 77 1 (text).length)) (a_ (LO.Le.refl (.tg 5 text)) tr))) tr) (r2_ tr)) tr))) tr)
theorem script_Text_ok (l : List (TS)) (r : (List UInt8) × (Int)) (h : script_Text l = some r) : ∀ σ, Inj 0 σ → FnTri Tryz.prog 13 (renL σ [.ds 25 (l).length (rowF c_TS default l)]) (preOf σ 0 []) ((script_Text_v r).ren σ) (upOf σ []) := by
 refine fo_ Tryz.func13 trivial trivial ?_
 intro w0 W μ0 hμ
 unfold script_Text at h
 exact rt_ hμ [1, 0] 22 [.reg [], .void (.tg 5 ([] : List UInt8)), .reg [(0, { app := 100 })], .reg []]
  (a_ (r2_ tr) (a_ (Eq.refl ([] : List UInt8)) (a_ (r1_ tr) (a_ (r1_ (r2_ tr)) tr)))) (script_Text_l0_ok hμ l  big _ _ r h) ⟨lt_ 1 2 rfl, trivial, trivial⟩
theorem script_Text_tri (l : List (TS)) (r : (List UInt8) × (Int)) (h : script_Text l = some r) : FnTri Tryz.prog 13 [.ds 25 (l).length (rowF c_TS default l)] [] (script_Text_v r) [] := FnTri.none (script_Text_ok l r h) rfl rfl
/-- parrel/parrelref27.Text -/
def r27_Text_v (r : (List UInt8) × (Int)) : LV := .tup [.str r.1, .int .i64 r.2]
def r27_Text_T0 (l : List (T_r27_Step)) (s : List UInt8) (i : Int) : List LV := (.ds 25 (l).length (rowF c_T_r27_Step default l)) :: .any :: .any :: .any :: (.str s) :: (.int .i64 i) :: n_ 27 []
def r27_Text_H0 (l : List (T_r27_Step)) (s : List UInt8) (i : Int) : Heap := []
def r27_Text_l0 (l : List (T_r27_Step))  : Nat → (List UInt8) → (Int) → Option ((List UInt8) × (Int))
 | 0, _, _ => none
 | fuel + 1, s, i =>
  if ((decide (i < ((l).length : Int))) : Bool) then
   if 0 ≤ i ∧ i < (((l).length : Nat) : Int) then
   (r27_Line (l.getD i.toNat default)).bind fun yL0_4 =>
   if ((yL0_4.2 != 0) : Bool) then
    some ([], yL0_4.2)
   else
    if (yL0_4.1).length + (([10] : List UInt8)).length ≤ 9223372036854775807 then
    if (s).length + ((yL0_4.1 ++ ([10] : List UInt8))).length ≤ 9223372036854775807 then
    r27_Text_l0 l  fuel (s ++ (yL0_4.1 ++ ([10] : List UInt8))) (IntKind.wrap .i64 (i + 1))
    else none
    else none
   else none
  else
   if ((decide (4096 < ((l).length : Int))) : Bool) then
    some ([], 5)
   else
    some (s, 0)
def r27_Text (l : List (T_r27_Step)) : Option ((List UInt8) × (Int)) :=
 r27_Text_l0 l  big ([]) 0
theorem r27_Text_l0_ok {w0 : World} {W : Nat → Prop} {μ0 : Emb} (hμ : ∀ c p, μ0 c = some p → c < 0) (l : List (T_r27_Step)) : ∀ (fuel : Nat) (s : List UInt8) (i : Int) (r : (List UInt8) × (Int)), r27_Text_l0 l  fuel s i = some r → kont Tryz.prog w0 W μ0 (FnPost Tryz.prog Tryz.f14 0 0 (r27_Text_v r) []) (kAt (bodyOf Tryz.f14) 0) none (r27_Text_T0 l s i) (r27_Text_H0 l s i) := by
 intro fuel
 induction fuel with
 | zero => intro s i r h; rw [r27_Text_l0] at h; cases h
 | succ fuel ih =>
  intro s i r h
  rw [r27_Text_l0] at h
  rcases itb_some h with ⟨C1, h⟩ | ⟨C1, h⟩
  ·obtain ⟨G2, h⟩ := guard_some h
   obtain ⟨yL0_4, E3, h⟩ := bind_some h
   rcases itb_some h with ⟨C5, h⟩ | ⟨C5, h⟩
   ·obtain rfl := si_ h
    exact rr_ [] 29 [.go, .reg [(3, hT)], .reg [(4, hC (r27_Line_v yL0_4))], .reg [(1, hT)], .reg []]
     (a_ (a_ (r1_ (r2_ (f_ C1 tr))) (a_ (r2_ (a_ (a_ (a_ (Eq.refl 25) G2) tr) (a_ (a_ (le_ 25 25 rfl) tr) (a_ (a_ (a_ (r27_Line_tri (l.getD i.toNat default) yL0_4 E3) tr) tr) (r1_ (r4_ tr)))))) (a_ (r1_ (f_ C5 tr)) (a_ (r1_ (r2_ tr)) tr)))) tr)
   ·obtain ⟨G6, h⟩ := guard_some h
    obtain ⟨G7, h⟩ := guard_some h
    exact rt_ hμ [] 32 [.go, .reg [(3, hT)], .reg [(4, hC (r27_Line_v yL0_4))], .reg [(1, hF)], .reg [], .reg []]
     (a_ (r1_ (r2_ (f_ C1 tr))) (a_ (r2_ (a_ (a_ (a_ (Eq.refl 25) G2) tr) (a_ (a_ (le_ 25 25 rfl) tr) (a_ (a_ (a_ (r27_Line_tri (l.getD i.toNat default) yL0_4 E3) tr) tr) (r1_ (r4_ tr)))))) (a_ (r1_ (f_ C5 tr)) (a_ (r2_ (a_ (a_ G6 tr) (a_ (a_ G7 tr) (r1_ tr)))) (a_ (r1_ (r2_ tr)) tr))))) (ih _ _ r h) trivial
  ·rcases itb_some h with ⟨C2, h⟩ | ⟨C2, h⟩
   ·obtain rfl := si_ h
    exact rr_ [] 24 [.go, .reg [(3, hF)], .reg [(2, hT)], .reg []]
     (a_ (a_ (r1_ (r2_ (f_ C1 tr))) (a_ (r2_ (f_ C2 tr)) (a_ (r2_ tr) tr))) tr)
   ·obtain rfl := si_ h
    exact rr_ [] 25 [.go, .reg [(3, hF)], .reg [(2, hF)], .reg []]
     (a_ (a_ (r1_ (r2_ (f_ C1 tr))) (a_ (r2_ (f_ C2 tr)) (a_ (r1_ (r2_ tr)) tr))) tr)
theorem r27_Text_ok (l : List (T_r27_Step)) (r : (List UInt8) × (Int)) (h : r27_Text l = some r) : ∀ σ, Inj 0 σ → FnTri Tryz.prog 14 (renL σ [.ds 25 (l).length (rowF c_T_r27_Step default l)]) (preOf σ 0 []) ((r27_Text_v r).ren σ) (upOf σ []) := by
 refine fo_ Tryz.func14 trivial trivial ?_
 intro w0 W μ0 hμ
 unfold r27_Text at h
 exact rt_ hμ [] 21 [.reg [], .reg [], .reg []]
  (a_ (r2_ tr) (a_ (r1_ tr) (a_ (r1_ tr) tr))) (r27_Text_l0_ok hμ l  big _ _ r h) trivial
theorem r27_Text_tri (l : List (T_r27_Step)) (r : (List UInt8) × (Int)) (h : r27_Text l = some r) : FnTri Tryz.prog 14 [.ds 25 (l).length (rowF c_T_r27_Step default l)] [] (r27_Text_v r) [] := FnTri.none (r27_Text_ok l r h) rfl rfl
/-- parrel/parrellaw27.ScriptTexts -/
def l27_ScriptTexts_v (r : (Bool)) : LV := .bool r
def l27_ScriptTexts_T2 (l : List (T_r27_Step)) (t101 : Int) (l2 : List (TS)) : List LV := .any :: (.ds 25 (l).length (rowF c_T_r27_Step default l)) :: n_ 11 ((.gs 0 (l2).length) :: n_ 85 ((.ds 25 (l).length (rowF c_T_r27_Step default l)) :: (.int .i64 ((l).length : Int)) :: (.int .i64 t101) :: n_ 30 []))
def l27_ScriptTexts_H2 (l : List (T_r27_Step)) (t101 : Int) (l2 : List (TS)) : Heap := [some (.gr 25 (l2).length (rowF c_TS default l2))]
def l27_ScriptTexts_T1 (l : List (T_r27_Step)) (yL0_7 : (List (TS)) × (TF)) (yL0_9 : (List (T_r27_Step)) × (TF)) (t84 : Int) : List LV := .any :: (.ds 25 (l).length (rowF c_T_r27_Step default l)) :: n_ 6 ((.ds 25 (yL0_7.1).length (rowF c_TS default yL0_7.1)) :: .any :: (.ds 25 (yL0_9.1).length (rowF c_T_r27_Step default yL0_9.1)) :: n_ 72 ((.int .i64 ((yL0_7.1).length : Int)) :: (.int .i64 t84) :: n_ 47 []))
def l27_ScriptTexts_H1 (l : List (T_r27_Step)) (yL0_7 : (List (TS)) × (TF)) (yL0_9 : (List (T_r27_Step)) × (TF)) (t84 : Int) : Heap := []
def l27_ScriptTexts_T1000011 (l : List (T_r27_Step)) (yL0_7 : (List (TS)) × (TF)) (yL0_9 : (List (T_r27_Step)) × (TF))  : List LV := .any :: (.ds 25 (l).length (rowF c_T_r27_Step default l)) :: n_ 6 ((.ds 25 (yL0_7.1).length (rowF c_TS default yL0_7.1)) :: (.ptr 0 0 0) :: (.ds 25 (yL0_9.1).length (rowF c_T_r27_Step default yL0_9.1)) :: (.ptr 1 0 0) :: n_ 120 [])
def l27_ScriptTexts_H1000011 (l : List (T_r27_Step)) (yL0_7 : (List (TS)) × (TF)) (yL0_9 : (List (T_r27_Step)) × (TF))  : Heap := [some (.var (c_TF yL0_7.2)), some (.var (c_TF yL0_9.2))]
def l27_ScriptTexts_T0 (text : List UInt8) (l : List (T_r27_Step)) (x_n : Int) (t26 : Int) : List LV := (.str text) :: (.ds 25 (l).length (rowF c_T_r27_Step default l)) :: .any :: .any :: .any :: (.int .i64 x_n) :: n_ 18 ((.ds 25 ((l.take ((if 30 < ((l).length : Int) then 30 else ((l).length : Int))).toNat)).length (rowF c_T_r27_Step default (l.take ((if 30 < ((l).length : Int) then 30 else ((l).length : Int))).toNat))) :: (.int .i64 (((l.take ((if 30 < ((l).length : Int) then 30 else ((l).length : Int))).toNat)).length : Int)) :: (.int .i64 t26) :: n_ 105 [])
def l27_ScriptTexts_H0 (text : List UInt8) (l : List (T_r27_Step)) (x_n : Int) (t26 : Int) : Heap := []
def l27_ScriptTexts_l2 (l : List (T_r27_Step))  : Nat → (Int) → (List (TS)) → Option ((Bool))
 | 0, _, _ => none
 | fuel + 1, t101, l2 =>
  if ((decide (t101 < ((l).length : Int))) : Bool) then
   if 0 ≤ t101 ∧ t101 < (((l).length : Nat) : Int) then
   (l27_theirs (l.getD t101.toNat default)).bind fun yL2_4 =>
   if ((l2).length + (([yL2_4] : List (TS))).length) * 152 ≤ 140737488351232 then
   l27_ScriptTexts_l2 l  fuel (IntKind.wrap .i64 (t101 + 1)) (l2 ++ ([yL2_4] : List (TS)))
   else none
   else none
  else
   (script_Text l2).bind fun yL2_3 =>
   (r27_Text l).bind fun yL2_5 =>
   if ((yL2_3.1 == yL2_5.1) : Bool) then
    if ((yL2_3.2 == yL2_5.2) : Bool) then
     (l27_alive).bind fun yL2_9 =>
     some yL2_9
    else
     some false
   else
    some false
def l27_ScriptTexts_l1 (l : List (T_r27_Step)) (yL0_7 : (List (TS)) × (TF)) (yL0_9 : (List (T_r27_Step)) × (TF))  : Nat → (Int) → Option ((Bool))
 | 0, _ => none
 | fuel + 1, t84 =>
  if ((decide (t84 < ((yL0_7.1).length : Int))) : Bool) then
   if 0 ≤ t84 ∧ t84 < (((yL0_7.1).length : Nat) : Int) then
   (l27_ours (yL0_7.1.getD t84.toNat default)).bind fun yL1_4 =>
   if 0 ≤ t84 ∧ t84 < (((yL0_9.1).length : Nat) : Int) then
   (r27_Same yL1_4 (yL0_9.1.getD t84.toNat default)).bind fun yL1_7 =>
   if ((!yL1_7) : Bool) then
    some false
   else
    l27_ScriptTexts_l1 l yL0_7 yL0_9  fuel (IntKind.wrap .i64 (t84 + 1))
   else none
   else none
  else
   l27_ScriptTexts_l2 l  big 0 ([] : List (TS))
def l27_ScriptTexts_c11 (l : List (T_r27_Step)) (yL0_7 : (List (TS)) × (TF)) (yL0_9 : (List (T_r27_Step)) × (TF))   : Option ((Bool)) :=
 if ((((yL0_7.1).length : Int) != ((yL0_9.1).length : Int)) : Bool) then
  some false
 else
  if ((!decide (yL0_7.2 = yL0_9.2)) : Bool) then
   some false
  else
   l27_ScriptTexts_l1 l yL0_7 yL0_9  big 0
def l27_ScriptTexts_l0 (text : List UInt8) (l : List (T_r27_Step))  : Nat → (Int) → (Int) → Option ((Bool))
 | 0, _, _ => none
 | fuel + 1, x_n, t26 =>
  if ((decide (t26 < (((l.take ((if 30 < ((l).length : Int) then 30 else ((l).length : Int))).toNat)).length : Int))) : Bool) then
   if 0 ≤ t26 ∧ t26 < ((((l.take ((if 30 < ((l).length : Int) then 30 else ((l).length : Int))).toNat)).length : Nat) : Int) then
   l27_ScriptTexts_l0 text l  fuel (IntKind.wrap .i64 (x_n + (IntKind.wrap .i64 ((IntKind.wrap .i64 ((if 5000 < ((((l.take ((if 30 < ((l).length : Int) then 30 else ((l).length : Int))).toNat).getD t26.toNat default).f_Bytes).length : Int) then 5000 else ((((l.take ((if 30 < ((l).length : Int) then 30 else ((l).length : Int))).toNat).getD t26.toNat default).f_Bytes).length : Int)) + (if 5000 < ((((l.take ((if 30 < ((l).length : Int) then 30 else ((l).length : Int))).toNat).getD t26.toNat default).f_Call.f_Value).length : Int) then 5000 else ((((l.take ((if 30 < ((l).length : Int) then 30 else ((l).length : Int))).toNat).getD t26.toNat default).f_Call.f_Value).length : Int)))) + (if 300 < ((((l.take ((if 30 < ((l).length : Int) then 30 else ((l).length : Int))).toNat).getD t26.toNat default).f_Call.f_Votes).length : Int) then 300 else ((((l.take ((if 30 < ((l).length : Int) then 30 else ((l).length : Int))).toNat).getD t26.toNat default).f_Call.f_Votes).length : Int)))))) (IntKind.wrap .i64 (t26 + 1))
   else none
  else
   if ((decide (3000 < ((text).length : Int))) : Bool) then
    (l27_alive).bind fun yL0_4 =>
    some yL0_4
   else
    if ((decide (30 < ((l).length : Int))) : Bool) then
     (l27_alive).bind fun yL0_5 =>
     some yL0_5
    else
     if ((decide (3000 < x_n)) : Bool) then
      (l27_alive).bind fun yL0_6 =>
      some yL0_6
     else
      (script_All text).bind fun yL0_7 =>
      (r27_All text).bind fun yL0_9 =>
      l27_ScriptTexts_c11 l yL0_7 yL0_9  
def l27_ScriptTexts (text : List UInt8) (l : List (T_r27_Step)) : Option ((Bool)) :=
 if 0 ≤ (0 : Int) ∧ 0 ≤ (if 30 < ((l).length : Int) then 30 else ((l).length : Int)) ∧ (if 30 < ((l).length : Int) then 30 else ((l).length : Int)) ≤ (((l).length : Nat) : Int) then
 l27_ScriptTexts_l0 text l  big 0 0
 else none
theorem l27_ScriptTexts_l2_ok {w0 : World} {W : Nat → Prop} {μ0 : Emb} (hμ : ∀ c p, μ0 c = some p → c < 0) (l : List (T_r27_Step)) : ∀ (fuel : Nat) (t101 : Int) (l2 : List (TS)) (r : (Bool)), l27_ScriptTexts_l2 l  fuel t101 l2 = some r → kont Tryz.prog w0 W μ0 (FnPost Tryz.prog Tryz.f4 0 0 (l27_ScriptTexts_v r) []) (kAt (bodyOf Tryz.f4) 2) none (l27_ScriptTexts_T2 l t101 l2) (l27_ScriptTexts_H2 l t101 l2) := by
 intro fuel
 induction fuel with
 | zero => intro t101 l2 r h; rw [l27_ScriptTexts_l2] at h; cases h
 | succ fuel ih =>
  intro t101 l2 r h
  rw [l27_ScriptTexts_l2] at h
  rcases itb_some h with ⟨C1, h⟩ | ⟨C1, h⟩
  ·obtain ⟨G2, h⟩ := guard_some h
   obtain ⟨yL2_4, E3, h⟩ := bind_some h
   obtain ⟨G5, h⟩ := guard_some h
   exact rt_ hμ [3] 26 [.go, .reg [(0, hT)], .reg [], .reg [(2, hC (l27_theirs_v yL2_4)), (3, { os := [(2, .gr 25 (([yL2_4] : List (TS))).length (rowF c_TS default ([yL2_4] : List (TS))))], v := some (.gs 2 (([yL2_4] : List (TS))).length) }), (4, { app := 3, os := [(3, .gr 25 ((l2 ++ ([yL2_4] : List (TS)))).length (rowF c_TS default (l2 ++ ([yL2_4] : List (TS)))))], v := some (.gs 3 ((l2 ++ ([yL2_4] : List (TS)))).length) })], .reg []]
    (a_ (f_ C1 tr) (a_ (a_ (a_ (a_ (Eq.refl 25) G2) tr) (a_ (a_ (le_ 25 25 rfl) tr) (r1_ (a_ (a_ (a_ (Eq.refl 25) (a_ (le_ 25 25 rfl) (Eq.refl 0))) tr) tr)))) (a_ (r1_ (m_ 25 25 rfl (a_ (a_ (a_ (l27_theirs_tri (l.getD t101.toNat default) yL2_4 E3) tr) tr) (a_ (a_ (a_ (Eq.refl true) (a_ (Eq.refl 25) (a_ (lt_ 0 25 rfl) (le_ 25 16777216 rfl)))) (a_ (le_sl_gs 2 1 (some 1) rfl) (a_ (sub_lit c_TS default 25 (fun _ => rfl) ([yL2_4] : List (TS))) tr))) (a_ (a_ (a_ (a_ (Eq.refl 25) (Nat.le_refl (([yL2_4] : List (TS))).length)) (a_ (a_ (lt_ 0 25 rfl) (a_ (lt_ 0 152 rfl) (a_ G5 (a_ (Eq.refl 25) (Eq.refl true))))) (a_ (Eq.refl 25) (Nat.le_refl (l2).length)))) (a_ (le_gs_app 3 l2 ([yL2_4] : List (TS))) (a_ (sub_app c_TS default 25 l2 ([yL2_4] : List (TS))) tr))) (r1_ tr)))))) (a_ (r2_ tr) tr)))) (ih _ _ r h) ⟨fun _ _ => rfl, trivial⟩
  ·obtain ⟨yL2_3, E2, h⟩ := bind_some h
   obtain ⟨yL2_5, E4, h⟩ := bind_some h
   rcases itb_some h with ⟨C6, h⟩ | ⟨C6, h⟩
   ·rcases itb_some h with ⟨C7, h⟩ | ⟨C7, h⟩
    ·obtain ⟨yL2_9, E8, h⟩ := bind_some h
     obtain rfl := si_ h
     exact rr_ [] 26 [.go, .reg [(0, hF)], .frz 0, .reg [(1, hC (script_Text_v yL2_3))], .reg [(1, hC (r27_Text_v yL2_5))], .reg [(3, hT), (8, hT), (9, hC (l27_alive_v yL2_9))]]
      (a_ (a_ (f_ C1 tr) (a_ (a_ (fz_row (enc := c_TS) (d := default) (fun _ => rfl) l2) (a_ (Nat.le_refl (l2).length) tr)) (a_ (r1_ (c_ (script_Text_tri l2 yL2_3 E2) (r1_ (r4_ tr)))) (a_ (r1_ (c_ (r27_Text_tri l yL2_5 E4) (r1_ (r4_ tr)))) (a_ (r1_ (r2_ (f_ C6 (r4_ (f_ C7 (c_ (l27_alive_tri  yL2_9 E8) (r2_ tr))))))) tr))))) tr)
    ·obtain rfl := si_ h
     exact rr_ [] 26 [.go, .reg [(0, hF)], .frz 0, .reg [(1, hC (script_Text_v yL2_3))], .reg [(1, hC (r27_Text_v yL2_5))], .reg [(3, hT), (8, hF)]]
      (a_ (a_ (f_ C1 tr) (a_ (a_ (fz_row (enc := c_TS) (d := default) (fun _ => rfl) l2) (a_ (Nat.le_refl (l2).length) tr)) (a_ (r1_ (c_ (script_Text_tri l2 yL2_3 E2) (r1_ (r4_ tr)))) (a_ (r1_ (c_ (r27_Text_tri l yL2_5 E4) (r1_ (r4_ tr)))) (a_ (r1_ (r2_ (f_ C6 (r4_ (f_ C7 (a_ tr (r2_ tr))))))) tr))))) tr)
   ·obtain rfl := si_ h
    exact rr_ [] 26 [.go, .reg [(0, hF)], .frz 0, .reg [(1, hC (script_Text_v yL2_3))], .reg [(1, hC (r27_Text_v yL2_5))], .reg [(3, hF)]]
     (a_ (a_ (f_ C1 tr) (a_ (a_ (fz_row (enc := c_TS) (d := default) (fun _ => rfl) l2) (a_ (Nat.le_refl (l2).length) tr)) (a_ (r1_ (c_ (script_Text_tri l2 yL2_3 E2) (r1_ (r4_ tr)))) (a_ (r1_ (c_ (r27_Text_tri l yL2_5 E4) (r1_ (r4_ tr)))) (a_ (r1_ (r2_ (f_ C6 (a_ tr (t2_ (r2_ (a_ tr (r2_ tr)))))))) tr))))) tr)
theorem l27_ScriptTexts_l1_ok {w0 : World} {W : Nat → Prop} {μ0 : Emb} (hμ : ∀ c p, μ0 c = some p → c < 0) (l : List (T_r27_Step)) (yL0_7 : (List (TS)) × (TF)) (yL0_9 : (List (T_r27_Step)) × (TF)) : ∀ (fuel : Nat) (t84 : Int) (r : (Bool)), l27_ScriptTexts_l1 l yL0_7 yL0_9  fuel t84 = some r → kont Tryz.prog w0 W μ0 (FnPost Tryz.prog Tryz.f4 0 0 (l27_ScriptTexts_v r) []) (kAt (bodyOf Tryz.f4) 1) none (l27_ScriptTexts_T1 l yL0_7 yL0_9 t84) (l27_ScriptTexts_H1 l yL0_7 yL0_9 t84) := by
 intro fuel
 induction fuel with
 | zero => intro t84 r h; rw [l27_ScriptTexts_l1] at h; cases h
 | succ fuel ih =>
  intro t84 r h
  rw [l27_ScriptTexts_l1] at h
  rcases itb_some h with ⟨C1, h⟩ | ⟨C1, h⟩
  ·obtain ⟨G2, h⟩ := guard_some h
   obtain ⟨yL1_4, E3, h⟩ := bind_some h
   obtain ⟨G5, h⟩ := guard_some h
   obtain ⟨yL1_7, E6, h⟩ := bind_some h
   rcases itb_some h with ⟨C8, h⟩ | ⟨C8, h⟩
   ·obtain rfl := si_ h
    exact rr_ [] 28 [.go, .reg [(0, hT)], .reg [], .reg [(4, hC (l27_ours_v yL1_4)), (9, hC (r27_Same_v yL1_7)), (10, hT)], .reg []]
     (a_ (a_ (f_ C1 tr) (a_ (r2_ tr) (a_ (r2_ (a_ (a_ (a_ (Eq.refl 25) G2) tr) (a_ (a_ (le_ 25 25 rfl) tr) (a_ (a_ (a_ (l27_ours_tri (yL0_7.1.getD t84.toNat default) yL1_4 E3) tr) tr) (r2_ (a_ (a_ (a_ (Eq.refl 25) G5) tr) (a_ (a_ (le_ 25 25 rfl) tr) (a_ (a_ (a_ (r27_Same_tri yL1_4 (yL0_9.1.getD t84.toNat default) yL1_7 E6) tr) tr) (f_ C8 tr))))))))) (a_ (r1_ tr) tr)))) tr)
   ·exact rt_ hμ [] 29 [.go, .reg [(0, hT)], .reg [], .reg [(4, hC (l27_ours_v yL1_4)), (9, hC (r27_Same_v yL1_7)), (10, hF)], .reg []]
     (a_ (f_ C1 tr) (a_ (r2_ tr) (a_ (r2_ (a_ (a_ (a_ (Eq.refl 25) G2) tr) (a_ (a_ (le_ 25 25 rfl) tr) (a_ (a_ (a_ (l27_ours_tri (yL0_7.1.getD t84.toNat default) yL1_4 E3) tr) tr) (r2_ (a_ (a_ (a_ (Eq.refl 25) G5) tr) (a_ (a_ (le_ 25 25 rfl) tr) (a_ (a_ (a_ (r27_Same_tri yL1_4 (yL0_9.1.getD t84.toNat default) yL1_7 E6) tr) tr) (f_ C8 tr))))))))) (a_ (r2_ tr) tr)))) (ih _ r h) trivial
  ·exact rt_ hμ [0] 26 [.go, .reg [(0, hF)], .void (.gr 25 (([] : List (TS))).length (rowF c_TS default ([] : List (TS)))), .reg [(0, { v := some (.gs 0 (([] : List (TS))).length) })], .reg []]
    (a_ (f_ C1 tr) (a_ (Eq.refl 0) (a_ (a_ (a_ tr (a_ (le_nil_gs 0) tr)) tr) (a_ (r1_ (r2_ tr)) tr)))) (l27_ScriptTexts_l2_ok hμ l  big _ _ r h) ⟨fun _ _ => rfl, trivial⟩
theorem l27_ScriptTexts_c11_ok {w0 : World} {W : Nat → Prop} {μ0 : Emb} (hμ : ∀ c p, μ0 c = some p → c < 0) (l : List (T_r27_Step)) (yL0_7 : (List (TS)) × (TF)) (yL0_9 : (List (T_r27_Step)) × (TF))   (r : (Bool)) (h : l27_ScriptTexts_c11 l yL0_7 yL0_9   = some r) : kont Tryz.prog w0 W μ0 (FnPost Tryz.prog Tryz.f4 0 0 (l27_ScriptTexts_v r) []) (kAtR (bodyOf Tryz.f4) 11) none (l27_ScriptTexts_T1000011 l yL0_7 yL0_9 ) (l27_ScriptTexts_H1000011 l yL0_7 yL0_9 ) := by
 unfold l27_ScriptTexts_c11 at h
 rcases itb_some h with ⟨C1, h⟩ | ⟨C1, h⟩
 ·obtain rfl := si_ h
  exact rr_ [] 15 [.reg [(5, hT)], .reg []]
   (a_ (a_ (r1_ (r4_ (f_ C1 (a_ tr (t2_ (r1_ tr)))))) (a_ (r1_ tr) tr)) tr)
 ·rcases itb_some h with ⟨C2, h⟩ | ⟨C2, h⟩
  ·obtain rfl := si_ h
   exact rr_ [] 15 [.reg [(5, hF), (8, { v := some (.bool (!decide (yL0_7.2 = yL0_9.2))) }), (9, hT)], .reg []]
    (a_ (a_ (r1_ (r4_ (f_ C1 (m_ 2 2 rfl (m_ 2 2 rfl (a_ (a_ tr (a_ (leB (congrArg not (k_TF yL0_7.2 yL0_9.2))) tr)) (f_ C2 tr))))))) (a_ (r1_ tr) tr)) tr)
  ·exact rt_ hμ [] 19 [.reg [(5, hF), (8, { v := some (.bool (!decide (yL0_7.2 = yL0_9.2))) }), (9, hF)], .reg []]
    (a_ (r1_ (r4_ (f_ C1 (m_ 2 2 rfl (m_ 2 2 rfl (a_ (a_ tr (a_ (leB (congrArg not (k_TF yL0_7.2 yL0_9.2))) tr)) (f_ C2 tr))))))) (a_ (r1_ (r2_ tr)) tr)) (l27_ScriptTexts_l1_ok hμ l yL0_7 yL0_9  big _ r h) trivial
theorem l27_ScriptTexts_l0_ok {w0 : World} {W : Nat → Prop} {μ0 : Emb} (hμ : ∀ c p, μ0 c = some p → c < 0) (text : List UInt8) (l : List (T_r27_Step)) : ∀ (fuel : Nat) (x_n : Int) (t26 : Int) (r : (Bool)), l27_ScriptTexts_l0 text l  fuel x_n t26 = some r → kont Tryz.prog w0 W μ0 (FnPost Tryz.prog Tryz.f4 0 0 (l27_ScriptTexts_v r) []) (kAt (bodyOf Tryz.f4) 0) none (l27_ScriptTexts_T0 text l x_n t26) (l27_ScriptTexts_H0 text l x_n t26) := by
 intro fuel
 induction fuel with
 | zero => intro x_n t26 r h; rw [l27_ScriptTexts_l0] at h; cases h
 | succ fuel ih =>
  intro x_n t26 r h
  rw [l27_ScriptTexts_l0] at h
  rcases itb_some h with ⟨C1, h⟩ | ⟨C1, h⟩
  ·obtain ⟨G2, h⟩ := guard_some h
   exact rt_ hμ [] 26 [.go, .reg [(0, hT)], .reg [], .reg [], .reg []]
    (a_ (f_ C1 tr) (a_ (a_ (a_ (a_ (Eq.refl 25) G2) tr) (a_ (a_ (le_ 25 25 rfl) tr) (r1_ (a_ (a_ (a_ (Eq.refl 25) (a_ (le_ 25 25 rfl) (Eq.refl 0))) tr) tr)))) (a_ (r2_ (l_ 24 25 rfl (r4_ (l_ 19 25 rfl (r1_ (r4_ (l_ 22 25 rfl (r1_ (r4_ tr))))))))) (a_ (r2_ tr) tr)))) (ih _ _ r h) trivial
  ·rcases itb_some h with ⟨C2, h⟩ | ⟨C2, h⟩
   ·obtain ⟨yL0_4, E3, h⟩ := bind_some h
    obtain rfl := si_ h
    exact rr_ [] 24 [.go, .reg [(0, hF)], .reg [(3, hT)], .reg [(0, hC (l27_alive_v yL0_4))]]
     (a_ (a_ (f_ C1 tr) (a_ (r1_ (r2_ (f_ C2 (a_ tr (t2_ (r2_ (t2_ (r1_ tr)))))))) (a_ (c_ (l27_alive_tri  yL0_4 E3) (r1_ tr)) tr))) tr)
   ·rcases itb_some h with ⟨C3, h⟩ | ⟨C3, h⟩
    ·obtain ⟨yL0_5, E4, h⟩ := bind_some h
     obtain rfl := si_ h
     exact rr_ [] 24 [.go, .reg [(0, hF)], .reg [(3, hF), (8, hT)], .reg [(0, hC (l27_alive_v yL0_5))]]
      (a_ (a_ (f_ C1 tr) (a_ (r1_ (r2_ (f_ C2 (r4_ (f_ C3 (t2_ (r1_ tr))))))) (a_ (c_ (l27_alive_tri  yL0_5 E4) (r1_ tr)) tr))) tr)
    ·rcases itb_some h with ⟨C4, h⟩ | ⟨C4, h⟩
     ·obtain ⟨yL0_6, E5, h⟩ := bind_some h
      obtain rfl := si_ h
      exact rr_ [] 24 [.go, .reg [(0, hF)], .reg [(3, hF), (8, hF), (11, hT)], .reg [(0, hC (l27_alive_v yL0_6))]]
       (a_ (a_ (f_ C1 tr) (a_ (r1_ (r2_ (f_ C2 (r4_ (f_ C3 (r2_ (f_ C4 tr))))))) (a_ (c_ (l27_alive_tri  yL0_6 E5) (r1_ tr)) tr))) tr)
     ·obtain ⟨yL0_7, E5, h⟩ := bind_some h
      obtain ⟨yL0_9, E8, h⟩ := bind_some h
      exact rt_ hμ [0, 1] 30 [.go, .reg [(0, hF)], .reg [(3, hF), (8, hF), (11, hF)], .reg [(1, hC (script_All_v yL0_7))], .reg [(1, hC (r27_All_v yL0_9))]]
       (a_ (f_ C1 tr) (a_ (r1_ (r2_ (f_ C2 (r4_ (f_ C3 (r2_ (f_ C4 tr))))))) (a_ (r1_ (c_ (script_All_tri text yL0_7 E5) (r1_ (r4_ (a_ (a_ (a_ (Eq.refl 2) (a_ (le_ 2 2 rfl) (Eq.refl 0))) tr) tr))))) (a_ (r1_ (c_ (r27_All_tri text yL0_9 E8) (r1_ (r4_ (a_ (a_ (a_ (Eq.refl 2) (a_ (le_ 2 2 rfl) (Eq.refl 0))) tr) tr))))) tr)))) (l27_ScriptTexts_c11_ok hμ l yL0_7 yL0_9   r h) ⟨rfl, rfl, trivial⟩
theorem l27_ScriptTexts_ok (text : List UInt8) (l : List (T_r27_Step)) (r : (Bool)) (h : l27_ScriptTexts text l = some r) : ∀ σ, Inj 0 σ → FnTri Tryz.prog 4 (renL σ [.str text, .ds 25 (l).length (rowF c_T_r27_Step default l)]) (preOf σ 0 []) ((l27_ScriptTexts_v r).ren σ) (upOf σ []) := by
 refine fo_ Tryz.func4 trivial trivial ?_
 intro w0 W μ0 hμ
 unfold l27_ScriptTexts at h
 obtain ⟨g1, h⟩ := guard_some h
 exact rt_ hμ [] 21 [.reg [], .reg [], .reg [(4, { v := some (.ds 25 ((l.take ((if 30 < ((l).length : Int) then 30 else ((l).length : Int))).toNat)).length (rowF c_T_r27_Step default (l.take ((if 30 < ((l).length : Int) then 30 else ((l).length : Int))).toNat))) })]]
  (a_ (r1_ tr) (a_ (r1_ tr) (a_ (r4_ (a_ (a_ (a_ (Eq.refl 25) g1) (a_ (le_take c_T_r27_Step default 25 l ((if 30 < ((l).length : Int) then 30 else ((l).length : Int))).toNat (toN_le g1.2.2)) tr)) (r2_ tr))) tr))) (l27_ScriptTexts_l0_ok hμ text l  big _ _ r h) trivial
theorem l27_ScriptTexts_tri (text : List UInt8) (l : List (T_r27_Step)) (r : (Bool)) (h : l27_ScriptTexts text l = some r) : FnTri Tryz.prog 4 [.str text, .ds 25 (l).length (rowF c_T_r27_Step default l)] [] (l27_ScriptTexts_v r) [] := FnTri.none (l27_ScriptTexts_ok text l r h) rfl rfl
end
end Go.Proofs.YtdchgoaokceomaaGreatDoor.Wk
