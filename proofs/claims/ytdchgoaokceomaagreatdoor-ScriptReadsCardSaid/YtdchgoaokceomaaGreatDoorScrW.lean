import Derived.Test.YtdchgoaokceomaaGreatDoorScrWc
namespace Go.Proofs.YtdchgoaokceomaaGreatDoor.Wk
open Go Go.Cn
set_option maxRecDepth 100000
set_option maxHeartbeats 4000000
set_option linter.unusedVariables false
set_option linter.unusedSimpArgs false
def r27_Line_v (r : (List UInt8) × (Int)) : LV := .tup [.str r.1, .int .i64 r.2]
def r27_Line_T1000006 (s : T_r27_Step) (y5 : (List UInt8))  : List LV := [.any, .ptr 0 0 0, .any, .any, .str y5, .any, .any, .any, .any, .any, .any, .any, .any, .any, .any, .any, .any, .any, .any, .any, .any, .any, .any, .any, .any, .any, .any, .any, .any, .any, .any, .any, .any, .any, .any, .any, .any, .any, .any, .any, .any, .any, .any, .any, .any, .any, .any, .any, .any, .any, .any, .any, .any, .any, .any, .any, .any, .any, .any, .any, .any, .any, .any, .any, .any, .any, .any, .any, .any, .any, .any, .any, .any, .any, .any, .any, .any, .any, .any, .any, .any, .any, .any, .any, .any, .any, .any, .any, .any, .any, .any, .any, .any, .any, .any, .any, .any, .any, .any, .any, .any, .any, .any, .any, .any, .any, .any, .any]
def r27_Line_H1000006 (s : T_r27_Step) (y5 : (List UInt8))  : Heap := [some (.var (c_T_r27_Step s))]
def r27_Line_T1000007 (s : T_r27_Step) (y5 : (List UInt8)) (y7 : (List UInt8))  : List LV := [.any, .ptr 0 0 0, .any, .any, .str y5, .str y7, .any, .any, .any, .any, .any, .any, .any, .any, .any, .any, .any, .any, .any, .int .u8 s.f_Kind, .any, .any, .any, .any, .any, .any, .any, .any, .any, .any, .any, .any, .any, .any, .any, .any, .any, .any, .any, .any, .any, .any, .any, .any, .any, .any, .any, .any, .any, .any, .any, .any, .any, .any, .any, .any, .any, .any, .any, .any, .any, .any, .any, .any, .any, .any, .any, .any, .any, .any, .any, .any, .any, .any, .any, .any, .any, .any, .any, .any, .any, .any, .any, .any, .any, .any, .any, .any, .any, .any, .any, .any, .any, .any, .any, .any, .any, .any, .any, .any, .any, .any, .any, .any, .any, .any, .any, .any]
def r27_Line_H1000007 (s : T_r27_Step) (y5 : (List UInt8)) (y7 : (List UInt8))  : Heap := [some (.var (c_T_r27_Step s))]
def r27_Line_c6 (s : T_r27_Step) (y5 : (List UInt8))   : Option ((List UInt8) × (Int)) :=
 if (([100, 111, 32] : List UInt8)).length + (y5).length ≤ 9223372036854775807 then
 if ((([100, 111, 32] : List UInt8) ++ y5)).length + (([32] : List UInt8)).length ≤ 9223372036854775807 then
 (r27_digits (IntKind.wrap .u64 s.f_Call.f_Client)).bind fun yC6_4 =>
 if (((([100, 111, 32] : List UInt8) ++ y5) ++ ([32] : List UInt8))).length + (yC6_4).length ≤ 9223372036854775807 then
 if ((((([100, 111, 32] : List UInt8) ++ y5) ++ ([32] : List UInt8)) ++ yC6_4)).length + (([32] : List UInt8)).length ≤ 9223372036854775807 then
 (r27_digits (IntKind.wrap .u64 s.f_Call.f_Seq)).bind fun yC6_8 =>
 if (((((([100, 111, 32] : List UInt8) ++ y5) ++ ([32] : List UInt8)) ++ yC6_4) ++ ([32] : List UInt8))).length + (yC6_8).length ≤ 9223372036854775807 then
 if ((((((([100, 111, 32] : List UInt8) ++ y5) ++ ([32] : List UInt8)) ++ yC6_4) ++ ([32] : List UInt8)) ++ yC6_8)).length + (([32] : List UInt8)).length ≤ 9223372036854775807 then
 (r27_words s.f_Call).bind fun yC6_12 =>
 if (((((((([100, 111, 32] : List UInt8) ++ y5) ++ ([32] : List UInt8)) ++ yC6_4) ++ ([32] : List UInt8)) ++ yC6_8) ++ ([32] : List UInt8))).length + (yC6_12).length ≤ 9223372036854775807 then
 some ((((((((([100, 111, 32] : List UInt8) ++ y5) ++ ([32] : List UInt8)) ++ yC6_4) ++ ([32] : List UInt8)) ++ yC6_8) ++ ([32] : List UInt8)) ++ yC6_12), 0)
 else none
 else none
 else none
 else none
 else none
 else none
 else none
def r27_Line_c7 (s : T_r27_Step) (y5 : (List UInt8)) (y7 : (List UInt8))   : Option ((List UInt8) × (Int)) :=
 if ((s.f_Kind == 2) : Bool) then
  if (([100, 101, 108, 105, 118, 101, 114, 32] : List UInt8)).length + (y7).length ≤ 9223372036854775807 then
  some ((([100, 101, 108, 105, 118, 101, 114, 32] : List UInt8) ++ y7), 0)
  else none
 else
  if ((s.f_Kind == 3) : Bool) then
   if (([100, 114, 111, 112, 32] : List UInt8)).length + (y7).length ≤ 9223372036854775807 then
   some ((([100, 114, 111, 112, 32] : List UInt8) ++ y7), 0)
   else none
  else
   if ((s.f_Kind == 4) : Bool) then
    if (([116, 119, 105, 99, 101, 32] : List UInt8)).length + (y7).length ≤ 9223372036854775807 then
    some ((([116, 119, 105, 99, 101, 32] : List UInt8) ++ y7), 0)
    else none
   else
    if ((s.f_Kind == 5) : Bool) then
     if (([108, 97, 116, 101, 32] : List UInt8)).length + (y7).length ≤ 9223372036854775807 then
     some ((([108, 97, 116, 101, 32] : List UInt8) ++ y7), 0)
     else none
    else
     if ((s.f_Kind == 6) : Bool) then
      if (([116, 105, 99, 107, 32] : List UInt8)).length + (y5).length ≤ 9223372036854775807 then
      some ((([116, 105, 99, 107, 32] : List UInt8) ++ y5), 0)
      else none
     else
      if ((s.f_Kind == 7) : Bool) then
       if (([99, 114, 97, 115, 104, 32] : List UInt8)).length + (y5).length ≤ 9223372036854775807 then
       some ((([99, 114, 97, 115, 104, 32] : List UInt8) ++ y5), 0)
       else none
      else
       if ((s.f_Kind == 8) : Bool) then
        if (s.f_Cut : Bool) then
         if (([115, 116, 97, 114, 116, 32] : List UInt8)).length + (y5).length ≤ 9223372036854775807 then
         if ((([115, 116, 97, 114, 116, 32] : List UInt8) ++ y5)).length + (([32] : List UInt8)).length ≤ 9223372036854775807 then
         (r27_signed s.f_N).bind fun yC7_12 =>
         if (((([115, 116, 97, 114, 116, 32] : List UInt8) ++ y5) ++ ([32] : List UInt8))).length + (yC7_12).length ≤ 9223372036854775807 then
         if ((((([115, 116, 97, 114, 116, 32] : List UInt8) ++ y5) ++ ([32] : List UInt8)) ++ yC7_12)).length + (([32, 99, 117, 116, 32] : List UInt8)).length ≤ 9223372036854775807 then
         (r27_hex (strI s.f_Bytes)).bind fun yC7_16 =>
         if (((((([115, 116, 97, 114, 116, 32] : List UInt8) ++ y5) ++ ([32] : List UInt8)) ++ yC7_12) ++ ([32, 99, 117, 116, 32] : List UInt8))).length + (yC7_16).length ≤ 9223372036854775807 then
         some ((((((([115, 116, 97, 114, 116, 32] : List UInt8) ++ y5) ++ ([32] : List UInt8)) ++ yC7_12) ++ ([32, 99, 117, 116, 32] : List UInt8)) ++ yC7_16), 0)
         else none
         else none
         else none
         else none
         else none
        else
         if (([115, 116, 97, 114, 116, 32] : List UInt8)).length + (y5).length ≤ 9223372036854775807 then
         if ((([115, 116, 97, 114, 116, 32] : List UInt8) ++ y5)).length + (([32] : List UInt8)).length ≤ 9223372036854775807 then
         (r27_signed s.f_N).bind fun yC7_12 =>
         if (((([115, 116, 97, 114, 116, 32] : List UInt8) ++ y5) ++ ([32] : List UInt8))).length + (yC7_12).length ≤ 9223372036854775807 then
         if ((((([115, 116, 97, 114, 116, 32] : List UInt8) ++ y5) ++ ([32] : List UInt8)) ++ yC7_12)).length + (([32, 119, 104, 111, 108, 101, 32] : List UInt8)).length ≤ 9223372036854775807 then
         (r27_hex (strI s.f_Bytes)).bind fun yC7_16 =>
         if (((((([115, 116, 97, 114, 116, 32] : List UInt8) ++ y5) ++ ([32] : List UInt8)) ++ yC7_12) ++ ([32, 119, 104, 111, 108, 101, 32] : List UInt8))).length + (yC7_16).length ≤ 9223372036854775807 then
         some ((((((([115, 116, 97, 114, 116, 32] : List UInt8) ++ y5) ++ ([32] : List UInt8)) ++ yC7_12) ++ ([32, 119, 104, 111, 108, 101, 32] : List UInt8)) ++ yC7_16), 0)
         else none
         else none
         else none
         else none
         else none
       else
        if ((s.f_Kind == 9) : Bool) then
         if (([97, 114, 109, 32] : List UInt8)).length + (y5).length ≤ 9223372036854775807 then
         if ((([97, 114, 109, 32] : List UInt8) ++ y5)).length + (([32] : List UInt8)).length ≤ 9223372036854775807 then
         (r27_signed s.f_N).bind fun yC7_12 =>
         if (((([97, 114, 109, 32] : List UInt8) ++ y5) ++ ([32] : List UInt8))).length + (yC7_12).length ≤ 9223372036854775807 then
         some ((((([97, 114, 109, 32] : List UInt8) ++ y5) ++ ([32] : List UInt8)) ++ yC7_12), 0)
         else none
         else none
         else none
        else
         if (([105, 110, 106, 101, 99, 116, 32] : List UInt8)).length + (y5).length ≤ 9223372036854775807 then
         if ((([105, 110, 106, 101, 99, 116, 32] : List UInt8) ++ y5)).length + (([32] : List UInt8)).length ≤ 9223372036854775807 then
         (r27_digits (IntKind.wrap .u64 s.f_To)).bind fun yC7_12 =>
         if (((([105, 110, 106, 101, 99, 116, 32] : List UInt8) ++ y5) ++ ([32] : List UInt8))).length + (yC7_12).length ≤ 9223372036854775807 then
         if ((((([105, 110, 106, 101, 99, 116, 32] : List UInt8) ++ y5) ++ ([32] : List UInt8)) ++ yC7_12)).length + (([32] : List UInt8)).length ≤ 9223372036854775807 then
         (r27_hex (strI s.f_Bytes)).bind fun yC7_16 =>
         if (((((([105, 110, 106, 101, 99, 116, 32] : List UInt8) ++ y5) ++ ([32] : List UInt8)) ++ yC7_12) ++ ([32] : List UInt8))).length + (yC7_16).length ≤ 9223372036854775807 then
         some ((((((([105, 110, 106, 101, 99, 116, 32] : List UInt8) ++ y5) ++ ([32] : List UInt8)) ++ yC7_12) ++ ([32] : List UInt8)) ++ yC7_16), 0)
         else none
         else none
         else none
         else none
         else none
def r27_Line (s : T_r27_Step) : Option ((List UInt8) × (Int)) :=
 (r27_May s).bind fun y2 =>
 if ((!y2) : Bool) then
  some ([], 1)
 else
  (r27_digits (IntKind.wrap .u64 s.f_Node)).bind fun y5 =>
  (r27_digits (IntKind.wrap .u64 s.f_Wire)).bind fun y7 =>
  if ((s.f_Kind == 1) : Bool) then
   r27_Line_c6 s y5
  else
   r27_Line_c7 s y5 y7
theorem r27_Line_c6_ok {w0 : World} {W : Nat → Prop} {μ0 : Emb} (hμ : ∀ c p, μ0 c = some p → c < 0) (s : T_r27_Step) (y5 : (List UInt8))   (r : (List UInt8) × (Int)) (h : r27_Line_c6 s y5   = some r) : kont Tryz.prog w0 W μ0 (FnPost Tryz.prog Tryz.f21 0 0 (r27_Line_v r) []) (kAtR (bodyOf Tryz.f21) 6) none (r27_Line_T1000006 s y5 ) (r27_Line_H1000006 s y5 ) := by
 unfold r27_Line_c6 at h
 obtain ⟨gC6_1, h⟩ := guard_some h
 obtain ⟨gC6_2, h⟩ := guard_some h
 obtain ⟨yC6_4, eC6_3, h⟩ := bind_some h
 obtain ⟨gC6_5, h⟩ := guard_some h
 obtain ⟨gC6_6, h⟩ := guard_some h
 obtain ⟨yC6_8, eC6_7, h⟩ := bind_some h
 obtain ⟨gC6_9, h⟩ := guard_some h
 obtain ⟨gC6_10, h⟩ := guard_some h
 obtain ⟨yC6_12, eC6_11, h⟩ := bind_some h
 obtain ⟨gC6_13, h⟩ := guard_some h
 obtain rfl := si_ h
 exact run_ret mixed (L := []) (n := 11) (s := [.reg [(7, hC (r27_digits_v yC6_4)), (14, hC (r27_digits_v yC6_8)), (19, hC (r27_words_v yC6_12))]])
  (a_ (a_ (r1_ (a_ (a_ gC6_1 tr) (a_ (a_ gC6_2 tr) (r2_ (l_ 5 25 rfl (r1_ (a_ (a_ (a_ (r27_digits_tri (IntKind.wrap .u64 s.f_Call.f_Client) yC6_4 eC6_3) tr) tr) (a_ (a_ gC6_5 tr) (a_ (a_ gC6_6 tr) (r2_ (l_ 6 25 rfl (r1_ (a_ (a_ (a_ (r27_digits_tri (IntKind.wrap .u64 s.f_Call.f_Seq) yC6_8 eC6_7) tr) tr) (a_ (a_ gC6_9 tr) (a_ (a_ gC6_10 tr) (r1_ (m_ 23 25 rfl (c_ (r27_words_tri s.f_Call yC6_12 eC6_11) (a_ (a_ gC6_13 tr) (r2_ tr)))))))))))))))))))) tr) tr) (by kernel_rfl) rfl
theorem r27_Line_c7_ok {w0 : World} {W : Nat → Prop} {μ0 : Emb} (hμ : ∀ c p, μ0 c = some p → c < 0) (s : T_r27_Step) (y5 : (List UInt8)) (y7 : (List UInt8))   (r : (List UInt8) × (Int)) (h : r27_Line_c7 s y5 y7   = some r) : kont Tryz.prog w0 W μ0 (FnPost Tryz.prog Tryz.f21 0 0 (r27_Line_v r) []) (kAtR (bodyOf Tryz.f21) 7) none (r27_Line_T1000007 s y5 y7 ) (r27_Line_H1000007 s y5 y7 ) := by
 unfold r27_Line_c7 at h
 rcases itb_some h with ⟨cC7_1, h⟩ | ⟨cC7_1, h⟩
 ·skip
  obtain ⟨gC7_2, h⟩ := guard_some h
  obtain rfl := si_ h
  exact run_ret mixed (L := []) (n := 15) (s := [.reg [(1, hT)], .reg []])
   (a_ (a_ (r1_ (f_ cC7_1 tr)) (a_ (r1_ (a_ (a_ gC7_2 tr) (r2_ tr))) tr)) tr) (by kernel_rfl) rfl
 ·skip
  rcases itb_some h with ⟨cC7_2, h⟩ | ⟨cC7_2, h⟩
  ·skip
   obtain ⟨gC7_3, h⟩ := guard_some h
   obtain rfl := si_ h
   exact run_ret mixed (L := []) (n := 19) (s := [.reg [(1, hF)], .reg [(1, hT)], .reg []])
    (a_ (a_ (r1_ (f_ cC7_1 tr)) (a_ (r1_ (f_ cC7_2 tr)) (a_ (r1_ (a_ (a_ gC7_3 tr) (r2_ tr))) tr))) tr) (by kernel_rfl) rfl
  ·skip
   rcases itb_some h with ⟨cC7_3, h⟩ | ⟨cC7_3, h⟩
   ·skip
    obtain ⟨gC7_4, h⟩ := guard_some h
    obtain rfl := si_ h
    exact run_ret mixed (L := []) (n := 23) (s := [.reg [(1, hF)], .reg [(1, hF)], .reg [(1, hT)], .reg []])
     (a_ (a_ (r1_ (f_ cC7_1 tr)) (a_ (r1_ (f_ cC7_2 tr)) (a_ (r1_ (f_ cC7_3 tr)) (a_ (r1_ (a_ (a_ gC7_4 tr) (r2_ tr))) tr)))) tr) (by kernel_rfl) rfl
   ·skip
    rcases itb_some h with ⟨cC7_4, h⟩ | ⟨cC7_4, h⟩
    ·skip
     obtain ⟨gC7_5, h⟩ := guard_some h
     obtain rfl := si_ h
     exact run_ret mixed (L := []) (n := 27) (s := [.reg [(1, hF)], .reg [(1, hF)], .reg [(1, hF)], .reg [(1, hT)], .reg []])
      (a_ (a_ (r1_ (f_ cC7_1 tr)) (a_ (r1_ (f_ cC7_2 tr)) (a_ (r1_ (f_ cC7_3 tr)) (a_ (r1_ (f_ cC7_4 tr)) (a_ (r1_ (a_ (a_ gC7_5 tr) (r2_ tr))) tr))))) tr) (by kernel_rfl) rfl
    ·skip
     rcases itb_some h with ⟨cC7_5, h⟩ | ⟨cC7_5, h⟩
     ·skip
      obtain ⟨gC7_6, h⟩ := guard_some h
      obtain rfl := si_ h
      exact run_ret mixed (L := []) (n := 31) (s := [.reg [(1, hF)], .reg [(1, hF)], .reg [(1, hF)], .reg [(1, hF)], .reg [(1, hT)], .reg []])
       (a_ (a_ (r1_ (f_ cC7_1 tr)) (a_ (r1_ (f_ cC7_2 tr)) (a_ (r1_ (f_ cC7_3 tr)) (a_ (r1_ (f_ cC7_4 tr)) (a_ (r1_ (f_ cC7_5 tr)) (a_ (r1_ (a_ (a_ gC7_6 tr) (r2_ tr))) tr)))))) tr) (by kernel_rfl) rfl
     ·skip
      rcases itb_some h with ⟨cC7_6, h⟩ | ⟨cC7_6, h⟩
      ·skip
       obtain ⟨gC7_7, h⟩ := guard_some h
       obtain rfl := si_ h
       exact run_ret mixed (L := []) (n := 35) (s := [.reg [(1, hF)], .reg [(1, hF)], .reg [(1, hF)], .reg [(1, hF)], .reg [(1, hF)], .reg [(1, hT)], .reg []])
        (a_ (a_ (r1_ (f_ cC7_1 tr)) (a_ (r1_ (f_ cC7_2 tr)) (a_ (r1_ (f_ cC7_3 tr)) (a_ (r1_ (f_ cC7_4 tr)) (a_ (r1_ (f_ cC7_5 tr)) (a_ (r1_ (f_ cC7_6 tr)) (a_ (r1_ (a_ (a_ gC7_7 tr) (r2_ tr))) tr))))))) tr) (by kernel_rfl) rfl
      ·skip
       rcases itb_some h with ⟨cC7_7, h⟩ | ⟨cC7_7, h⟩
       ·skip
        rcases itb_some h with ⟨cC7_8, h⟩ | ⟨cC7_8, h⟩
        ·skip
         obtain ⟨gC7_9, h⟩ := guard_some h
         obtain ⟨gC7_10, h⟩ := guard_some h
         obtain ⟨yC7_12, eC7_11, h⟩ := bind_some h
         obtain ⟨gC7_13, h⟩ := guard_some h
         obtain ⟨gC7_14, h⟩ := guard_some h
         obtain ⟨yC7_16, eC7_15, h⟩ := bind_some h
         obtain ⟨gC7_17, h⟩ := guard_some h
         obtain rfl := si_ h
         exact run_ret mixed (L := []) (n := 49) (s := [.reg [(1, hF)], .reg [(1, hF)], .reg [(1, hF)], .reg [(1, hF)], .reg [(1, hF)], .reg [(1, hF)], .reg [(1, hT)], .reg [], .reg [(1, hT)], .reg [], .reg [(5, hC (r27_signed_v yC7_12)), (11, { v := some (.str (strI s.f_Bytes)) }), (12, hC (r27_hex_v yC7_16))]])
          (a_ (a_ (r1_ (f_ cC7_1 tr)) (a_ (r1_ (f_ cC7_2 tr)) (a_ (r1_ (f_ cC7_3 tr)) (a_ (r1_ (f_ cC7_4 tr)) (a_ (r1_ (f_ cC7_5 tr)) (a_ (r1_ (f_ cC7_6 tr)) (a_ (r1_ (f_ cC7_7 tr)) (a_ (r1_ tr) (a_ (r1_ (a_ (a_ (a_ tr (lt_ 4 25 rfl)) (a_ (leB cC7_8) tr)) tr)) (a_ (r1_ tr) (a_ (r1_ (a_ (a_ gC7_9 tr) (a_ (a_ gC7_10 tr) (r1_ (l_ 3 25 rfl (c_ (r27_signed_tri s.f_N yC7_12 eC7_11) (a_ (a_ gC7_13 tr) (r1_ (a_ (a_ gC7_14 tr) (r1_ (l_ 24 25 rfl (a_ (a_ (a_ (Eq.refl 1) (str_ob s.f_Bytes)) (a_ (le_str s.f_Bytes) tr)) (a_ (a_ (a_ (r27_hex_tri (strI s.f_Bytes) yC7_16 eC7_15) tr) tr) (a_ (a_ gC7_17 tr) (r2_ tr))))))))))))))) tr))))))))))) tr) (by kernel_rfl) rfl
        ·skip
         obtain ⟨gC7_9, h⟩ := guard_some h
         obtain ⟨gC7_10, h⟩ := guard_some h
         obtain ⟨yC7_12, eC7_11, h⟩ := bind_some h
         obtain ⟨gC7_13, h⟩ := guard_some h
         obtain ⟨gC7_14, h⟩ := guard_some h
         obtain ⟨yC7_16, eC7_15, h⟩ := bind_some h
         obtain ⟨gC7_17, h⟩ := guard_some h
         obtain rfl := si_ h
         exact run_ret mixed (L := []) (n := 48) (s := [.reg [(1, hF)], .reg [(1, hF)], .reg [(1, hF)], .reg [(1, hF)], .reg [(1, hF)], .reg [(1, hF)], .reg [(1, hT)], .reg [], .reg [(1, hF)], .reg [(5, hC (r27_signed_v yC7_12)), (11, { v := some (.str (strI s.f_Bytes)) }), (12, hC (r27_hex_v yC7_16))]])
          (a_ (a_ (r1_ (f_ cC7_1 tr)) (a_ (r1_ (f_ cC7_2 tr)) (a_ (r1_ (f_ cC7_3 tr)) (a_ (r1_ (f_ cC7_4 tr)) (a_ (r1_ (f_ cC7_5 tr)) (a_ (r1_ (f_ cC7_6 tr)) (a_ (r1_ (f_ cC7_7 tr)) (a_ (r1_ tr) (a_ (r1_ (a_ (a_ (a_ tr (lt_ 4 25 rfl)) (a_ (leB cC7_8) tr)) tr)) (a_ (r1_ (a_ (a_ gC7_9 tr) (a_ (a_ gC7_10 tr) (r1_ (l_ 3 25 rfl (c_ (r27_signed_tri s.f_N yC7_12 eC7_11) (a_ (a_ gC7_13 tr) (r1_ (a_ (a_ gC7_14 tr) (r1_ (l_ 24 25 rfl (a_ (a_ (a_ (Eq.refl 1) (str_ob s.f_Bytes)) (a_ (le_str s.f_Bytes) tr)) (a_ (a_ (a_ (r27_hex_tri (strI s.f_Bytes) yC7_16 eC7_15) tr) tr) (a_ (a_ gC7_17 tr) (r2_ tr))))))))))))))) tr)))))))))) tr) (by kernel_rfl) rfl
       ·skip
        rcases itb_some h with ⟨cC7_8, h⟩ | ⟨cC7_8, h⟩
        ·skip
         obtain ⟨gC7_9, h⟩ := guard_some h
         obtain ⟨gC7_10, h⟩ := guard_some h
         obtain ⟨yC7_12, eC7_11, h⟩ := bind_some h
         obtain ⟨gC7_13, h⟩ := guard_some h
         obtain rfl := si_ h
         exact run_ret mixed (L := []) (n := 43) (s := [.reg [(1, hF)], .reg [(1, hF)], .reg [(1, hF)], .reg [(1, hF)], .reg [(1, hF)], .reg [(1, hF)], .reg [(1, hF)], .reg [(1, hT)], .reg [(5, hC (r27_signed_v yC7_12))]])
          (a_ (a_ (r1_ (f_ cC7_1 tr)) (a_ (r1_ (f_ cC7_2 tr)) (a_ (r1_ (f_ cC7_3 tr)) (a_ (r1_ (f_ cC7_4 tr)) (a_ (r1_ (f_ cC7_5 tr)) (a_ (r1_ (f_ cC7_6 tr)) (a_ (r1_ (f_ cC7_7 tr)) (a_ (r1_ (f_ cC7_8 tr)) (a_ (r1_ (a_ (a_ gC7_9 tr) (a_ (a_ gC7_10 tr) (r1_ (l_ 3 25 rfl (c_ (r27_signed_tri s.f_N yC7_12 eC7_11) (a_ (a_ gC7_13 tr) (r2_ tr)))))))) tr))))))))) tr) (by kernel_rfl) rfl
        ·skip
         obtain ⟨gC7_9, h⟩ := guard_some h
         obtain ⟨gC7_10, h⟩ := guard_some h
         obtain ⟨yC7_12, eC7_11, h⟩ := bind_some h
         obtain ⟨gC7_13, h⟩ := guard_some h
         obtain ⟨gC7_14, h⟩ := guard_some h
         obtain ⟨yC7_16, eC7_15, h⟩ := bind_some h
         obtain ⟨gC7_17, h⟩ := guard_some h
         obtain rfl := si_ h
         exact run_ret mixed (L := []) (n := 45) (s := [.reg [(1, hF)], .reg [(1, hF)], .reg [(1, hF)], .reg [(1, hF)], .reg [(1, hF)], .reg [(1, hF)], .reg [(1, hF)], .reg [(1, hF)], .reg [(6, hC (r27_digits_v yC7_12)), (11, { v := some (.str (strI s.f_Bytes)) }), (12, hC (r27_hex_v yC7_16))]])
          (a_ (a_ (r1_ (f_ cC7_1 tr)) (a_ (r1_ (f_ cC7_2 tr)) (a_ (r1_ (f_ cC7_3 tr)) (a_ (r1_ (f_ cC7_4 tr)) (a_ (r1_ (f_ cC7_5 tr)) (a_ (r1_ (f_ cC7_6 tr)) (a_ (r1_ (f_ cC7_7 tr)) (a_ (r1_ (f_ cC7_8 tr)) (a_ (r1_ (a_ (a_ gC7_9 tr) (a_ (a_ gC7_10 tr) (r1_ (l_ 23 25 rfl (r1_ (a_ (a_ (a_ (r27_digits_tri (IntKind.wrap .u64 s.f_To) yC7_12 eC7_11) tr) tr) (a_ (a_ gC7_13 tr) (a_ (a_ gC7_14 tr) (r1_ (l_ 24 25 rfl (a_ (a_ (a_ (Eq.refl 1) (str_ob s.f_Bytes)) (a_ (le_str s.f_Bytes) tr)) (a_ (a_ (a_ (r27_hex_tri (strI s.f_Bytes) yC7_16 eC7_15) tr) tr) (a_ (a_ gC7_17 tr) (r2_ tr))))))))))))))) tr))))))))) tr) (by kernel_rfl) rfl
theorem r27_Line_ok (s : T_r27_Step) (r : (List UInt8) × (Int)) (h : r27_Line s = some r) : ∀ σ, Inj 0 σ → FnTri Tryz.prog 21 (renL σ [v_T_r27_Step s]) (preOf σ 0 []) ((r27_Line_v r).ren σ) (upOf σ []) := by
 refine fn_of Tryz.func21 (by kernel_rfl) (by kernel_rfl) (by kernel_rfl) trivial (by kernel_rfl) trivial (by kernel_rfl) ?_
 intro w0 W μ0 hμ
 unfold r27_Line at h
 obtain ⟨y2, e1, h⟩ := bind_some h
 rcases itb_some h with ⟨c3, h⟩ | ⟨c3, h⟩
 ·skip
  obtain rfl := si_ h
  exact run_ret mixed (L := []) (n := 20) (s := [.reg [], .reg [(1, hC (r27_May_v y2)), (2, hT)], .reg []])
   (a_ (a_ (r1_ (r2_ tr)) (a_ (m_ 25 25 rfl (c_ (r27_May_tri s y2 e1) (f_ c3 tr))) (a_ (r2_ tr) tr))) tr) (by kernel_rfl) rfl
 ·skip
  obtain ⟨y5, e4, h⟩ := bind_some h
  obtain ⟨y7, e6, h⟩ := bind_some h
  rcases itb_some h with ⟨c8, h⟩ | ⟨c8, h⟩
  ·skip
   exact run_to mixed hμ (L := [0]) (n := 31) (s := [.reg [], .reg [(1, hC (r27_May_v y2)), (2, hF)], .reg [(3, hC (r27_digits_v y5)), (7, hC (r27_digits_v y7))], .reg [], .reg [(1, hT)]])
    (a_ (r1_ (r2_ tr)) (a_ (m_ 25 25 rfl (c_ (r27_May_tri s y2 e1) (f_ c3 tr))) (a_ (r1_ (l_ 1 25 rfl (r1_ (a_ (a_ (a_ (r27_digits_tri (IntKind.wrap .u64 s.f_Node) y5 e4) tr) tr) (r1_ (l_ 2 25 rfl (r1_ (a_ (a_ (a_ (r27_digits_tri (IntKind.wrap .u64 s.f_Wire) y7 e6) tr) tr) (r2_ tr))))))))) (a_ (r1_ (l_ 0 25 rfl tr)) (a_ (r1_ (f_ c8 tr)) tr))))) (r27_Line_c6_ok hμ s y5   r h) (by kernel_rfl) ⟨rfl, trivial⟩
  ·skip
   exact run_to mixed hμ (L := [0]) (n := 31) (s := [.reg [], .reg [(1, hC (r27_May_v y2)), (2, hF)], .reg [(3, hC (r27_digits_v y5)), (7, hC (r27_digits_v y7))], .reg [], .reg [(1, hF)]])
    (a_ (r1_ (r2_ tr)) (a_ (m_ 25 25 rfl (c_ (r27_May_tri s y2 e1) (f_ c3 tr))) (a_ (r1_ (l_ 1 25 rfl (r1_ (a_ (a_ (a_ (r27_digits_tri (IntKind.wrap .u64 s.f_Node) y5 e4) tr) tr) (r1_ (l_ 2 25 rfl (r1_ (a_ (a_ (a_ (r27_digits_tri (IntKind.wrap .u64 s.f_Wire) y7 e6) tr) tr) (r2_ tr))))))))) (a_ (r1_ (l_ 0 25 rfl tr)) (a_ (r1_ (f_ c8 tr)) tr))))) (r27_Line_c7_ok hμ s y5 y7   r h) (by kernel_rfl) ⟨rfl, trivial⟩
theorem r27_Line_tri (s : T_r27_Step) (r : (List UInt8) × (Int)) (h : r27_Line s = some r) : FnTri Tryz.prog 21 [v_T_r27_Step s] [] (r27_Line_v r) [] := FnTri.none (r27_Line_ok s r h) rfl rfl
def r27_Parse_v (r : (T_r27_Step) × (Int)) : LV := .tup [v_T_r27_Step r.1, .int .i64 r.2]
def r27_Parse_T1000006   : List LV := [.any, .any, .ptr 0 0 0, .any, .any, .any, .any, .any, .any, .any, .any, .any, .any, .any, .any, .any, .any, .any, .any, .any, .any, .any, .any, .any, .any, .any, .any, .any]
def r27_Parse_H1000006   : Heap := [some (.var [Z1_, Z8_, Z8_, Z8_, .bool false, Z1_, Z4_, Z1_, Z1_, Z4_, Z4_, Z1_, Z1_, Z1_, Z1_, Z1_, Z1_, Z1_, Z1_, .str [], Z1_, Z1_, .nilsl, Z8_, .nilsl])]
def r27_Parse_T1000007 (y5 : (T_r27_Step))  : List LV := [.any, .any, .ptr 0 0 0, .any, .ptr 1 0 0, .any, .any, .any, .any, .any, .any, .any, .any, .any, .any, .any, .any, .any, .any, .any, .any, .any, .any, .any, .any, .any, .any, .any]
def r27_Parse_H1000007 (y5 : (T_r27_Step))  : Heap := [some (.var [Z1_, Z8_, Z8_, Z8_, .bool false, Z1_, Z4_, Z1_, Z1_, Z4_, Z4_, Z1_, Z1_, Z1_, Z1_, Z1_, Z1_, Z1_, Z1_, .str [], Z1_, Z1_, .nilsl, Z8_, .nilsl]), some (.var (c_T_r27_Step y5))]
def r27_Parse_c6    : Option ((T_r27_Step) × (Int)) :=
 some ((T_r27_Step.mk 0 0 0 0 false (T_r27_Call.mk 0 0 0 (T_api_Tx.mk 0 0 0) (A8.mk 0 0 0 0 0 0 0 0) [] 0 0 ([] : List (Int))) 0 ([] : List (Int))), 3)
def r27_Parse_c7 (y5 : (T_r27_Step))   : Option ((T_r27_Step) × (Int)) :=
 some (y5, 0)
def r27_Parse (line : List UInt8) : Option ((T_r27_Step) × (Int)) :=
 if ((decide (16384 < ((line).length : Int))) : Bool) then
  some ((T_r27_Step.mk 0 0 0 0 false (T_r27_Call.mk 0 0 0 (T_api_Tx.mk 0 0 0) (A8.mk 0 0 0 0 0 0 0 0) [] 0 0 ([] : List (Int))) 0 ([] : List (Int))), 5)
 else
  (r27_split line 32).bind fun y3 =>
  (r27_guess y3).bind fun y5 =>
  (r27_Line y5).bind fun y7 =>
  if ((y7.2 != 0) : Bool) then
   r27_Parse_c6
  else
   if ((!(y7.1 == line)) : Bool) then
    r27_Parse_c6
   else
    r27_Parse_c7 y5
theorem r27_Parse_c6_ok {w0 : World} {W : Nat → Prop} {μ0 : Emb} (hμ : ∀ c p, μ0 c = some p → c < 0)    (r : (T_r27_Step) × (Int)) (h : r27_Parse_c6    = some r) : kont Tryz.prog w0 W μ0 (FnPost Tryz.prog Tryz.f7 0 0 (r27_Parse_v r) []) (kAtR (bodyOf Tryz.f7) 6) none (r27_Parse_T1000006  ) (r27_Parse_H1000006  ) := by
 unfold r27_Parse_c6 at h
 obtain rfl := si_ h
 exact run_ret mixed (L := []) (n := 13) (s := [.reg [], .wk [] [(0, .var [Z1_, Z8_, Z8_, Z8_, .bool false, Z1_, Z4_, Z1_, Z1_, Z4_, Z4_, Z1_, Z1_, Z1_, Z1_, Z1_, Z1_, Z1_, Z1_, .str [], Z1_, Z1_, zn_, Z8_, .nilsl])], .wk [] [(0, .var (c_T_r27_Step (T_r27_Step.mk 0 0 0 0 false (T_r27_Call.mk 0 0 0 (T_api_Tx.mk 0 0 0) (A8.mk 0 0 0 0 0 0 0 0) [] 0 0 ([] : List (Int))) 0 ([] : List (Int)))))]])
  (a_ (a_ (a_ (a_ (Eq.refl true) tr) (a_ (a_ (a_ (Eq.refl 25) (a_ (le_ 25 25 rfl) (Eq.refl 0))) tr) (r1_ tr))) (a_ (a_ tr (a_ (LO.Sub.var (lel_set [Z1_, Z8_, Z8_, Z8_, .bool false, Z1_, Z4_, Z1_, Z1_, Z4_, Z4_, Z1_, Z1_, Z1_, Z1_, Z1_, Z1_, Z1_, Z1_, .str [], Z1_, Z1_, .nilsl, Z8_, .nilsl] 22 .nilsl zn_ rfl (le_nil_ds 1 (rowF (cInt .u8) default [])))) tr)) (a_ (a_ tr (a_ (LO.Sub.var (lel_set [Z1_, Z8_, Z8_, Z8_, .bool false, Z1_, Z4_, Z1_, Z1_, Z4_, Z4_, Z1_, Z1_, Z1_, Z1_, Z1_, Z1_, Z1_, Z1_, .str [], Z1_, Z1_, zn_, Z8_, .nilsl] 24 .nilsl zn_ rfl (le_nil_ds 1 (rowF (cInt .u8) default [])))) tr)) tr))) (a_ (a_ tr (le_ 25 25 rfl)) tr)) (by kernel_rfl) rfl
theorem r27_Parse_c7_ok {w0 : World} {W : Nat → Prop} {μ0 : Emb} (hμ : ∀ c p, μ0 c = some p → c < 0) (y5 : (T_r27_Step))   (r : (T_r27_Step) × (Int)) (h : r27_Parse_c7 y5   = some r) : kont Tryz.prog w0 W μ0 (FnPost Tryz.prog Tryz.f7 0 0 (r27_Parse_v r) []) (kAtR (bodyOf Tryz.f7) 7) none (r27_Parse_T1000007 y5 ) (r27_Parse_H1000007 y5 ) := by
 unfold r27_Parse_c7 at h
 obtain rfl := si_ h
 exact run_ret mixed (L := []) (n := 11) (s := [.reg []])
  (a_ (a_ (m_ 25 25 rfl (a_ (a_ (a_ (Eq.refl 25) (a_ (le_ 25 25 rfl) (Eq.refl 0))) tr) (r1_ tr))) tr) (a_ (a_ tr (le_ 25 25 rfl)) tr)) (by kernel_rfl) rfl
theorem r27_Parse_ok (line : List UInt8) (r : (T_r27_Step) × (Int)) (h : r27_Parse line = some r) : ∀ σ, Inj 0 σ → FnTri Tryz.prog 7 (renL σ [.str line]) (preOf σ 0 []) ((r27_Parse_v r).ren σ) (upOf σ []) := by
 refine fn_of Tryz.func7 (by kernel_rfl) (by kernel_rfl) (by kernel_rfl) trivial (by kernel_rfl) trivial (by kernel_rfl) ?_
 intro w0 W μ0 hμ
 unfold r27_Parse at h
 rcases itb_some h with ⟨c1, h⟩ | ⟨c1, h⟩
 ·skip
  obtain rfl := si_ h
  exact run_ret mixed (L := []) (n := 22) (s := [.reg [], .reg [(2, hT)], .reg [], .wk [] [(0, .var [Z1_, Z8_, Z8_, Z8_, .bool false, Z1_, Z4_, Z1_, Z1_, Z4_, Z4_, Z1_, Z1_, Z1_, Z1_, Z1_, Z1_, Z1_, Z1_, .str [], Z1_, Z1_, zn_, Z8_, .nilsl])], .wk [] [(0, .var (c_T_r27_Step (T_r27_Step.mk 0 0 0 0 false (T_r27_Call.mk 0 0 0 (T_api_Tx.mk 0 0 0) (A8.mk 0 0 0 0 0 0 0 0) [] 0 0 ([] : List (Int))) 0 ([] : List (Int)))))]])
   (a_ (a_ (r2_ tr) (a_ (r2_ (f_ c1 tr)) (a_ (a_ (a_ (Eq.refl true) tr) (a_ (a_ (a_ (Eq.refl 25) (a_ (le_ 25 25 rfl) (Eq.refl 0))) tr) (r1_ tr))) (a_ (a_ tr (a_ (LO.Sub.var (lel_set [Z1_, Z8_, Z8_, Z8_, .bool false, Z1_, Z4_, Z1_, Z1_, Z4_, Z4_, Z1_, Z1_, Z1_, Z1_, Z1_, Z1_, Z1_, Z1_, .str [], Z1_, Z1_, .nilsl, Z8_, .nilsl] 22 .nilsl zn_ rfl (le_nil_ds 1 (rowF (cInt .u8) default [])))) tr)) (a_ (a_ tr (a_ (LO.Sub.var (lel_set [Z1_, Z8_, Z8_, Z8_, .bool false, Z1_, Z4_, Z1_, Z1_, Z4_, Z4_, Z1_, Z1_, Z1_, Z1_, Z1_, Z1_, Z1_, Z1_, .str [], Z1_, Z1_, zn_, Z8_, .nilsl] 24 .nilsl zn_ rfl (le_nil_ds 1 (rowF (cInt .u8) default [])))) tr)) tr))))) (a_ (a_ tr (le_ 25 25 rfl)) tr)) (by kernel_rfl) rfl
 ·skip
  obtain ⟨y3, e2, h⟩ := bind_some h
  obtain ⟨y5, e4, h⟩ := bind_some h
  obtain ⟨y7, e6, h⟩ := bind_some h
  rcases itb_some h with ⟨c8, h⟩ | ⟨c8, h⟩
  ·skip
   exact run_to mixed hμ (L := [0]) (n := 30) (s := [.reg [], .reg [(2, hF)], .reg [(1, hC (r27_split_v y3)), (2, hC (r27_guess_v y5))], .reg [(1, hC (r27_Line_v y7))], .reg [(2, hT)]])
    (a_ (r2_ tr) (a_ (r2_ (f_ c1 tr)) (a_ (r1_ (c_ (r27_split_tri line 32 y3 e2) (c_ (r27_guess_tri y3 y5 e4) (r1_ (a_ (a_ (a_ (Eq.refl 25) (a_ (le_ 25 25 rfl) (Eq.refl 0))) tr) tr))))) (a_ (m_ 25 25 rfl (c_ (r27_Line_tri y5 y7 e6) (r1_ (r4_ tr)))) (a_ (r2_ (f_ c8 (a_ tr (t2_ (r1_ tr))))) tr))))) (r27_Parse_c6_ok hμ    r h) (by kernel_rfl) ⟨rfl, trivial⟩
  ·skip
   rcases itb_some h with ⟨c9, h⟩ | ⟨c9, h⟩
   ·skip
    exact run_to mixed hμ (L := [0]) (n := 30) (s := [.reg [], .reg [(2, hF)], .reg [(1, hC (r27_split_v y3)), (2, hC (r27_guess_v y5))], .reg [(1, hC (r27_Line_v y7))], .reg [(2, hF), (6, hT)]])
     (a_ (r2_ tr) (a_ (r2_ (f_ c1 tr)) (a_ (r1_ (c_ (r27_split_tri line 32 y3 e2) (c_ (r27_guess_tri y3 y5 e4) (r1_ (a_ (a_ (a_ (Eq.refl 25) (a_ (le_ 25 25 rfl) (Eq.refl 0))) tr) tr))))) (a_ (m_ 25 25 rfl (c_ (r27_Line_tri y5 y7 e6) (r1_ (r4_ tr)))) (a_ (r2_ (f_ c8 (r1_ (r2_ (f_ c9 tr))))) tr))))) (r27_Parse_c6_ok hμ    r h) (by kernel_rfl) ⟨rfl, trivial⟩
   ·skip
    exact run_to mixed hμ (L := [0, 1]) (n := 31) (s := [.reg [], .reg [(2, hF)], .reg [(1, hC (r27_split_v y3)), (2, hC (r27_guess_v y5))], .reg [(1, hC (r27_Line_v y7))], .reg [(2, hF), (6, hF)]])
     (a_ (r2_ tr) (a_ (r2_ (f_ c1 tr)) (a_ (r1_ (c_ (r27_split_tri line 32 y3 e2) (c_ (r27_guess_tri y3 y5 e4) (r1_ (a_ (a_ (a_ (Eq.refl 25) (a_ (le_ 25 25 rfl) (Eq.refl 0))) tr) tr))))) (a_ (m_ 25 25 rfl (c_ (r27_Line_tri y5 y7 e6) (r1_ (r4_ tr)))) (a_ (r2_ (f_ c8 (r1_ (r2_ (f_ c9 tr))))) tr))))) (r27_Parse_c7_ok hμ y5   r h) (by kernel_rfl) ⟨rfl, rfl, trivial⟩
theorem r27_Parse_tri (line : List UInt8) (r : (T_r27_Step) × (Int)) (h : r27_Parse line = some r) : FnTri Tryz.prog 7 [.str line] [] (r27_Parse_v r) [] := FnTri.none (r27_Parse_ok line r h) rfl rfl
def parrellaw27_ours_v (r : (T_r27_Step)) : LV := v_T_r27_Step r
def parrellaw27_ours (s : T_script_Step) : Option ((T_r27_Step)) :=
 some (T_r27_Step.mk s.f_Kind s.f_Node s.f_Wire s.f_N s.f_Cut (T_r27_Call.mk s.f_Call.f_Call.f_Client s.f_Call.f_Call.f_Seq s.f_Call.f_Kind s.f_Call.f_Tx s.f_Call.f_Key s.f_Call.f_Value s.f_Call.f_R s.f_Call.f_W s.f_Call.f_Votes) s.f_To s.f_Bytes)
theorem parrellaw27_ours_ok (s : T_script_Step) (r : (T_r27_Step)) (h : parrellaw27_ours s = some r) : ∀ σ, Inj 0 σ → FnTri Tryz.prog 9 (renL σ [v_T_script_Step s]) (preOf σ 0 []) ((parrellaw27_ours_v r).ren σ) (upOf σ []) := by
 refine fn_of Tryz.func9 (by kernel_rfl) (by kernel_rfl) (by kernel_rfl) trivial (by kernel_rfl) trivial (by kernel_rfl) ?_
 intro w0 W μ0 hμ
 unfold parrellaw27_ours at h
 obtain rfl := si_ h
 exact run_ret mixed (L := []) (n := 18) (s := [.reg [], .reg [], .reg []])
  (a_ (a_ (r2_ tr) (a_ (r1_ (m_ 23 25 rfl (r1_ (a_ (a_ (a_ (Eq.refl 18) (a_ (le_ 18 18 rfl) (Eq.refl 0))) tr) tr)))) (a_ (r1_ (l_ 0 25 rfl (r1_ (l_ 1 25 rfl (r1_ (l_ 2 25 rfl (r1_ (l_ 3 25 rfl (r1_ (l_ 4 25 rfl (r1_ (l_ 23 25 rfl (r1_ (l_ 24 25 rfl (r2_ (l_ 0 18 rfl (r2_ (l_ 1 18 rfl (r1_ (l_ 2 18 rfl (r1_ (m_ 6 18 rfl (r1_ (m_ 14 18 rfl (r1_ (l_ 14 18 rfl (r1_ (l_ 15 18 rfl (r1_ (l_ 16 18 rfl (r1_ (l_ 17 18 rfl (a_ (a_ (Eq.refl true) tr) (a_ (a_ (Eq.refl true) tr) (a_ (a_ (a_ (Eq.refl 25) (a_ (le_ 25 25 rfl) (Eq.refl 0))) tr) tr))))))))))))))))))))))))))))))))))) tr))) (a_ (a_ tr (le_ 25 25 rfl)) tr)) (by kernel_rfl) rfl
theorem parrellaw27_ours_tri (s : T_script_Step) (r : (T_r27_Step)) (h : parrellaw27_ours s = some r) : FnTri Tryz.prog 9 [v_T_script_Step s] [] (parrellaw27_ours_v r) [] := FnTri.none (parrellaw27_ours_ok s r h) rfl rfl
def parrellaw27_ScriptReads_v (r : (Bool)) : LV := .bool r
def parrellaw27_ScriptReads (line : List UInt8) : Option ((Bool)) :=
 if ((decide (3000 < ((line).length : Int))) : Bool) then
  if ((decide (((line).length : Int) ≤ 16384)) : Bool) then
   (parrellaw27_alive).bind fun y4 =>
   some y4
  else
   (script_Parse line).bind fun y5 =>
   (r27_Parse line).bind fun y7 =>
   (parrellaw27_ours y5.1).bind fun y9 =>
   (r27_Same y9 y7.1).bind fun y11 =>
   if (y11 : Bool) then
    if ((y5.2 == y7.2) : Bool) then
     (parrellaw27_alive).bind fun y15 =>
     some y15
    else
     some false
   else
    some false
 else
  (script_Parse line).bind fun y3 =>
  (r27_Parse line).bind fun y6 =>
  (parrellaw27_ours y3.1).bind fun y8 =>
  (r27_Same y8 y6.1).bind fun y10 =>
  if (y10 : Bool) then
   if ((y3.2 == y6.2) : Bool) then
    (parrellaw27_alive).bind fun y14 =>
    some y14
   else
    some false
  else
   some false
theorem parrellaw27_ScriptReads_ok (line : List UInt8) (r : (Bool)) (h : parrellaw27_ScriptReads line = some r) : ∀ σ, Inj 0 σ → FnTri Tryz.prog 3 (renL σ [.str line]) (preOf σ 0 []) ((parrellaw27_ScriptReads_v r).ren σ) (upOf σ []) := by
 refine fn_of Tryz.func3 (by kernel_rfl) (by kernel_rfl) (by kernel_rfl) trivial (by kernel_rfl) trivial (by kernel_rfl) ?_
 intro w0 W μ0 hμ
 unfold parrellaw27_ScriptReads at h
 rcases itb_some h with ⟨c1, h⟩ | ⟨c1, h⟩
 ·skip
  rcases itb_some h with ⟨c2, h⟩ | ⟨c2, h⟩
  ·skip
   obtain ⟨y4, e3, h⟩ := bind_some h
   obtain rfl := si_ h
   exact run_ret mixed (L := []) (n := 20) (s := [.reg [], .reg [(3, hT), (7, hT)], .reg [(0, hC (parrellaw27_alive_v y4))]])
    (a_ (a_ (r1_ tr) (a_ (r1_ (r2_ (f_ c1 (r1_ (r2_ (f_ c2 tr)))))) (a_ (c_ (parrellaw27_alive_tri  y4 e3) (r1_ tr)) tr))) tr) (by kernel_rfl) rfl
  ·skip
   obtain ⟨y5, e3, h⟩ := bind_some h
   obtain ⟨y7, e6, h⟩ := bind_some h
   obtain ⟨y9, e8, h⟩ := bind_some h
   obtain ⟨y11, e10, h⟩ := bind_some h
   rcases itb_some h with ⟨c12, h⟩ | ⟨c12, h⟩
   ·skip
    rcases itb_some h with ⟨c13, h⟩ | ⟨c13, h⟩
    ·skip
     obtain ⟨y15, e14, h⟩ := bind_some h
     obtain rfl := si_ h
     exact run_ret mixed (L := []) (n := 27) (s := [.reg [], .reg [(3, hT), (7, hF)], .reg [(1, hC (script_Parse_v y5))], .reg [(1, hC (r27_Parse_v y7))], .reg [(1, hC (parrellaw27_ours_v y9)), (3, hC (r27_Same_v y11)), (4, hT), (9, hT), (10, hC (parrellaw27_alive_v y15))]])
      (a_ (a_ (r1_ tr) (a_ (r1_ (r2_ (f_ c1 (r1_ (r2_ (f_ c2 tr)))))) (a_ (r1_ (c_ (script_Parse_tri line y5 e3) (r4_ (a_ (a_ (a_ (Eq.refl 25) (a_ (le_ 25 25 rfl) (Eq.refl 0))) tr) (r1_ tr))))) (a_ (r1_ (c_ (r27_Parse_tri line y7 e6) (r4_ (a_ (a_ (a_ (Eq.refl 25) (a_ (le_ 25 25 rfl) (Eq.refl 0))) tr) (r1_ tr))))) (a_ (m_ 25 25 rfl (c_ (parrellaw27_ours_tri y5.1 y9 e8) (m_ 25 25 rfl (c_ (r27_Same_tri y9 y7.1 y11 e10) (f_ c12 (r4_ (f_ c13 (c_ (parrellaw27_alive_tri  y15 e14) (r2_ tr))))))))) tr))))) tr) (by kernel_rfl) rfl
    ·skip
     obtain rfl := si_ h
     exact run_ret mixed (L := []) (n := 27) (s := [.reg [], .reg [(3, hT), (7, hF)], .reg [(1, hC (script_Parse_v y5))], .reg [(1, hC (r27_Parse_v y7))], .reg [(1, hC (parrellaw27_ours_v y9)), (3, hC (r27_Same_v y11)), (4, hT), (9, hF)]])
      (a_ (a_ (r1_ tr) (a_ (r1_ (r2_ (f_ c1 (r1_ (r2_ (f_ c2 tr)))))) (a_ (r1_ (c_ (script_Parse_tri line y5 e3) (r4_ (a_ (a_ (a_ (Eq.refl 25) (a_ (le_ 25 25 rfl) (Eq.refl 0))) tr) (r1_ tr))))) (a_ (r1_ (c_ (r27_Parse_tri line y7 e6) (r4_ (a_ (a_ (a_ (Eq.refl 25) (a_ (le_ 25 25 rfl) (Eq.refl 0))) tr) (r1_ tr))))) (a_ (m_ 25 25 rfl (c_ (parrellaw27_ours_tri y5.1 y9 e8) (m_ 25 25 rfl (c_ (r27_Same_tri y9 y7.1 y11 e10) (f_ c12 (r4_ (f_ c13 (a_ tr (r2_ tr))))))))) tr))))) tr) (by kernel_rfl) rfl
   ·skip
    obtain rfl := si_ h
    exact run_ret mixed (L := []) (n := 27) (s := [.reg [], .reg [(3, hT), (7, hF)], .reg [(1, hC (script_Parse_v y5))], .reg [(1, hC (r27_Parse_v y7))], .reg [(1, hC (parrellaw27_ours_v y9)), (3, hC (r27_Same_v y11)), (4, hF)]])
     (a_ (a_ (r1_ tr) (a_ (r1_ (r2_ (f_ c1 (r1_ (r2_ (f_ c2 tr)))))) (a_ (r1_ (c_ (script_Parse_tri line y5 e3) (r4_ (a_ (a_ (a_ (Eq.refl 25) (a_ (le_ 25 25 rfl) (Eq.refl 0))) tr) (r1_ tr))))) (a_ (r1_ (c_ (r27_Parse_tri line y7 e6) (r4_ (a_ (a_ (a_ (Eq.refl 25) (a_ (le_ 25 25 rfl) (Eq.refl 0))) tr) (r1_ tr))))) (a_ (m_ 25 25 rfl (c_ (parrellaw27_ours_tri y5.1 y9 e8) (m_ 25 25 rfl (c_ (r27_Same_tri y9 y7.1 y11 e10) (f_ c12 (a_ tr (t2_ (r2_ (a_ tr (r2_ tr)))))))))) tr))))) tr) (by kernel_rfl) rfl
 ·skip
  obtain ⟨y3, e2, h⟩ := bind_some h
  obtain ⟨y6, e4, h⟩ := bind_some h
  obtain ⟨y8, e7, h⟩ := bind_some h
  obtain ⟨y10, e9, h⟩ := bind_some h
  rcases itb_some h with ⟨c11, h⟩ | ⟨c11, h⟩
  ·skip
   rcases itb_some h with ⟨c12, h⟩ | ⟨c12, h⟩
   ·skip
    obtain ⟨y14, e13, h⟩ := bind_some h
    obtain rfl := si_ h
    exact run_ret mixed (L := []) (n := 27) (s := [.reg [], .reg [(3, hF)], .reg [(1, hC (script_Parse_v y3))], .reg [(1, hC (r27_Parse_v y6))], .reg [(1, hC (parrellaw27_ours_v y8)), (3, hC (r27_Same_v y10)), (4, hT), (9, hT), (10, hC (parrellaw27_alive_v y14))]])
     (a_ (a_ (r1_ tr) (a_ (r1_ (r2_ (f_ c1 (a_ tr (t2_ (r1_ tr)))))) (a_ (r1_ (c_ (script_Parse_tri line y3 e2) (r4_ (a_ (a_ (a_ (Eq.refl 25) (a_ (le_ 25 25 rfl) (Eq.refl 0))) tr) (r1_ tr))))) (a_ (r1_ (c_ (r27_Parse_tri line y6 e4) (r4_ (a_ (a_ (a_ (Eq.refl 25) (a_ (le_ 25 25 rfl) (Eq.refl 0))) tr) (r1_ tr))))) (a_ (m_ 25 25 rfl (c_ (parrellaw27_ours_tri y3.1 y8 e7) (m_ 25 25 rfl (c_ (r27_Same_tri y8 y6.1 y10 e9) (f_ c11 (r4_ (f_ c12 (c_ (parrellaw27_alive_tri  y14 e13) (r2_ tr))))))))) tr))))) tr) (by kernel_rfl) rfl
   ·skip
    obtain rfl := si_ h
    exact run_ret mixed (L := []) (n := 27) (s := [.reg [], .reg [(3, hF)], .reg [(1, hC (script_Parse_v y3))], .reg [(1, hC (r27_Parse_v y6))], .reg [(1, hC (parrellaw27_ours_v y8)), (3, hC (r27_Same_v y10)), (4, hT), (9, hF)]])
     (a_ (a_ (r1_ tr) (a_ (r1_ (r2_ (f_ c1 (a_ tr (t2_ (r1_ tr)))))) (a_ (r1_ (c_ (script_Parse_tri line y3 e2) (r4_ (a_ (a_ (a_ (Eq.refl 25) (a_ (le_ 25 25 rfl) (Eq.refl 0))) tr) (r1_ tr))))) (a_ (r1_ (c_ (r27_Parse_tri line y6 e4) (r4_ (a_ (a_ (a_ (Eq.refl 25) (a_ (le_ 25 25 rfl) (Eq.refl 0))) tr) (r1_ tr))))) (a_ (m_ 25 25 rfl (c_ (parrellaw27_ours_tri y3.1 y8 e7) (m_ 25 25 rfl (c_ (r27_Same_tri y8 y6.1 y10 e9) (f_ c11 (r4_ (f_ c12 (a_ tr (r2_ tr))))))))) tr))))) tr) (by kernel_rfl) rfl
  ·skip
   obtain rfl := si_ h
   exact run_ret mixed (L := []) (n := 27) (s := [.reg [], .reg [(3, hF)], .reg [(1, hC (script_Parse_v y3))], .reg [(1, hC (r27_Parse_v y6))], .reg [(1, hC (parrellaw27_ours_v y8)), (3, hC (r27_Same_v y10)), (4, hF)]])
    (a_ (a_ (r1_ tr) (a_ (r1_ (r2_ (f_ c1 (a_ tr (t2_ (r1_ tr)))))) (a_ (r1_ (c_ (script_Parse_tri line y3 e2) (r4_ (a_ (a_ (a_ (Eq.refl 25) (a_ (le_ 25 25 rfl) (Eq.refl 0))) tr) (r1_ tr))))) (a_ (r1_ (c_ (r27_Parse_tri line y6 e4) (r4_ (a_ (a_ (a_ (Eq.refl 25) (a_ (le_ 25 25 rfl) (Eq.refl 0))) tr) (r1_ tr))))) (a_ (m_ 25 25 rfl (c_ (parrellaw27_ours_tri y3.1 y8 e7) (m_ 25 25 rfl (c_ (r27_Same_tri y8 y6.1 y10 e9) (f_ c11 (a_ tr (t2_ (r2_ (a_ tr (r2_ tr)))))))))) tr))))) tr) (by kernel_rfl) rfl
theorem parrellaw27_ScriptReads_tri (line : List UInt8) (r : (Bool)) (h : parrellaw27_ScriptReads line = some r) : FnTri Tryz.prog 3 [.str line] [] (parrellaw27_ScriptReads_v r) [] := FnTri.none (parrellaw27_ScriptReads_ok line r h) rfl rfl
end Go.Proofs.YtdchgoaokceomaaGreatDoor.Wk
