/- Printed by tr.py: Go functions as Lean functions, with the proofs that they walk so. -/
import Derived.Test.YtdchgoaokceomaaGreatDoorTexWa
namespace Go.Proofs.YtdchgoaokceomaaGreatDoor.Wk
open Go Go.Cn Go.RowKit
set_option maxRecDepth 100000
set_option maxHeartbeats 4000000
set_option linter.unusedVariables false
set_option linter.unusedSimpArgs false
noncomputable section
/-- parrel/script.sameCall -/
def script_sameCall_v (r : (Bool)) : LV := .bool r
def script_sameCall (a : TN) (b : TN) : Option ((Bool)) :=
 if ((decide (a.f_Call = b.f_Call)) : Bool) then
  if ((a.f_Kind == b.f_Kind) : Bool) then
   if ((decide (a.f_Tx = b.f_Tx)) : Bool) then
    if ((decide (a.f_Key = b.f_Key)) : Bool) then
     if ((a.f_Value == b.f_Value) : Bool) then
      if ((a.f_R == b.f_R) : Bool) then
       if ((a.f_W == b.f_W) : Bool) then
        (slices_Equal_uint8_uint8 a.f_Votes b.f_Votes).bind fun y9 =>
        some y9
       else
        some false
      else
       some false
     else
      some false
    else
     some false
   else
    some false
  else
   some false
 else
  some false
theorem script_sameCall_ok (a : TN) (b : TN) (r : (Bool)) (h : script_sameCall a b = some r) : ∀ σ, Inj 0 σ → FnTri Tryz.prog 71 (renL σ [v_TN a, v_TN b]) (preOf σ 0 []) ((script_sameCall_v r).ren σ) (upOf σ []) := by
 refine fo_ Tryz.func71 trivial trivial ?_
 intro w0 W μ0 hμ
 unfold script_sameCall at h
 rcases itb_some h with ⟨c1, h⟩ | ⟨c1, h⟩
 ·rcases itb_some h with ⟨c2, h⟩ | ⟨c2, h⟩
  ·rcases itb_some h with ⟨c3, h⟩ | ⟨c3, h⟩
   ·rcases itb_some h with ⟨c4, h⟩ | ⟨c4, h⟩
    ·rcases itb_some h with ⟨c5, h⟩ | ⟨c5, h⟩
     ·rcases itb_some h with ⟨c6, h⟩ | ⟨c6, h⟩
      ·rcases itb_some h with ⟨c7, h⟩ | ⟨c7, h⟩
       ·obtain ⟨y9, e8, h⟩ := bind_some h
        obtain rfl := si_ h
        exact rr_ [] 15 [.reg [], .reg [(4, { v := some (.bool (decide (a.f_Call = b.f_Call))) }), (5, hT), (12, hT), (17, { v := some (.bool (decide (a.f_Tx = b.f_Tx))) }), (19, hT), (24, { v := some (.bool (decide (a.f_Key = b.f_Key))) }), (26, hT), (33, hT), (40, hT), (47, hT), (52, hC (slices_Equal_uint8_uint8_v y9))]]
         (a_ (a_ (r1_ (r2_ tr)) (a_ (r1_ (m_ 2 18 rfl (r1_ (m_ 2 18 rfl (a_ (a_ tr (a_ (leB (k_TE a.f_Call b.f_Call)) tr)) (f_ c1 (r1_ (l_ 2 18 rfl (r1_ (l_ 2 18 rfl (r2_ (f_ c2 (r1_ (m_ 6 18 rfl (r1_ (m_ 6 18 rfl (a_ (a_ tr (a_ (leB (k_TX a.f_Tx b.f_Tx)) tr)) (r1_ (f_ c3 (r1_ (m_ 14 18 rfl (r1_ (m_ 14 18 rfl (a_ (a_ tr (a_ (leB ((k_arr8 .u8) a.f_Key b.f_Key)) tr)) (r1_ (f_ c4 (r1_ (l_ 14 18 rfl (r1_ (l_ 14 18 rfl (r2_ (f_ c5 (r1_ (l_ 15 18 rfl (r1_ (l_ 15 18 rfl (r2_ (f_ c6 (r1_ (l_ 16 18 rfl (r1_ (l_ 16 18 rfl (r2_ (f_ c7 (r1_ (l_ 17 18 rfl (r1_ (l_ 17 18 rfl (c_ (slices_Equal_uint8_uint8_tri a.f_Votes b.f_Votes y9 e8) (r2_ tr)))))))))))))))))))))))))))))))))))))))))))))))))) tr)) tr)
       ·obtain rfl := si_ h
        exact rr_ [] 15 [.reg [], .reg [(4, { v := some (.bool (decide (a.f_Call = b.f_Call))) }), (5, hT), (12, hT), (17, { v := some (.bool (decide (a.f_Tx = b.f_Tx))) }), (19, hT), (24, { v := some (.bool (decide (a.f_Key = b.f_Key))) }), (26, hT), (33, hT), (40, hT), (47, hF)]]
         (a_ (a_ (r1_ (r2_ tr)) (a_ (r1_ (m_ 2 18 rfl (r1_ (m_ 2 18 rfl (a_ (a_ tr (a_ (leB (k_TE a.f_Call b.f_Call)) tr)) (f_ c1 (r1_ (l_ 2 18 rfl (r1_ (l_ 2 18 rfl (r2_ (f_ c2 (r1_ (m_ 6 18 rfl (r1_ (m_ 6 18 rfl (a_ (a_ tr (a_ (leB (k_TX a.f_Tx b.f_Tx)) tr)) (r1_ (f_ c3 (r1_ (m_ 14 18 rfl (r1_ (m_ 14 18 rfl (a_ (a_ tr (a_ (leB ((k_arr8 .u8) a.f_Key b.f_Key)) tr)) (r1_ (f_ c4 (r1_ (l_ 14 18 rfl (r1_ (l_ 14 18 rfl (r2_ (f_ c5 (r1_ (l_ 15 18 rfl (r1_ (l_ 15 18 rfl (r2_ (f_ c6 (r1_ (l_ 16 18 rfl (r1_ (l_ 16 18 rfl (r2_ (f_ c7 (a_ tr (t4_ (r2_ tr))))))))))))))))))))))))))))))))))))))))))))))) tr)) tr)
      ·obtain rfl := si_ h
       exact rr_ [] 15 [.reg [], .reg [(4, { v := some (.bool (decide (a.f_Call = b.f_Call))) }), (5, hT), (12, hT), (17, { v := some (.bool (decide (a.f_Tx = b.f_Tx))) }), (19, hT), (24, { v := some (.bool (decide (a.f_Key = b.f_Key))) }), (26, hT), (33, hT), (40, hF)]]
        (a_ (a_ (r1_ (r2_ tr)) (a_ (r1_ (m_ 2 18 rfl (r1_ (m_ 2 18 rfl (a_ (a_ tr (a_ (leB (k_TE a.f_Call b.f_Call)) tr)) (f_ c1 (r1_ (l_ 2 18 rfl (r1_ (l_ 2 18 rfl (r2_ (f_ c2 (r1_ (m_ 6 18 rfl (r1_ (m_ 6 18 rfl (a_ (a_ tr (a_ (leB (k_TX a.f_Tx b.f_Tx)) tr)) (r1_ (f_ c3 (r1_ (m_ 14 18 rfl (r1_ (m_ 14 18 rfl (a_ (a_ tr (a_ (leB ((k_arr8 .u8) a.f_Key b.f_Key)) tr)) (r1_ (f_ c4 (r1_ (l_ 14 18 rfl (r1_ (l_ 14 18 rfl (r2_ (f_ c5 (r1_ (l_ 15 18 rfl (r1_ (l_ 15 18 rfl (r2_ (f_ c6 (a_ tr (t4_ (r2_ (a_ tr (t4_ (r2_ tr)))))))))))))))))))))))))))))))))))))))))))) tr)) tr)
     ·obtain rfl := si_ h
      exact rr_ [] 15 [.reg [], .reg [(4, { v := some (.bool (decide (a.f_Call = b.f_Call))) }), (5, hT), (12, hT), (17, { v := some (.bool (decide (a.f_Tx = b.f_Tx))) }), (19, hT), (24, { v := some (.bool (decide (a.f_Key = b.f_Key))) }), (26, hT), (33, hF)]]
       (a_ (a_ (r1_ (r2_ tr)) (a_ (r1_ (m_ 2 18 rfl (r1_ (m_ 2 18 rfl (a_ (a_ tr (a_ (leB (k_TE a.f_Call b.f_Call)) tr)) (f_ c1 (r1_ (l_ 2 18 rfl (r1_ (l_ 2 18 rfl (r2_ (f_ c2 (r1_ (m_ 6 18 rfl (r1_ (m_ 6 18 rfl (a_ (a_ tr (a_ (leB (k_TX a.f_Tx b.f_Tx)) tr)) (r1_ (f_ c3 (r1_ (m_ 14 18 rfl (r1_ (m_ 14 18 rfl (a_ (a_ tr (a_ (leB ((k_arr8 .u8) a.f_Key b.f_Key)) tr)) (r1_ (f_ c4 (r1_ (l_ 14 18 rfl (r1_ (l_ 14 18 rfl (r2_ (f_ c5 (a_ tr (t4_ (r2_ (a_ tr (t4_ (r2_ (a_ tr (t4_ (r2_ tr))))))))))))))))))))))))))))))))))))))))) tr)) tr)
    ·obtain rfl := si_ h
     exact rr_ [] 15 [.reg [], .reg [(4, { v := some (.bool (decide (a.f_Call = b.f_Call))) }), (5, hT), (12, hT), (17, { v := some (.bool (decide (a.f_Tx = b.f_Tx))) }), (19, hT), (24, { v := some (.bool (decide (a.f_Key = b.f_Key))) }), (26, hF)]]
      (a_ (a_ (r1_ (r2_ tr)) (a_ (r1_ (m_ 2 18 rfl (r1_ (m_ 2 18 rfl (a_ (a_ tr (a_ (leB (k_TE a.f_Call b.f_Call)) tr)) (f_ c1 (r1_ (l_ 2 18 rfl (r1_ (l_ 2 18 rfl (r2_ (f_ c2 (r1_ (m_ 6 18 rfl (r1_ (m_ 6 18 rfl (a_ (a_ tr (a_ (leB (k_TX a.f_Tx b.f_Tx)) tr)) (r1_ (f_ c3 (r1_ (m_ 14 18 rfl (r1_ (m_ 14 18 rfl (a_ (a_ tr (a_ (leB ((k_arr8 .u8) a.f_Key b.f_Key)) tr)) (r1_ (f_ c4 (a_ tr (t4_ (r2_ (a_ tr (t4_ (r2_ (a_ tr (t4_ (r2_ (a_ tr (t4_ (r2_ tr)))))))))))))))))))))))))))))))))))))) tr)) tr)
   ·obtain rfl := si_ h
    exact rr_ [] 15 [.reg [], .reg [(4, { v := some (.bool (decide (a.f_Call = b.f_Call))) }), (5, hT), (12, hT), (17, { v := some (.bool (decide (a.f_Tx = b.f_Tx))) }), (19, hF)]]
     (a_ (a_ (r1_ (r2_ tr)) (a_ (r1_ (m_ 2 18 rfl (r1_ (m_ 2 18 rfl (a_ (a_ tr (a_ (leB (k_TE a.f_Call b.f_Call)) tr)) (f_ c1 (r1_ (l_ 2 18 rfl (r1_ (l_ 2 18 rfl (r2_ (f_ c2 (r1_ (m_ 6 18 rfl (r1_ (m_ 6 18 rfl (a_ (a_ tr (a_ (leB (k_TX a.f_Tx b.f_Tx)) tr)) (r1_ (f_ c3 (a_ tr (t4_ (r2_ (a_ tr (t4_ (r2_ (a_ tr (t4_ (r2_ (a_ tr (t4_ (r2_ (a_ tr (t4_ (r2_ tr)))))))))))))))))))))))))))))))))) tr)) tr)
  ·obtain rfl := si_ h
   exact rr_ [] 15 [.reg [], .reg [(4, { v := some (.bool (decide (a.f_Call = b.f_Call))) }), (5, hT), (12, hF)]]
    (a_ (a_ (r1_ (r2_ tr)) (a_ (r1_ (m_ 2 18 rfl (r1_ (m_ 2 18 rfl (a_ (a_ tr (a_ (leB (k_TE a.f_Call b.f_Call)) tr)) (f_ c1 (r1_ (l_ 2 18 rfl (r1_ (l_ 2 18 rfl (r2_ (f_ c2 (a_ tr (t4_ (r2_ (a_ tr (t4_ (r2_ (a_ tr (t4_ (r2_ (a_ tr (t4_ (r2_ (a_ tr (t4_ (r2_ (a_ tr (t4_ (r2_ tr)))))))))))))))))))))))))))))) tr)) tr)
 ·obtain rfl := si_ h
  exact rr_ [] 15 [.reg [], .reg [(4, { v := some (.bool (decide (a.f_Call = b.f_Call))) }), (5, hF)]]
   (a_ (a_ (r1_ (r2_ tr)) (a_ (r1_ (m_ 2 18 rfl (r1_ (m_ 2 18 rfl (a_ (a_ tr (a_ (leB (k_TE a.f_Call b.f_Call)) tr)) (f_ c1 (a_ tr (t4_ (r2_ (a_ tr (t4_ (r2_ (a_ tr (t4_ (r2_ (a_ tr (t4_ (r2_ (a_ tr (t4_ (r2_ (a_ tr (t4_ (r2_ (a_ tr (t4_ (r2_ tr))))))))))))))))))))))))))) tr)) tr)
theorem script_sameCall_tri (a : TN) (b : TN) (r : (Bool)) (h : script_sameCall a b = some r) : FnTri Tryz.prog 71 [v_TN a, v_TN b] [] (script_sameCall_v r) [] := FnTri.none (script_sameCall_ok a b r h) rfl rfl
/-- bytes.Equal -/
def bytes_Equal_v (r : (Bool)) : LV := .bool r
def bytes_Equal (a : List (Int)) (b : List (Int)) : Option ((Bool)) :=
 some ((strI a) == (strI b))
theorem bytes_Equal_ok (a : List (Int)) (b : List (Int)) (r : (Bool)) (h : bytes_Equal a b = some r) : ∀ σ, Inj 0 σ → FnTri Tryz.prog 72 (renL σ [.ds 1 (a).length (rowF (cInt .u8) default a), .ds 1 (b).length (rowF (cInt .u8) default b)]) (preOf σ 0 []) ((bytes_Equal_v r).ren σ) (upOf σ []) := by
 refine fo_ Tryz.func72 trivial trivial ?_
 intro w0 W μ0 hμ
 unfold bytes_Equal at h
 obtain rfl := si_ h
 exact rr_ [] 15 [.reg [], .reg [(1, { v := some (.str (strI a)) }), (3, { v := some (.str (strI b)) })]]
  (a_ (a_ (r1_ tr) (a_ (r1_ (a_ (a_ (a_ (Eq.refl 1) (str_ob a)) (a_ (le_str a) tr)) (r1_ (a_ (a_ (a_ (Eq.refl 1) (str_ob b)) (a_ (le_str b) tr)) (r2_ tr))))) tr)) tr)
theorem bytes_Equal_tri (a : List (Int)) (b : List (Int)) (r : (Bool)) (h : bytes_Equal a b = some r) : FnTri Tryz.prog 72 [.ds 1 (a).length (rowF (cInt .u8) default a), .ds 1 (b).length (rowF (cInt .u8) default b)] [] (bytes_Equal_v r) [] := FnTri.none (bytes_Equal_ok a b r h) rfl rfl
/-- parrel/script.Same -/
def script_Same_v (r : (Bool)) : LV := .bool r
def script_Same (a : TS) (b : TS) : Option ((Bool)) :=
 if ((a.f_Kind == b.f_Kind) : Bool) then
  if ((a.f_Node == b.f_Node) : Bool) then
   if ((a.f_Wire == b.f_Wire) : Bool) then
    if ((a.f_N == b.f_N) : Bool) then
     if ((a.f_Cut == b.f_Cut) : Bool) then
      if ((a.f_To == b.f_To) : Bool) then
       (script_sameCall a.f_Call b.f_Call).bind fun y8 =>
       if (y8 : Bool) then
        (bytes_Equal a.f_Bytes b.f_Bytes).bind fun y11 =>
        some y11
       else
        some false
      else
       some false
     else
      some false
    else
     some false
   else
    some false
  else
   some false
 else
  some false
theorem script_Same_ok (a : TS) (b : TS) (r : (Bool)) (h : script_Same a b = some r) : ∀ σ, Inj 0 σ → FnTri Tryz.prog 38 (renL σ [v_TS a, v_TS b]) (preOf σ 0 []) ((script_Same_v r).ren σ) (upOf σ []) := by
 refine fo_ Tryz.func38 trivial trivial ?_
 intro w0 W μ0 hμ
 unfold script_Same at h
 rcases itb_some h with ⟨c1, h⟩ | ⟨c1, h⟩
 ·rcases itb_some h with ⟨c2, h⟩ | ⟨c2, h⟩
  ·rcases itb_some h with ⟨c3, h⟩ | ⟨c3, h⟩
   ·rcases itb_some h with ⟨c4, h⟩ | ⟨c4, h⟩
    ·rcases itb_some h with ⟨c5, h⟩ | ⟨c5, h⟩
     ·rcases itb_some h with ⟨c6, h⟩ | ⟨c6, h⟩
      ·obtain ⟨y8, e7, h⟩ := bind_some h
       rcases itb_some h with ⟨c9, h⟩ | ⟨c9, h⟩
       ·obtain ⟨y11, e10, h⟩ := bind_some h
        obtain rfl := si_ h
        exact rr_ [] 15 [.reg [], .reg [(5, hT), (12, hT), (19, hT), (26, hT), (33, hT), (40, hT), (45, hC (script_sameCall_v y8)), (47, hT), (52, hC (bytes_Equal_v y11))]]
         (a_ (a_ (r1_ (r2_ tr)) (a_ (r1_ (l_ 0 25 rfl (r1_ (l_ 0 25 rfl (r1_ (f_ c1 (r1_ (l_ 1 25 rfl (r1_ (l_ 1 25 rfl (r2_ (f_ c2 (r1_ (l_ 2 25 rfl (r1_ (l_ 2 25 rfl (r2_ (f_ c3 (r1_ (l_ 3 25 rfl (r1_ (l_ 3 25 rfl (r2_ (f_ c4 (r1_ (l_ 4 25 rfl (r1_ (l_ 4 25 rfl (r2_ (f_ c5 (r1_ (l_ 23 25 rfl (r1_ (l_ 23 25 rfl (r2_ (f_ c6 (r1_ (m_ 23 25 rfl (r1_ (m_ 23 25 rfl (c_ (script_sameCall_tri a.f_Call b.f_Call y8 e7) (r1_ (f_ c9 (r1_ (l_ 24 25 rfl (r1_ (l_ 24 25 rfl (c_ (bytes_Equal_tri a.f_Bytes b.f_Bytes y11 e10) (r2_ tr))))))))))))))))))))))))))))))))))))))))))))))))) tr)) tr)
       ·obtain rfl := si_ h
        exact rr_ [] 15 [.reg [], .reg [(5, hT), (12, hT), (19, hT), (26, hT), (33, hT), (40, hT), (45, hC (script_sameCall_v y8)), (47, hF)]]
         (a_ (a_ (r1_ (r2_ tr)) (a_ (r1_ (l_ 0 25 rfl (r1_ (l_ 0 25 rfl (r1_ (f_ c1 (r1_ (l_ 1 25 rfl (r1_ (l_ 1 25 rfl (r2_ (f_ c2 (r1_ (l_ 2 25 rfl (r1_ (l_ 2 25 rfl (r2_ (f_ c3 (r1_ (l_ 3 25 rfl (r1_ (l_ 3 25 rfl (r2_ (f_ c4 (r1_ (l_ 4 25 rfl (r1_ (l_ 4 25 rfl (r2_ (f_ c5 (r1_ (l_ 23 25 rfl (r1_ (l_ 23 25 rfl (r2_ (f_ c6 (r1_ (m_ 23 25 rfl (r1_ (m_ 23 25 rfl (c_ (script_sameCall_tri a.f_Call b.f_Call y8 e7) (r1_ (f_ c9 (a_ tr (t4_ (r2_ tr)))))))))))))))))))))))))))))))))))))))))))))) tr)) tr)
      ·obtain rfl := si_ h
       exact rr_ [] 15 [.reg [], .reg [(5, hT), (12, hT), (19, hT), (26, hT), (33, hT), (40, hF)]]
        (a_ (a_ (r1_ (r2_ tr)) (a_ (r1_ (l_ 0 25 rfl (r1_ (l_ 0 25 rfl (r1_ (f_ c1 (r1_ (l_ 1 25 rfl (r1_ (l_ 1 25 rfl (r2_ (f_ c2 (r1_ (l_ 2 25 rfl (r1_ (l_ 2 25 rfl (r2_ (f_ c3 (r1_ (l_ 3 25 rfl (r1_ (l_ 3 25 rfl (r2_ (f_ c4 (r1_ (l_ 4 25 rfl (r1_ (l_ 4 25 rfl (r2_ (f_ c5 (r1_ (l_ 23 25 rfl (r1_ (l_ 23 25 rfl (r2_ (f_ c6 (a_ tr (t4_ (r2_ (a_ tr (t4_ (r2_ tr)))))))))))))))))))))))))))))))))))))))))) tr)) tr)
     ·obtain rfl := si_ h
      exact rr_ [] 15 [.reg [], .reg [(5, hT), (12, hT), (19, hT), (26, hT), (33, hF)]]
       (a_ (a_ (r1_ (r2_ tr)) (a_ (r1_ (l_ 0 25 rfl (r1_ (l_ 0 25 rfl (r1_ (f_ c1 (r1_ (l_ 1 25 rfl (r1_ (l_ 1 25 rfl (r2_ (f_ c2 (r1_ (l_ 2 25 rfl (r1_ (l_ 2 25 rfl (r2_ (f_ c3 (r1_ (l_ 3 25 rfl (r1_ (l_ 3 25 rfl (r2_ (f_ c4 (r1_ (l_ 4 25 rfl (r1_ (l_ 4 25 rfl (r2_ (f_ c5 (a_ tr (t4_ (r2_ (a_ tr (t4_ (r2_ (a_ tr (t4_ (r2_ tr))))))))))))))))))))))))))))))))))))))) tr)) tr)
    ·obtain rfl := si_ h
     exact rr_ [] 15 [.reg [], .reg [(5, hT), (12, hT), (19, hT), (26, hF)]]
      (a_ (a_ (r1_ (r2_ tr)) (a_ (r1_ (l_ 0 25 rfl (r1_ (l_ 0 25 rfl (r1_ (f_ c1 (r1_ (l_ 1 25 rfl (r1_ (l_ 1 25 rfl (r2_ (f_ c2 (r1_ (l_ 2 25 rfl (r1_ (l_ 2 25 rfl (r2_ (f_ c3 (r1_ (l_ 3 25 rfl (r1_ (l_ 3 25 rfl (r2_ (f_ c4 (a_ tr (t4_ (r2_ (a_ tr (t4_ (r2_ (a_ tr (t4_ (r2_ (a_ tr (t4_ (r2_ tr)))))))))))))))))))))))))))))))))))) tr)) tr)
   ·obtain rfl := si_ h
    exact rr_ [] 15 [.reg [], .reg [(5, hT), (12, hT), (19, hF)]]
     (a_ (a_ (r1_ (r2_ tr)) (a_ (r1_ (l_ 0 25 rfl (r1_ (l_ 0 25 rfl (r1_ (f_ c1 (r1_ (l_ 1 25 rfl (r1_ (l_ 1 25 rfl (r2_ (f_ c2 (r1_ (l_ 2 25 rfl (r1_ (l_ 2 25 rfl (r2_ (f_ c3 (a_ tr (t4_ (r2_ (a_ tr (t4_ (r2_ (a_ tr (t4_ (r2_ (a_ tr (t4_ (r2_ (a_ tr (t4_ (r2_ tr))))))))))))))))))))))))))))))))) tr)) tr)
  ·obtain rfl := si_ h
   exact rr_ [] 15 [.reg [], .reg [(5, hT), (12, hF)]]
    (a_ (a_ (r1_ (r2_ tr)) (a_ (r1_ (l_ 0 25 rfl (r1_ (l_ 0 25 rfl (r1_ (f_ c1 (r1_ (l_ 1 25 rfl (r1_ (l_ 1 25 rfl (r2_ (f_ c2 (a_ tr (t4_ (r2_ (a_ tr (t4_ (r2_ (a_ tr (t4_ (r2_ (a_ tr (t4_ (r2_ (a_ tr (t4_ (r2_ (a_ tr (t4_ (r2_ tr)))))))))))))))))))))))))))))) tr)) tr)
 ·obtain rfl := si_ h
  exact rr_ [] 15 [.reg [], .reg [(5, hF)]]
   (a_ (a_ (r1_ (r2_ tr)) (a_ (r1_ (l_ 0 25 rfl (r1_ (l_ 0 25 rfl (r1_ (f_ c1 (a_ tr (t4_ (r2_ (a_ tr (t4_ (r2_ (a_ tr (t4_ (r2_ (a_ tr (t4_ (r2_ (a_ tr (t4_ (r2_ (a_ tr (t4_ (r2_ (a_ tr (t4_ (r2_ tr))))))))))))))))))))))))))) tr)) tr)
theorem script_Same_tri (a : TS) (b : TS) (r : (Bool)) (h : script_Same a b = some r) : FnTri Tryz.prog 38 [v_TS a, v_TS b] [] (script_Same_v r) [] := FnTri.none (script_Same_ok a b r h) rfl rfl
/-- strings.trimRightByte -/
def strings_trimRightByte_v (r : (List UInt8)) : LV := .str r
def strings_trimRightByte_T0 (c : Int) (s2 : List UInt8) : List LV := (.str s2) :: (.int .u8 c) :: n_ 21 []
def strings_trimRightByte_H0 (c : Int) (s2 : List UInt8) : Heap := []
def strings_trimRightByte_l0 (c : Int)  : Nat → (List UInt8) → Option ((List UInt8))
 | 0, _ => none
 | fuel + 1, s2 =>
  if ((decide (0 < ((s2).length : Int))) : Bool) then
   if 0 ≤ (IntKind.wrap .i64 (((s2).length : Int) - 1)) ∧ (IntKind.wrap .i64 (((s2).length : Int) - 1)) < (((s2).length : Nat) : Int) then
   if ((((s2.getD ((IntKind.wrap .i64 (((s2).length : Int) - 1))).toNat 0).toNat : Int) == c) : Bool) then
    if 0 ≤ (0 : Int) ∧ (0 : Int) ≤ (IntKind.wrap .i64 (((s2).length : Int) - 1)) ∧ (IntKind.wrap .i64 (((s2).length : Int) - 1)) ≤ (((s2).length : Nat) : Int) then
    strings_trimRightByte_l0 c  fuel ((s2.drop 0).take (((IntKind.wrap .i64 (((s2).length : Int) - 1))).toNat - 0))
    else none
   else
    some s2
   else none
  else
   some s2
def strings_trimRightByte (s : List UInt8) (c : Int) : Option ((List UInt8)) :=
 strings_trimRightByte_l0 c  big s
theorem strings_trimRightByte_l0_ok {w0 : World} {W : Nat → Prop} {μ0 : Emb} (hμ : ∀ c p, μ0 c = some p → c < 0) (c : Int) : ∀ (fuel : Nat) (s2 : List UInt8) (r : (List UInt8)), strings_trimRightByte_l0 c  fuel s2 = some r → kont Tryz.prog w0 W μ0 (FnPost Tryz.prog Tryz.f97 0 0 (strings_trimRightByte_v r) []) (kAt (bodyOf Tryz.f97) 0) none (strings_trimRightByte_T0 c s2) (strings_trimRightByte_H0 c s2) := by
 intro fuel
 induction fuel with
 | zero => intro s2 r h; rw [strings_trimRightByte_l0] at h; cases h
 | succ fuel ih =>
  intro s2 r h
  rw [strings_trimRightByte_l0] at h
  rcases itb_some h with ⟨C1, h⟩ | ⟨C1, h⟩
  ·obtain ⟨G2, h⟩ := guard_some h
   rcases itb_some h with ⟨C3, h⟩ | ⟨C3, h⟩
   ·obtain ⟨G4, h⟩ := guard_some h
    exact rt_ hμ [] 20 [.go, .reg [(3, hT), (11, hT)], .reg []]
     (a_ (r1_ (r2_ (f_ C1 (r4_ (a_ (a_ G2 tr) (r2_ (f_ C3 tr))))))) (a_ (r4_ (a_ (a_ G4 tr) (r1_ tr))) tr)) (ih _ r h) trivial
   ·obtain rfl := si_ h
    exact rr_ [] 19 [.go, .reg [(3, hT), (11, hF)], .reg []]
     (a_ (a_ (r1_ (r2_ (f_ C1 (r4_ (a_ (a_ G2 tr) (r2_ (f_ C3 tr))))))) (a_ (r2_ tr) tr)) tr)
  ·obtain rfl := si_ h
   exact rr_ [] 19 [.go, .reg [(3, hF)], .reg []]
    (a_ (a_ (r1_ (r2_ (f_ C1 (a_ tr (t2_ (t4_ (r1_ tr))))))) (a_ (r2_ tr) tr)) tr)
theorem strings_trimRightByte_ok (s : List UInt8) (c : Int) (r : (List UInt8)) (h : strings_trimRightByte s c = some r) : ∀ σ, Inj 0 σ → FnTri Tryz.prog 97 (renL σ [.str s, .int .u8 c]) (preOf σ 0 []) ((strings_trimRightByte_v r).ren σ) (upOf σ []) := by
 refine fo_ Tryz.func97 trivial trivial ?_
 intro w0 W μ0 hμ
 unfold strings_trimRightByte at h
 exact rt_ hμ [] 15 [.reg []]
  (a_ (r1_ tr) tr) (strings_trimRightByte_l0_ok hμ c  big _ r h) trivial
theorem strings_trimRightByte_tri (s : List UInt8) (c : Int) (r : (List UInt8)) (h : strings_trimRightByte s c = some r) : FnTri Tryz.prog 97 [.str s, .int .u8 c] [] (strings_trimRightByte_v r) [] := FnTri.none (strings_trimRightByte_ok s c r h) rfl rfl
/-- strings.TrimRight -/
def strings_TrimRight_v (r : (List UInt8)) : LV := .str r
def strings_TrimRight (s : List UInt8) : Option ((List UInt8)) :=
 if ((s == []) : Bool) then
  some s
 else
  (strings_trimRightByte s 0).bind fun y3 =>
  some y3
theorem strings_TrimRight_ok (s : List UInt8) (r : (List UInt8)) (h : strings_TrimRight s = some r) : ∀ σ, Inj 0 σ → FnTri Tryz.prog 84 (renL σ [.str s, .str ([0] : List UInt8)]) (preOf σ 0 []) ((strings_TrimRight_v r).ren σ) (upOf σ []) := by
 refine fo_ Tryz.func84 trivial trivial ?_
 intro w0 W μ0 hμ
 unfold strings_TrimRight at h
 rcases itb_some h with ⟨c1, h⟩ | ⟨c1, h⟩
 ·obtain rfl := si_ h
  exact rr_ [] 20 [.reg [], .reg [(2, hT)], .reg []]
   (a_ (a_ (r1_ tr) (a_ (r2_ (f_ c1 (t2_ (r1_ tr)))) (a_ (r2_ tr) tr))) tr)
 ·obtain ⟨y3, e2, h⟩ := bind_some h
  obtain rfl := si_ h
  exact rr_ [] 26 [.reg [], .reg [(2, hF)], .reg [], .reg [(3, hC (strings_trimRightByte_v y3))]]
   (a_ (a_ (r1_ tr) (a_ (r2_ (f_ c1 (r1_ (r2_ tr)))) (a_ (r1_ (r4_ (a_ (a_ (a_ (lei_ 0 0 rfl) (lti_ 0 1 rfl)) tr) (r2_ tr)))) (a_ (r2_ (a_ (a_ (a_ (lei_ 0 0 rfl) (lti_ 0 1 rfl)) tr) (c_ (strings_trimRightByte_tri s 0 y3 e2) (r1_ tr)))) tr)))) tr)
theorem strings_TrimRight_tri (s : List UInt8) (r : (List UInt8)) (h : strings_TrimRight s = some r) : FnTri Tryz.prog 84 [.str s, .str ([0] : List UInt8)] [] (strings_TrimRight_v r) [] := FnTri.none (strings_TrimRight_ok s r h) rfl rfl
/-- parrel/ids.Name -/
def ids_Name_v (r : (List UInt8) × (Bool)) : LV := .tup [.str r.1, .bool r.2]
def ids_Name_T1000004   : List LV := n_ 23 []
def ids_Name_H1000004   : Heap := []
def ids_Name_T1000005 (y2 : (List UInt8))  : List LV := n_ 4 ((.str y2) :: n_ 18 [])
def ids_Name_H1000005 (y2 : (List UInt8))  : Heap := []
def ids_Name_c4    : Option ((List UInt8) × (Bool)) :=
 some ([], false)
def ids_Name_c5 (y2 : (List UInt8))   : Option ((List UInt8) × (Bool)) :=
 some (y2, true)
def ids_Name (x_k : A8 (Int)) : Option ((List UInt8) × (Bool)) :=
 (strings_TrimRight (strI (([x_k.a0, x_k.a1, x_k.a2, x_k.a3, x_k.a4, x_k.a5, x_k.a6, x_k.a7] : List Int).take 8))).bind fun y2 =>
 (ids_KeyOf y2).bind fun y4 =>
 if ((y4.2 != 0) : Bool) then
  some ([], false)
 else
  if ((!decide (y4.1 = x_k)) : Bool) then
   ids_Name_c4   
  else
   ids_Name_c5 y2  
theorem ids_Name_c4_ok {w0 : World} {W : Nat → Prop} {μ0 : Emb} (hμ : ∀ c p, μ0 c = some p → c < 0)    (r : (List UInt8) × (Bool)) (h : ids_Name_c4    = some r) : kont Tryz.prog w0 W μ0 (FnPost Tryz.prog Tryz.f58 0 0 (ids_Name_v r) []) (kAtR (bodyOf Tryz.f58) 4) none (ids_Name_T1000004 ) (ids_Name_H1000004 ) := by
 unfold ids_Name_c4 at h
 obtain rfl := si_ h
 exact rr_ [] 11 [.reg []]
  (a_ (a_ (r2_ tr) tr) tr)
theorem ids_Name_c5_ok {w0 : World} {W : Nat → Prop} {μ0 : Emb} (hμ : ∀ c p, μ0 c = some p → c < 0) (y2 : (List UInt8))   (r : (List UInt8) × (Bool)) (h : ids_Name_c5 y2   = some r) : kont Tryz.prog w0 W μ0 (FnPost Tryz.prog Tryz.f58 0 0 (ids_Name_v r) []) (kAtR (bodyOf Tryz.f58) 5) none (ids_Name_T1000005 y2 ) (ids_Name_H1000005 y2 ) := by
 unfold ids_Name_c5 at h
 obtain rfl := si_ h
 exact rr_ [] 11 [.reg []]
  (a_ (a_ (r1_ (r2_ tr)) tr) tr)
theorem ids_Name_ok (x_k : A8 (Int)) (r : (List UInt8) × (Bool)) (h : ids_Name x_k = some r) : ∀ σ, Inj 0 σ → FnTri Tryz.prog 58 (renL σ [.agg [.int .u8 x_k.a0, .int .u8 x_k.a1, .int .u8 x_k.a2, .int .u8 x_k.a3, .int .u8 x_k.a4, .int .u8 x_k.a5, .int .u8 x_k.a6, .int .u8 x_k.a7]]) (preOf σ 0 []) ((ids_Name_v r).ren σ) (upOf σ []) := by
 refine fo_ Tryz.func58 trivial trivial ?_
 intro w0 W μ0 hμ
 unfold ids_Name at h
 obtain ⟨y2, e1, h⟩ := bind_some h
 obtain ⟨y4, e3, h⟩ := bind_some h
 rcases itb_some h with ⟨c5, h⟩ | ⟨c5, h⟩
 ·obtain rfl := si_ h
  exact rr_ [] 26 [.reg [], .reg [(1, { v := some (.str (strI (([x_k.a0, x_k.a1, x_k.a2, x_k.a3, x_k.a4, x_k.a5, x_k.a6, x_k.a7] : List Int).take 8))) }), (2, hC (strings_TrimRight_v y2))], .reg [(1, hC (ids_KeyOf_v y4))], .reg [(2, hT)], .reg []]
   (a_ (a_ (r1_ (r2_ tr)) (a_ (a_ (a_ (a_ (lei_ 0 0 rfl) (a_ (lei_ 0 8 rfl) (lei_ 8 8 rfl))) tr) (a_ (a_ (arr_ob [x_k.a0, x_k.a1, x_k.a2, x_k.a3, x_k.a4, x_k.a5, x_k.a6, x_k.a7] 8 8 (le_ 8 8 rfl) rfl) (a_ (le_arr [x_k.a0, x_k.a1, x_k.a2, x_k.a3, x_k.a4, x_k.a5, x_k.a6, x_k.a7] 8 8 (le_ 8 8 rfl) rfl) tr)) (a_ (a_ (a_ (strings_TrimRight_tri (strI (([x_k.a0, x_k.a1, x_k.a2, x_k.a3, x_k.a4, x_k.a5, x_k.a6, x_k.a7] : List Int).take 8)) y2 e1) tr) tr) (r1_ tr)))) (a_ (r1_ (c_ (ids_KeyOf_tri y2 y4 e3) (r4_ (a_ (a_ (a_ (Eq.refl 8) (a_ (le_ 8 8 rfl) (Eq.refl 0))) tr) (r1_ tr))))) (a_ (r2_ (f_ c5 (a_ tr (t2_ (r1_ tr))))) (a_ (r2_ tr) tr))))) tr)
 ·rcases itb_some h with ⟨c6, h⟩ | ⟨c6, h⟩
  ·exact rt_ hμ [] 24 [.reg [], .reg [(1, { v := some (.str (strI (([x_k.a0, x_k.a1, x_k.a2, x_k.a3, x_k.a4, x_k.a5, x_k.a6, x_k.a7] : List Int).take 8))) }), (2, hC (strings_TrimRight_v y2))], .reg [(1, hC (ids_KeyOf_v y4))], .reg [(2, hF), (5, { v := some (.bool (!decide (y4.1 = x_k))) }), (6, hT)]]
    (a_ (r1_ (r2_ tr)) (a_ (a_ (a_ (a_ (lei_ 0 0 rfl) (a_ (lei_ 0 8 rfl) (lei_ 8 8 rfl))) tr) (a_ (a_ (arr_ob [x_k.a0, x_k.a1, x_k.a2, x_k.a3, x_k.a4, x_k.a5, x_k.a6, x_k.a7] 8 8 (le_ 8 8 rfl) rfl) (a_ (le_arr [x_k.a0, x_k.a1, x_k.a2, x_k.a3, x_k.a4, x_k.a5, x_k.a6, x_k.a7] 8 8 (le_ 8 8 rfl) rfl) tr)) (a_ (a_ (a_ (strings_TrimRight_tri (strI (([x_k.a0, x_k.a1, x_k.a2, x_k.a3, x_k.a4, x_k.a5, x_k.a6, x_k.a7] : List Int).take 8)) y2 e1) tr) tr) (r1_ tr)))) (a_ (r1_ (c_ (ids_KeyOf_tri y2 y4 e3) (r4_ (a_ (a_ (a_ (Eq.refl 8) (a_ (le_ 8 8 rfl) (Eq.refl 0))) tr) (r1_ tr))))) (a_ (r2_ (f_ c5 (m_ 8 8 rfl (m_ 8 8 rfl (a_ (a_ tr (a_ (leB (congrArg not ((k_arr8 .u8) y4.1 x_k))) tr)) (f_ c6 tr)))))) tr)))) (ids_Name_c4_ok hμ    r h) trivial
  ·exact rt_ hμ [] 25 [.reg [], .reg [(1, { v := some (.str (strI (([x_k.a0, x_k.a1, x_k.a2, x_k.a3, x_k.a4, x_k.a5, x_k.a6, x_k.a7] : List Int).take 8))) }), (2, hC (strings_TrimRight_v y2))], .reg [(1, hC (ids_KeyOf_v y4))], .reg [(2, hF), (5, { v := some (.bool (!decide (y4.1 = x_k))) }), (6, hF)]]
    (a_ (r1_ (r2_ tr)) (a_ (a_ (a_ (a_ (lei_ 0 0 rfl) (a_ (lei_ 0 8 rfl) (lei_ 8 8 rfl))) tr) (a_ (a_ (arr_ob [x_k.a0, x_k.a1, x_k.a2, x_k.a3, x_k.a4, x_k.a5, x_k.a6, x_k.a7] 8 8 (le_ 8 8 rfl) rfl) (a_ (le_arr [x_k.a0, x_k.a1, x_k.a2, x_k.a3, x_k.a4, x_k.a5, x_k.a6, x_k.a7] 8 8 (le_ 8 8 rfl) rfl) tr)) (a_ (a_ (a_ (strings_TrimRight_tri (strI (([x_k.a0, x_k.a1, x_k.a2, x_k.a3, x_k.a4, x_k.a5, x_k.a6, x_k.a7] : List Int).take 8)) y2 e1) tr) tr) (r1_ tr)))) (a_ (r1_ (c_ (ids_KeyOf_tri y2 y4 e3) (r4_ (a_ (a_ (a_ (Eq.refl 8) (a_ (le_ 8 8 rfl) (Eq.refl 0))) tr) (r1_ tr))))) (a_ (r2_ (f_ c5 (m_ 8 8 rfl (m_ 8 8 rfl (a_ (a_ tr (a_ (leB (congrArg not ((k_arr8 .u8) y4.1 x_k))) tr)) (f_ c6 tr)))))) tr)))) (ids_Name_c5_ok hμ y2   r h) trivial
theorem ids_Name_tri (x_k : A8 (Int)) (r : (List UInt8) × (Bool)) (h : ids_Name x_k = some r) : FnTri Tryz.prog 58 [.agg [.int .u8 x_k.a0, .int .u8 x_k.a1, .int .u8 x_k.a2, .int .u8 x_k.a3, .int .u8 x_k.a4, .int .u8 x_k.a5, .int .u8 x_k.a6, .int .u8 x_k.a7]] [] (ids_Name_v r) [] := FnTri.none (ids_Name_ok x_k r h) rfl rfl
/-- parrel/script.callMay -/
def script_callMay_v (r : (Bool)) : LV := .bool r
def script_callMay (c : TN) : Option ((Bool)) :=
 (script_hasKey c.f_Kind).bind fun y2 =>
 if (y2 : Bool) then
  (ids_Name c.f_Key).bind fun y5 =>
  if ((!y5.2) : Bool) then
   some false
  else
   if ((decide (1 ≤ c.f_Kind)) : Bool) then
    if ((decide (c.f_Kind ≤ 6)) : Bool) then
     if ((decide ((if c.f_Tx.f_Num > (if c.f_Tx.f_Boot > c.f_Call.f_Seq then c.f_Tx.f_Boot else c.f_Call.f_Seq) then c.f_Tx.f_Num else (if c.f_Tx.f_Boot > c.f_Call.f_Seq then c.f_Tx.f_Boot else c.f_Call.f_Seq)) ≤ 2147483647)) : Bool) then
      if ((decide (((c.f_Votes).length : Int) ≤ 8)) : Bool) then
       some (decide (((c.f_Value).length : Int) ≤ 64))
      else
       some false
     else
      some false
    else
     some false
   else
    some false
 else
  if ((decide (1 ≤ c.f_Kind)) : Bool) then
   if ((decide (c.f_Kind ≤ 6)) : Bool) then
    if ((decide ((if c.f_Tx.f_Num > (if c.f_Tx.f_Boot > c.f_Call.f_Seq then c.f_Tx.f_Boot else c.f_Call.f_Seq) then c.f_Tx.f_Num else (if c.f_Tx.f_Boot > c.f_Call.f_Seq then c.f_Tx.f_Boot else c.f_Call.f_Seq)) ≤ 2147483647)) : Bool) then
     if ((decide (((c.f_Votes).length : Int) ≤ 8)) : Bool) then
      some (decide (((c.f_Value).length : Int) ≤ 64))
     else
      some false
    else
     some false
   else
    some false
  else
   some false
theorem script_callMay_ok (c : TN) (r : (Bool)) (h : script_callMay c = some r) : ∀ σ, Inj 0 σ → FnTri Tryz.prog 40 (renL σ [v_TN c]) (preOf σ 0 []) ((script_callMay_v r).ren σ) (upOf σ []) := by
 refine fo_ Tryz.func40 trivial trivial ?_
 intro w0 W μ0 hμ
 unfold script_callMay at h
 obtain ⟨y2, e1, h⟩ := bind_some h
 rcases itb_some h with ⟨c3, h⟩ | ⟨c3, h⟩
 ·obtain ⟨y5, e4, h⟩ := bind_some h
  rcases itb_some h with ⟨c6, h⟩ | ⟨c6, h⟩
  ·obtain rfl := si_ h
   exact rr_ [] 27 [.reg [], .reg [(2, { call := some (script_hasKey_v y2, [], []), v := some (.bool true) })], .reg [(2, hC (ids_Name_v y5))], .reg [(1, hT)], .reg []]
    (a_ (a_ (r2_ tr) (a_ (r1_ (l_ 2 18 rfl (a_ (a_ (a_ (script_hasKey_tri c.f_Kind y2 e1) tr) (a_ (leB c3) tr)) tr))) (a_ (r1_ (m_ 14 18 rfl (c_ (ids_Name_tri c.f_Key y5 e4) (r1_ (r4_ tr))))) (a_ (r1_ (f_ c6 tr)) (a_ (r1_ tr) tr))))) tr)
  ·rcases itb_some h with ⟨c7, h⟩ | ⟨c7, h⟩
   ·rcases itb_some h with ⟨c8, h⟩ | ⟨c8, h⟩
    ·rcases itb_some h with ⟨c9, h⟩ | ⟨c9, h⟩
     ·rcases itb_some h with ⟨c10, h⟩ | ⟨c10, h⟩
      ·obtain rfl := si_ h
       exact rr_ [] 28 [.reg [], .reg [(2, { call := some (script_hasKey_v y2, [], []), v := some (.bool true) })], .reg [(2, hC (ids_Name_v y5))], .reg [(1, hF)], .reg [(3, hT), (8, hT), (21, hT), (27, hT)]]
        (a_ (a_ (r2_ tr) (a_ (r1_ (l_ 2 18 rfl (a_ (a_ (a_ (script_hasKey_tri c.f_Kind y2 e1) tr) (a_ (leB c3) tr)) tr))) (a_ (r1_ (m_ 14 18 rfl (c_ (ids_Name_tri c.f_Key y5 e4) (r1_ (r4_ tr))))) (a_ (r1_ (f_ c6 tr)) (a_ (r1_ (l_ 2 18 rfl (r1_ (f_ c7 (r1_ (l_ 2 18 rfl (r2_ (f_ c8 (r2_ (l_ 1 18 rfl (r2_ (l_ 4 18 rfl (r2_ (l_ 5 18 rfl (r1_ (r2_ (f_ c9 (r1_ (l_ 17 18 rfl (r1_ (r2_ (f_ c10 (r1_ (l_ 14 18 rfl (r4_ tr))))))))))))))))))))))))) tr))))) tr)
      ·obtain rfl := si_ h
       exact rr_ [] 28 [.reg [], .reg [(2, { call := some (script_hasKey_v y2, [], []), v := some (.bool true) })], .reg [(2, hC (ids_Name_v y5))], .reg [(1, hF)], .reg [(3, hT), (8, hT), (21, hT), (27, hF)]]
        (a_ (a_ (r2_ tr) (a_ (r1_ (l_ 2 18 rfl (a_ (a_ (a_ (script_hasKey_tri c.f_Kind y2 e1) tr) (a_ (leB c3) tr)) tr))) (a_ (r1_ (m_ 14 18 rfl (c_ (ids_Name_tri c.f_Key y5 e4) (r1_ (r4_ tr))))) (a_ (r1_ (f_ c6 tr)) (a_ (r1_ (l_ 2 18 rfl (r1_ (f_ c7 (r1_ (l_ 2 18 rfl (r2_ (f_ c8 (r2_ (l_ 1 18 rfl (r2_ (l_ 4 18 rfl (r2_ (l_ 5 18 rfl (r1_ (r2_ (f_ c9 (r1_ (l_ 17 18 rfl (r1_ (r2_ (f_ c10 (t4_ (r2_ tr)))))))))))))))))))))))) tr))))) tr)
     ·obtain rfl := si_ h
      exact rr_ [] 28 [.reg [], .reg [(2, { call := some (script_hasKey_v y2, [], []), v := some (.bool true) })], .reg [(2, hC (ids_Name_v y5))], .reg [(1, hF)], .reg [(3, hT), (8, hT), (21, hF)]]
       (a_ (a_ (r2_ tr) (a_ (r1_ (l_ 2 18 rfl (a_ (a_ (a_ (script_hasKey_tri c.f_Kind y2 e1) tr) (a_ (leB c3) tr)) tr))) (a_ (r1_ (m_ 14 18 rfl (c_ (ids_Name_tri c.f_Key y5 e4) (r1_ (r4_ tr))))) (a_ (r1_ (f_ c6 tr)) (a_ (r1_ (l_ 2 18 rfl (r1_ (f_ c7 (r1_ (l_ 2 18 rfl (r2_ (f_ c8 (r2_ (l_ 1 18 rfl (r2_ (l_ 4 18 rfl (r2_ (l_ 5 18 rfl (r1_ (r2_ (f_ c9 (t4_ (r2_ (t4_ (r2_ tr))))))))))))))))))))) tr))))) tr)
    ·obtain rfl := si_ h
     exact rr_ [] 28 [.reg [], .reg [(2, { call := some (script_hasKey_v y2, [], []), v := some (.bool true) })], .reg [(2, hC (ids_Name_v y5))], .reg [(1, hF)], .reg [(3, hT), (8, hF)]]
      (a_ (a_ (r2_ tr) (a_ (r1_ (l_ 2 18 rfl (a_ (a_ (a_ (script_hasKey_tri c.f_Kind y2 e1) tr) (a_ (leB c3) tr)) tr))) (a_ (r1_ (m_ 14 18 rfl (c_ (ids_Name_tri c.f_Key y5 e4) (r1_ (r4_ tr))))) (a_ (r1_ (f_ c6 tr)) (a_ (r1_ (l_ 2 18 rfl (r1_ (f_ c7 (r1_ (l_ 2 18 rfl (r2_ (f_ c8 (a_ tr (t2_ (t8_ (r2_ (t4_ (r2_ (t4_ (r2_ tr)))))))))))))))) tr))))) tr)
   ·obtain rfl := si_ h
    exact rr_ [] 28 [.reg [], .reg [(2, { call := some (script_hasKey_v y2, [], []), v := some (.bool true) })], .reg [(2, hC (ids_Name_v y5))], .reg [(1, hF)], .reg [(3, hF)]]
     (a_ (a_ (r2_ tr) (a_ (r1_ (l_ 2 18 rfl (a_ (a_ (a_ (script_hasKey_tri c.f_Kind y2 e1) tr) (a_ (leB c3) tr)) tr))) (a_ (r1_ (m_ 14 18 rfl (c_ (ids_Name_tri c.f_Key y5 e4) (r1_ (r4_ tr))))) (a_ (r1_ (f_ c6 tr)) (a_ (r1_ (l_ 2 18 rfl (r1_ (f_ c7 (a_ tr (t2_ (r2_ (a_ tr (t2_ (t8_ (r2_ (t4_ (r2_ (t4_ (r2_ tr))))))))))))))) tr))))) tr)
 ·rcases itb_some h with ⟨c4, h⟩ | ⟨c4, h⟩
  ·rcases itb_some h with ⟨c5, h⟩ | ⟨c5, h⟩
   ·rcases itb_some h with ⟨c6, h⟩ | ⟨c6, h⟩
    ·rcases itb_some h with ⟨c7, h⟩ | ⟨c7, h⟩
     ·obtain rfl := si_ h
      exact rr_ [] 21 [.reg [], .reg [(2, { call := some (script_hasKey_v y2, [], []), v := some (.bool false) })], .reg [(3, hT), (8, hT), (21, hT), (27, hT)]]
       (a_ (a_ (r2_ tr) (a_ (r1_ (l_ 2 18 rfl (a_ (a_ (a_ (script_hasKey_tri c.f_Kind y2 e1) tr) (a_ (leB c3) tr)) tr))) (a_ (r1_ (l_ 2 18 rfl (r1_ (f_ c4 (r1_ (l_ 2 18 rfl (r2_ (f_ c5 (r2_ (l_ 1 18 rfl (r2_ (l_ 4 18 rfl (r2_ (l_ 5 18 rfl (r1_ (r2_ (f_ c6 (r1_ (l_ 17 18 rfl (r1_ (r2_ (f_ c7 (r1_ (l_ 14 18 rfl (r4_ tr))))))))))))))))))))))))) tr))) tr)
     ·obtain rfl := si_ h
      exact rr_ [] 21 [.reg [], .reg [(2, { call := some (script_hasKey_v y2, [], []), v := some (.bool false) })], .reg [(3, hT), (8, hT), (21, hT), (27, hF)]]
       (a_ (a_ (r2_ tr) (a_ (r1_ (l_ 2 18 rfl (a_ (a_ (a_ (script_hasKey_tri c.f_Kind y2 e1) tr) (a_ (leB c3) tr)) tr))) (a_ (r1_ (l_ 2 18 rfl (r1_ (f_ c4 (r1_ (l_ 2 18 rfl (r2_ (f_ c5 (r2_ (l_ 1 18 rfl (r2_ (l_ 4 18 rfl (r2_ (l_ 5 18 rfl (r1_ (r2_ (f_ c6 (r1_ (l_ 17 18 rfl (r1_ (r2_ (f_ c7 (t4_ (r2_ tr)))))))))))))))))))))))) tr))) tr)
    ·obtain rfl := si_ h
     exact rr_ [] 21 [.reg [], .reg [(2, { call := some (script_hasKey_v y2, [], []), v := some (.bool false) })], .reg [(3, hT), (8, hT), (21, hF)]]
      (a_ (a_ (r2_ tr) (a_ (r1_ (l_ 2 18 rfl (a_ (a_ (a_ (script_hasKey_tri c.f_Kind y2 e1) tr) (a_ (leB c3) tr)) tr))) (a_ (r1_ (l_ 2 18 rfl (r1_ (f_ c4 (r1_ (l_ 2 18 rfl (r2_ (f_ c5 (r2_ (l_ 1 18 rfl (r2_ (l_ 4 18 rfl (r2_ (l_ 5 18 rfl (r1_ (r2_ (f_ c6 (t4_ (r2_ (t4_ (r2_ tr))))))))))))))))))))) tr))) tr)
   ·obtain rfl := si_ h
    exact rr_ [] 21 [.reg [], .reg [(2, { call := some (script_hasKey_v y2, [], []), v := some (.bool false) })], .reg [(3, hT), (8, hF)]]
     (a_ (a_ (r2_ tr) (a_ (r1_ (l_ 2 18 rfl (a_ (a_ (a_ (script_hasKey_tri c.f_Kind y2 e1) tr) (a_ (leB c3) tr)) tr))) (a_ (r1_ (l_ 2 18 rfl (r1_ (f_ c4 (r1_ (l_ 2 18 rfl (r2_ (f_ c5 (a_ tr (t2_ (t8_ (r2_ (t4_ (r2_ (t4_ (r2_ tr)))))))))))))))) tr))) tr)
  ·obtain rfl := si_ h
   exact rr_ [] 21 [.reg [], .reg [(2, { call := some (script_hasKey_v y2, [], []), v := some (.bool false) })], .reg [(3, hF)]]
    (a_ (a_ (r2_ tr) (a_ (r1_ (l_ 2 18 rfl (a_ (a_ (a_ (script_hasKey_tri c.f_Kind y2 e1) tr) (a_ (leB c3) tr)) tr))) (a_ (r1_ (l_ 2 18 rfl (r1_ (f_ c4 (a_ tr (t2_ (r2_ (a_ tr (t2_ (t8_ (r2_ (t4_ (r2_ (t4_ (r2_ tr))))))))))))))) tr))) tr)
theorem script_callMay_tri (c : TN) (r : (Bool)) (h : script_callMay c = some r) : FnTri Tryz.prog 40 [v_TN c] [] (script_callMay_v r) [] := FnTri.none (script_callMay_ok c r h) rfl rfl
/-- parrel/script.isNumber -/
def script_isNumber_v (r : (Bool)) : LV := .bool r
def script_isNumber (x_n : Int) : Option ((Bool)) :=
 if ((decide (0 ≤ x_n)) : Bool) then
  some (decide (x_n ≤ 2147483647))
 else
  some false
theorem script_isNumber_ok (x_n : Int) (r : (Bool)) (h : script_isNumber x_n = some r) : ∀ σ, Inj 0 σ → FnTri Tryz.prog 41 (renL σ [.int .i64 x_n]) (preOf σ 0 []) ((script_isNumber_v r).ren σ) (upOf σ []) := by
 refine fo_ Tryz.func41 trivial trivial ?_
 intro w0 W μ0 hμ
 unfold script_isNumber at h
 rcases itb_some h with ⟨c1, h⟩ | ⟨c1, h⟩
 ·obtain rfl := si_ h
  exact rr_ [] 15 [.reg [], .reg [(2, hT)]]
   (a_ (a_ (r1_ tr) (a_ (r2_ (f_ c1 (r4_ tr))) tr)) tr)
 ·obtain rfl := si_ h
  exact rr_ [] 15 [.reg [], .reg [(2, hF)]]
   (a_ (a_ (r1_ tr) (a_ (r2_ (f_ c1 (t2_ (r2_ tr)))) tr)) tr)
theorem script_isNumber_tri (x_n : Int) (r : (Bool)) (h : script_isNumber x_n = some r) : FnTri Tryz.prog 41 [.int .i64 x_n] [] (script_isNumber_v r) [] := FnTri.none (script_isNumber_ok x_n r h) rfl rfl
/-- parrel/script.May -/
def script_May_v (r : (Bool)) : LV := .bool r
def script_May_T1000002   : List LV := n_ 58 []
def script_May_H1000002   : Heap := []
def script_May_T1000003 (s : TS)  : List LV := .any :: (.ptr 0 0 0) :: n_ 56 []
def script_May_H1000003 (s : TS)  : Heap := [some (.var (c_TS s))]
def script_May_c2    : Option ((Bool)) :=
 some false
def script_May_c3 (s : TS)   : Option ((Bool)) :=
 (script_isNumber s.f_Node).bind fun yC3_2 =>
 if (yC3_2 : Bool) then
  (script_isNumber s.f_Wire).bind fun yC3_5 =>
  if (yC3_5 : Bool) then
   (script_isNumber s.f_To).bind fun yC3_8 =>
   if (yC3_8 : Bool) then
    (script_isNumber s.f_N).bind fun yC3_11 =>
    if (yC3_11 : Bool) then
     some (decide (((s.f_Bytes).length : Int) ≤ 4096))
    else
     if ((s.f_N == (-1)) : Bool) then
      some (decide (((s.f_Bytes).length : Int) ≤ 4096))
     else
      some false
   else
    some false
  else
   some false
 else
  some false
def script_May (s : TS) : Option ((Bool)) :=
 if ((decide (s.f_Kind < 1)) : Bool) then
  some false
 else
  if ((decide (10 < s.f_Kind)) : Bool) then
   some false
  else
   (script_clean s).bind fun y4 =>
   (script_Same y4 s).bind fun y6 =>
   if ((!y6) : Bool) then
    some false
   else
    if ((s.f_Kind == 1) : Bool) then
     (script_callMay s.f_Call).bind fun y10 =>
     if ((!y10) : Bool) then
      script_May_c2   
     else
      script_May_c3 s  
    else
     (script_isNumber s.f_Node).bind fun y10 =>
     if (y10 : Bool) then
      (script_isNumber s.f_Wire).bind fun y13 =>
      if (y13 : Bool) then
       (script_isNumber s.f_To).bind fun y16 =>
       if (y16 : Bool) then
        (script_isNumber s.f_N).bind fun y19 =>
        if (y19 : Bool) then
         some (decide (((s.f_Bytes).length : Int) ≤ 4096))
        else
         if ((s.f_N == (-1)) : Bool) then
          some (decide (((s.f_Bytes).length : Int) ≤ 4096))
         else
          some false
       else
        some false
      else
       some false
     else
      some false
theorem script_May_c2_ok {w0 : World} {W : Nat → Prop} {μ0 : Emb} (hμ : ∀ c p, μ0 c = some p → c < 0)    (r : (Bool)) (h : script_May_c2    = some r) : kont Tryz.prog w0 W μ0 (FnPost Tryz.prog Tryz.f18 0 0 (script_May_v r) []) (kAtR (bodyOf Tryz.f18) 2) none (script_May_T1000002 ) (script_May_H1000002 ) := by
 unfold script_May_c2 at h
 obtain rfl := si_ h
 exact rr_ [] 11 [.reg []]
  (a_ (a_ (r1_ tr) tr) tr)
theorem script_May_c3_ok {w0 : World} {W : Nat → Prop} {μ0 : Emb} (hμ : ∀ c p, μ0 c = some p → c < 0) (s : TS)   (r : (Bool)) (h : script_May_c3 s   = some r) : kont Tryz.prog w0 W μ0 (FnPost Tryz.prog Tryz.f18 0 0 (script_May_v r) []) (kAtR (bodyOf Tryz.f18) 3) none (script_May_T1000003 s ) (script_May_H1000003 s ) := by
 unfold script_May_c3 at h
 obtain ⟨yC3_2, E1, h⟩ := bind_some h
 rcases itb_some h with ⟨C3, h⟩ | ⟨C3, h⟩
 ·obtain ⟨yC3_5, E4, h⟩ := bind_some h
  rcases itb_some h with ⟨C6, h⟩ | ⟨C6, h⟩
  ·obtain ⟨yC3_8, E7, h⟩ := bind_some h
   rcases itb_some h with ⟨C9, h⟩ | ⟨C9, h⟩
   ·obtain ⟨yC3_11, E10, h⟩ := bind_some h
    rcases itb_some h with ⟨C12, h⟩ | ⟨C12, h⟩
    ·obtain rfl := si_ h
     exact rr_ [] 11 [.reg [(2, hC (script_isNumber_v yC3_2)), (3, hT), (6, hC (script_isNumber_v yC3_5)), (8, hT), (11, hC (script_isNumber_v yC3_8)), (13, hT), (16, hC (script_isNumber_v yC3_11)), (17, hT)]]
      (a_ (a_ (r1_ (l_ 1 25 rfl (c_ (script_isNumber_tri s.f_Node yC3_2 E1) (f_ C3 (r1_ (l_ 2 25 rfl (c_ (script_isNumber_tri s.f_Wire yC3_5 E4) (r1_ (f_ C6 (r1_ (l_ 23 25 rfl (c_ (script_isNumber_tri s.f_To yC3_8 E7) (r1_ (f_ C9 (r1_ (l_ 3 25 rfl (c_ (script_isNumber_tri s.f_N yC3_11 E10) (f_ C12 (a_ tr (t2_ (r4_ (l_ 24 25 rfl (r4_ tr))))))))))))))))))))))) tr) tr)
    ·rcases itb_some h with ⟨C13, h⟩ | ⟨C13, h⟩
     ·obtain rfl := si_ h
      exact rr_ [] 11 [.reg [(2, hC (script_isNumber_v yC3_2)), (3, hT), (6, hC (script_isNumber_v yC3_5)), (8, hT), (11, hC (script_isNumber_v yC3_8)), (13, hT), (16, hC (script_isNumber_v yC3_11)), (17, hF), (23, hT)]]
       (a_ (a_ (r1_ (l_ 1 25 rfl (c_ (script_isNumber_tri s.f_Node yC3_2 E1) (f_ C3 (r1_ (l_ 2 25 rfl (c_ (script_isNumber_tri s.f_Wire yC3_5 E4) (r1_ (f_ C6 (r1_ (l_ 23 25 rfl (c_ (script_isNumber_tri s.f_To yC3_8 E7) (r1_ (f_ C9 (r1_ (l_ 3 25 rfl (c_ (script_isNumber_tri s.f_N yC3_11 E10) (f_ C12 (r1_ (l_ 3 25 rfl (r1_ (r2_ (f_ C13 (r1_ (l_ 24 25 rfl (r4_ tr)))))))))))))))))))))))))) tr) tr)
     ·obtain rfl := si_ h
      exact rr_ [] 11 [.reg [(2, hC (script_isNumber_v yC3_2)), (3, hT), (6, hC (script_isNumber_v yC3_5)), (8, hT), (11, hC (script_isNumber_v yC3_8)), (13, hT), (16, hC (script_isNumber_v yC3_11)), (17, hF), (23, hF)]]
       (a_ (a_ (r1_ (l_ 1 25 rfl (c_ (script_isNumber_tri s.f_Node yC3_2 E1) (f_ C3 (r1_ (l_ 2 25 rfl (c_ (script_isNumber_tri s.f_Wire yC3_5 E4) (r1_ (f_ C6 (r1_ (l_ 23 25 rfl (c_ (script_isNumber_tri s.f_To yC3_8 E7) (r1_ (f_ C9 (r1_ (l_ 3 25 rfl (c_ (script_isNumber_tri s.f_N yC3_11 E10) (f_ C12 (r1_ (l_ 3 25 rfl (r1_ (r2_ (f_ C13 (t4_ (r2_ tr))))))))))))))))))))))))) tr) tr)
   ·obtain rfl := si_ h
    exact rr_ [] 11 [.reg [(2, hC (script_isNumber_v yC3_2)), (3, hT), (6, hC (script_isNumber_v yC3_5)), (8, hT), (11, hC (script_isNumber_v yC3_8)), (13, hF)]]
     (a_ (a_ (r1_ (l_ 1 25 rfl (c_ (script_isNumber_tri s.f_Node yC3_2 E1) (f_ C3 (r1_ (l_ 2 25 rfl (c_ (script_isNumber_tri s.f_Wire yC3_5 E4) (r1_ (f_ C6 (r1_ (l_ 23 25 rfl (c_ (script_isNumber_tri s.f_To yC3_8 E7) (r1_ (f_ C9 (t8_ (r2_ (t4_ (r2_ tr)))))))))))))))))) tr) tr)
  ·obtain rfl := si_ h
   exact rr_ [] 11 [.reg [(2, hC (script_isNumber_v yC3_2)), (3, hT), (6, hC (script_isNumber_v yC3_5)), (8, hF)]]
    (a_ (a_ (r1_ (l_ 1 25 rfl (c_ (script_isNumber_tri s.f_Node yC3_2 E1) (f_ C3 (r1_ (l_ 2 25 rfl (c_ (script_isNumber_tri s.f_Wire yC3_5 E4) (r1_ (f_ C6 (a_ tr (t2_ (r2_ (t8_ (r2_ (t4_ (r2_ tr)))))))))))))))) tr) tr)
 ·obtain rfl := si_ h
  exact rr_ [] 11 [.reg [(2, hC (script_isNumber_v yC3_2)), (3, hF)]]
   (a_ (a_ (r1_ (l_ 1 25 rfl (c_ (script_isNumber_tri s.f_Node yC3_2 E1) (f_ C3 (a_ tr (t2_ (r2_ (a_ tr (t2_ (r2_ (t8_ (r2_ (t4_ (r2_ tr)))))))))))))) tr) tr)
theorem script_May_ok (s : TS) (r : (Bool)) (h : script_May s = some r) : ∀ σ, Inj 0 σ → FnTri Tryz.prog 18 (renL σ [v_TS s]) (preOf σ 0 []) ((script_May_v r).ren σ) (upOf σ []) := by
 refine fo_ Tryz.func18 trivial trivial ?_
 intro w0 W μ0 hμ
 unfold script_May at h
 rcases itb_some h with ⟨c1, h⟩ | ⟨c1, h⟩
 ·obtain rfl := si_ h
  exact rr_ [] 20 [.reg [], .reg [(3, hT)], .reg []]
   (a_ (a_ (r2_ tr) (a_ (r1_ (l_ 0 25 rfl (r1_ (f_ c1 (a_ tr (t2_ (r2_ (a_ tr (t4_ (r2_ (a_ tr (t8_ (r1_ tr))))))))))))) (a_ (r1_ tr) tr))) tr)
 ·rcases itb_some h with ⟨c2, h⟩ | ⟨c2, h⟩
  ·obtain rfl := si_ h
   exact rr_ [] 20 [.reg [], .reg [(3, hF), (8, hT)], .reg []]
    (a_ (a_ (r2_ tr) (a_ (r1_ (l_ 0 25 rfl (r1_ (f_ c1 (r1_ (l_ 0 25 rfl (r2_ (f_ c2 (a_ tr (t4_ (r2_ (a_ tr (t8_ (r1_ tr)))))))))))))) (a_ (r1_ tr) tr))) tr)
  ·obtain ⟨y4, e3, h⟩ := bind_some h
   obtain ⟨y6, e5, h⟩ := bind_some h
   rcases itb_some h with ⟨c7, h⟩ | ⟨c7, h⟩
   ·obtain rfl := si_ h
    exact rr_ [] 20 [.reg [], .reg [(3, hF), (8, hF), (10, hC (script_clean_v y4)), (12, hC (script_Same_v y6)), (15, hT)], .reg []]
     (a_ (a_ (r2_ tr) (a_ (r1_ (l_ 0 25 rfl (r1_ (f_ c1 (r1_ (l_ 0 25 rfl (r2_ (f_ c2 (m_ 25 25 rfl (c_ (script_clean_tri s y4 e3) (m_ 25 25 rfl (c_ (script_Same_tri y4 s y6 e5) (r2_ (f_ c7 (a_ tr (t8_ (r1_ tr))))))))))))))))) (a_ (r1_ tr) tr))) tr)
   ·rcases itb_some h with ⟨c8, h⟩ | ⟨c8, h⟩
    ·obtain ⟨y10, e9, h⟩ := bind_some h
     rcases itb_some h with ⟨c11, h⟩ | ⟨c11, h⟩
     ·exact rt_ hμ [] 18 [.reg [], .reg [(3, hF), (8, hF), (10, hC (script_clean_v y4)), (12, hC (script_Same_v y6)), (15, hF), (19, hT), (22, hC (script_callMay_v y10)), (25, hT)]]
       (a_ (r2_ tr) (a_ (r1_ (l_ 0 25 rfl (r1_ (f_ c1 (r1_ (l_ 0 25 rfl (r2_ (f_ c2 (m_ 25 25 rfl (c_ (script_clean_tri s y4 e3) (m_ 25 25 rfl (c_ (script_Same_tri y4 s y6 e5) (r2_ (f_ c7 (r1_ (l_ 0 25 rfl (r1_ (f_ c8 (r1_ (m_ 23 25 rfl (c_ (script_callMay_tri s.f_Call y10 e9) (r2_ (f_ c11 tr))))))))))))))))))))))) tr)) (script_May_c2_ok hμ    r h) trivial
     ·exact rt_ hμ [0] 19 [.reg [], .reg [(3, hF), (8, hF), (10, hC (script_clean_v y4)), (12, hC (script_Same_v y6)), (15, hF), (19, hT), (22, hC (script_callMay_v y10)), (25, hF)]]
       (a_ (r2_ tr) (a_ (r1_ (l_ 0 25 rfl (r1_ (f_ c1 (r1_ (l_ 0 25 rfl (r2_ (f_ c2 (m_ 25 25 rfl (c_ (script_clean_tri s y4 e3) (m_ 25 25 rfl (c_ (script_Same_tri y4 s y6 e5) (r2_ (f_ c7 (r1_ (l_ 0 25 rfl (r1_ (f_ c8 (r1_ (m_ 23 25 rfl (c_ (script_callMay_tri s.f_Call y10 e9) (r2_ (f_ c11 tr))))))))))))))))))))))) tr)) (script_May_c3_ok hμ s   r h) ⟨rfl, trivial⟩
    ·obtain ⟨y10, e9, h⟩ := bind_some h
     rcases itb_some h with ⟨c11, h⟩ | ⟨c11, h⟩
     ·obtain ⟨y13, e12, h⟩ := bind_some h
      rcases itb_some h with ⟨c14, h⟩ | ⟨c14, h⟩
      ·obtain ⟨y16, e15, h⟩ := bind_some h
       rcases itb_some h with ⟨c17, h⟩ | ⟨c17, h⟩
       ·obtain ⟨y19, e18, h⟩ := bind_some h
        rcases itb_some h with ⟨c20, h⟩ | ⟨c20, h⟩
        ·obtain rfl := si_ h
         exact rr_ [] 21 [.reg [], .reg [(3, hF), (8, hF), (10, hC (script_clean_v y4)), (12, hC (script_Same_v y6)), (15, hF), (19, hF)], .reg [(2, hC (script_isNumber_v y10)), (3, hT), (6, hC (script_isNumber_v y13)), (8, hT), (11, hC (script_isNumber_v y16)), (13, hT), (16, hC (script_isNumber_v y19)), (17, hT)]]
          (a_ (a_ (r2_ tr) (a_ (r1_ (l_ 0 25 rfl (r1_ (f_ c1 (r1_ (l_ 0 25 rfl (r2_ (f_ c2 (m_ 25 25 rfl (c_ (script_clean_tri s y4 e3) (m_ 25 25 rfl (c_ (script_Same_tri y4 s y6 e5) (r2_ (f_ c7 (r1_ (l_ 0 25 rfl (r1_ (f_ c8 (t4_ (r2_ tr)))))))))))))))))))) (a_ (r1_ (l_ 1 25 rfl (c_ (script_isNumber_tri s.f_Node y10 e9) (f_ c11 (r1_ (l_ 2 25 rfl (c_ (script_isNumber_tri s.f_Wire y13 e12) (r1_ (f_ c14 (r1_ (l_ 23 25 rfl (c_ (script_isNumber_tri s.f_To y16 e15) (r1_ (f_ c17 (r1_ (l_ 3 25 rfl (c_ (script_isNumber_tri s.f_N y19 e18) (f_ c20 (a_ tr (t2_ (r4_ (l_ 24 25 rfl (r4_ tr))))))))))))))))))))))) tr))) tr)
        ·rcases itb_some h with ⟨c21, h⟩ | ⟨c21, h⟩
         ·obtain rfl := si_ h
          exact rr_ [] 21 [.reg [], .reg [(3, hF), (8, hF), (10, hC (script_clean_v y4)), (12, hC (script_Same_v y6)), (15, hF), (19, hF)], .reg [(2, hC (script_isNumber_v y10)), (3, hT), (6, hC (script_isNumber_v y13)), (8, hT), (11, hC (script_isNumber_v y16)), (13, hT), (16, hC (script_isNumber_v y19)), (17, hF), (23, hT)]]
           (a_ (a_ (r2_ tr) (a_ (r1_ (l_ 0 25 rfl (r1_ (f_ c1 (r1_ (l_ 0 25 rfl (r2_ (f_ c2 (m_ 25 25 rfl (c_ (script_clean_tri s y4 e3) (m_ 25 25 rfl (c_ (script_Same_tri y4 s y6 e5) (r2_ (f_ c7 (r1_ (l_ 0 25 rfl (r1_ (f_ c8 (t4_ (r2_ tr)))))))))))))))))))) (a_ (r1_ (l_ 1 25 rfl (c_ (script_isNumber_tri s.f_Node y10 e9) (f_ c11 (r1_ (l_ 2 25 rfl (c_ (script_isNumber_tri s.f_Wire y13 e12) (r1_ (f_ c14 (r1_ (l_ 23 25 rfl (c_ (script_isNumber_tri s.f_To y16 e15) (r1_ (f_ c17 (r1_ (l_ 3 25 rfl (c_ (script_isNumber_tri s.f_N y19 e18) (f_ c20 (r1_ (l_ 3 25 rfl (r1_ (r2_ (f_ c21 (r1_ (l_ 24 25 rfl (r4_ tr)))))))))))))))))))))))))) tr))) tr)
         ·obtain rfl := si_ h
          exact rr_ [] 21 [.reg [], .reg [(3, hF), (8, hF), (10, hC (script_clean_v y4)), (12, hC (script_Same_v y6)), (15, hF), (19, hF)], .reg [(2, hC (script_isNumber_v y10)), (3, hT), (6, hC (script_isNumber_v y13)), (8, hT), (11, hC (script_isNumber_v y16)), (13, hT), (16, hC (script_isNumber_v y19)), (17, hF), (23, hF)]]
           (a_ (a_ (r2_ tr) (a_ (r1_ (l_ 0 25 rfl (r1_ (f_ c1 (r1_ (l_ 0 25 rfl (r2_ (f_ c2 (m_ 25 25 rfl (c_ (script_clean_tri s y4 e3) (m_ 25 25 rfl (c_ (script_Same_tri y4 s y6 e5) (r2_ (f_ c7 (r1_ (l_ 0 25 rfl (r1_ (f_ c8 (t4_ (r2_ tr)))))))))))))))))))) (a_ (r1_ (l_ 1 25 rfl (c_ (script_isNumber_tri s.f_Node y10 e9) (f_ c11 (r1_ (l_ 2 25 rfl (c_ (script_isNumber_tri s.f_Wire y13 e12) (r1_ (f_ c14 (r1_ (l_ 23 25 rfl (c_ (script_isNumber_tri s.f_To y16 e15) (r1_ (f_ c17 (r1_ (l_ 3 25 rfl (c_ (script_isNumber_tri s.f_N y19 e18) (f_ c20 (r1_ (l_ 3 25 rfl (r1_ (r2_ (f_ c21 (t4_ (r2_ tr))))))))))))))))))))))))) tr))) tr)
       ·obtain rfl := si_ h
        exact rr_ [] 21 [.reg [], .reg [(3, hF), (8, hF), (10, hC (script_clean_v y4)), (12, hC (script_Same_v y6)), (15, hF), (19, hF)], .reg [(2, hC (script_isNumber_v y10)), (3, hT), (6, hC (script_isNumber_v y13)), (8, hT), (11, hC (script_isNumber_v y16)), (13, hF)]]
         (a_ (a_ (r2_ tr) (a_ (r1_ (l_ 0 25 rfl (r1_ (f_ c1 (r1_ (l_ 0 25 rfl (r2_ (f_ c2 (m_ 25 25 rfl (c_ (script_clean_tri s y4 e3) (m_ 25 25 rfl (c_ (script_Same_tri y4 s y6 e5) (r2_ (f_ c7 (r1_ (l_ 0 25 rfl (r1_ (f_ c8 (t4_ (r2_ tr)))))))))))))))))))) (a_ (r1_ (l_ 1 25 rfl (c_ (script_isNumber_tri s.f_Node y10 e9) (f_ c11 (r1_ (l_ 2 25 rfl (c_ (script_isNumber_tri s.f_Wire y13 e12) (r1_ (f_ c14 (r1_ (l_ 23 25 rfl (c_ (script_isNumber_tri s.f_To y16 e15) (r1_ (f_ c17 (t8_ (r2_ (t4_ (r2_ tr)))))))))))))))))) tr))) tr)
      ·obtain rfl := si_ h
       exact rr_ [] 21 [.reg [], .reg [(3, hF), (8, hF), (10, hC (script_clean_v y4)), (12, hC (script_Same_v y6)), (15, hF), (19, hF)], .reg [(2, hC (script_isNumber_v y10)), (3, hT), (6, hC (script_isNumber_v y13)), (8, hF)]]
        (a_ (a_ (r2_ tr) (a_ (r1_ (l_ 0 25 rfl (r1_ (f_ c1 (r1_ (l_ 0 25 rfl (r2_ (f_ c2 (m_ 25 25 rfl (c_ (script_clean_tri s y4 e3) (m_ 25 25 rfl (c_ (script_Same_tri y4 s y6 e5) (r2_ (f_ c7 (r1_ (l_ 0 25 rfl (r1_ (f_ c8 (t4_ (r2_ tr)))))))))))))))))))) (a_ (r1_ (l_ 1 25 rfl (c_ (script_isNumber_tri s.f_Node y10 e9) (f_ c11 (r1_ (l_ 2 25 rfl (c_ (script_isNumber_tri s.f_Wire y13 e12) (r1_ (f_ c14 (a_ tr (t2_ (r2_ (t8_ (r2_ (t4_ (r2_ tr)))))))))))))))) tr))) tr)
     ·obtain rfl := si_ h
      exact rr_ [] 21 [.reg [], .reg [(3, hF), (8, hF), (10, hC (script_clean_v y4)), (12, hC (script_Same_v y6)), (15, hF), (19, hF)], .reg [(2, hC (script_isNumber_v y10)), (3, hF)]]
       (a_ (a_ (r2_ tr) (a_ (r1_ (l_ 0 25 rfl (r1_ (f_ c1 (r1_ (l_ 0 25 rfl (r2_ (f_ c2 (m_ 25 25 rfl (c_ (script_clean_tri s y4 e3) (m_ 25 25 rfl (c_ (script_Same_tri y4 s y6 e5) (r2_ (f_ c7 (r1_ (l_ 0 25 rfl (r1_ (f_ c8 (t4_ (r2_ tr)))))))))))))))))))) (a_ (r1_ (l_ 1 25 rfl (c_ (script_isNumber_tri s.f_Node y10 e9) (f_ c11 (a_ tr (t2_ (r2_ (a_ tr (t2_ (r2_ (t8_ (r2_ (t4_ (r2_ tr)))))))))))))) tr))) tr)
theorem script_May_tri (s : TS) (r : (Bool)) (h : script_May s = some r) : FnTri Tryz.prog 18 [v_TS s] [] (script_May_v r) [] := FnTri.none (script_May_ok s r h) rfl rfl
/-- parrel/script.Parse -/
def script_Parse_v (r : (TS) × (Int)) : LV := .tup [v_TS r.1, .int .i64 r.2]
def script_Parse_T1000006   : List LV := .any :: .any :: (.ptr 0 0 0) :: n_ 32 []
def script_Parse_H1000006   : Heap := [some (.var [Z1_, Z8_, Z8_, Z8_, .bool false, Z1_, Z4_, Z1_, Z1_, Z4_, Z4_, Z1_, Z1_, Z1_, Z1_, Z1_, Z1_, Z1_, Z1_, .str [], Z1_, Z1_, .nilsl, Z8_, .nilsl])]
def script_Parse_T1000007 (y5 : (TS) × (List (List UInt8)) × (Bool))  : List LV := .any :: .any :: (.ptr 0 0 0) :: .any :: .any :: (.ptr 1 0 0) :: n_ 29 []
def script_Parse_H1000007 (y5 : (TS) × (List (List UInt8)) × (Bool))  : Heap := [some (.var [Z1_, Z8_, Z8_, Z8_, .bool false, Z1_, Z4_, Z1_, Z1_, Z4_, Z4_, Z1_, Z1_, Z1_, Z1_, Z1_, Z1_, Z1_, Z1_, .str [], Z1_, Z1_, .nilsl, Z8_, .nilsl]), some (.var (c_TS y5.1))]
def script_Parse_c6    : Option ((TS) × (Int)) :=
 some ((TS.mk 0 0 0 0 false (TN.mk (TE.mk 0 0) 0 (TX.mk 0 0 0) (A8.mk 0 0 0 0 0 0 0 0) [] 0 0 ([] : List (Int))) 0 ([] : List (Int))), 3)
def script_Parse_c7 (y5 : (TS) × (List (List UInt8)) × (Bool))   : Option ((TS) × (Int)) :=
 some (y5.1, 0)
def script_Parse (line : List UInt8) : Option ((TS) × (Int)) :=
 if ((decide (16384 < ((line).length : Int))) : Bool) then
  some ((TS.mk 0 0 0 0 false (TN.mk (TE.mk 0 0) 0 (TX.mk 0 0 0) (A8.mk 0 0 0 0 0 0 0 0) [] 0 0 ([] : List (Int))) 0 ([] : List (Int))), 5)
 else
  (strings_Split line).bind fun y3 =>
  (sr_step (TQ.mk y3 false)).bind fun y5 =>
  if (y5.2.2 : Bool) then
   script_Parse_c6   
  else
   if ((decide (0 < ((y5.2.1).length : Int))) : Bool) then
    script_Parse_c6   
   else
    (script_May y5.1).bind fun y9 =>
    if ((!y9) : Bool) then
     script_Parse_c6   
    else
     script_Parse_c7 y5  
theorem script_Parse_c6_ok {w0 : World} {W : Nat → Prop} {μ0 : Emb} (hμ : ∀ c p, μ0 c = some p → c < 0)    (r : (TS) × (Int)) (h : script_Parse_c6    = some r) : kont Tryz.prog w0 W μ0 (FnPost Tryz.prog Tryz.f6 0 0 (script_Parse_v r) []) (kAtR (bodyOf Tryz.f6) 6) none (script_Parse_T1000006 ) (script_Parse_H1000006 ) := by
 unfold script_Parse_c6 at h
 obtain rfl := si_ h
 exact rr_ [] 13 [.reg [], .wk [] [(0, .var [Z1_, Z8_, Z8_, Z8_, .bool false, Z1_, Z4_, Z1_, Z1_, Z4_, Z4_, Z1_, Z1_, Z1_, Z1_, Z1_, Z1_, Z1_, Z1_, .str [], Z1_, Z1_, zn_, Z8_, .nilsl])], .wk [] [(0, .var (c_TS (TS.mk 0 0 0 0 false (TN.mk (TE.mk 0 0) 0 (TX.mk 0 0 0) (A8.mk 0 0 0 0 0 0 0 0) [] 0 0 ([] : List (Int))) 0 ([] : List (Int)))))]]
  (a_ (a_ (a_ (a_ (Eq.refl true) tr) (a_ (a_ (a_ (Eq.refl 25) (a_ (le_ 25 25 rfl) (Eq.refl 0))) tr) (r1_ tr))) (a_ (a_ tr (a_ (LO.Sub.var (lel_set [Z1_, Z8_, Z8_, Z8_, .bool false, Z1_, Z4_, Z1_, Z1_, Z4_, Z4_, Z1_, Z1_, Z1_, Z1_, Z1_, Z1_, Z1_, Z1_, .str [], Z1_, Z1_, .nilsl, Z8_, .nilsl] 22 .nilsl zn_ rfl (le_nil_ds 1 (rowF (cInt .u8) default [])))) tr)) (a_ (a_ tr (a_ (LO.Sub.var (lel_set [Z1_, Z8_, Z8_, Z8_, .bool false, Z1_, Z4_, Z1_, Z1_, Z4_, Z4_, Z1_, Z1_, Z1_, Z1_, Z1_, Z1_, Z1_, Z1_, .str [], Z1_, Z1_, zn_, Z8_, .nilsl] 24 .nilsl zn_ rfl (le_nil_ds 1 (rowF (cInt .u8) default [])))) tr)) tr))) (a_ (a_ tr (le_ 25 25 rfl)) tr))
theorem script_Parse_c7_ok {w0 : World} {W : Nat → Prop} {μ0 : Emb} (hμ : ∀ c p, μ0 c = some p → c < 0) (y5 : (TS) × (List (List UInt8)) × (Bool))   (r : (TS) × (Int)) (h : script_Parse_c7 y5   = some r) : kont Tryz.prog w0 W μ0 (FnPost Tryz.prog Tryz.f6 0 0 (script_Parse_v r) []) (kAtR (bodyOf Tryz.f6) 7) none (script_Parse_T1000007 y5 ) (script_Parse_H1000007 y5 ) := by
 unfold script_Parse_c7 at h
 obtain rfl := si_ h
 exact rr_ [] 11 [.reg []]
  (a_ (a_ (m_ 25 25 rfl (a_ (a_ (a_ (Eq.refl 25) (a_ (le_ 25 25 rfl) (Eq.refl 0))) tr) (r1_ tr))) tr) (a_ (a_ tr (le_ 25 25 rfl)) tr))
theorem script_Parse_ok (line : List UInt8) (r : (TS) × (Int)) (h : script_Parse line = some r) : ∀ σ, Inj 0 σ → FnTri Tryz.prog 6 (renL σ [.str line]) (preOf σ 0 []) ((script_Parse_v r).ren σ) (upOf σ []) := by
 refine fo_ Tryz.func6 trivial trivial ?_
 intro w0 W μ0 hμ
 unfold script_Parse at h
 rcases itb_some h with ⟨c1, h⟩ | ⟨c1, h⟩
 ·obtain rfl := si_ h
  exact rr_ [] 22 [.reg [], .reg [(2, hT)], .reg [], .wk [] [(0, .var [Z1_, Z8_, Z8_, Z8_, .bool false, Z1_, Z4_, Z1_, Z1_, Z4_, Z4_, Z1_, Z1_, Z1_, Z1_, Z1_, Z1_, Z1_, Z1_, .str [], Z1_, Z1_, zn_, Z8_, .nilsl])], .wk [] [(0, .var (c_TS (TS.mk 0 0 0 0 false (TN.mk (TE.mk 0 0) 0 (TX.mk 0 0 0) (A8.mk 0 0 0 0 0 0 0 0) [] 0 0 ([] : List (Int))) 0 ([] : List (Int)))))]]
   (a_ (a_ (r2_ tr) (a_ (r2_ (f_ c1 tr)) (a_ (a_ (a_ (Eq.refl true) tr) (a_ (a_ (a_ (Eq.refl 25) (a_ (le_ 25 25 rfl) (Eq.refl 0))) tr) (r1_ tr))) (a_ (a_ tr (a_ (LO.Sub.var (lel_set [Z1_, Z8_, Z8_, Z8_, .bool false, Z1_, Z4_, Z1_, Z1_, Z4_, Z4_, Z1_, Z1_, Z1_, Z1_, Z1_, Z1_, Z1_, Z1_, .str [], Z1_, Z1_, .nilsl, Z8_, .nilsl] 22 .nilsl zn_ rfl (le_nil_ds 1 (rowF (cInt .u8) default [])))) tr)) (a_ (a_ tr (a_ (LO.Sub.var (lel_set [Z1_, Z8_, Z8_, Z8_, .bool false, Z1_, Z4_, Z1_, Z1_, Z4_, Z4_, Z1_, Z1_, Z1_, Z1_, Z1_, Z1_, Z1_, Z1_, .str [], Z1_, Z1_, zn_, Z8_, .nilsl] 24 .nilsl zn_ rfl (le_nil_ds 1 (rowF (cInt .u8) default [])))) tr)) tr))))) (a_ (a_ tr (le_ 25 25 rfl)) tr))
 ·obtain ⟨y3, e2, h⟩ := bind_some h
  obtain ⟨y5, e4, h⟩ := bind_some h
  rcases itb_some h with ⟨c6, h⟩ | ⟨c6, h⟩
  ·exact rt_ hμ [0] 30 [.reg [], .reg [(2, hF)], .reg [(1, hC (strings_Split_v y3))], .reg [(1, { call := some ((sr_step_v y5).ren (sel [1]), preOf (sel [1]) 0 (sr_step_objs (TQ.mk y3 false)), upOf (sel [1]) (sr_step_up (TQ.mk y3 false) y5)) })], .reg [(4, hT)]]
    (a_ (r2_ tr) (a_ (r2_ (f_ c1 tr)) (a_ (r1_ (c_ (strings_Split_tri line y3 e2) (a_ (a_ (Eq.refl true) tr) (r2_ tr)))) (a_ (r1_ (a_ (a_ (a_ (sr_step_ok (TQ.mk y3 false) y5 e4 (sel [1]) (sel_inj rfl rfl)) (a_ (LO.Le.refl (.var (c_TQ (TQ.mk y3 false)))) tr)) tr) (r1_ (a_ (a_ (a_ (Eq.refl 25) (a_ (le_ 25 25 rfl) (Eq.refl 0))) tr) tr)))) (a_ (r1_ (r2_ (l_ 1 2 rfl (f_ c6 (t2_ (t4_ (r2_ (a_ tr (t2_ (r1_ tr)))))))))) tr))))) (script_Parse_c6_ok hμ    r h) ⟨rfl, trivial⟩
  ·rcases itb_some h with ⟨c7, h⟩ | ⟨c7, h⟩
   ·exact rt_ hμ [0] 30 [.reg [], .reg [(2, hF)], .reg [(1, hC (strings_Split_v y3))], .reg [(1, { call := some ((sr_step_v y5).ren (sel [1]), preOf (sel [1]) 0 (sr_step_objs (TQ.mk y3 false)), upOf (sel [1]) (sr_step_up (TQ.mk y3 false) y5)) })], .reg [(4, hF), (12, hT)]]
     (a_ (r2_ tr) (a_ (r2_ (f_ c1 tr)) (a_ (r1_ (c_ (strings_Split_tri line y3 e2) (a_ (a_ (Eq.refl true) tr) (r2_ tr)))) (a_ (r1_ (a_ (a_ (a_ (sr_step_ok (TQ.mk y3 false) y5 e4 (sel [1]) (sel_inj rfl rfl)) (a_ (LO.Le.refl (.var (c_TQ (TQ.mk y3 false)))) tr)) tr) (r1_ (a_ (a_ (a_ (Eq.refl 25) (a_ (le_ 25 25 rfl) (Eq.refl 0))) tr) tr)))) (a_ (r1_ (r2_ (l_ 1 2 rfl (f_ c6 (r1_ (r2_ (l_ 0 2 rfl (r1_ (r2_ (f_ c7 (a_ tr (t2_ (r1_ tr))))))))))))) tr))))) (script_Parse_c6_ok hμ    r h) ⟨rfl, trivial⟩
   ·obtain ⟨y9, e8, h⟩ := bind_some h
    rcases itb_some h with ⟨c10, h⟩ | ⟨c10, h⟩
    ·exact rt_ hμ [0] 30 [.reg [], .reg [(2, hF)], .reg [(1, hC (strings_Split_v y3))], .reg [(1, { call := some ((sr_step_v y5).ren (sel [1]), preOf (sel [1]) 0 (sr_step_objs (TQ.mk y3 false)), upOf (sel [1]) (sr_step_up (TQ.mk y3 false) y5)) })], .reg [(4, hF), (12, hF), (14, hC (script_May_v y9)), (16, hT)]]
      (a_ (r2_ tr) (a_ (r2_ (f_ c1 tr)) (a_ (r1_ (c_ (strings_Split_tri line y3 e2) (a_ (a_ (Eq.refl true) tr) (r2_ tr)))) (a_ (r1_ (a_ (a_ (a_ (sr_step_ok (TQ.mk y3 false) y5 e4 (sel [1]) (sel_inj rfl rfl)) (a_ (LO.Le.refl (.var (c_TQ (TQ.mk y3 false)))) tr)) tr) (r1_ (a_ (a_ (a_ (Eq.refl 25) (a_ (le_ 25 25 rfl) (Eq.refl 0))) tr) tr)))) (a_ (r1_ (r2_ (l_ 1 2 rfl (f_ c6 (r1_ (r2_ (l_ 0 2 rfl (r1_ (r2_ (f_ c7 (m_ 25 25 rfl (c_ (script_May_tri y5.1 y9 e8) (r1_ (f_ c10 tr)))))))))))))) tr))))) (script_Parse_c6_ok hμ    r h) ⟨rfl, trivial⟩
    ·exact rt_ hμ [0, 2] 31 [.reg [], .reg [(2, hF)], .reg [(1, hC (strings_Split_v y3))], .reg [(1, { call := some ((sr_step_v y5).ren (sel [1]), preOf (sel [1]) 0 (sr_step_objs (TQ.mk y3 false)), upOf (sel [1]) (sr_step_up (TQ.mk y3 false) y5)) })], .reg [(4, hF), (12, hF), (14, hC (script_May_v y9)), (16, hF)]]
      (a_ (r2_ tr) (a_ (r2_ (f_ c1 tr)) (a_ (r1_ (c_ (strings_Split_tri line y3 e2) (a_ (a_ (Eq.refl true) tr) (r2_ tr)))) (a_ (r1_ (a_ (a_ (a_ (sr_step_ok (TQ.mk y3 false) y5 e4 (sel [1]) (sel_inj rfl rfl)) (a_ (LO.Le.refl (.var (c_TQ (TQ.mk y3 false)))) tr)) tr) (r1_ (a_ (a_ (a_ (Eq.refl 25) (a_ (le_ 25 25 rfl) (Eq.refl 0))) tr) tr)))) (a_ (r1_ (r2_ (l_ 1 2 rfl (f_ c6 (r1_ (r2_ (l_ 0 2 rfl (r1_ (r2_ (f_ c7 (m_ 25 25 rfl (c_ (script_May_tri y5.1 y9 e8) (r1_ (f_ c10 tr)))))))))))))) tr))))) (script_Parse_c7_ok hμ y5   r h) ⟨rfl, rfl, trivial⟩
theorem script_Parse_tri (line : List UInt8) (r : (TS) × (Int)) (h : script_Parse line = some r) : FnTri Tryz.prog 6 [.str line] [] (script_Parse_v r) [] := FnTri.none (script_Parse_ok line r h) rfl rfl
/-- slices.Reverse[[]byte,byte] -/
def slices_Reverse_byte_byte_v (r : (List (Int))) : LV := .tup []
def slices_Reverse_byte_byte_up (s : List (Int)) (r : (List (Int))) : Upd := [(0, some (.gr 1 (r).length (rowF (cInt .u8) default r)))]
def slices_Reverse_byte_byte_objs (s : List (Int)) : List LO := [.gr 1 (s).length (rowF (cInt .u8) default s)]
def slices_Reverse_byte_byte_T0  (i : Int) (j : Int) (l : List (Int)) : List LV := (.gs 0 (l).length) :: .any :: (.int .i64 i) :: (.int .i64 j) :: n_ 24 []
def slices_Reverse_byte_byte_H0  (i : Int) (j : Int) (l : List (Int)) : Heap := [some (.gr 1 (l).length (rowF (cInt .u8) default l))]
def slices_Reverse_byte_byte_l0 (s : List (Int))  : Nat → (Int) → (Int) → (List (Int)) → Option ((List (Int)))
 | 0, _, _, _ => none
 | fuel + 1, i, j, l =>
  if ((decide (i < j)) : Bool) then
   if 0 ≤ j ∧ j < (((l).length : Nat) : Int) then
   if 0 ≤ i ∧ i < (((l).length : Nat) : Int) then
   if j.toNat < ((l.set i.toNat (l.getD j.toNat default))).length then
   slices_Reverse_byte_byte_l0 s  fuel (IntKind.wrap .i64 (i + 1)) (IntKind.wrap .i64 (j - 1)) ((l.set i.toNat (l.getD j.toNat default)).set j.toNat (l.getD i.toNat default))
   else none
   else none
   else none
  else
   some l
def slices_Reverse_byte_byte (s : List (Int)) : Option ((List (Int))) :=
 slices_Reverse_byte_byte_l0 s  big 0 (IntKind.wrap .i64 (((s).length : Int) - 1)) s
theorem slices_Reverse_byte_byte_l0_ok {w0 : World} {W : Nat → Prop} {μ0 : Emb} (hμ : ∀ c p, μ0 c = some p → c < 1) (s : List (Int)) : ∀ (fuel : Nat) (i : Int) (j : Int) (l : List (Int)) (r : (List (Int))), slices_Reverse_byte_byte_l0 s  fuel i j l = some r → kont Tryz.prog w0 W μ0 (FnPost Tryz.prog Tryz.f54 1 1 (slices_Reverse_byte_byte_v r) (slices_Reverse_byte_byte_up s r)) (kAt (bodyOf Tryz.f54) 0) none (slices_Reverse_byte_byte_T0  i j l) (slices_Reverse_byte_byte_H0  i j l) := by
 intro fuel
 induction fuel with
 | zero => intro i j l r h; rw [slices_Reverse_byte_byte_l0] at h; cases h
 | succ fuel ih =>
  intro i j l r h
  rw [slices_Reverse_byte_byte_l0] at h
  rcases itb_some h with ⟨C1, h⟩ | ⟨C1, h⟩
  ·obtain ⟨G2, h⟩ := guard_some h
   obtain ⟨G3, h⟩ := guard_some h
   obtain ⟨G4, h⟩ := guard_some h
   exact rt_ hμ [] 24 [.go, .reg [(2, hT)], .reg [(13, { os := [(0, .gr 1 ((l.set i.toNat (l.getD j.toNat default))).length (rowF (cInt .u8) default (l.set i.toNat (l.getD j.toNat default))))] }), (15, { os := [(0, .gr 1 (((l.set i.toNat (l.getD j.toNat default)).set j.toNat (l.getD i.toNat default))).length (rowF (cInt .u8) default ((l.set i.toNat (l.getD j.toNat default)).set j.toNat (l.getD i.toNat default))))] })], .reg [], .wk [(0, .gs 0 (((l.set i.toNat (l.getD j.toNat default)).set j.toNat (l.getD i.toNat default))).length)] []]
    (a_ (r2_ (f_ C1 tr)) (a_ (r2_ (r4_ (a_ (a_ (a_ (Eq.refl 1) G2) tr) (a_ (a_ (a_ (ltN G2) (lt_ 0 1 rfl)) tr) (r2_ (a_ (a_ (a_ (Eq.refl 1) G3) tr) (a_ (a_ (a_ (ltN G3) (lt_ 0 1 rfl)) tr) (a_ (a_ (a_ (Eq.refl 1) G3) tr) (a_ (a_ (a_ (Eq.refl 1) (a_ (le_ 1 1 rfl) (ltN G3))) (a_ (sub_set_gr (cInt .u8) default 1 l i.toNat (l.getD j.toNat default) (ltN G3) (splL (rowF (cInt .u8) default l i.toNat) 0 [.int .u8 (l.getD j.toNat default)]) (by kernel_rfl)) tr)) (a_ (a_ (a_ (Eq.refl 1) G2) tr) (a_ (a_ (a_ (Eq.refl 1) (a_ (le_ 1 1 rfl) G4)) (a_ (sub_set_gr (cInt .u8) default 1 (l.set i.toNat (l.getD j.toNat default)) j.toNat (l.getD i.toNat default) G4 (splL (rowF (cInt .u8) default (l.set i.toNat (l.getD j.toNat default)) j.toNat) 0 [.int .u8 (l.getD i.toNat default)]) (by kernel_rfl)) tr)) tr))))))))))) (a_ (r2_ (r4_ tr)) (a_ (a_ (a_ (le_gs 0 (show (l).length = (((l.set i.toNat (l.getD j.toNat default)).set j.toNat (l.getD i.toNat default))).length from by simp)) tr) tr) tr)))) (ih _ _ _ r h) ⟨fun _ _ => rfl, trivial⟩
  ·obtain rfl := si_ h
   exact rr_ [] 16 [.go, .reg [(2, hF)]]
    (a_ (a_ (r2_ (f_ C1 tr)) tr) tr)
theorem slices_Reverse_byte_byte_ok (s : List (Int)) (r : (List (Int))) (h : slices_Reverse_byte_byte s = some r) : ∀ σ, Inj 1 σ → FnTri Tryz.prog 54 (renL σ [.gs 0 (s).length]) (preOf σ 0 (slices_Reverse_byte_byte_objs s)) ((slices_Reverse_byte_byte_v r).ren σ) (upOf σ (slices_Reverse_byte_byte_up s r)) := by
 refine fo_ Tryz.func54 ⟨fun _ _ => rfl, trivial⟩ ⟨fun _ _ => rfl, trivial⟩ ?_
 intro w0 W μ0 hμ
 unfold slices_Reverse_byte_byte at h
 exact rt_ hμ [] 14 [.reg []]
  (a_ (r1_ (r4_ tr)) tr) (slices_Reverse_byte_byte_l0_ok hμ s  big _ _ _ r h) ⟨fun _ _ => rfl, trivial⟩
/-- parrel/script.digits -/
def script_digits_r_v (r : (List UInt8)) : LV := .str r
def script_digits_r_T0  (x_n2 : Int) (l : List (Int)) : List LV := (.int .i64 x_n2) :: .any :: .any :: (.gs 0 (l).length) :: n_ 25 []
def script_digits_r_H0  (x_n2 : Int) (l : List (Int)) : Heap := [some (.gr 1 (l).length (rowF (cInt .u8) default l))]
def script_digits_r_l0   : Nat → (Int) → (List (Int)) → Option ((List UInt8))
 | 0, _, _ => none
 | fuel + 1, x_n2, l =>
  if ((decide (9 < x_n2)) : Bool) then
   if 0 ≤ (Int.tmod x_n2 10) ∧ (Int.tmod x_n2 10) < (((([48, 49, 50, 51, 52, 53, 54, 55, 56, 57, 97, 98, 99, 100, 101, 102] : List UInt8)).length : Nat) : Int) then
   if ((l).length + (([((([48, 49, 50, 51, 52, 53, 54, 55, 56, 57, 97, 98, 99, 100, 101, 102] : List UInt8).getD ((Int.tmod x_n2 10)).toNat 0).toNat : Int)] : List (Int))).length) * 1 ≤ 140737488351232 then
   script_digits_r_l0   fuel (IntKind.wrap .i64 (Int.tdiv x_n2 10)) (l ++ ([((([48, 49, 50, 51, 52, 53, 54, 55, 56, 57, 97, 98, 99, 100, 101, 102] : List UInt8).getD ((Int.tmod x_n2 10)).toNat 0).toNat : Int)] : List (Int)))
   else none
   else none
  else
   if 0 ≤ x_n2 ∧ x_n2 < (((([48, 49, 50, 51, 52, 53, 54, 55, 56, 57, 97, 98, 99, 100, 101, 102] : List UInt8)).length : Nat) : Int) then
   if ((l).length + (([((([48, 49, 50, 51, 52, 53, 54, 55, 56, 57, 97, 98, 99, 100, 101, 102] : List UInt8).getD x_n2.toNat 0).toNat : Int)] : List (Int))).length) * 1 ≤ 140737488351232 then
   (slices_Reverse_byte_byte (l ++ ([((([48, 49, 50, 51, 52, 53, 54, 55, 56, 57, 97, 98, 99, 100, 101, 102] : List UInt8).getD x_n2.toNat 0).toNat : Int)] : List (Int)))).bind fun yL0_5 =>
   if ((l ++ ([((([48, 49, 50, 51, 52, 53, 54, 55, 56, 57, 97, 98, 99, 100, 101, 102] : List UInt8).getD x_n2.toNat 0).toNat : Int)] : List (Int)))).length = (yL0_5).length then
   some (strI yL0_5)
   else none
   else none
   else none
def script_digits_r (x_n : Int) : Option ((List UInt8)) :=
 if ((decide (x_n < 0)) : Bool) then
  none
 else
  script_digits_r_l0   big x_n ([] : List (Int))
theorem script_digits_r_l0_ok {w0 : World} {W : Nat → Prop} {μ0 : Emb} (hμ : ∀ c p, μ0 c = some p → c < 0) : ∀ (fuel : Nat) (x_n2 : Int) (l : List (Int)) (r : (List UInt8)), script_digits_r_l0   fuel x_n2 l = some r → kont Tryz.prog w0 W μ0 (FnPost Tryz.prog Tryz.f28 0 0 (script_digits_r_v r) []) (kAt (bodyOf Tryz.f28) 0) none (script_digits_r_T0  x_n2 l) (script_digits_r_H0  x_n2 l) := by
 intro fuel
 induction fuel with
 | zero => intro x_n2 l r h; rw [script_digits_r_l0] at h; cases h
 | succ fuel ih =>
  intro x_n2 l r h
  rw [script_digits_r_l0] at h
  rcases itb_some h with ⟨C1, h⟩ | ⟨C1, h⟩
  ·obtain ⟨G2, h⟩ := guard_some h
   obtain ⟨G3, h⟩ := guard_some h
   exact rt_ hμ [2] 23 [.go, .reg [(1, hT)], .reg [(4, { os := [(1, .gr 1 (([((sg_.getD ((Int.tmod x_n2 10)).toNat 0).toNat : Int)] : List (Int))).length (rowF (cInt .u8) default ([((sg_.getD ((Int.tmod x_n2 10)).toNat 0).toNat : Int)] : List (Int))))], v := some (.gs 1 (([((sg_.getD ((Int.tmod x_n2 10)).toNat 0).toNat : Int)] : List (Int))).length) }), (5, { app := 3, os := [(2, .gr 1 ((l ++ ([((sg_.getD ((Int.tmod x_n2 10)).toNat 0).toNat : Int)] : List (Int)))).length (rowF (cInt .u8) default (l ++ ([((sg_.getD ((Int.tmod x_n2 10)).toNat 0).toNat : Int)] : List (Int)))))], v := some (.gs 2 ((l ++ ([((sg_.getD ((Int.tmod x_n2 10)).toNat 0).toNat : Int)] : List (Int)))).length) })], .reg []]
    (a_ (r1_ (f_ C1 tr)) (a_ (r2_ (a_ (a_ (ne0 10 rfl) tr) (a_ (a_ G2 tr) (a_ (a_ (a_ (Eq.refl true) (a_ (Eq.refl 1) (a_ (lt_ 0 1 rfl) (le_ 1 16777216 rfl)))) (a_ (le_sl_gs 1 1 (some 1) rfl) (a_ (sub_lit (cInt .u8) default 1 (fun _ => rfl) ([((sg_.getD ((Int.tmod x_n2 10)).toNat 0).toNat : Int)] : List (Int))) tr))) (a_ (a_ (a_ (a_ (Eq.refl 1) (Nat.le_refl (([((sg_.getD ((Int.tmod x_n2 10)).toNat 0).toNat : Int)] : List (Int))).length)) (a_ (a_ (lt_ 0 1 rfl) (a_ (lt_ 0 1 rfl) (a_ G3 (a_ (Eq.refl 1) (Eq.refl true))))) (a_ (Eq.refl 1) (Nat.le_refl (l).length)))) (a_ (le_gs_app 2 l ([((sg_.getD ((Int.tmod x_n2 10)).toNat 0).toNat : Int)] : List (Int))) (a_ (sub_app (cInt .u8) default 1 l ([((sg_.getD ((Int.tmod x_n2 10)).toNat 0).toNat : Int)] : List (Int))) tr))) (r1_ tr)))))) (a_ (r1_ (a_ (a_ (ne0 10 rfl) tr) (r1_ tr))) tr))) (ih _ _ r h) ⟨fun _ _ => rfl, trivial⟩
  ·obtain ⟨G2, h⟩ := guard_some h
   obtain ⟨G3, h⟩ := guard_some h
   obtain ⟨yL0_5, E4, h⟩ := bind_some h
   obtain ⟨G6, h⟩ := guard_some h
   obtain rfl := si_ h
   exact rr_ [] 27 [.go, .reg [(1, hF)], .reg [(3, { os := [(1, .gr 1 (([((sg_.getD x_n2.toNat 0).toNat : Int)] : List (Int))).length (rowF (cInt .u8) default ([((sg_.getD x_n2.toNat 0).toNat : Int)] : List (Int))))], v := some (.gs 1 (([((sg_.getD x_n2.toNat 0).toNat : Int)] : List (Int))).length) }), (4, { app := 3, os := [(2, .gr 1 ((l ++ ([((sg_.getD x_n2.toNat 0).toNat : Int)] : List (Int)))).length (rowF (cInt .u8) default (l ++ ([((sg_.getD x_n2.toNat 0).toNat : Int)] : List (Int)))))], v := some (.gs 2 ((l ++ ([((sg_.getD x_n2.toNat 0).toNat : Int)] : List (Int)))).length) })], .reg [(1, { call := some ((slices_Reverse_byte_byte_v yL0_5).ren (sel [2]), preOf (sel [2]) 0 (slices_Reverse_byte_byte_objs (l ++ ([((sg_.getD x_n2.toNat 0).toNat : Int)] : List (Int)))), upOf (sel [2]) (slices_Reverse_byte_byte_up (l ++ ([((sg_.getD x_n2.toNat 0).toNat : Int)] : List (Int))) yL0_5)) })], .wk [(3, .gs 2 (yL0_5).length), (24, .gs 2 (yL0_5).length), (25, .gs 2 (yL0_5).length)] [], .frz 2, .reg [(1, { v := some (.str (strI yL0_5)) })]]
    (a_ (a_ (r1_ (f_ C1 tr)) (a_ (r2_ (a_ (a_ G2 tr) (a_ (a_ (a_ (Eq.refl true) (a_ (Eq.refl 1) (a_ (lt_ 0 1 rfl) (le_ 1 16777216 rfl)))) (a_ (le_sl_gs 1 1 (some 1) rfl) (a_ (sub_lit (cInt .u8) default 1 (fun _ => rfl) ([((sg_.getD x_n2.toNat 0).toNat : Int)] : List (Int))) tr))) (a_ (a_ (a_ (a_ (Eq.refl 1) (Nat.le_refl (([((sg_.getD x_n2.toNat 0).toNat : Int)] : List (Int))).length)) (a_ (a_ (lt_ 0 1 rfl) (a_ (lt_ 0 1 rfl) (a_ G3 (a_ (Eq.refl 1) (Eq.refl true))))) (a_ (Eq.refl 1) (Nat.le_refl (l).length)))) (a_ (le_gs_app 2 l ([((sg_.getD x_n2.toNat 0).toNat : Int)] : List (Int))) (a_ (sub_app (cInt .u8) default 1 l ([((sg_.getD x_n2.toNat 0).toNat : Int)] : List (Int))) tr))) (r1_ tr))))) (a_ (r1_ (a_ (a_ (a_ (slices_Reverse_byte_byte_ok (l ++ ([((sg_.getD x_n2.toNat 0).toNat : Int)] : List (Int))) yL0_5 E4 (sel [2]) (sel_inj rfl rfl)) (a_ (LO.Le.refl (.gr 1 ((l ++ ([((sg_.getD x_n2.toNat 0).toNat : Int)] : List (Int)))).length (rowF (cInt .u8) default (l ++ ([((sg_.getD x_n2.toNat 0).toNat : Int)] : List (Int)))))) tr)) tr) tr)) (a_ (a_ (a_ (le_gs 2 G6) (a_ (le_gs 2 G6) (a_ (le_gs 2 G6) tr))) tr) (a_ (a_ (fz_row (enc := (cInt .u8)) (d := default) (fun _ => rfl) yL0_5) (a_ (Nat.le_refl (yL0_5).length) (a_ (Nat.le_refl (yL0_5).length) (a_ (Nat.le_refl (yL0_5).length) tr)))) (a_ (r1_ (a_ (a_ (a_ (Eq.refl 1) (str_ob yL0_5)) (a_ (le_str yL0_5) tr)) (r1_ tr))) tr)))))) tr)
theorem script_digits_r_ok (x_n : Int) (r : (List UInt8)) (h : script_digits_r x_n = some r) : ∀ σ, Inj 0 σ → FnTri Tryz.prog 28 (renL σ [.int .i64 x_n]) (preOf σ 0 []) ((script_digits_r_v r).ren σ) (upOf σ []) := by
 refine fo_ Tryz.func28 trivial trivial ?_
 intro w0 W μ0 hμ
 unfold script_digits_r at h
 rcases itb_some h with ⟨c1, h⟩ | ⟨c1, h⟩
 ·cases h
 ·exact rt_ hμ [0] 25 [.reg [], .reg [(1, hF)], .void (.gr 1 (([] : List (Int))).length (rowF (cInt .u8) default ([] : List (Int)))), .reg [(0, { v := some (.gs 0 (([] : List (Int))).length) })]]
   (a_ (r1_ tr) (a_ (r1_ (f_ c1 tr)) (a_ (Eq.refl 0) (a_ (a_ (a_ tr (a_ (le_nil_gs 0) tr)) tr) tr)))) (script_digits_r_l0_ok hμ   big _ _ r h) ⟨fun _ _ => rfl, trivial⟩
theorem script_digits_r_tri (x_n : Int) (r : (List UInt8)) (h : script_digits_r x_n = some r) : FnTri Tryz.prog 28 [.int .i64 x_n] [] (script_digits_r_v r) [] := FnTri.none (script_digits_r_ok x_n r h) rfl rfl
/-- parrel/script.digits -/
def script_digits_v (r : (List UInt8)) : LV := .str r
def script_digits_T0  (x_n2 : Int) (l : List (Int)) : List LV := (.int .i64 x_n2) :: .any :: .any :: (.gs 0 (l).length) :: n_ 25 []
def script_digits_H0  (x_n2 : Int) (l : List (Int)) : Heap := [some (.gr 1 (l).length (rowF (cInt .u8) default l))]
def script_digits_l0   : Nat → (Int) → (List (Int)) → Option ((List UInt8))
 | 0, _, _ => none
 | fuel + 1, x_n2, l =>
  if ((decide (9 < x_n2)) : Bool) then
   if 0 ≤ (Int.tmod x_n2 10) ∧ (Int.tmod x_n2 10) < (((([48, 49, 50, 51, 52, 53, 54, 55, 56, 57, 97, 98, 99, 100, 101, 102] : List UInt8)).length : Nat) : Int) then
   if ((l).length + (([((([48, 49, 50, 51, 52, 53, 54, 55, 56, 57, 97, 98, 99, 100, 101, 102] : List UInt8).getD ((Int.tmod x_n2 10)).toNat 0).toNat : Int)] : List (Int))).length) * 1 ≤ 140737488351232 then
   script_digits_l0   fuel (IntKind.wrap .i64 (Int.tdiv x_n2 10)) (l ++ ([((([48, 49, 50, 51, 52, 53, 54, 55, 56, 57, 97, 98, 99, 100, 101, 102] : List UInt8).getD ((Int.tmod x_n2 10)).toNat 0).toNat : Int)] : List (Int)))
   else none
   else none
  else
   if 0 ≤ x_n2 ∧ x_n2 < (((([48, 49, 50, 51, 52, 53, 54, 55, 56, 57, 97, 98, 99, 100, 101, 102] : List UInt8)).length : Nat) : Int) then
   if ((l).length + (([((([48, 49, 50, 51, 52, 53, 54, 55, 56, 57, 97, 98, 99, 100, 101, 102] : List UInt8).getD x_n2.toNat 0).toNat : Int)] : List (Int))).length) * 1 ≤ 140737488351232 then
   (slices_Reverse_byte_byte (l ++ ([((([48, 49, 50, 51, 52, 53, 54, 55, 56, 57, 97, 98, 99, 100, 101, 102] : List UInt8).getD x_n2.toNat 0).toNat : Int)] : List (Int)))).bind fun yL0_5 =>
   if ((l ++ ([((([48, 49, 50, 51, 52, 53, 54, 55, 56, 57, 97, 98, 99, 100, 101, 102] : List UInt8).getD x_n2.toNat 0).toNat : Int)] : List (Int)))).length = (yL0_5).length then
   some (strI yL0_5)
   else none
   else none
   else none
def script_digits (x_n : Int) : Option ((List UInt8)) :=
 if ((decide (x_n < 0)) : Bool) then
  (script_digits_r (IntKind.wrap .i64 (0 - x_n))).bind fun y3 =>
  if (([45] : List UInt8)).length + (y3).length ≤ 9223372036854775807 then
  some (([45] : List UInt8) ++ y3)
  else none
 else
  script_digits_l0   big x_n ([] : List (Int))
theorem script_digits_l0_ok {w0 : World} {W : Nat → Prop} {μ0 : Emb} (hμ : ∀ c p, μ0 c = some p → c < 0) : ∀ (fuel : Nat) (x_n2 : Int) (l : List (Int)) (r : (List UInt8)), script_digits_l0   fuel x_n2 l = some r → kont Tryz.prog w0 W μ0 (FnPost Tryz.prog Tryz.f28 0 0 (script_digits_v r) []) (kAt (bodyOf Tryz.f28) 0) none (script_digits_T0  x_n2 l) (script_digits_H0  x_n2 l) := by
 intro fuel
 induction fuel with
 | zero => intro x_n2 l r h; rw [script_digits_l0] at h; cases h
 | succ fuel ih =>
  intro x_n2 l r h
  rw [script_digits_l0] at h
  rcases itb_some h with ⟨C1, h⟩ | ⟨C1, h⟩
  ·obtain ⟨G2, h⟩ := guard_some h
   obtain ⟨G3, h⟩ := guard_some h
   exact rt_ hμ [2] 23 [.go, .reg [(1, hT)], .reg [(4, { os := [(1, .gr 1 (([((sg_.getD ((Int.tmod x_n2 10)).toNat 0).toNat : Int)] : List (Int))).length (rowF (cInt .u8) default ([((sg_.getD ((Int.tmod x_n2 10)).toNat 0).toNat : Int)] : List (Int))))], v := some (.gs 1 (([((sg_.getD ((Int.tmod x_n2 10)).toNat 0).toNat : Int)] : List (Int))).length) }), (5, { app := 3, os := [(2, .gr 1 ((l ++ ([((sg_.getD ((Int.tmod x_n2 10)).toNat 0).toNat : Int)] : List (Int)))).length (rowF (cInt .u8) default (l ++ ([((sg_.getD ((Int.tmod x_n2 10)).toNat 0).toNat : Int)] : List (Int)))))], v := some (.gs 2 ((l ++ ([((sg_.getD ((Int.tmod x_n2 10)).toNat 0).toNat : Int)] : List (Int)))).length) })], .reg []]
    (a_ (r1_ (f_ C1 tr)) (a_ (r2_ (a_ (a_ (ne0 10 rfl) tr) (a_ (a_ G2 tr) (a_ (a_ (a_ (Eq.refl true) (a_ (Eq.refl 1) (a_ (lt_ 0 1 rfl) (le_ 1 16777216 rfl)))) (a_ (le_sl_gs 1 1 (some 1) rfl) (a_ (sub_lit (cInt .u8) default 1 (fun _ => rfl) ([((sg_.getD ((Int.tmod x_n2 10)).toNat 0).toNat : Int)] : List (Int))) tr))) (a_ (a_ (a_ (a_ (Eq.refl 1) (Nat.le_refl (([((sg_.getD ((Int.tmod x_n2 10)).toNat 0).toNat : Int)] : List (Int))).length)) (a_ (a_ (lt_ 0 1 rfl) (a_ (lt_ 0 1 rfl) (a_ G3 (a_ (Eq.refl 1) (Eq.refl true))))) (a_ (Eq.refl 1) (Nat.le_refl (l).length)))) (a_ (le_gs_app 2 l ([((sg_.getD ((Int.tmod x_n2 10)).toNat 0).toNat : Int)] : List (Int))) (a_ (sub_app (cInt .u8) default 1 l ([((sg_.getD ((Int.tmod x_n2 10)).toNat 0).toNat : Int)] : List (Int))) tr))) (r1_ tr)))))) (a_ (r1_ (a_ (a_ (ne0 10 rfl) tr) (r1_ tr))) tr))) (ih _ _ r h) ⟨fun _ _ => rfl, trivial⟩
  ·obtain ⟨G2, h⟩ := guard_some h
   obtain ⟨G3, h⟩ := guard_some h
   obtain ⟨yL0_5, E4, h⟩ := bind_some h
   obtain ⟨G6, h⟩ := guard_some h
   obtain rfl := si_ h
   exact rr_ [] 27 [.go, .reg [(1, hF)], .reg [(3, { os := [(1, .gr 1 (([((sg_.getD x_n2.toNat 0).toNat : Int)] : List (Int))).length (rowF (cInt .u8) default ([((sg_.getD x_n2.toNat 0).toNat : Int)] : List (Int))))], v := some (.gs 1 (([((sg_.getD x_n2.toNat 0).toNat : Int)] : List (Int))).length) }), (4, { app := 3, os := [(2, .gr 1 ((l ++ ([((sg_.getD x_n2.toNat 0).toNat : Int)] : List (Int)))).length (rowF (cInt .u8) default (l ++ ([((sg_.getD x_n2.toNat 0).toNat : Int)] : List (Int)))))], v := some (.gs 2 ((l ++ ([((sg_.getD x_n2.toNat 0).toNat : Int)] : List (Int)))).length) })], .reg [(1, { call := some ((slices_Reverse_byte_byte_v yL0_5).ren (sel [2]), preOf (sel [2]) 0 (slices_Reverse_byte_byte_objs (l ++ ([((sg_.getD x_n2.toNat 0).toNat : Int)] : List (Int)))), upOf (sel [2]) (slices_Reverse_byte_byte_up (l ++ ([((sg_.getD x_n2.toNat 0).toNat : Int)] : List (Int))) yL0_5)) })], .wk [(3, .gs 2 (yL0_5).length), (24, .gs 2 (yL0_5).length), (25, .gs 2 (yL0_5).length)] [], .frz 2, .reg [(1, { v := some (.str (strI yL0_5)) })]]
    (a_ (a_ (r1_ (f_ C1 tr)) (a_ (r2_ (a_ (a_ G2 tr) (a_ (a_ (a_ (Eq.refl true) (a_ (Eq.refl 1) (a_ (lt_ 0 1 rfl) (le_ 1 16777216 rfl)))) (a_ (le_sl_gs 1 1 (some 1) rfl) (a_ (sub_lit (cInt .u8) default 1 (fun _ => rfl) ([((sg_.getD x_n2.toNat 0).toNat : Int)] : List (Int))) tr))) (a_ (a_ (a_ (a_ (Eq.refl 1) (Nat.le_refl (([((sg_.getD x_n2.toNat 0).toNat : Int)] : List (Int))).length)) (a_ (a_ (lt_ 0 1 rfl) (a_ (lt_ 0 1 rfl) (a_ G3 (a_ (Eq.refl 1) (Eq.refl true))))) (a_ (Eq.refl 1) (Nat.le_refl (l).length)))) (a_ (le_gs_app 2 l ([((sg_.getD x_n2.toNat 0).toNat : Int)] : List (Int))) (a_ (sub_app (cInt .u8) default 1 l ([((sg_.getD x_n2.toNat 0).toNat : Int)] : List (Int))) tr))) (r1_ tr))))) (a_ (r1_ (a_ (a_ (a_ (slices_Reverse_byte_byte_ok (l ++ ([((sg_.getD x_n2.toNat 0).toNat : Int)] : List (Int))) yL0_5 E4 (sel [2]) (sel_inj rfl rfl)) (a_ (LO.Le.refl (.gr 1 ((l ++ ([((sg_.getD x_n2.toNat 0).toNat : Int)] : List (Int)))).length (rowF (cInt .u8) default (l ++ ([((sg_.getD x_n2.toNat 0).toNat : Int)] : List (Int)))))) tr)) tr) tr)) (a_ (a_ (a_ (le_gs 2 G6) (a_ (le_gs 2 G6) (a_ (le_gs 2 G6) tr))) tr) (a_ (a_ (fz_row (enc := (cInt .u8)) (d := default) (fun _ => rfl) yL0_5) (a_ (Nat.le_refl (yL0_5).length) (a_ (Nat.le_refl (yL0_5).length) (a_ (Nat.le_refl (yL0_5).length) tr)))) (a_ (r1_ (a_ (a_ (a_ (Eq.refl 1) (str_ob yL0_5)) (a_ (le_str yL0_5) tr)) (r1_ tr))) tr)))))) tr)
theorem script_digits_ok (x_n : Int) (r : (List UInt8)) (h : script_digits x_n = some r) : ∀ σ, Inj 0 σ → FnTri Tryz.prog 28 (renL σ [.int .i64 x_n]) (preOf σ 0 []) ((script_digits_v r).ren σ) (upOf σ []) := by
 refine fo_ Tryz.func28 trivial trivial ?_
 intro w0 W μ0 hμ
 unfold script_digits at h
 rcases itb_some h with ⟨c1, h⟩ | ⟨c1, h⟩
 ·obtain ⟨y3, e2, h⟩ := bind_some h
  obtain ⟨g4, h⟩ := guard_some h
  obtain rfl := si_ h
  exact rr_ [] 20 [.reg [], .reg [(1, hT)], .reg [(2, hC (script_digits_r_v y3))]]
   (a_ (a_ (r1_ tr) (a_ (r1_ (f_ c1 tr)) (a_ (r2_ (a_ (a_ (a_ (script_digits_r_tri (IntKind.wrap .i64 (0 - x_n)) y3 e2) tr) tr) (a_ (a_ g4 tr) (r1_ tr)))) tr))) tr)
 ·exact rt_ hμ [0] 25 [.reg [], .reg [(1, hF)], .void (.gr 1 (([] : List (Int))).length (rowF (cInt .u8) default ([] : List (Int)))), .reg [(0, { v := some (.gs 0 (([] : List (Int))).length) })]]
   (a_ (r1_ tr) (a_ (r1_ (f_ c1 tr)) (a_ (Eq.refl 0) (a_ (a_ (a_ tr (a_ (le_nil_gs 0) tr)) tr) tr)))) (script_digits_l0_ok hμ   big _ _ r h) ⟨fun _ _ => rfl, trivial⟩
theorem script_digits_tri (x_n : Int) (r : (List UInt8)) (h : script_digits x_n = some r) : FnTri Tryz.prog 28 [.int .i64 x_n] [] (script_digits_v r) [] := FnTri.none (script_digits_ok x_n r h) rfl rfl
/-! strings.Join: PRE -/
def jn31_lays_ren : Go.Shelf.Ren := ⟨fun | 156 => 31 | 165 => 60 | 166 => 24 | 169 => 26 | 240 => 53 | 241 => 86 | 276 => 83 | 277 => 101 | n => n, fun | 31 => 63 | 9 => 9 | 3 => 3 | 4 => 4 | 0 => 0 | 20 => 20 | 72 => 77 | 76 => 80 | 70 => 75 | 37 => 30 | 75 => 79 | 127 => 106 | 164 => 131 | 5 => 5 | 80 => 83 | n => n, fun | n => n⟩
theorem jn31_lays : Go.Proofs.Lays.n156 Tryz.prog jn31_lays_ren where
 mixed := by kernel_rfl
 f156 := Tryz.func31.trans (congrArg some (by kernel_rfl))
 f165 := Tryz.func60.trans (congrArg some (by kernel_rfl))
 f166 := Tryz.func24.trans (congrArg some (by kernel_rfl))
 f169 := Tryz.func26.trans (congrArg some (by kernel_rfl))
 f240 := Tryz.func53.trans (congrArg some (by kernel_rfl))
 f241 := Tryz.func86.trans (congrArg some (by kernel_rfl))
 f276 := Tryz.func83.trans (congrArg some (by kernel_rfl))
 f277 := Tryz.func101.trans (congrArg some (by kernel_rfl))
 t0 := Tryz.underlying0
 a0 := Tryz.isAgg0
 z0 := Tryz.sizeOf0
 v0 := Tryz.zeroValue0
 t3 := Tryz.underlying3
 a3 := Tryz.isAgg3
 z3 := Tryz.sizeOf3
 v3 := Tryz.zeroValue3
 t4 := Tryz.underlying4
 a4 := Tryz.isAgg4
 z4 := Tryz.sizeOf4
 v4 := Tryz.zeroValue4
 t9 := Tryz.underlying9
 a9 := Tryz.isAgg9
 z9 := Tryz.sizeOf9
 v9 := Tryz.zeroValue9
 t20 := Tryz.underlying20
 a20 := Tryz.isAgg20
 z20 := Tryz.sizeOf20
 v20 := Tryz.zeroValue20
 t31 := Tryz.underlying63
 a31 := Tryz.isAgg63
 z31 := Tryz.sizeOf63
 v31 := Tryz.zeroValue63
 t37 := Tryz.underlying30
 a37 := Tryz.isAgg30
 z37 := Tryz.sizeOf30
 v37 := Tryz.zeroValue30
 t70 := Tryz.underlying75
 a70 := Tryz.isAgg75
 z70 := Tryz.sizeOf75
 v70 := Tryz.zeroValue75
 t72 := Tryz.underlying77
 a72 := Tryz.isAgg77
 z72 := Tryz.sizeOf77
 v72 := Tryz.zeroValue77
 t75 := Tryz.underlying79
 a75 := Tryz.isAgg79
 z75 := Tryz.sizeOf79
 v75 := Tryz.zeroValue79
 t76 := Tryz.underlying80
 a76 := Tryz.isAgg80
 z76 := Tryz.sizeOf80
 v76 := Tryz.zeroValue80
 t127 := Tryz.underlying106
 a127 := Tryz.isAgg106
 z127 := Tryz.sizeOf106
 v127 := Tryz.zeroValue106
 t164 := Tryz.underlying131
 a164 := Tryz.isAgg131
 z164 := Tryz.sizeOf131
 v164 := Tryz.zeroValue131
theorem jn31_extra : Go.Proofs.Builder.Extra Tryz.prog jn31_lays_ren where
 sizeBuilder := by kernel_rfl
 liesBuilder := by kernel_rfl
 t5 := Tryz.underlying5
 a5 := Tryz.isAgg5
 z5 := Tryz.sizeOf5
 v5 := Tryz.zeroValue5
 infoByte := by kernel_rfl
 cellsByte := by kernel_rfl
 sizeByte := by kernel_rfl
 neB5 := by decide
theorem jn31_ba (s : List UInt8) : ((⟨s.toArray⟩ : ByteArray).data.toList) = s := rfl
theorem jn31_map (l : List (List UInt8)) : (l.map fun s => (⟨s.toArray⟩ : ByteArray)).map (·.data.toList) = l := by
 rw [List.map_map]
 exact (List.map_congr_left fun s _ => jn31_ba s).trans (List.map_id' l)
theorem jn31_join (l : List (List UInt8)) (sep : List UInt8) (h : l.length ≤ 140737488355328 ∧ (Lib.join l sep).length ≤ 140737488355328) : FnTri Tryz.prog 31 [.ds 1 l.length (rowF cStr default l), .str sep] [] (.str (Lib.join l sep)) [] := by
 refine ⟨⟨Tryz.f31, Tryz.func31, by kernel_rfl, by kernel_rfl⟩, ?_⟩
 rintro μ w vals ⟨v1, r1, rfl, hv1, v2, r2, rfl, hv2, rfl⟩ hp _
 simp only [Rel] at hv2
 subst hv2
 simp only [Rel, RelF] at hv1
 obtain ⟨base, rc, rfl, hrc, hnone, hspot, hel⟩ := hv1
 have fin : ∀ (w' : World), Go.RowKit.Below w.heap.size w w' → Delta μ w [] [] μ w' := fun w' hb =>
  ⟨Ext.refl μ, fun c p h => .inl h, hb.os, hb.tape, hb.output, (fun h => absurd h (by decide)), hb.size, fun b h _ => hb.block b h, (fun c o h => by cases h), (fun c o p h => by cases h), (fun c o c' o' p p' h => by cases h), fun b cs h => .inl h, (fun _ c o p h => by cases h)⟩
 cases l with
 | nil =>
  refine (Go.Proofs.Any.strings_Join_none jn31_lays jn31_extra base rc ⟨sep.toArray⟩ w).mono ?_
  rintro e w' ⟨rfl, rfl⟩
  exact ⟨_, μ, rfl, rfl, fin _ (Go.RowKit.Below.refl _ _)⟩
 | cons s l =>
  generalize hL : s :: l = L at *
  have hne : L.length ≠ 0 := by rw [← hL]; simp
  obtain ⟨a0, cells0, vs0, rfl, _⟩ := hel 0 (by omega)
  have hsp := hspot a0 rfl hne
  obtain ⟨bk, o, sp⟩ := a0
  simp only at hsp
  subst hsp
  have hcells : ∀ (j : Nat) (x : ByteArray), (L.map fun s => (⟨s.toArray⟩ : ByteArray))[j]? = some x → w.cell? ⟨bk, o + j, none⟩ = some (.string x) := by
   intro j x hj
   rw [List.getElem?_map, Option.map_eq_some_iff] at hj
   obtain ⟨t, ht, rfl⟩ := hj
   have hjl := (List.getElem?_eq_some_iff.1 ht).1
   obtain ⟨a1, cells, vs, e1, hf, hr, hl, hlies, _⟩ := hel j hjl
   cases e1
   have e2 : rowF cStr default L j = [.str t] := by simp [rowF, cStr, List.getD_eq_getElem?_getD, ht]
   rw [e2] at hr
   obtain ⟨u, us, rfl, hu, rfl⟩ := hr
   simp only [RelF] at hu
   subst hu
   obtain ⟨E, fr, hx⟩ := hp.fro _ _ hf
   have := hlies 0 (Value.string ⟨t.toArray⟩) rfl
   simp only [World.cell?, hx]
   simpa using this
  have hbk : bk < w.heap.size := by
   obtain ⟨a1, cells, vs, e1, hf, _⟩ := hel 0 (by omega)
   cases e1
   obtain ⟨E, fr, hx⟩ := hp.fro _ _ hf
   exact (Array.getElem?_eq_some_iff.1 hx).1
  have hm := jn31_map L
  have key := Go.Proofs.Any.strings_Join jn31_lays jn31_extra bk o rc (L.map fun s => (⟨s.toArray⟩ : ByteArray)) ⟨sep.toArray⟩ w hcells hbk (by rw [List.length_map]; exact h.1) (by rw [List.length_map]; exact hrc) (by rw [hm]; exact h.2)
  rw [hm, List.length_map] at key
  refine key.mono ?_
  rintro e w' ⟨rfl, hb⟩
  exact ⟨_, μ, rfl, rfl, fin _ hb⟩
/-- parrel/script.name -/
def script_name_v (r : (List UInt8)) : LV := .str r
def script_name (t : TX) : Option ((List UInt8)) :=
 (script_digits (IntKind.wrap .i64 t.f_Node)).bind fun y2 =>
 (script_digits (IntKind.wrap .i64 t.f_Boot)).bind fun y4 =>
 (script_digits (IntKind.wrap .i64 t.f_Num)).bind fun y6 =>
 if (([y2, y4, y6] : List (List UInt8))).length ≤ 140737488355328 ∧ (Lib.join ([y2, y4, y6] : List (List UInt8)) ([46] : List UInt8)).length ≤ 140737488355328 then
 some (Lib.join ([y2, y4, y6] : List (List UInt8)) ([46] : List UInt8))
 else none
theorem script_name_ok (t : TX) (r : (List UInt8)) (h : script_name t = some r) : ∀ σ, Inj 0 σ → FnTri Tryz.prog 56 (renL σ [v_TX t]) (preOf σ 0 []) ((script_name_v r).ren σ) (upOf σ []) := by
 refine fo_ Tryz.func56 trivial trivial ?_
 intro w0 W μ0 hμ
 unfold script_name at h
 obtain ⟨y2, e1, h⟩ := bind_some h
 obtain ⟨y4, e3, h⟩ := bind_some h
 obtain ⟨y6, e5, h⟩ := bind_some h
 obtain ⟨g7, h⟩ := guard_some h
 obtain rfl := si_ h
 exact rr_ [] 15 [.reg [], .reg [(3, hC (script_digits_v y2)), (7, hC (script_digits_v y4)), (11, hC (script_digits_v y6)), (12, { os := [(1, .gr 1 (([y2, y4, y6] : List (List UInt8))).length (rowF cStr default ([y2, y4, y6] : List (List UInt8))))], v := some (.gs 1 (([y2, y4, y6] : List (List UInt8))).length), fz := true }), (13, hC (.str (Lib.join ([y2, y4, y6] : List (List UInt8)) ([46] : List UInt8))))]]
  (a_ (a_ (r2_ tr) (a_ (r1_ (l_ 0 3 rfl (r1_ (a_ (a_ (a_ (script_digits_tri (IntKind.wrap .i64 t.f_Node) y2 e1) tr) tr) (r1_ (l_ 1 3 rfl (r1_ (a_ (a_ (a_ (script_digits_tri (IntKind.wrap .i64 t.f_Boot) y4 e3) tr) tr) (r1_ (l_ 2 3 rfl (r1_ (a_ (a_ (a_ (script_digits_tri (IntKind.wrap .i64 t.f_Num) y6 e5) tr) tr) (a_ (a_ (a_ (a_ (Eq.refl true) (a_ (Eq.refl 1) (a_ (lt_ 0 1 rfl) (le_ 3 16777216 rfl)))) (a_ (le_sl_gs 1 3 (some 3) rfl) (a_ (sub_lit cStr default 1 (fun _ => rfl) ([y2, y4, y6] : List (List UInt8))) tr))) (a_ (Nat.le_refl (([y2, y4, y6] : List (List UInt8))).length) (fz_row (enc := cStr) (d := default) (fun _ => rfl) ([y2, y4, y6] : List (List UInt8))))) (a_ (a_ (a_ (jn31_join ([y2, y4, y6] : List (List UInt8)) ([46] : List UInt8) g7) tr) tr) (r1_ tr))))))))))))))) tr)) tr)
theorem script_name_tri (t : TX) (r : (List UInt8)) (h : script_name t = some r) : FnTri Tryz.prog 56 [v_TX t] [] (script_name_v r) [] := FnTri.none (script_name_ok t r h) rfl rfl
/-- parrel/script.hex[string] -/
def script_hex_string_v (r : (List UInt8)) : LV := .str r
def script_hex_string_T0 (b : List UInt8) (t12 : Int) (l : List (Int)) : List LV := .any :: .any :: .any :: (.gs 0 (l).length) :: n_ 6 ((.sl 1 0 0 false ((bytesI b)).length none) :: (.int .i64 ((((bytesI b)).length : Nat) : Int)) :: (.int .i64 t12) :: n_ 15 [])
def script_hex_string_H0 (b : List UInt8) (t12 : Int) (l : List (Int)) : Heap := [some (.gr 1 (l).length (rowF (cInt .u8) default l)), some (.row 1 ((bytesI b)).length (rowF (cInt .u8) default (bytesI b)) true)]
def script_hex_string_l0 (b : List UInt8)  : Nat → (Int) → (List (Int)) → Option ((List UInt8))
 | 0, _, _ => none
 | fuel + 1, t12, l =>
  if ((decide (t12 < ((((bytesI b)).length : Nat) : Int))) : Bool) then
   if 0 ≤ t12 ∧ t12 < ((((bytesI b)).length : Nat) : Int) then
   if 0 ≤ (Int.fdiv ((bytesI b).getD (0 + t12.toNat) default) (2 ^ (min (Int.toNat 4) (IntKind.bits .u8)))) ∧ (Int.fdiv ((bytesI b).getD (0 + t12.toNat) default) (2 ^ (min (Int.toNat 4) (IntKind.bits .u8)))) < (((([48, 49, 50, 51, 52, 53, 54, 55, 56, 57, 97, 98, 99, 100, 101, 102] : List UInt8)).length : Nat) : Int) then
   if 0 ≤ (IntKind.wrap .u8 ((BitVec.ofInt (IntKind.bits .u8) ((bytesI b).getD (0 + t12.toNat) default) &&& BitVec.ofInt (IntKind.bits .u8) 15).toNat : Int)) ∧ (IntKind.wrap .u8 ((BitVec.ofInt (IntKind.bits .u8) ((bytesI b).getD (0 + t12.toNat) default) &&& BitVec.ofInt (IntKind.bits .u8) 15).toNat : Int)) < (((([48, 49, 50, 51, 52, 53, 54, 55, 56, 57, 97, 98, 99, 100, 101, 102] : List UInt8)).length : Nat) : Int) then
   if ((l).length + (([((([48, 49, 50, 51, 52, 53, 54, 55, 56, 57, 97, 98, 99, 100, 101, 102] : List UInt8).getD ((Int.fdiv ((bytesI b).getD (0 + t12.toNat) default) (2 ^ (min (Int.toNat 4) (IntKind.bits .u8))))).toNat 0).toNat : Int), ((([48, 49, 50, 51, 52, 53, 54, 55, 56, 57, 97, 98, 99, 100, 101, 102] : List UInt8).getD ((IntKind.wrap .u8 ((BitVec.ofInt (IntKind.bits .u8) ((bytesI b).getD (0 + t12.toNat) default) &&& BitVec.ofInt (IntKind.bits .u8) 15).toNat : Int))).toNat 0).toNat : Int)] : List (Int))).length) * 1 ≤ 140737488351232 then
   script_hex_string_l0 b  fuel (IntKind.wrap .i64 (t12 + 1)) (l ++ ([((([48, 49, 50, 51, 52, 53, 54, 55, 56, 57, 97, 98, 99, 100, 101, 102] : List UInt8).getD ((Int.fdiv ((bytesI b).getD (0 + t12.toNat) default) (2 ^ (min (Int.toNat 4) (IntKind.bits .u8))))).toNat 0).toNat : Int), ((([48, 49, 50, 51, 52, 53, 54, 55, 56, 57, 97, 98, 99, 100, 101, 102] : List UInt8).getD ((IntKind.wrap .u8 ((BitVec.ofInt (IntKind.bits .u8) ((bytesI b).getD (0 + t12.toNat) default) &&& BitVec.ofInt (IntKind.bits .u8) 15).toNat : Int))).toNat 0).toNat : Int)] : List (Int)))
   else none
   else none
   else none
   else none
  else
   some (strI l)
def script_hex_string (b : List UInt8) : Option ((List UInt8)) :=
 if ((((b).length : Int) == 0) : Bool) then
  some ([45] : List UInt8)
 else
  script_hex_string_l0 b  big 0 ([] : List (Int))
theorem script_hex_string_l0_ok {w0 : World} {W : Nat → Prop} {μ0 : Emb} (hμ : ∀ c p, μ0 c = some p → c < 0) (b : List UInt8) : ∀ (fuel : Nat) (t12 : Int) (l : List (Int)) (r : (List UInt8)), script_hex_string_l0 b  fuel t12 l = some r → kont Tryz.prog w0 W μ0 (FnPost Tryz.prog Tryz.f59 0 0 (script_hex_string_v r) []) (kAt (bodyOf Tryz.f59) 0) none (script_hex_string_T0 b t12 l) (script_hex_string_H0 b t12 l) := by
 intro fuel
 induction fuel with
 | zero => intro t12 l r h; rw [script_hex_string_l0] at h; cases h
 | succ fuel ih =>
  intro t12 l r h
  rw [script_hex_string_l0] at h
  rcases itb_some h with ⟨C1, h⟩ | ⟨C1, h⟩
  ·obtain ⟨G2, h⟩ := guard_some h
   obtain ⟨G3, h⟩ := guard_some h
   obtain ⟨G4, h⟩ := guard_some h
   obtain ⟨G5, h⟩ := guard_some h
   exact rt_ hμ [3, 1] 26 [.go, .reg [(0, hT)], .reg [], .reg [(7, { os := [(2, .gr 1 (([((sg_.getD ((Int.fdiv ((bytesI b).getD (0 + t12.toNat) default) (2 ^ (min (Int.toNat 4) (IntKind.bits .u8))))).toNat 0).toNat : Int), ((sg_.getD ((IntKind.wrap .u8 ((BitVec.ofInt (IntKind.bits .u8) ((bytesI b).getD (0 + t12.toNat) default) &&& BitVec.ofInt (IntKind.bits .u8) 15).toNat : Int))).toNat 0).toNat : Int)] : List (Int))).length (rowF (cInt .u8) default ([((sg_.getD ((Int.fdiv ((bytesI b).getD (0 + t12.toNat) default) (2 ^ (min (Int.toNat 4) (IntKind.bits .u8))))).toNat 0).toNat : Int), ((sg_.getD ((IntKind.wrap .u8 ((BitVec.ofInt (IntKind.bits .u8) ((bytesI b).getD (0 + t12.toNat) default) &&& BitVec.ofInt (IntKind.bits .u8) 15).toNat : Int))).toNat 0).toNat : Int)] : List (Int))))], v := some (.gs 2 (([((sg_.getD ((Int.fdiv ((bytesI b).getD (0 + t12.toNat) default) (2 ^ (min (Int.toNat 4) (IntKind.bits .u8))))).toNat 0).toNat : Int), ((sg_.getD ((IntKind.wrap .u8 ((BitVec.ofInt (IntKind.bits .u8) ((bytesI b).getD (0 + t12.toNat) default) &&& BitVec.ofInt (IntKind.bits .u8) 15).toNat : Int))).toNat 0).toNat : Int)] : List (Int))).length) }), (8, { app := 3, os := [(3, .gr 1 ((l ++ ([((sg_.getD ((Int.fdiv ((bytesI b).getD (0 + t12.toNat) default) (2 ^ (min (Int.toNat 4) (IntKind.bits .u8))))).toNat 0).toNat : Int), ((sg_.getD ((IntKind.wrap .u8 ((BitVec.ofInt (IntKind.bits .u8) ((bytesI b).getD (0 + t12.toNat) default) &&& BitVec.ofInt (IntKind.bits .u8) 15).toNat : Int))).toNat 0).toNat : Int)] : List (Int)))).length (rowF (cInt .u8) default (l ++ ([((sg_.getD ((Int.fdiv ((bytesI b).getD (0 + t12.toNat) default) (2 ^ (min (Int.toNat 4) (IntKind.bits .u8))))).toNat 0).toNat : Int), ((sg_.getD ((IntKind.wrap .u8 ((BitVec.ofInt (IntKind.bits .u8) ((bytesI b).getD (0 + t12.toNat) default) &&& BitVec.ofInt (IntKind.bits .u8) 15).toNat : Int))).toNat 0).toNat : Int)] : List (Int)))))], v := some (.gs 3 ((l ++ ([((sg_.getD ((Int.fdiv ((bytesI b).getD (0 + t12.toNat) default) (2 ^ (min (Int.toNat 4) (IntKind.bits .u8))))).toNat 0).toNat : Int), ((sg_.getD ((IntKind.wrap .u8 ((BitVec.ofInt (IntKind.bits .u8) ((bytesI b).getD (0 + t12.toNat) default) &&& BitVec.ofInt (IntKind.bits .u8) 15).toNat : Int))).toNat 0).toNat : Int)] : List (Int)))).length) })], .reg []]
    (a_ (f_ C1 tr) (a_ (a_ (a_ (a_ (Eq.refl 1) G2) tr) (a_ (a_ (a_ (ltN0 G2) (lt_ 0 1 rfl)) tr) (r1_ tr))) (a_ (r2_ (a_ (a_ (lei_ 0 4 rfl) tr) (a_ (a_ G3 tr) (r2_ (a_ (a_ G4 tr) (a_ (a_ (a_ (Eq.refl true) (a_ (Eq.refl 1) (a_ (lt_ 0 1 rfl) (le_ 2 16777216 rfl)))) (a_ (le_sl_gs 2 2 (some 2) rfl) (a_ (sub_lit (cInt .u8) default 1 (fun _ => rfl) ([((sg_.getD ((Int.fdiv ((bytesI b).getD (0 + t12.toNat) default) (2 ^ (min (Int.toNat 4) (IntKind.bits .u8))))).toNat 0).toNat : Int), ((sg_.getD ((IntKind.wrap .u8 ((BitVec.ofInt (IntKind.bits .u8) ((bytesI b).getD (0 + t12.toNat) default) &&& BitVec.ofInt (IntKind.bits .u8) 15).toNat : Int))).toNat 0).toNat : Int)] : List (Int))) tr))) (a_ (a_ (a_ (a_ (Eq.refl 1) (Nat.le_refl (([((sg_.getD ((Int.fdiv ((bytesI b).getD (0 + t12.toNat) default) (2 ^ (min (Int.toNat 4) (IntKind.bits .u8))))).toNat 0).toNat : Int), ((sg_.getD ((IntKind.wrap .u8 ((BitVec.ofInt (IntKind.bits .u8) ((bytesI b).getD (0 + t12.toNat) default) &&& BitVec.ofInt (IntKind.bits .u8) 15).toNat : Int))).toNat 0).toNat : Int)] : List (Int))).length)) (a_ (a_ (lt_ 0 1 rfl) (a_ (lt_ 0 1 rfl) (a_ G5 (a_ (Eq.refl 1) (Eq.refl true))))) (a_ (Eq.refl 1) (Nat.le_refl (l).length)))) (a_ (le_gs_app 3 l ([((sg_.getD ((Int.fdiv ((bytesI b).getD (0 + t12.toNat) default) (2 ^ (min (Int.toNat 4) (IntKind.bits .u8))))).toNat 0).toNat : Int), ((sg_.getD ((IntKind.wrap .u8 ((BitVec.ofInt (IntKind.bits .u8) ((bytesI b).getD (0 + t12.toNat) default) &&& BitVec.ofInt (IntKind.bits .u8) 15).toNat : Int))).toNat 0).toNat : Int)] : List (Int))) (a_ (sub_app (cInt .u8) default 1 l ([((sg_.getD ((Int.fdiv ((bytesI b).getD (0 + t12.toNat) default) (2 ^ (min (Int.toNat 4) (IntKind.bits .u8))))).toNat 0).toNat : Int), ((sg_.getD ((IntKind.wrap .u8 ((BitVec.ofInt (IntKind.bits .u8) ((bytesI b).getD (0 + t12.toNat) default) &&& BitVec.ofInt (IntKind.bits .u8) 15).toNat : Int))).toNat 0).toNat : Int)] : List (Int))) tr))) (r1_ tr)))))))) (a_ (r2_ tr) tr)))) (ih _ _ r h) ⟨fun _ _ => rfl, fun _ _ => rfl, trivial⟩
  ·obtain rfl := si_ h
   exact rr_ [] 20 [.go, .reg [(0, hF)], .frz 0, .reg [(1, { v := some (.str (strI l)) })]]
    (a_ (a_ (f_ C1 tr) (a_ (a_ (fz_row (enc := (cInt .u8)) (d := default) (fun _ => rfl) l) (a_ (Nat.le_refl (l).length) (a_ (ob_row (cInt .u8) default (bytesI b) 0 1 (l).length (rowF (cInt .u8) default l) ((bytesI b)).length (fun _ => rfl)) tr))) (a_ (r1_ (a_ (a_ (a_ (Eq.refl 1) (str_ob l)) (a_ (le_str l) tr)) (r1_ tr))) tr))) tr)
theorem script_hex_string_ok (b : List UInt8) (r : (List UInt8)) (h : script_hex_string b = some r) : ∀ σ, Inj 0 σ → FnTri Tryz.prog 59 (renL σ [.str b]) (preOf σ 0 []) ((script_hex_string_v r).ren σ) (upOf σ []) := by
 refine fo_ Tryz.func59 trivial trivial ?_
 intro w0 W μ0 hμ
 unfold script_hex_string at h
 rcases itb_some h with ⟨c1, h⟩ | ⟨c1, h⟩
 ·obtain rfl := si_ h
  exact rr_ [] 20 [.reg [], .reg [(2, hT)], .reg []]
   (a_ (a_ (r1_ tr) (a_ (r2_ (f_ c1 tr)) (a_ (r1_ tr) tr))) tr)
 ·exact rt_ hμ [0, 1] 28 [.reg [], .reg [(2, hF)], .void (.gr 1 (([] : List (Int))).length (rowF (cInt .u8) default ([] : List (Int)))), .reg [(0, { v := some (.gs 0 (([] : List (Int))).length) })], .reg [(1, { os := [(1, .row 1 ((bytesI b)).length (rowF (cInt .u8) default (bytesI b)) true)], v := some (.sl 1 0 0 false ((bytesI b)).length none) })]]
   (a_ (r1_ tr) (a_ (r2_ (f_ c1 tr)) (a_ (Eq.refl 0) (a_ (a_ (a_ tr (a_ (le_nil_gs 0) tr)) tr) (a_ (r1_ (a_ (a_ tr (a_ (le_bytes 1 b) (a_ (sub_bytes b) tr))) (r2_ tr))) tr))))) (script_hex_string_l0_ok hμ b  big _ _ r h) ⟨fun _ _ => rfl, fun _ _ => rfl, trivial⟩
theorem script_hex_string_tri (b : List UInt8) (r : (List UInt8)) (h : script_hex_string b = some r) : FnTri Tryz.prog 59 [.str b] [] (script_hex_string_v r) [] := FnTri.none (script_hex_string_ok b r h) rfl rfl
/-- parrel/script.words -/
def script_words_v (r : (List (List UInt8))) : LV := .ds 1 (r).length (rowF cStr default r)
def script_words_T1000016  (l4 : List (List UInt8)) : List LV := .any :: .any :: .any :: (.gs 0 (l4).length) :: n_ 76 []
def script_words_H1000016  (l4 : List (List UInt8)) : Heap := [some (.gr 1 (l4).length (rowF cStr default l4))]
def script_words_T0 (c : TN) (t68 : Int) (l5 : List (List UInt8)) : List LV := .any :: .any :: .any :: (.gs 0 (l5).length) :: n_ 62 ((.gs 1 ((([c.f_R, c.f_W] : List (Int)) ++ c.f_Votes)).length) :: (.int .i64 (((([c.f_R, c.f_W] : List (Int)) ++ c.f_Votes)).length : Int)) :: (.int .i64 t68) :: n_ 11 [])
def script_words_H0 (c : TN) (t68 : Int) (l5 : List (List UInt8)) : Heap := [some (.gr 1 (l5).length (rowF cStr default l5)), some (.gr 1 ((([c.f_R, c.f_W] : List (Int)) ++ c.f_Votes)).length (rowF (cInt .u8) default (([c.f_R, c.f_W] : List (Int)) ++ c.f_Votes)))]
def script_words_T1000011 (c : TN) (l3 : List (List UInt8)) : List LV := .any :: (.ptr 0 0 0) :: .any :: (.gs 1 (l3).length) :: n_ 76 []
def script_words_H1000011 (c : TN) (l3 : List (List UInt8)) : Heap := [some (.var (c_TN c)), some (.gr 1 (l3).length (rowF cStr default l3))]
def script_words_T1000005 (c : TN) (l : List (List UInt8)) : List LV := .any :: (.ptr 0 0 0) :: .any :: (.gs 1 (l).length) :: n_ 76 []
def script_words_H1000005 (c : TN) (l : List (List UInt8)) : Heap := [some (.var (c_TN c)), some (.gr 1 (l).length (rowF cStr default l))]
def script_words_T1000007 (c : TN) (l2 : List (List UInt8)) : List LV := .any :: (.ptr 0 0 0) :: .any :: (.gs 1 (l2).length) :: n_ 76 []
def script_words_H1000007 (c : TN) (l2 : List (List UInt8)) : Heap := [some (.var (c_TN c)), some (.gr 1 (l2).length (rowF cStr default l2))]
def script_words_c16   (l4 : List (List UInt8)) : Option ((List (List UInt8))) :=
 some l4
def script_words_l0 (c : TN)  : Nat → (Int) → (List (List UInt8)) → Option ((List (List UInt8)))
 | 0, _, _ => none
 | fuel + 1, t68, l5 =>
  if ((decide (t68 < (((([c.f_R, c.f_W] : List (Int)) ++ c.f_Votes)).length : Int))) : Bool) then
   if 0 ≤ t68 ∧ t68 < ((((([c.f_R, c.f_W] : List (Int)) ++ c.f_Votes)).length : Nat) : Int) then
   (script_digits (IntKind.wrap .i64 ((([c.f_R, c.f_W] : List (Int)) ++ c.f_Votes).getD t68.toNat default))).bind fun yL0_4 =>
   if ((l5).length + (([yL0_4] : List (List UInt8))).length) * 16 ≤ 140737488351232 then
   script_words_l0 c  fuel (IntKind.wrap .i64 (t68 + 1)) (l5 ++ ([yL0_4] : List (List UInt8)))
   else none
   else none
  else
   some l5
def script_words_c11 (c : TN)  (l3 : List (List UInt8)) : Option ((List (List UInt8))) :=
 if ((([c.f_R, c.f_W] : List (Int))).length + (c.f_Votes).length) * 1 ≤ 140737488351232 then
 script_words_l0 c  big 0 l3
 else none
def script_words_c5 (c : TN)  (l : List (List UInt8)) : Option ((List (List UInt8))) :=
 (ids_Name c.f_Key).bind fun yC5_2 =>
 (script_hex_string yC5_2.1).bind fun yC5_4 =>
 if ((l).length + (([yC5_4] : List (List UInt8))).length) * 16 ≤ 140737488351232 then
 if ((c.f_Kind == 3) : Bool) then
  (script_hex_string c.f_Value).bind fun yC5_8 =>
  if (((l ++ ([yC5_4] : List (List UInt8)))).length + (([yC5_8] : List (List UInt8))).length) * 16 ≤ 140737488351232 then
  some ((l ++ ([yC5_4] : List (List UInt8))) ++ ([yC5_8] : List (List UInt8)))
  else none
 else
  if ((c.f_Kind == 6) : Bool) then
   script_words_c11 c  (l ++ ([yC5_4] : List (List UInt8)))
  else
   script_words_c16   (l ++ ([yC5_4] : List (List UInt8)))
 else none
def script_words_c7 (c : TN)  (l2 : List (List UInt8)) : Option ((List (List UInt8))) :=
 if ((c.f_Kind == 3) : Bool) then
  (script_hex_string c.f_Value).bind fun yC7_3 =>
  if ((l2).length + (([yC7_3] : List (List UInt8))).length) * 16 ≤ 140737488351232 then
  some (l2 ++ ([yC7_3] : List (List UInt8)))
  else none
 else
  if ((c.f_Kind == 6) : Bool) then
   if ((([c.f_R, c.f_W] : List (Int))).length + (c.f_Votes).length) * 1 ≤ 140737488351232 then
   script_words_l0 c  big 0 l2
   else none
  else
   some l2
def script_words (c : TN) : Option ((List (List UInt8))) :=
 (script_digits (IntKind.wrap .i64 c.f_Call.f_Client)).bind fun y2 =>
 (script_digits (IntKind.wrap .i64 c.f_Call.f_Seq)).bind fun y4 =>
 (script_calls).bind fun y6 =>
 if 0 ≤ c.f_Kind ∧ c.f_Kind < (((y6).length : Nat) : Int) then
 if ((decide (1 < c.f_Kind)) : Bool) then
  (script_name c.f_Tx).bind fun y10 =>
  if ((([y2, y4, (y6.getD (c.f_Kind).toNat default)] : List (List UInt8))).length + (([y10] : List (List UInt8))).length) * 16 ≤ 140737488351232 then
  (script_hasKey c.f_Kind).bind fun y13 =>
  if (y13 : Bool) then
   script_words_c5 c  (([y2, y4, (y6.getD (c.f_Kind).toNat default)] : List (List UInt8)) ++ ([y10] : List (List UInt8)))
  else
   script_words_c7 c  (([y2, y4, (y6.getD (c.f_Kind).toNat default)] : List (List UInt8)) ++ ([y10] : List (List UInt8)))
  else none
 else
  (script_hasKey c.f_Kind).bind fun y11 =>
  if (y11 : Bool) then
   script_words_c5 c  ([y2, y4, (y6.getD (c.f_Kind).toNat default)] : List (List UInt8))
  else
   script_words_c7 c  ([y2, y4, (y6.getD (c.f_Kind).toNat default)] : List (List UInt8))
 else none
theorem script_words_c16_ok {w0 : World} {W : Nat → Prop} {μ0 : Emb} (hμ : ∀ c p, μ0 c = some p → c < 0)   (l4 : List (List UInt8)) (r : (List (List UInt8))) (h : script_words_c16   l4 = some r) : kont Tryz.prog w0 W μ0 (FnPost Tryz.prog Tryz.f29 0 0 (script_words_v r) []) (kAtR (bodyOf Tryz.f29) 16) none (script_words_T1000016  l4) (script_words_H1000016  l4) := by
 unfold script_words_c16 at h
 obtain rfl := si_ h
 exact rr_ [] 12 [.reg [], .frz 0]
  (a_ (a_ (r2_ tr) (a_ (a_ (fz_row (enc := cStr) (d := default) (fun _ => rfl) l4) (a_ (Nat.le_refl (l4).length) (a_ (Nat.le_refl (l4).length) (a_ (Nat.le_refl (l4).length) tr)))) tr)) tr)
theorem script_words_l0_ok {w0 : World} {W : Nat → Prop} {μ0 : Emb} (hμ : ∀ c p, μ0 c = some p → c < 0) (c : TN) : ∀ (fuel : Nat) (t68 : Int) (l5 : List (List UInt8)) (r : (List (List UInt8))), script_words_l0 c  fuel t68 l5 = some r → kont Tryz.prog w0 W μ0 (FnPost Tryz.prog Tryz.f29 0 0 (script_words_v r) []) (kAt (bodyOf Tryz.f29) 0) none (script_words_T0 c t68 l5) (script_words_H0 c t68 l5) := by
 intro fuel
 induction fuel with
 | zero => intro t68 l5 r h; rw [script_words_l0] at h; cases h
 | succ fuel ih =>
  intro t68 l5 r h
  rw [script_words_l0] at h
  rcases itb_some h with ⟨C1, h⟩ | ⟨C1, h⟩
  ·obtain ⟨G2, h⟩ := guard_some h
   obtain ⟨yL0_4, E3, h⟩ := bind_some h
   obtain ⟨G5, h⟩ := guard_some h
   exact rt_ hμ [3, 1] 26 [.go, .reg [(0, hT)], .reg [], .reg [(3, hC (script_digits_v yL0_4)), (4, { os := [(2, .gr 1 (([yL0_4] : List (List UInt8))).length (rowF cStr default ([yL0_4] : List (List UInt8))))], v := some (.gs 2 (([yL0_4] : List (List UInt8))).length) }), (5, { app := 3, os := [(3, .gr 1 ((l5 ++ ([yL0_4] : List (List UInt8)))).length (rowF cStr default (l5 ++ ([yL0_4] : List (List UInt8)))))], v := some (.gs 3 ((l5 ++ ([yL0_4] : List (List UInt8)))).length) })], .reg []]
    (a_ (f_ C1 tr) (a_ (a_ (a_ (a_ (Eq.refl 1) G2) tr) (a_ (a_ (a_ (ltN G2) (lt_ 0 1 rfl)) tr) (r1_ tr))) (a_ (r1_ (r2_ (a_ (a_ (a_ (script_digits_tri (IntKind.wrap .i64 ((([c.f_R, c.f_W] : List (Int)) ++ c.f_Votes).getD t68.toNat default)) yL0_4 E3) tr) tr) (a_ (a_ (a_ (Eq.refl true) (a_ (Eq.refl 1) (a_ (lt_ 0 1 rfl) (le_ 1 16777216 rfl)))) (a_ (le_sl_gs 2 1 (some 1) rfl) (a_ (sub_lit cStr default 1 (fun _ => rfl) ([yL0_4] : List (List UInt8))) tr))) (a_ (a_ (a_ (a_ (Eq.refl 1) (Nat.le_refl (([yL0_4] : List (List UInt8))).length)) (a_ (a_ (lt_ 0 1 rfl) (a_ (lt_ 0 16 rfl) (a_ G5 (a_ (Eq.refl 1) (Eq.refl true))))) (a_ (Eq.refl 1) (Nat.le_refl (l5).length)))) (a_ (le_gs_app 3 l5 ([yL0_4] : List (List UInt8))) (a_ (sub_app cStr default 1 l5 ([yL0_4] : List (List UInt8))) tr))) (r1_ tr)))))) (a_ (r2_ tr) tr)))) (ih _ _ r h) ⟨fun _ _ => rfl, fun _ _ => rfl, trivial⟩
  ·obtain rfl := si_ h
   exact rr_ [] 21 [.go, .reg [(0, hF)], .reg [], .frz 0]
    (a_ (a_ (f_ C1 tr) (a_ (r2_ tr) (a_ (a_ (fz_row (enc := cStr) (d := default) (fun _ => rfl) l5) (a_ (Nat.le_refl (l5).length) (a_ (Nat.le_refl (l5).length) (a_ (Nat.le_refl (l5).length) tr)))) tr))) tr)
theorem script_words_c11_ok {w0 : World} {W : Nat → Prop} {μ0 : Emb} (hμ : ∀ c p, μ0 c = some p → c < 0) (c : TN)  (l3 : List (List UInt8)) (r : (List (List UInt8))) (h : script_words_c11 c  l3 = some r) : kont Tryz.prog w0 W μ0 (FnPost Tryz.prog Tryz.f29 0 0 (script_words_v r) []) (kAtR (bodyOf Tryz.f29) 11) none (script_words_T1000011 c l3) (script_words_H1000011 c l3) := by
 unfold script_words_c11 at h
 obtain ⟨G1, h⟩ := guard_some h
 exact rt_ hμ [1, 3] 13 [.reg [(4, { os := [(2, .gr 1 (([c.f_R, c.f_W] : List (Int))).length (rowF (cInt .u8) default ([c.f_R, c.f_W] : List (Int))))], v := some (.gs 2 (([c.f_R, c.f_W] : List (Int))).length) }), (7, { app := 3, os := [(3, .gr 1 ((([c.f_R, c.f_W] : List (Int)) ++ c.f_Votes)).length (rowF (cInt .u8) default (([c.f_R, c.f_W] : List (Int)) ++ c.f_Votes)))], v := some (.gs 3 ((([c.f_R, c.f_W] : List (Int)) ++ c.f_Votes)).length) })]]
  (a_ (r1_ (l_ 15 18 rfl (r1_ (l_ 16 18 rfl (a_ (a_ (a_ (Eq.refl true) (a_ (Eq.refl 1) (a_ (lt_ 0 1 rfl) (le_ 2 16777216 rfl)))) (a_ (le_sl_gs 2 2 (some 2) rfl) (a_ (sub_lit (cInt .u8) default 1 (fun _ => rfl) ([c.f_R, c.f_W] : List (Int))) tr))) (r1_ (l_ 17 18 rfl (a_ (a_ (a_ (Eq.refl 1) (a_ (a_ (lt_ 0 1 rfl) (a_ (lt_ 0 1 rfl) (a_ G1 (a_ (Eq.refl 1) (Eq.refl true))))) (a_ (Eq.refl 1) (Nat.le_refl (([c.f_R, c.f_W] : List (Int))).length)))) (a_ (le_gs_app 3 ([c.f_R, c.f_W] : List (Int)) c.f_Votes) (a_ (sub_app (cInt .u8) default 1 ([c.f_R, c.f_W] : List (Int)) c.f_Votes) tr))) (r2_ tr))))))))) tr) (script_words_l0_ok hμ c  big _ _ r h) ⟨fun _ _ => rfl, fun _ _ => rfl, trivial⟩
theorem script_words_c5_ok {w0 : World} {W : Nat → Prop} {μ0 : Emb} (hμ : ∀ c p, μ0 c = some p → c < 0) (c : TN)  (l : List (List UInt8)) (r : (List (List UInt8))) (h : script_words_c5 c  l = some r) : kont Tryz.prog w0 W μ0 (FnPost Tryz.prog Tryz.f29 0 0 (script_words_v r) []) (kAtR (bodyOf Tryz.f29) 5) none (script_words_T1000005 c l) (script_words_H1000005 c l) := by
 unfold script_words_c5 at h
 obtain ⟨yC5_2, E1, h⟩ := bind_some h
 obtain ⟨yC5_4, E3, h⟩ := bind_some h
 obtain ⟨G5, h⟩ := guard_some h
 rcases itb_some h with ⟨C6, h⟩ | ⟨C6, h⟩
 ·obtain ⟨yC5_8, E7, h⟩ := bind_some h
  obtain ⟨G9, h⟩ := guard_some h
  obtain rfl := si_ h
  exact rr_ [] 29 [.reg [(2, hC (ids_Name_v yC5_2))], .reg [(2, hC (script_hex_string_v yC5_4)), (3, { os := [(2, .gr 1 (([yC5_4] : List (List UInt8))).length (rowF cStr default ([yC5_4] : List (List UInt8))))], v := some (.gs 2 (([yC5_4] : List (List UInt8))).length) }), (4, { app := 3, os := [(3, .gr 1 ((l ++ ([yC5_4] : List (List UInt8)))).length (rowF cStr default (l ++ ([yC5_4] : List (List UInt8)))))], v := some (.gs 3 ((l ++ ([yC5_4] : List (List UInt8)))).length) })], .reg [], .reg [(1, hT)], .reg [(3, hC (script_hex_string_v yC5_8)), (4, { os := [(4, .gr 1 (([yC5_8] : List (List UInt8))).length (rowF cStr default ([yC5_8] : List (List UInt8))))], v := some (.gs 4 (([yC5_8] : List (List UInt8))).length) }), (5, { app := 3, os := [(5, .gr 1 (((l ++ ([yC5_4] : List (List UInt8))) ++ ([yC5_8] : List (List UInt8)))).length (rowF cStr default ((l ++ ([yC5_4] : List (List UInt8))) ++ ([yC5_8] : List (List UInt8)))))], v := some (.gs 5 (((l ++ ([yC5_4] : List (List UInt8))) ++ ([yC5_8] : List (List UInt8)))).length) })], .reg [], .frz 5]
   (a_ (a_ (r1_ (m_ 14 18 rfl (c_ (ids_Name_tri c.f_Key yC5_2 E1) (r1_ (r4_ tr))))) (a_ (r2_ (c_ (script_hex_string_tri yC5_2.1 yC5_4 E3) (a_ (a_ (a_ (Eq.refl true) (a_ (Eq.refl 1) (a_ (lt_ 0 1 rfl) (le_ 1 16777216 rfl)))) (a_ (le_sl_gs 2 1 (some 1) rfl) (a_ (sub_lit cStr default 1 (fun _ => rfl) ([yC5_4] : List (List UInt8))) tr))) (a_ (a_ (a_ (a_ (Eq.refl 1) (Nat.le_refl (([yC5_4] : List (List UInt8))).length)) (a_ (a_ (lt_ 0 1 rfl) (a_ (lt_ 0 16 rfl) (a_ G5 (a_ (Eq.refl 1) (Eq.refl true))))) (a_ (Eq.refl 1) (Nat.le_refl (l).length)))) (a_ (le_gs_app 3 l ([yC5_4] : List (List UInt8))) (a_ (sub_app cStr default 1 l ([yC5_4] : List (List UInt8))) tr))) (r1_ tr))))) (a_ (r1_ (l_ 2 18 rfl tr)) (a_ (r1_ (f_ C6 tr)) (a_ (r2_ (l_ 14 18 rfl (c_ (script_hex_string_tri c.f_Value yC5_8 E7) (a_ (a_ (a_ (Eq.refl true) (a_ (Eq.refl 1) (a_ (lt_ 0 1 rfl) (le_ 1 16777216 rfl)))) (a_ (le_sl_gs 4 1 (some 1) rfl) (a_ (sub_lit cStr default 1 (fun _ => rfl) ([yC5_8] : List (List UInt8))) tr))) (a_ (a_ (a_ (a_ (Eq.refl 1) (Nat.le_refl (([yC5_8] : List (List UInt8))).length)) (a_ (a_ (lt_ 0 1 rfl) (a_ (lt_ 0 16 rfl) (a_ G9 (a_ (Eq.refl 1) (Eq.refl true))))) (a_ (Eq.refl 1) (Nat.le_refl ((l ++ ([yC5_4] : List (List UInt8)))).length)))) (a_ (le_gs_app 5 (l ++ ([yC5_4] : List (List UInt8))) ([yC5_8] : List (List UInt8))) (a_ (sub_app cStr default 1 (l ++ ([yC5_4] : List (List UInt8))) ([yC5_8] : List (List UInt8))) tr))) (r1_ tr)))))) (a_ (r2_ tr) (a_ (a_ (fz_row (enc := cStr) (d := default) (fun _ => rfl) ((l ++ ([yC5_4] : List (List UInt8))) ++ ([yC5_8] : List (List UInt8)))) (a_ (Nat.le_refl (((l ++ ([yC5_4] : List (List UInt8))) ++ ([yC5_8] : List (List UInt8)))).length) (a_ (Nat.le_refl (((l ++ ([yC5_4] : List (List UInt8))) ++ ([yC5_8] : List (List UInt8)))).length) (a_ (Nat.le_refl (((l ++ ([yC5_4] : List (List UInt8))) ++ ([yC5_8] : List (List UInt8)))).length) (a_ (Nat.le_refl (((l ++ ([yC5_4] : List (List UInt8))) ++ ([yC5_8] : List (List UInt8)))).length) tr))))) tr))))))) tr)
 ·rcases itb_some h with ⟨C7, h⟩ | ⟨C7, h⟩
  ·exact rt_ hμ [0, 3] 27 [.reg [(2, hC (ids_Name_v yC5_2))], .reg [(2, hC (script_hex_string_v yC5_4)), (3, { os := [(2, .gr 1 (([yC5_4] : List (List UInt8))).length (rowF cStr default ([yC5_4] : List (List UInt8))))], v := some (.gs 2 (([yC5_4] : List (List UInt8))).length) }), (4, { app := 3, os := [(3, .gr 1 ((l ++ ([yC5_4] : List (List UInt8)))).length (rowF cStr default (l ++ ([yC5_4] : List (List UInt8)))))], v := some (.gs 3 ((l ++ ([yC5_4] : List (List UInt8)))).length) })], .reg [], .reg [(1, hF)], .reg [(1, hT)]]
    (a_ (r1_ (m_ 14 18 rfl (c_ (ids_Name_tri c.f_Key yC5_2 E1) (r1_ (r4_ tr))))) (a_ (r2_ (c_ (script_hex_string_tri yC5_2.1 yC5_4 E3) (a_ (a_ (a_ (Eq.refl true) (a_ (Eq.refl 1) (a_ (lt_ 0 1 rfl) (le_ 1 16777216 rfl)))) (a_ (le_sl_gs 2 1 (some 1) rfl) (a_ (sub_lit cStr default 1 (fun _ => rfl) ([yC5_4] : List (List UInt8))) tr))) (a_ (a_ (a_ (a_ (Eq.refl 1) (Nat.le_refl (([yC5_4] : List (List UInt8))).length)) (a_ (a_ (lt_ 0 1 rfl) (a_ (lt_ 0 16 rfl) (a_ G5 (a_ (Eq.refl 1) (Eq.refl true))))) (a_ (Eq.refl 1) (Nat.le_refl (l).length)))) (a_ (le_gs_app 3 l ([yC5_4] : List (List UInt8))) (a_ (sub_app cStr default 1 l ([yC5_4] : List (List UInt8))) tr))) (r1_ tr))))) (a_ (r1_ (l_ 2 18 rfl tr)) (a_ (r1_ (f_ C6 tr)) (a_ (r1_ (f_ C7 tr)) tr))))) (script_words_c11_ok hμ c  _ r h) ⟨rfl, fun _ _ => rfl, trivial⟩
  ·exact rt_ hμ [3] 29 [.reg [(2, hC (ids_Name_v yC5_2))], .reg [(2, hC (script_hex_string_v yC5_4)), (3, { os := [(2, .gr 1 (([yC5_4] : List (List UInt8))).length (rowF cStr default ([yC5_4] : List (List UInt8))))], v := some (.gs 2 (([yC5_4] : List (List UInt8))).length) }), (4, { app := 3, os := [(3, .gr 1 ((l ++ ([yC5_4] : List (List UInt8)))).length (rowF cStr default (l ++ ([yC5_4] : List (List UInt8)))))], v := some (.gs 3 ((l ++ ([yC5_4] : List (List UInt8)))).length) })], .reg [], .reg [(1, hF)], .reg [(1, hF)]]
    (a_ (r1_ (m_ 14 18 rfl (c_ (ids_Name_tri c.f_Key yC5_2 E1) (r1_ (r4_ tr))))) (a_ (r2_ (c_ (script_hex_string_tri yC5_2.1 yC5_4 E3) (a_ (a_ (a_ (Eq.refl true) (a_ (Eq.refl 1) (a_ (lt_ 0 1 rfl) (le_ 1 16777216 rfl)))) (a_ (le_sl_gs 2 1 (some 1) rfl) (a_ (sub_lit cStr default 1 (fun _ => rfl) ([yC5_4] : List (List UInt8))) tr))) (a_ (a_ (a_ (a_ (Eq.refl 1) (Nat.le_refl (([yC5_4] : List (List UInt8))).length)) (a_ (a_ (lt_ 0 1 rfl) (a_ (lt_ 0 16 rfl) (a_ G5 (a_ (Eq.refl 1) (Eq.refl true))))) (a_ (Eq.refl 1) (Nat.le_refl (l).length)))) (a_ (le_gs_app 3 l ([yC5_4] : List (List UInt8))) (a_ (sub_app cStr default 1 l ([yC5_4] : List (List UInt8))) tr))) (r1_ tr))))) (a_ (r1_ (l_ 2 18 rfl tr)) (a_ (r1_ (f_ C6 tr)) (a_ (r1_ (f_ C7 tr)) tr))))) (script_words_c16_ok hμ   _ r h) ⟨fun _ _ => rfl, trivial⟩
theorem script_words_c7_ok {w0 : World} {W : Nat → Prop} {μ0 : Emb} (hμ : ∀ c p, μ0 c = some p → c < 0) (c : TN)  (l2 : List (List UInt8)) (r : (List (List UInt8))) (h : script_words_c7 c  l2 = some r) : kont Tryz.prog w0 W μ0 (FnPost Tryz.prog Tryz.f29 0 0 (script_words_v r) []) (kAtR (bodyOf Tryz.f29) 7) none (script_words_T1000007 c l2) (script_words_H1000007 c l2) := by
 unfold script_words_c7 at h
 rcases itb_some h with ⟨C1, h⟩ | ⟨C1, h⟩
 ·obtain ⟨yC7_3, E2, h⟩ := bind_some h
  obtain ⟨G4, h⟩ := guard_some h
  obtain rfl := si_ h
  exact rr_ [] 23 [.reg [], .reg [(1, hT)], .reg [(3, hC (script_hex_string_v yC7_3)), (4, { os := [(2, .gr 1 (([yC7_3] : List (List UInt8))).length (rowF cStr default ([yC7_3] : List (List UInt8))))], v := some (.gs 2 (([yC7_3] : List (List UInt8))).length) }), (5, { app := 3, os := [(3, .gr 1 ((l2 ++ ([yC7_3] : List (List UInt8)))).length (rowF cStr default (l2 ++ ([yC7_3] : List (List UInt8)))))], v := some (.gs 3 ((l2 ++ ([yC7_3] : List (List UInt8)))).length) })], .reg [], .frz 3]
   (a_ (a_ (r1_ (l_ 2 18 rfl tr)) (a_ (r1_ (f_ C1 tr)) (a_ (r2_ (l_ 14 18 rfl (c_ (script_hex_string_tri c.f_Value yC7_3 E2) (a_ (a_ (a_ (Eq.refl true) (a_ (Eq.refl 1) (a_ (lt_ 0 1 rfl) (le_ 1 16777216 rfl)))) (a_ (le_sl_gs 2 1 (some 1) rfl) (a_ (sub_lit cStr default 1 (fun _ => rfl) ([yC7_3] : List (List UInt8))) tr))) (a_ (a_ (a_ (a_ (Eq.refl 1) (Nat.le_refl (([yC7_3] : List (List UInt8))).length)) (a_ (a_ (lt_ 0 1 rfl) (a_ (lt_ 0 16 rfl) (a_ G4 (a_ (Eq.refl 1) (Eq.refl true))))) (a_ (Eq.refl 1) (Nat.le_refl (l2).length)))) (a_ (le_gs_app 3 l2 ([yC7_3] : List (List UInt8))) (a_ (sub_app cStr default 1 l2 ([yC7_3] : List (List UInt8))) tr))) (r1_ tr)))))) (a_ (r2_ tr) (a_ (a_ (fz_row (enc := cStr) (d := default) (fun _ => rfl) (l2 ++ ([yC7_3] : List (List UInt8)))) (a_ (Nat.le_refl ((l2 ++ ([yC7_3] : List (List UInt8)))).length) (a_ (Nat.le_refl ((l2 ++ ([yC7_3] : List (List UInt8)))).length) (a_ (Nat.le_refl ((l2 ++ ([yC7_3] : List (List UInt8)))).length) (a_ (Nat.le_refl ((l2 ++ ([yC7_3] : List (List UInt8)))).length) tr))))) tr))))) tr)
 ·rcases itb_some h with ⟨C2, h⟩ | ⟨C2, h⟩
  ·obtain ⟨G3, h⟩ := guard_some h
   exact rt_ hμ [1, 3] 25 [.reg [], .reg [(1, hF)], .reg [(1, hT)], .reg [(4, { os := [(2, .gr 1 (([c.f_R, c.f_W] : List (Int))).length (rowF (cInt .u8) default ([c.f_R, c.f_W] : List (Int))))], v := some (.gs 2 (([c.f_R, c.f_W] : List (Int))).length) }), (7, { app := 3, os := [(3, .gr 1 ((([c.f_R, c.f_W] : List (Int)) ++ c.f_Votes)).length (rowF (cInt .u8) default (([c.f_R, c.f_W] : List (Int)) ++ c.f_Votes)))], v := some (.gs 3 ((([c.f_R, c.f_W] : List (Int)) ++ c.f_Votes)).length) })]]
    (a_ (r1_ (l_ 2 18 rfl tr)) (a_ (r1_ (f_ C1 tr)) (a_ (r1_ (f_ C2 tr)) (a_ (r1_ (l_ 15 18 rfl (r1_ (l_ 16 18 rfl (a_ (a_ (a_ (Eq.refl true) (a_ (Eq.refl 1) (a_ (lt_ 0 1 rfl) (le_ 2 16777216 rfl)))) (a_ (le_sl_gs 2 2 (some 2) rfl) (a_ (sub_lit (cInt .u8) default 1 (fun _ => rfl) ([c.f_R, c.f_W] : List (Int))) tr))) (r1_ (l_ 17 18 rfl (a_ (a_ (a_ (Eq.refl 1) (a_ (a_ (lt_ 0 1 rfl) (a_ (lt_ 0 1 rfl) (a_ G3 (a_ (Eq.refl 1) (Eq.refl true))))) (a_ (Eq.refl 1) (Nat.le_refl (([c.f_R, c.f_W] : List (Int))).length)))) (a_ (le_gs_app 3 ([c.f_R, c.f_W] : List (Int)) c.f_Votes) (a_ (sub_app (cInt .u8) default 1 ([c.f_R, c.f_W] : List (Int)) c.f_Votes) tr))) (r2_ tr))))))))) tr)))) (script_words_l0_ok hμ c  big _ _ r h) ⟨fun _ _ => rfl, fun _ _ => rfl, trivial⟩
  ·obtain rfl := si_ h
   exact rr_ [] 26 [.reg [], .reg [(1, hF)], .reg [(1, hF)], .reg [], .frz 1]
    (a_ (a_ (r1_ (l_ 2 18 rfl tr)) (a_ (r1_ (f_ C1 tr)) (a_ (r1_ (f_ C2 tr)) (a_ (r2_ tr) (a_ (a_ (fz_row (enc := cStr) (d := default) (fun _ => rfl) l2) (a_ (Nat.le_refl (l2).length) (a_ (Nat.le_refl (l2).length) (a_ (Nat.le_refl (l2).length) tr)))) tr))))) tr)
theorem script_words_ok (c : TN) (r : (List (List UInt8))) (h : script_words c = some r) : ∀ σ, Inj 0 σ → FnTri Tryz.prog 29 (renL σ [v_TN c]) (preOf σ 0 []) ((script_words_v r).ren σ) (upOf σ []) := by
 refine fo_ Tryz.func29 trivial trivial ?_
 intro w0 W μ0 hμ
 unfold script_words at h
 obtain ⟨y2, e1, h⟩ := bind_some h
 obtain ⟨y4, e3, h⟩ := bind_some h
 obtain ⟨y6, e5, h⟩ := bind_some h
 obtain ⟨g7, h⟩ := guard_some h
 rcases itb_some h with ⟨c8, h⟩ | ⟨c8, h⟩
 ·obtain ⟨y10, e9, h⟩ := bind_some h
  obtain ⟨g11, h⟩ := guard_some h
  obtain ⟨y13, e12, h⟩ := bind_some h
  rcases itb_some h with ⟨c14, h⟩ | ⟨c14, h⟩
  ·exact rt_ hμ [0, 3] 28 [.reg [(1, { v := some (.ds 1 (([] : List (List UInt8))).length (rowF cStr default ([] : List (List UInt8)))) })], .reg [(4, hC (script_digits_v y2)), (9, hC (script_digits_v y4)), (10, hC (script_calls_v y6)), (15, { os := [(1, .gr 1 (([y2, y4, (y6.getD (c.f_Kind).toNat default)] : List (List UInt8))).length (rowF cStr default ([y2, y4, (y6.getD (c.f_Kind).toNat default)] : List (List UInt8))))], v := some (.gs 1 (([y2, y4, (y6.getD (c.f_Kind).toNat default)] : List (List UInt8))).length) })], .reg [(2, hT)], .reg [(3, hC (script_name_v y10)), (4, { os := [(2, .gr 1 (([y10] : List (List UInt8))).length (rowF cStr default ([y10] : List (List UInt8))))], v := some (.gs 2 (([y10] : List (List UInt8))).length) }), (5, { app := 3, os := [(3, .gr 1 ((([y2, y4, (y6.getD (c.f_Kind).toNat default)] : List (List UInt8)) ++ ([y10] : List (List UInt8)))).length (rowF cStr default (([y2, y4, (y6.getD (c.f_Kind).toNat default)] : List (List UInt8)) ++ ([y10] : List (List UInt8)))))], v := some (.gs 3 ((([y2, y4, (y6.getD (c.f_Kind).toNat default)] : List (List UInt8)) ++ ([y10] : List (List UInt8)))).length) })], .reg [(2, { call := some (script_hasKey_v y13, [], []), v := some (.bool true) })]]
    (a_ (r1_ (a_ (a_ tr (a_ (le_nil_ds 1 (rowF cStr default [])) tr)) tr)) (a_ (r2_ (l_ 0 18 rfl (r1_ (a_ (a_ (a_ (script_digits_tri (IntKind.wrap .i64 c.f_Call.f_Client) y2 e1) tr) tr) (r2_ (l_ 1 18 rfl (r1_ (a_ (a_ (a_ (script_digits_tri (IntKind.wrap .i64 c.f_Call.f_Seq) y4 e3) tr) tr) (c_ (script_calls_tri  y6 e5) (r1_ (l_ 2 18 rfl (a_ (a_ (a_ (Eq.refl 1) g7) tr) (a_ (a_ (lt_ 0 1 rfl) tr) (a_ (a_ (a_ (Eq.refl true) (a_ (Eq.refl 1) (a_ (lt_ 0 1 rfl) (le_ 3 16777216 rfl)))) (a_ (le_sl_gs 1 3 (some 3) rfl) (a_ (sub_lit cStr default 1 (fun _ => rfl) ([y2, y4, (y6.getD (c.f_Kind).toNat default)] : List (List UInt8))) tr))) (r1_ tr))))))))))))))) (a_ (r1_ (l_ 2 18 rfl (f_ c8 tr))) (a_ (r2_ (m_ 6 18 rfl (c_ (script_name_tri c.f_Tx y10 e9) (a_ (a_ (a_ (Eq.refl true) (a_ (Eq.refl 1) (a_ (lt_ 0 1 rfl) (le_ 1 16777216 rfl)))) (a_ (le_sl_gs 2 1 (some 1) rfl) (a_ (sub_lit cStr default 1 (fun _ => rfl) ([y10] : List (List UInt8))) tr))) (a_ (a_ (a_ (a_ (Eq.refl 1) (Nat.le_refl (([y10] : List (List UInt8))).length)) (a_ (a_ (lt_ 0 1 rfl) (a_ (lt_ 0 16 rfl) (a_ g11 (a_ (Eq.refl 1) (Eq.refl true))))) (a_ (Eq.refl 1) (Nat.le_refl (([y2, y4, (y6.getD (c.f_Kind).toNat default)] : List (List UInt8))).length)))) (a_ (le_gs_app 3 ([y2, y4, (y6.getD (c.f_Kind).toNat default)] : List (List UInt8)) ([y10] : List (List UInt8))) (a_ (sub_app cStr default 1 ([y2, y4, (y6.getD (c.f_Kind).toNat default)] : List (List UInt8)) ([y10] : List (List UInt8))) tr))) (r1_ tr)))))) (a_ (r1_ (l_ 2 18 rfl (a_ (a_ (a_ (script_hasKey_tri c.f_Kind y13 e12) tr) (a_ (leB c14) tr)) tr))) tr))))) (script_words_c5_ok hμ c  _ r h) ⟨rfl, fun _ _ => rfl, trivial⟩
  ·exact rt_ hμ [0, 3] 30 [.reg [(1, { v := some (.ds 1 (([] : List (List UInt8))).length (rowF cStr default ([] : List (List UInt8)))) })], .reg [(4, hC (script_digits_v y2)), (9, hC (script_digits_v y4)), (10, hC (script_calls_v y6)), (15, { os := [(1, .gr 1 (([y2, y4, (y6.getD (c.f_Kind).toNat default)] : List (List UInt8))).length (rowF cStr default ([y2, y4, (y6.getD (c.f_Kind).toNat default)] : List (List UInt8))))], v := some (.gs 1 (([y2, y4, (y6.getD (c.f_Kind).toNat default)] : List (List UInt8))).length) })], .reg [(2, hT)], .reg [(3, hC (script_name_v y10)), (4, { os := [(2, .gr 1 (([y10] : List (List UInt8))).length (rowF cStr default ([y10] : List (List UInt8))))], v := some (.gs 2 (([y10] : List (List UInt8))).length) }), (5, { app := 3, os := [(3, .gr 1 ((([y2, y4, (y6.getD (c.f_Kind).toNat default)] : List (List UInt8)) ++ ([y10] : List (List UInt8)))).length (rowF cStr default (([y2, y4, (y6.getD (c.f_Kind).toNat default)] : List (List UInt8)) ++ ([y10] : List (List UInt8)))))], v := some (.gs 3 ((([y2, y4, (y6.getD (c.f_Kind).toNat default)] : List (List UInt8)) ++ ([y10] : List (List UInt8)))).length) })], .reg [(2, { call := some (script_hasKey_v y13, [], []), v := some (.bool false) })]]
    (a_ (r1_ (a_ (a_ tr (a_ (le_nil_ds 1 (rowF cStr default [])) tr)) tr)) (a_ (r2_ (l_ 0 18 rfl (r1_ (a_ (a_ (a_ (script_digits_tri (IntKind.wrap .i64 c.f_Call.f_Client) y2 e1) tr) tr) (r2_ (l_ 1 18 rfl (r1_ (a_ (a_ (a_ (script_digits_tri (IntKind.wrap .i64 c.f_Call.f_Seq) y4 e3) tr) tr) (c_ (script_calls_tri  y6 e5) (r1_ (l_ 2 18 rfl (a_ (a_ (a_ (Eq.refl 1) g7) tr) (a_ (a_ (lt_ 0 1 rfl) tr) (a_ (a_ (a_ (Eq.refl true) (a_ (Eq.refl 1) (a_ (lt_ 0 1 rfl) (le_ 3 16777216 rfl)))) (a_ (le_sl_gs 1 3 (some 3) rfl) (a_ (sub_lit cStr default 1 (fun _ => rfl) ([y2, y4, (y6.getD (c.f_Kind).toNat default)] : List (List UInt8))) tr))) (r1_ tr))))))))))))))) (a_ (r1_ (l_ 2 18 rfl (f_ c8 tr))) (a_ (r2_ (m_ 6 18 rfl (c_ (script_name_tri c.f_Tx y10 e9) (a_ (a_ (a_ (Eq.refl true) (a_ (Eq.refl 1) (a_ (lt_ 0 1 rfl) (le_ 1 16777216 rfl)))) (a_ (le_sl_gs 2 1 (some 1) rfl) (a_ (sub_lit cStr default 1 (fun _ => rfl) ([y10] : List (List UInt8))) tr))) (a_ (a_ (a_ (a_ (Eq.refl 1) (Nat.le_refl (([y10] : List (List UInt8))).length)) (a_ (a_ (lt_ 0 1 rfl) (a_ (lt_ 0 16 rfl) (a_ g11 (a_ (Eq.refl 1) (Eq.refl true))))) (a_ (Eq.refl 1) (Nat.le_refl (([y2, y4, (y6.getD (c.f_Kind).toNat default)] : List (List UInt8))).length)))) (a_ (le_gs_app 3 ([y2, y4, (y6.getD (c.f_Kind).toNat default)] : List (List UInt8)) ([y10] : List (List UInt8))) (a_ (sub_app cStr default 1 ([y2, y4, (y6.getD (c.f_Kind).toNat default)] : List (List UInt8)) ([y10] : List (List UInt8))) tr))) (r1_ tr)))))) (a_ (r1_ (l_ 2 18 rfl (a_ (a_ (a_ (script_hasKey_tri c.f_Kind y13 e12) tr) (a_ (leB c14) tr)) tr))) tr))))) (script_words_c7_ok hμ c  _ r h) ⟨rfl, fun _ _ => rfl, trivial⟩
 ·obtain ⟨y11, e9, h⟩ := bind_some h
  rcases itb_some h with ⟨c12, h⟩ | ⟨c12, h⟩
  ·exact rt_ hμ [0, 1] 27 [.reg [(1, { v := some (.ds 1 (([] : List (List UInt8))).length (rowF cStr default ([] : List (List UInt8)))) })], .reg [(4, hC (script_digits_v y2)), (9, hC (script_digits_v y4)), (10, hC (script_calls_v y6)), (15, { os := [(1, .gr 1 (([y2, y4, (y6.getD (c.f_Kind).toNat default)] : List (List UInt8))).length (rowF cStr default ([y2, y4, (y6.getD (c.f_Kind).toNat default)] : List (List UInt8))))], v := some (.gs 1 (([y2, y4, (y6.getD (c.f_Kind).toNat default)] : List (List UInt8))).length) })], .reg [(2, hF)], .reg [(2, { call := some (script_hasKey_v y11, [], []), v := some (.bool true) })]]
    (a_ (r1_ (a_ (a_ tr (a_ (le_nil_ds 1 (rowF cStr default [])) tr)) tr)) (a_ (r2_ (l_ 0 18 rfl (r1_ (a_ (a_ (a_ (script_digits_tri (IntKind.wrap .i64 c.f_Call.f_Client) y2 e1) tr) tr) (r2_ (l_ 1 18 rfl (r1_ (a_ (a_ (a_ (script_digits_tri (IntKind.wrap .i64 c.f_Call.f_Seq) y4 e3) tr) tr) (c_ (script_calls_tri  y6 e5) (r1_ (l_ 2 18 rfl (a_ (a_ (a_ (Eq.refl 1) g7) tr) (a_ (a_ (lt_ 0 1 rfl) tr) (a_ (a_ (a_ (Eq.refl true) (a_ (Eq.refl 1) (a_ (lt_ 0 1 rfl) (le_ 3 16777216 rfl)))) (a_ (le_sl_gs 1 3 (some 3) rfl) (a_ (sub_lit cStr default 1 (fun _ => rfl) ([y2, y4, (y6.getD (c.f_Kind).toNat default)] : List (List UInt8))) tr))) (r1_ tr))))))))))))))) (a_ (r1_ (l_ 2 18 rfl (f_ c8 tr))) (a_ (r1_ (l_ 2 18 rfl (a_ (a_ (a_ (script_hasKey_tri c.f_Kind y11 e9) tr) (a_ (leB c12) tr)) tr))) tr)))) (script_words_c5_ok hμ c  _ r h) ⟨rfl, fun _ _ => rfl, trivial⟩
  ·exact rt_ hμ [0, 1] 29 [.reg [(1, { v := some (.ds 1 (([] : List (List UInt8))).length (rowF cStr default ([] : List (List UInt8)))) })], .reg [(4, hC (script_digits_v y2)), (9, hC (script_digits_v y4)), (10, hC (script_calls_v y6)), (15, { os := [(1, .gr 1 (([y2, y4, (y6.getD (c.f_Kind).toNat default)] : List (List UInt8))).length (rowF cStr default ([y2, y4, (y6.getD (c.f_Kind).toNat default)] : List (List UInt8))))], v := some (.gs 1 (([y2, y4, (y6.getD (c.f_Kind).toNat default)] : List (List UInt8))).length) })], .reg [(2, hF)], .reg [(2, { call := some (script_hasKey_v y11, [], []), v := some (.bool false) })]]
    (a_ (r1_ (a_ (a_ tr (a_ (le_nil_ds 1 (rowF cStr default [])) tr)) tr)) (a_ (r2_ (l_ 0 18 rfl (r1_ (a_ (a_ (a_ (script_digits_tri (IntKind.wrap .i64 c.f_Call.f_Client) y2 e1) tr) tr) (r2_ (l_ 1 18 rfl (r1_ (a_ (a_ (a_ (script_digits_tri (IntKind.wrap .i64 c.f_Call.f_Seq) y4 e3) tr) tr) (c_ (script_calls_tri  y6 e5) (r1_ (l_ 2 18 rfl (a_ (a_ (a_ (Eq.refl 1) g7) tr) (a_ (a_ (lt_ 0 1 rfl) tr) (a_ (a_ (a_ (Eq.refl true) (a_ (Eq.refl 1) (a_ (lt_ 0 1 rfl) (le_ 3 16777216 rfl)))) (a_ (le_sl_gs 1 3 (some 3) rfl) (a_ (sub_lit cStr default 1 (fun _ => rfl) ([y2, y4, (y6.getD (c.f_Kind).toNat default)] : List (List UInt8))) tr))) (r1_ tr))))))))))))))) (a_ (r1_ (l_ 2 18 rfl (f_ c8 tr))) (a_ (r1_ (l_ 2 18 rfl (a_ (a_ (a_ (script_hasKey_tri c.f_Kind y11 e9) tr) (a_ (leB c12) tr)) tr))) tr)))) (script_words_c7_ok hμ c  _ r h) ⟨rfl, fun _ _ => rfl, trivial⟩
theorem script_words_tri (c : TN) (r : (List (List UInt8))) (h : script_words c = some r) : FnTri Tryz.prog 29 [v_TN c] [] (script_words_v r) [] := FnTri.none (script_words_ok c r h) rfl rfl
/-- parrel/script.hex[[]byte] -/
def script_hex_byte_v (r : (List UInt8)) : LV := .str r
def script_hex_byte_T0 (b : List (Int)) (t11 : Int) (l : List (Int)) : List LV := .any :: .any :: .any :: (.gs 0 (l).length) :: n_ 5 ((.ds 1 (b).length (rowF (cInt .u8) default b)) :: (.int .i64 ((b).length : Int)) :: (.int .i64 t11) :: n_ 15 [])
def script_hex_byte_H0 (b : List (Int)) (t11 : Int) (l : List (Int)) : Heap := [some (.gr 1 (l).length (rowF (cInt .u8) default l))]
def script_hex_byte_l0 (b : List (Int))  : Nat → (Int) → (List (Int)) → Option ((List UInt8))
 | 0, _, _ => none
 | fuel + 1, t11, l =>
  if ((decide (t11 < ((b).length : Int))) : Bool) then
   if 0 ≤ t11 ∧ t11 < (((b).length : Nat) : Int) then
   if 0 ≤ (Int.fdiv (b.getD t11.toNat default) (2 ^ (min (Int.toNat 4) (IntKind.bits .u8)))) ∧ (Int.fdiv (b.getD t11.toNat default) (2 ^ (min (Int.toNat 4) (IntKind.bits .u8)))) < (((([48, 49, 50, 51, 52, 53, 54, 55, 56, 57, 97, 98, 99, 100, 101, 102] : List UInt8)).length : Nat) : Int) then
   if 0 ≤ (IntKind.wrap .u8 ((BitVec.ofInt (IntKind.bits .u8) (b.getD t11.toNat default) &&& BitVec.ofInt (IntKind.bits .u8) 15).toNat : Int)) ∧ (IntKind.wrap .u8 ((BitVec.ofInt (IntKind.bits .u8) (b.getD t11.toNat default) &&& BitVec.ofInt (IntKind.bits .u8) 15).toNat : Int)) < (((([48, 49, 50, 51, 52, 53, 54, 55, 56, 57, 97, 98, 99, 100, 101, 102] : List UInt8)).length : Nat) : Int) then
   if ((l).length + (([((([48, 49, 50, 51, 52, 53, 54, 55, 56, 57, 97, 98, 99, 100, 101, 102] : List UInt8).getD ((Int.fdiv (b.getD t11.toNat default) (2 ^ (min (Int.toNat 4) (IntKind.bits .u8))))).toNat 0).toNat : Int), ((([48, 49, 50, 51, 52, 53, 54, 55, 56, 57, 97, 98, 99, 100, 101, 102] : List UInt8).getD ((IntKind.wrap .u8 ((BitVec.ofInt (IntKind.bits .u8) (b.getD t11.toNat default) &&& BitVec.ofInt (IntKind.bits .u8) 15).toNat : Int))).toNat 0).toNat : Int)] : List (Int))).length) * 1 ≤ 140737488351232 then
   script_hex_byte_l0 b  fuel (IntKind.wrap .i64 (t11 + 1)) (l ++ ([((([48, 49, 50, 51, 52, 53, 54, 55, 56, 57, 97, 98, 99, 100, 101, 102] : List UInt8).getD ((Int.fdiv (b.getD t11.toNat default) (2 ^ (min (Int.toNat 4) (IntKind.bits .u8))))).toNat 0).toNat : Int), ((([48, 49, 50, 51, 52, 53, 54, 55, 56, 57, 97, 98, 99, 100, 101, 102] : List UInt8).getD ((IntKind.wrap .u8 ((BitVec.ofInt (IntKind.bits .u8) (b.getD t11.toNat default) &&& BitVec.ofInt (IntKind.bits .u8) 15).toNat : Int))).toNat 0).toNat : Int)] : List (Int)))
   else none
   else none
   else none
   else none
  else
   some (strI l)
def script_hex_byte (b : List (Int)) : Option ((List UInt8)) :=
 if ((((b).length : Int) == 0) : Bool) then
  some ([45] : List UInt8)
 else
  script_hex_byte_l0 b  big 0 ([] : List (Int))
theorem script_hex_byte_l0_ok {w0 : World} {W : Nat → Prop} {μ0 : Emb} (hμ : ∀ c p, μ0 c = some p → c < 0) (b : List (Int)) : ∀ (fuel : Nat) (t11 : Int) (l : List (Int)) (r : (List UInt8)), script_hex_byte_l0 b  fuel t11 l = some r → kont Tryz.prog w0 W μ0 (FnPost Tryz.prog Tryz.f30 0 0 (script_hex_byte_v r) []) (kAt (bodyOf Tryz.f30) 0) none (script_hex_byte_T0 b t11 l) (script_hex_byte_H0 b t11 l) := by
 intro fuel
 induction fuel with
 | zero => intro t11 l r h; rw [script_hex_byte_l0] at h; cases h
 | succ fuel ih =>
  intro t11 l r h
  rw [script_hex_byte_l0] at h
  rcases itb_some h with ⟨C1, h⟩ | ⟨C1, h⟩
  ·obtain ⟨G2, h⟩ := guard_some h
   obtain ⟨G3, h⟩ := guard_some h
   obtain ⟨G4, h⟩ := guard_some h
   obtain ⟨G5, h⟩ := guard_some h
   exact rt_ hμ [2] 26 [.go, .reg [(0, hT)], .reg [], .reg [(7, { os := [(1, .gr 1 (([((sg_.getD ((Int.fdiv (b.getD t11.toNat default) (2 ^ (min (Int.toNat 4) (IntKind.bits .u8))))).toNat 0).toNat : Int), ((sg_.getD ((IntKind.wrap .u8 ((BitVec.ofInt (IntKind.bits .u8) (b.getD t11.toNat default) &&& BitVec.ofInt (IntKind.bits .u8) 15).toNat : Int))).toNat 0).toNat : Int)] : List (Int))).length (rowF (cInt .u8) default ([((sg_.getD ((Int.fdiv (b.getD t11.toNat default) (2 ^ (min (Int.toNat 4) (IntKind.bits .u8))))).toNat 0).toNat : Int), ((sg_.getD ((IntKind.wrap .u8 ((BitVec.ofInt (IntKind.bits .u8) (b.getD t11.toNat default) &&& BitVec.ofInt (IntKind.bits .u8) 15).toNat : Int))).toNat 0).toNat : Int)] : List (Int))))], v := some (.gs 1 (([((sg_.getD ((Int.fdiv (b.getD t11.toNat default) (2 ^ (min (Int.toNat 4) (IntKind.bits .u8))))).toNat 0).toNat : Int), ((sg_.getD ((IntKind.wrap .u8 ((BitVec.ofInt (IntKind.bits .u8) (b.getD t11.toNat default) &&& BitVec.ofInt (IntKind.bits .u8) 15).toNat : Int))).toNat 0).toNat : Int)] : List (Int))).length) }), (8, { app := 3, os := [(2, .gr 1 ((l ++ ([((sg_.getD ((Int.fdiv (b.getD t11.toNat default) (2 ^ (min (Int.toNat 4) (IntKind.bits .u8))))).toNat 0).toNat : Int), ((sg_.getD ((IntKind.wrap .u8 ((BitVec.ofInt (IntKind.bits .u8) (b.getD t11.toNat default) &&& BitVec.ofInt (IntKind.bits .u8) 15).toNat : Int))).toNat 0).toNat : Int)] : List (Int)))).length (rowF (cInt .u8) default (l ++ ([((sg_.getD ((Int.fdiv (b.getD t11.toNat default) (2 ^ (min (Int.toNat 4) (IntKind.bits .u8))))).toNat 0).toNat : Int), ((sg_.getD ((IntKind.wrap .u8 ((BitVec.ofInt (IntKind.bits .u8) (b.getD t11.toNat default) &&& BitVec.ofInt (IntKind.bits .u8) 15).toNat : Int))).toNat 0).toNat : Int)] : List (Int)))))], v := some (.gs 2 ((l ++ ([((sg_.getD ((Int.fdiv (b.getD t11.toNat default) (2 ^ (min (Int.toNat 4) (IntKind.bits .u8))))).toNat 0).toNat : Int), ((sg_.getD ((IntKind.wrap .u8 ((BitVec.ofInt (IntKind.bits .u8) (b.getD t11.toNat default) &&& BitVec.ofInt (IntKind.bits .u8) 15).toNat : Int))).toNat 0).toNat : Int)] : List (Int)))).length) })], .reg []]
    (a_ (f_ C1 tr) (a_ (a_ (a_ (a_ (Eq.refl 1) G2) tr) (a_ (a_ (lt_ 0 1 rfl) tr) (r1_ tr))) (a_ (r2_ (a_ (a_ (lei_ 0 4 rfl) tr) (a_ (a_ G3 tr) (r2_ (a_ (a_ G4 tr) (a_ (a_ (a_ (Eq.refl true) (a_ (Eq.refl 1) (a_ (lt_ 0 1 rfl) (le_ 2 16777216 rfl)))) (a_ (le_sl_gs 1 2 (some 2) rfl) (a_ (sub_lit (cInt .u8) default 1 (fun _ => rfl) ([((sg_.getD ((Int.fdiv (b.getD t11.toNat default) (2 ^ (min (Int.toNat 4) (IntKind.bits .u8))))).toNat 0).toNat : Int), ((sg_.getD ((IntKind.wrap .u8 ((BitVec.ofInt (IntKind.bits .u8) (b.getD t11.toNat default) &&& BitVec.ofInt (IntKind.bits .u8) 15).toNat : Int))).toNat 0).toNat : Int)] : List (Int))) tr))) (a_ (a_ (a_ (a_ (Eq.refl 1) (Nat.le_refl (([((sg_.getD ((Int.fdiv (b.getD t11.toNat default) (2 ^ (min (Int.toNat 4) (IntKind.bits .u8))))).toNat 0).toNat : Int), ((sg_.getD ((IntKind.wrap .u8 ((BitVec.ofInt (IntKind.bits .u8) (b.getD t11.toNat default) &&& BitVec.ofInt (IntKind.bits .u8) 15).toNat : Int))).toNat 0).toNat : Int)] : List (Int))).length)) (a_ (a_ (lt_ 0 1 rfl) (a_ (lt_ 0 1 rfl) (a_ G5 (a_ (Eq.refl 1) (Eq.refl true))))) (a_ (Eq.refl 1) (Nat.le_refl (l).length)))) (a_ (le_gs_app 2 l ([((sg_.getD ((Int.fdiv (b.getD t11.toNat default) (2 ^ (min (Int.toNat 4) (IntKind.bits .u8))))).toNat 0).toNat : Int), ((sg_.getD ((IntKind.wrap .u8 ((BitVec.ofInt (IntKind.bits .u8) (b.getD t11.toNat default) &&& BitVec.ofInt (IntKind.bits .u8) 15).toNat : Int))).toNat 0).toNat : Int)] : List (Int))) (a_ (sub_app (cInt .u8) default 1 l ([((sg_.getD ((Int.fdiv (b.getD t11.toNat default) (2 ^ (min (Int.toNat 4) (IntKind.bits .u8))))).toNat 0).toNat : Int), ((sg_.getD ((IntKind.wrap .u8 ((BitVec.ofInt (IntKind.bits .u8) (b.getD t11.toNat default) &&& BitVec.ofInt (IntKind.bits .u8) 15).toNat : Int))).toNat 0).toNat : Int)] : List (Int))) tr))) (r1_ tr)))))))) (a_ (r2_ tr) tr)))) (ih _ _ r h) ⟨fun _ _ => rfl, trivial⟩
  ·obtain rfl := si_ h
   exact rr_ [] 20 [.go, .reg [(0, hF)], .frz 0, .reg [(1, { v := some (.str (strI l)) })]]
    (a_ (a_ (f_ C1 tr) (a_ (a_ (fz_row (enc := (cInt .u8)) (d := default) (fun _ => rfl) l) (a_ (Nat.le_refl (l).length) tr)) (a_ (r1_ (a_ (a_ (a_ (Eq.refl 1) (str_ob l)) (a_ (le_str l) tr)) (r1_ tr))) tr))) tr)
theorem script_hex_byte_ok (b : List (Int)) (r : (List UInt8)) (h : script_hex_byte b = some r) : ∀ σ, Inj 0 σ → FnTri Tryz.prog 30 (renL σ [.ds 1 (b).length (rowF (cInt .u8) default b)]) (preOf σ 0 []) ((script_hex_byte_v r).ren σ) (upOf σ []) := by
 refine fo_ Tryz.func30 trivial trivial ?_
 intro w0 W μ0 hμ
 unfold script_hex_byte at h
 rcases itb_some h with ⟨c1, h⟩ | ⟨c1, h⟩
 ·obtain rfl := si_ h
  exact rr_ [] 20 [.reg [], .reg [(2, hT)], .reg []]
   (a_ (a_ (r1_ tr) (a_ (r2_ (f_ c1 tr)) (a_ (r1_ tr) tr))) tr)
 ·exact rt_ hμ [0] 28 [.reg [], .reg [(2, hF)], .void (.gr 1 (([] : List (Int))).length (rowF (cInt .u8) default ([] : List (Int)))), .reg [(0, { v := some (.gs 0 (([] : List (Int))).length) })], .reg []]
   (a_ (r1_ tr) (a_ (r2_ (f_ c1 tr)) (a_ (Eq.refl 0) (a_ (a_ (a_ tr (a_ (le_nil_gs 0) tr)) tr) (a_ (r1_ (r2_ tr)) tr))))) (script_hex_byte_l0_ok hμ b  big _ _ r h) ⟨fun _ _ => rfl, trivial⟩
theorem script_hex_byte_tri (b : List (Int)) (r : (List UInt8)) (h : script_hex_byte b = some r) : FnTri Tryz.prog 30 [.ds 1 (b).length (rowF (cInt .u8) default b)] [] (script_hex_byte_v r) [] := FnTri.none (script_hex_byte_ok b r h) rfl rfl
/-- parrel/script.Line -/
def script_Line_v (r : (List UInt8) × (Int)) : LV := .tup [.str r.1, .int .i64 r.2]
def script_Line_T1000006 (s : TS) (y5 : (List (List UInt8))) (y8 : (List UInt8))  : List LV := .any :: (.ptr 0 0 0) :: .any :: .any :: (.gs 1 (([(y5.getD (s.f_Kind).toNat default), y8] : List (List UInt8))).length) :: n_ 67 []
def script_Line_H1000006 (s : TS) (y5 : (List (List UInt8))) (y8 : (List UInt8))  : Heap := [some (.var (c_TS s)), some (.gr 1 (([(y5.getD (s.f_Kind).toNat default), y8] : List (List UInt8))).length (rowF cStr default ([(y5.getD (s.f_Kind).toNat default), y8] : List (List UInt8))))]
def script_Line_T1005021 (s : TS) (y5 : (List (List UInt8))) (y8 : (List UInt8)) (yC7_8 : (List UInt8))  : List LV := n_ 4 ((.gs 0 ((([(y5.getD (s.f_Kind).toNat default), y8] : List (List UInt8)) ++ ([yC7_8] : List (List UInt8)))).length) :: n_ 67 [])
def script_Line_H1005021 (s : TS) (y5 : (List (List UInt8))) (y8 : (List UInt8)) (yC7_8 : (List UInt8))  : Heap := [some (.gr 1 ((([(y5.getD (s.f_Kind).toNat default), y8] : List (List UInt8)) ++ ([yC7_8] : List (List UInt8)))).length (rowF cStr default (([(y5.getD (s.f_Kind).toNat default), y8] : List (List UInt8)) ++ ([yC7_8] : List (List UInt8)))))]
def script_Line_T1002021 (s : TS) (y5 : (List (List UInt8))) (y8 : (List UInt8)) (yC7_6 : (List UInt8))  : List LV := n_ 4 ((.gs 0 ((([(y5.getD (s.f_Kind).toNat default), y8] : List (List UInt8)).set 1 yC7_6)).length) :: n_ 67 [])
def script_Line_H1002021 (s : TS) (y5 : (List (List UInt8))) (y8 : (List UInt8)) (yC7_6 : (List UInt8))  : Heap := [some (.gr 1 ((([(y5.getD (s.f_Kind).toNat default), y8] : List (List UInt8)).set 1 yC7_6)).length (rowF cStr default (([(y5.getD (s.f_Kind).toNat default), y8] : List (List UInt8)).set 1 yC7_6)))]
def script_Line_T1006021 (s : TS) (y5 : (List (List UInt8))) (y8 : (List UInt8)) (yC7_9 : (List UInt8)) (yC7_11 : (List UInt8))  : List LV := n_ 4 ((.gs 0 ((([(y5.getD (s.f_Kind).toNat default), y8] : List (List UInt8)) ++ ([yC7_9, yC7_11] : List (List UInt8)))).length) :: n_ 67 [])
def script_Line_H1006021 (s : TS) (y5 : (List (List UInt8))) (y8 : (List UInt8)) (yC7_9 : (List UInt8)) (yC7_11 : (List UInt8))  : Heap := [some (.gr 1 ((([(y5.getD (s.f_Kind).toNat default), y8] : List (List UInt8)) ++ ([yC7_9, yC7_11] : List (List UInt8)))).length (rowF cStr default (([(y5.getD (s.f_Kind).toNat default), y8] : List (List UInt8)) ++ ([yC7_9, yC7_11] : List (List UInt8)))))]
def script_Line_T1003021 (s : TS) (y5 : (List (List UInt8))) (y8 : (List UInt8)) (yC7_8 : (List UInt8)) (yC7_10 : (List UInt8))  : List LV := n_ 4 ((.gs 0 ((([(y5.getD (s.f_Kind).toNat default), y8] : List (List UInt8)) ++ ([yC7_8, ([99, 117, 116] : List UInt8), yC7_10] : List (List UInt8)))).length) :: n_ 67 [])
def script_Line_H1003021 (s : TS) (y5 : (List (List UInt8))) (y8 : (List UInt8)) (yC7_8 : (List UInt8)) (yC7_10 : (List UInt8))  : Heap := [some (.gr 1 ((([(y5.getD (s.f_Kind).toNat default), y8] : List (List UInt8)) ++ ([yC7_8, ([99, 117, 116] : List UInt8), yC7_10] : List (List UInt8)))).length (rowF cStr default (([(y5.getD (s.f_Kind).toNat default), y8] : List (List UInt8)) ++ ([yC7_8, ([99, 117, 116] : List UInt8), yC7_10] : List (List UInt8)))))]
def script_Line_T1004021 (s : TS) (y5 : (List (List UInt8))) (y8 : (List UInt8)) (yC7_8 : (List UInt8)) (yC7_10 : (List UInt8))  : List LV := n_ 4 ((.gs 0 ((([(y5.getD (s.f_Kind).toNat default), y8] : List (List UInt8)) ++ ([yC7_8, ([119, 104, 111, 108, 101] : List UInt8), yC7_10] : List (List UInt8)))).length) :: n_ 67 [])
def script_Line_H1004021 (s : TS) (y5 : (List (List UInt8))) (y8 : (List UInt8)) (yC7_8 : (List UInt8)) (yC7_10 : (List UInt8))  : Heap := [some (.gr 1 ((([(y5.getD (s.f_Kind).toNat default), y8] : List (List UInt8)) ++ ([yC7_8, ([119, 104, 111, 108, 101] : List UInt8), yC7_10] : List (List UInt8)))).length (rowF cStr default (([(y5.getD (s.f_Kind).toNat default), y8] : List (List UInt8)) ++ ([yC7_8, ([119, 104, 111, 108, 101] : List UInt8), yC7_10] : List (List UInt8)))))]
def script_Line_T1000021 (s : TS) (y5 : (List (List UInt8))) (y8 : (List UInt8)) (yC7_4 : (List UInt8))  : List LV := n_ 4 ((.gs 0 ((([(y5.getD (s.f_Kind).toNat default), y8] : List (List UInt8)).set 1 yC7_4)).length) :: n_ 67 [])
def script_Line_H1000021 (s : TS) (y5 : (List (List UInt8))) (y8 : (List UInt8)) (yC7_4 : (List UInt8))  : Heap := [some (.gr 1 ((([(y5.getD (s.f_Kind).toNat default), y8] : List (List UInt8)).set 1 yC7_4)).length (rowF cStr default (([(y5.getD (s.f_Kind).toNat default), y8] : List (List UInt8)).set 1 yC7_4)))]
def script_Line_T1001021 (s : TS) (y5 : (List (List UInt8))) (y8 : (List UInt8)) (yC7_5 : (List UInt8))  : List LV := n_ 4 ((.gs 0 ((([(y5.getD (s.f_Kind).toNat default), y8] : List (List UInt8)).set 1 yC7_5)).length) :: n_ 67 [])
def script_Line_H1001021 (s : TS) (y5 : (List (List UInt8))) (y8 : (List UInt8)) (yC7_5 : (List UInt8))  : Heap := [some (.gr 1 ((([(y5.getD (s.f_Kind).toNat default), y8] : List (List UInt8)).set 1 yC7_5)).length (rowF cStr default (([(y5.getD (s.f_Kind).toNat default), y8] : List (List UInt8)).set 1 yC7_5)))]
def script_Line_T1000007 (s : TS) (y5 : (List (List UInt8))) (y8 : (List UInt8))  : List LV := .any :: (.ptr 0 0 0) :: .any :: .any :: (.gs 1 (([(y5.getD (s.f_Kind).toNat default), y8] : List (List UInt8))).length) :: n_ 14 ((.int .u8 s.f_Kind) :: n_ 52 [])
def script_Line_H1000007 (s : TS) (y5 : (List (List UInt8))) (y8 : (List UInt8))  : Heap := [some (.var (c_TS s)), some (.gr 1 (([(y5.getD (s.f_Kind).toNat default), y8] : List (List UInt8))).length (rowF cStr default ([(y5.getD (s.f_Kind).toNat default), y8] : List (List UInt8))))]
def script_Line_c6 (s : TS) (y5 : (List (List UInt8))) (y8 : (List UInt8))   : Option ((List UInt8) × (Int)) :=
 (script_words s.f_Call).bind fun yC6_2 =>
 if ((([(y5.getD (s.f_Kind).toNat default), y8] : List (List UInt8))).length + (yC6_2).length) * 16 ≤ 140737488351232 then
 if ((([(y5.getD (s.f_Kind).toNat default), y8] : List (List UInt8)) ++ yC6_2)).length ≤ 140737488355328 ∧ (Lib.join (([(y5.getD (s.f_Kind).toNat default), y8] : List (List UInt8)) ++ yC6_2) ([32] : List UInt8)).length ≤ 140737488355328 then
 some ((Lib.join (([(y5.getD (s.f_Kind).toNat default), y8] : List (List UInt8)) ++ yC6_2) ([32] : List UInt8)), 0)
 else none
 else none
def script_Line_c5021 (s : TS) (y5 : (List (List UInt8))) (y8 : (List UInt8)) (yC7_8 : (List UInt8))   : Option ((List UInt8) × (Int)) :=
 if ((([(y5.getD (s.f_Kind).toNat default), y8] : List (List UInt8)) ++ ([yC7_8] : List (List UInt8)))).length ≤ 140737488355328 ∧ (Lib.join (([(y5.getD (s.f_Kind).toNat default), y8] : List (List UInt8)) ++ ([yC7_8] : List (List UInt8))) ([32] : List UInt8)).length ≤ 140737488355328 then
 some ((Lib.join (([(y5.getD (s.f_Kind).toNat default), y8] : List (List UInt8)) ++ ([yC7_8] : List (List UInt8))) ([32] : List UInt8)), 0)
 else none
def script_Line_c2021 (s : TS) (y5 : (List (List UInt8))) (y8 : (List UInt8)) (yC7_6 : (List UInt8))   : Option ((List UInt8) × (Int)) :=
 if ((([(y5.getD (s.f_Kind).toNat default), y8] : List (List UInt8)).set 1 yC7_6)).length ≤ 140737488355328 ∧ (Lib.join (([(y5.getD (s.f_Kind).toNat default), y8] : List (List UInt8)).set 1 yC7_6) ([32] : List UInt8)).length ≤ 140737488355328 then
 some ((Lib.join (([(y5.getD (s.f_Kind).toNat default), y8] : List (List UInt8)).set 1 yC7_6) ([32] : List UInt8)), 0)
 else none
def script_Line_c6021 (s : TS) (y5 : (List (List UInt8))) (y8 : (List UInt8)) (yC7_9 : (List UInt8)) (yC7_11 : (List UInt8))   : Option ((List UInt8) × (Int)) :=
 if ((([(y5.getD (s.f_Kind).toNat default), y8] : List (List UInt8)) ++ ([yC7_9, yC7_11] : List (List UInt8)))).length ≤ 140737488355328 ∧ (Lib.join (([(y5.getD (s.f_Kind).toNat default), y8] : List (List UInt8)) ++ ([yC7_9, yC7_11] : List (List UInt8))) ([32] : List UInt8)).length ≤ 140737488355328 then
 some ((Lib.join (([(y5.getD (s.f_Kind).toNat default), y8] : List (List UInt8)) ++ ([yC7_9, yC7_11] : List (List UInt8))) ([32] : List UInt8)), 0)
 else none
def script_Line_c3021 (s : TS) (y5 : (List (List UInt8))) (y8 : (List UInt8)) (yC7_8 : (List UInt8)) (yC7_10 : (List UInt8))   : Option ((List UInt8) × (Int)) :=
 if ((([(y5.getD (s.f_Kind).toNat default), y8] : List (List UInt8)) ++ ([yC7_8, ([99, 117, 116] : List UInt8), yC7_10] : List (List UInt8)))).length ≤ 140737488355328 ∧ (Lib.join (([(y5.getD (s.f_Kind).toNat default), y8] : List (List UInt8)) ++ ([yC7_8, ([99, 117, 116] : List UInt8), yC7_10] : List (List UInt8))) ([32] : List UInt8)).length ≤ 140737488355328 then
 some ((Lib.join (([(y5.getD (s.f_Kind).toNat default), y8] : List (List UInt8)) ++ ([yC7_8, ([99, 117, 116] : List UInt8), yC7_10] : List (List UInt8))) ([32] : List UInt8)), 0)
 else none
def script_Line_c4021 (s : TS) (y5 : (List (List UInt8))) (y8 : (List UInt8)) (yC7_8 : (List UInt8)) (yC7_10 : (List UInt8))   : Option ((List UInt8) × (Int)) :=
 if ((([(y5.getD (s.f_Kind).toNat default), y8] : List (List UInt8)) ++ ([yC7_8, ([119, 104, 111, 108, 101] : List UInt8), yC7_10] : List (List UInt8)))).length ≤ 140737488355328 ∧ (Lib.join (([(y5.getD (s.f_Kind).toNat default), y8] : List (List UInt8)) ++ ([yC7_8, ([119, 104, 111, 108, 101] : List UInt8), yC7_10] : List (List UInt8))) ([32] : List UInt8)).length ≤ 140737488355328 then
 some ((Lib.join (([(y5.getD (s.f_Kind).toNat default), y8] : List (List UInt8)) ++ ([yC7_8, ([119, 104, 111, 108, 101] : List UInt8), yC7_10] : List (List UInt8))) ([32] : List UInt8)), 0)
 else none
def script_Line_c21 (s : TS) (y5 : (List (List UInt8))) (y8 : (List UInt8)) (yC7_4 : (List UInt8))   : Option ((List UInt8) × (Int)) :=
 if ((([(y5.getD (s.f_Kind).toNat default), y8] : List (List UInt8)).set 1 yC7_4)).length ≤ 140737488355328 ∧ (Lib.join (([(y5.getD (s.f_Kind).toNat default), y8] : List (List UInt8)).set 1 yC7_4) ([32] : List UInt8)).length ≤ 140737488355328 then
 some ((Lib.join (([(y5.getD (s.f_Kind).toNat default), y8] : List (List UInt8)).set 1 yC7_4) ([32] : List UInt8)), 0)
 else none
def script_Line_c1021 (s : TS) (y5 : (List (List UInt8))) (y8 : (List UInt8)) (yC7_5 : (List UInt8))   : Option ((List UInt8) × (Int)) :=
 if ((([(y5.getD (s.f_Kind).toNat default), y8] : List (List UInt8)).set 1 yC7_5)).length ≤ 140737488355328 ∧ (Lib.join (([(y5.getD (s.f_Kind).toNat default), y8] : List (List UInt8)).set 1 yC7_5) ([32] : List UInt8)).length ≤ 140737488355328 then
 some ((Lib.join (([(y5.getD (s.f_Kind).toNat default), y8] : List (List UInt8)).set 1 yC7_5) ([32] : List UInt8)), 0)
 else none
def script_Line_c7 (s : TS) (y5 : (List (List UInt8))) (y8 : (List UInt8))   : Option ((List UInt8) × (Int)) :=
 if ((s.f_Kind == 2) : Bool) then
  (script_digits s.f_Wire).bind fun yC7_3 =>
  if 0 ≤ (1 : Int) ∧ (1 : Int) < (((([(y5.getD (s.f_Kind).toNat default), y8] : List (List UInt8))).length : Nat) : Int) then
  if ((([(y5.getD (s.f_Kind).toNat default), y8] : List (List UInt8)).set 1 yC7_3)).length ≤ 140737488355328 ∧ (Lib.join (([(y5.getD (s.f_Kind).toNat default), y8] : List (List UInt8)).set 1 yC7_3) ([32] : List UInt8)).length ≤ 140737488355328 then
  some ((Lib.join (([(y5.getD (s.f_Kind).toNat default), y8] : List (List UInt8)).set 1 yC7_3) ([32] : List UInt8)), 0)
  else none
  else none
 else
  if ((s.f_Kind == 3) : Bool) then
   (script_digits s.f_Wire).bind fun yC7_4 =>
   if 0 ≤ (1 : Int) ∧ (1 : Int) < (((([(y5.getD (s.f_Kind).toNat default), y8] : List (List UInt8))).length : Nat) : Int) then
   script_Line_c21 s y5 y8 yC7_4  
   else none
  else
   if ((s.f_Kind == 4) : Bool) then
    (script_digits s.f_Wire).bind fun yC7_5 =>
    if 0 ≤ (1 : Int) ∧ (1 : Int) < (((([(y5.getD (s.f_Kind).toNat default), y8] : List (List UInt8))).length : Nat) : Int) then
    script_Line_c1021 s y5 y8 yC7_5  
    else none
   else
    if ((s.f_Kind == 5) : Bool) then
     (script_digits s.f_Wire).bind fun yC7_6 =>
     if 0 ≤ (1 : Int) ∧ (1 : Int) < (((([(y5.getD (s.f_Kind).toNat default), y8] : List (List UInt8))).length : Nat) : Int) then
     script_Line_c2021 s y5 y8 yC7_6  
     else none
    else
     if ((s.f_Kind == 8) : Bool) then
      if (s.f_Cut : Bool) then
       (script_digits s.f_N).bind fun yC7_8 =>
       (script_hex_byte s.f_Bytes).bind fun yC7_10 =>
       if ((([(y5.getD (s.f_Kind).toNat default), y8] : List (List UInt8))).length + (([yC7_8, ([99, 117, 116] : List UInt8), yC7_10] : List (List UInt8))).length) * 16 ≤ 140737488351232 then
       script_Line_c3021 s y5 y8 yC7_8 yC7_10  
       else none
      else
       (script_digits s.f_N).bind fun yC7_8 =>
       (script_hex_byte s.f_Bytes).bind fun yC7_10 =>
       if ((([(y5.getD (s.f_Kind).toNat default), y8] : List (List UInt8))).length + (([yC7_8, ([119, 104, 111, 108, 101] : List UInt8), yC7_10] : List (List UInt8))).length) * 16 ≤ 140737488351232 then
       script_Line_c4021 s y5 y8 yC7_8 yC7_10  
       else none
     else
      if ((s.f_Kind == 9) : Bool) then
       (script_digits s.f_N).bind fun yC7_8 =>
       if ((([(y5.getD (s.f_Kind).toNat default), y8] : List (List UInt8))).length + (([yC7_8] : List (List UInt8))).length) * 16 ≤ 140737488351232 then
       script_Line_c5021 s y5 y8 yC7_8  
       else none
      else
       if ((s.f_Kind == 10) : Bool) then
        (script_digits s.f_To).bind fun yC7_9 =>
        (script_hex_byte s.f_Bytes).bind fun yC7_11 =>
        if ((([(y5.getD (s.f_Kind).toNat default), y8] : List (List UInt8))).length + (([yC7_9, yC7_11] : List (List UInt8))).length) * 16 ≤ 140737488351232 then
        script_Line_c6021 s y5 y8 yC7_9 yC7_11  
        else none
       else
        if (([(y5.getD (s.f_Kind).toNat default), y8] : List (List UInt8))).length ≤ 140737488355328 ∧ (Lib.join ([(y5.getD (s.f_Kind).toNat default), y8] : List (List UInt8)) ([32] : List UInt8)).length ≤ 140737488355328 then
        some ((Lib.join ([(y5.getD (s.f_Kind).toNat default), y8] : List (List UInt8)) ([32] : List UInt8)), 0)
        else none
def script_Line (s : TS) : Option ((List UInt8) × (Int)) :=
 (script_May s).bind fun y2 =>
 if ((!y2) : Bool) then
  some ([], 1)
 else
  (script_verbs).bind fun y5 =>
  if 0 ≤ s.f_Kind ∧ s.f_Kind < (((y5).length : Nat) : Int) then
  (script_digits s.f_Node).bind fun y8 =>
  if ((s.f_Kind == 1) : Bool) then
   script_Line_c6 s y5 y8  
  else
   script_Line_c7 s y5 y8  
  else none
theorem script_Line_c6_ok {w0 : World} {W : Nat → Prop} {μ0 : Emb} (hμ : ∀ c p, μ0 c = some p → c < 0) (s : TS) (y5 : (List (List UInt8))) (y8 : (List UInt8))   (r : (List UInt8) × (Int)) (h : script_Line_c6 s y5 y8   = some r) : kont Tryz.prog w0 W μ0 (FnPost Tryz.prog Tryz.f15 0 0 (script_Line_v r) []) (kAtR (bodyOf Tryz.f15) 6) none (script_Line_T1000006 s y5 y8 ) (script_Line_H1000006 s y5 y8 ) := by
 unfold script_Line_c6 at h
 obtain ⟨yC6_2, E1, h⟩ := bind_some h
 obtain ⟨G3, h⟩ := guard_some h
 obtain ⟨G4, h⟩ := guard_some h
 obtain rfl := si_ h
 exact rr_ [] 16 [.reg [(3, hC (script_words_v yC6_2)), (4, { app := 3, os := [(2, .gr 1 ((([(y5.getD (s.f_Kind).toNat default), y8] : List (List UInt8)) ++ yC6_2)).length (rowF cStr default (([(y5.getD (s.f_Kind).toNat default), y8] : List (List UInt8)) ++ yC6_2)))], v := some (.gs 2 ((([(y5.getD (s.f_Kind).toNat default), y8] : List (List UInt8)) ++ yC6_2)).length) })], .frz 2, .reg [(1, hC (.str (Lib.join (([(y5.getD (s.f_Kind).toNat default), y8] : List (List UInt8)) ++ yC6_2) ([32] : List UInt8))))]]
  (a_ (a_ (r2_ (m_ 23 25 rfl (c_ (script_words_tri s.f_Call yC6_2 E1) (a_ (a_ (a_ (Eq.refl 1) (a_ (a_ (lt_ 0 1 rfl) (a_ (lt_ 0 16 rfl) (a_ G3 (a_ (Eq.refl 1) (Eq.refl true))))) (a_ (Eq.refl 1) (Nat.le_refl (([(y5.getD (s.f_Kind).toNat default), y8] : List (List UInt8))).length)))) (a_ (le_gs_app 2 ([(y5.getD (s.f_Kind).toNat default), y8] : List (List UInt8)) yC6_2) (a_ (sub_app cStr default 1 ([(y5.getD (s.f_Kind).toNat default), y8] : List (List UInt8)) yC6_2) tr))) (r1_ tr))))) (a_ (a_ (fz_row (enc := cStr) (d := default) (fun _ => rfl) (([(y5.getD (s.f_Kind).toNat default), y8] : List (List UInt8)) ++ yC6_2)) (a_ (Nat.le_refl ((([(y5.getD (s.f_Kind).toNat default), y8] : List (List UInt8)) ++ yC6_2)).length) (a_ (Nat.le_refl ((([(y5.getD (s.f_Kind).toNat default), y8] : List (List UInt8)) ++ yC6_2)).length) tr))) (a_ (r1_ (a_ (a_ (a_ (jn31_join (([(y5.getD (s.f_Kind).toNat default), y8] : List (List UInt8)) ++ yC6_2) ([32] : List UInt8) G4) tr) tr) (r2_ tr))) tr))) tr)
theorem script_Line_c5021_ok {w0 : World} {W : Nat → Prop} {μ0 : Emb} (hμ : ∀ c p, μ0 c = some p → c < 0) (s : TS) (y5 : (List (List UInt8))) (y8 : (List UInt8)) (yC7_8 : (List UInt8))   (r : (List UInt8) × (Int)) (h : script_Line_c5021 s y5 y8 yC7_8   = some r) : kont Tryz.prog w0 W μ0 (FnPost Tryz.prog Tryz.f15 0 0 (script_Line_v r) []) (kAtR (bodyOf Tryz.f15) 21) none (script_Line_T1005021 s y5 y8 yC7_8 ) (script_Line_H1005021 s y5 y8 yC7_8 ) := by
 unfold script_Line_c5021 at h
 obtain ⟨G1, h⟩ := guard_some h
 obtain rfl := si_ h
 exact rr_ [] 12 [.frz 0, .reg [(1, hC (.str (Lib.join (([(y5.getD (s.f_Kind).toNat default), y8] : List (List UInt8)) ++ ([yC7_8] : List (List UInt8))) ([32] : List UInt8))))]]
  (a_ (a_ (a_ (fz_row (enc := cStr) (d := default) (fun _ => rfl) (([(y5.getD (s.f_Kind).toNat default), y8] : List (List UInt8)) ++ ([yC7_8] : List (List UInt8)))) (a_ (Nat.le_refl ((([(y5.getD (s.f_Kind).toNat default), y8] : List (List UInt8)) ++ ([yC7_8] : List (List UInt8)))).length) tr)) (a_ (r1_ (a_ (a_ (a_ (jn31_join (([(y5.getD (s.f_Kind).toNat default), y8] : List (List UInt8)) ++ ([yC7_8] : List (List UInt8))) ([32] : List UInt8) G1) tr) tr) (r2_ tr))) tr)) tr)
theorem script_Line_c2021_ok {w0 : World} {W : Nat → Prop} {μ0 : Emb} (hμ : ∀ c p, μ0 c = some p → c < 0) (s : TS) (y5 : (List (List UInt8))) (y8 : (List UInt8)) (yC7_6 : (List UInt8))   (r : (List UInt8) × (Int)) (h : script_Line_c2021 s y5 y8 yC7_6   = some r) : kont Tryz.prog w0 W μ0 (FnPost Tryz.prog Tryz.f15 0 0 (script_Line_v r) []) (kAtR (bodyOf Tryz.f15) 21) none (script_Line_T1002021 s y5 y8 yC7_6 ) (script_Line_H1002021 s y5 y8 yC7_6 ) := by
 unfold script_Line_c2021 at h
 obtain ⟨G1, h⟩ := guard_some h
 obtain rfl := si_ h
 exact rr_ [] 12 [.frz 0, .reg [(1, hC (.str (Lib.join (([(y5.getD (s.f_Kind).toNat default), y8] : List (List UInt8)).set 1 yC7_6) ([32] : List UInt8))))]]
  (a_ (a_ (a_ (fz_row (enc := cStr) (d := default) (fun _ => rfl) (([(y5.getD (s.f_Kind).toNat default), y8] : List (List UInt8)).set 1 yC7_6)) (a_ (Nat.le_refl ((([(y5.getD (s.f_Kind).toNat default), y8] : List (List UInt8)).set 1 yC7_6)).length) tr)) (a_ (r1_ (a_ (a_ (a_ (jn31_join (([(y5.getD (s.f_Kind).toNat default), y8] : List (List UInt8)).set 1 yC7_6) ([32] : List UInt8) G1) tr) tr) (r2_ tr))) tr)) tr)
theorem script_Line_c6021_ok {w0 : World} {W : Nat → Prop} {μ0 : Emb} (hμ : ∀ c p, μ0 c = some p → c < 0) (s : TS) (y5 : (List (List UInt8))) (y8 : (List UInt8)) (yC7_9 : (List UInt8)) (yC7_11 : (List UInt8))   (r : (List UInt8) × (Int)) (h : script_Line_c6021 s y5 y8 yC7_9 yC7_11   = some r) : kont Tryz.prog w0 W μ0 (FnPost Tryz.prog Tryz.f15 0 0 (script_Line_v r) []) (kAtR (bodyOf Tryz.f15) 21) none (script_Line_T1006021 s y5 y8 yC7_9 yC7_11 ) (script_Line_H1006021 s y5 y8 yC7_9 yC7_11 ) := by
 unfold script_Line_c6021 at h
 obtain ⟨G1, h⟩ := guard_some h
 obtain rfl := si_ h
 exact rr_ [] 12 [.frz 0, .reg [(1, hC (.str (Lib.join (([(y5.getD (s.f_Kind).toNat default), y8] : List (List UInt8)) ++ ([yC7_9, yC7_11] : List (List UInt8))) ([32] : List UInt8))))]]
  (a_ (a_ (a_ (fz_row (enc := cStr) (d := default) (fun _ => rfl) (([(y5.getD (s.f_Kind).toNat default), y8] : List (List UInt8)) ++ ([yC7_9, yC7_11] : List (List UInt8)))) (a_ (Nat.le_refl ((([(y5.getD (s.f_Kind).toNat default), y8] : List (List UInt8)) ++ ([yC7_9, yC7_11] : List (List UInt8)))).length) tr)) (a_ (r1_ (a_ (a_ (a_ (jn31_join (([(y5.getD (s.f_Kind).toNat default), y8] : List (List UInt8)) ++ ([yC7_9, yC7_11] : List (List UInt8))) ([32] : List UInt8) G1) tr) tr) (r2_ tr))) tr)) tr)
theorem script_Line_c3021_ok {w0 : World} {W : Nat → Prop} {μ0 : Emb} (hμ : ∀ c p, μ0 c = some p → c < 0) (s : TS) (y5 : (List (List UInt8))) (y8 : (List UInt8)) (yC7_8 : (List UInt8)) (yC7_10 : (List UInt8))   (r : (List UInt8) × (Int)) (h : script_Line_c3021 s y5 y8 yC7_8 yC7_10   = some r) : kont Tryz.prog w0 W μ0 (FnPost Tryz.prog Tryz.f15 0 0 (script_Line_v r) []) (kAtR (bodyOf Tryz.f15) 21) none (script_Line_T1003021 s y5 y8 yC7_8 yC7_10 ) (script_Line_H1003021 s y5 y8 yC7_8 yC7_10 ) := by
 unfold script_Line_c3021 at h
 obtain ⟨G1, h⟩ := guard_some h
 obtain rfl := si_ h
 exact rr_ [] 12 [.frz 0, .reg [(1, hC (.str (Lib.join (([(y5.getD (s.f_Kind).toNat default), y8] : List (List UInt8)) ++ ([yC7_8, ([99, 117, 116] : List UInt8), yC7_10] : List (List UInt8))) ([32] : List UInt8))))]]
  (a_ (a_ (a_ (fz_row (enc := cStr) (d := default) (fun _ => rfl) (([(y5.getD (s.f_Kind).toNat default), y8] : List (List UInt8)) ++ ([yC7_8, ([99, 117, 116] : List UInt8), yC7_10] : List (List UInt8)))) (a_ (Nat.le_refl ((([(y5.getD (s.f_Kind).toNat default), y8] : List (List UInt8)) ++ ([yC7_8, ([99, 117, 116] : List UInt8), yC7_10] : List (List UInt8)))).length) tr)) (a_ (r1_ (a_ (a_ (a_ (jn31_join (([(y5.getD (s.f_Kind).toNat default), y8] : List (List UInt8)) ++ ([yC7_8, ([99, 117, 116] : List UInt8), yC7_10] : List (List UInt8))) ([32] : List UInt8) G1) tr) tr) (r2_ tr))) tr)) tr)
theorem script_Line_c4021_ok {w0 : World} {W : Nat → Prop} {μ0 : Emb} (hμ : ∀ c p, μ0 c = some p → c < 0) (s : TS) (y5 : (List (List UInt8))) (y8 : (List UInt8)) (yC7_8 : (List UInt8)) (yC7_10 : (List UInt8))   (r : (List UInt8) × (Int)) (h : script_Line_c4021 s y5 y8 yC7_8 yC7_10   = some r) : kont Tryz.prog w0 W μ0 (FnPost Tryz.prog Tryz.f15 0 0 (script_Line_v r) []) (kAtR (bodyOf Tryz.f15) 21) none (script_Line_T1004021 s y5 y8 yC7_8 yC7_10 ) (script_Line_H1004021 s y5 y8 yC7_8 yC7_10 ) := by
 unfold script_Line_c4021 at h
 obtain ⟨G1, h⟩ := guard_some h
 obtain rfl := si_ h
 exact rr_ [] 12 [.frz 0, .reg [(1, hC (.str (Lib.join (([(y5.getD (s.f_Kind).toNat default), y8] : List (List UInt8)) ++ ([yC7_8, ([119, 104, 111, 108, 101] : List UInt8), yC7_10] : List (List UInt8))) ([32] : List UInt8))))]]
  (a_ (a_ (a_ (fz_row (enc := cStr) (d := default) (fun _ => rfl) (([(y5.getD (s.f_Kind).toNat default), y8] : List (List UInt8)) ++ ([yC7_8, ([119, 104, 111, 108, 101] : List UInt8), yC7_10] : List (List UInt8)))) (a_ (Nat.le_refl ((([(y5.getD (s.f_Kind).toNat default), y8] : List (List UInt8)) ++ ([yC7_8, ([119, 104, 111, 108, 101] : List UInt8), yC7_10] : List (List UInt8)))).length) tr)) (a_ (r1_ (a_ (a_ (a_ (jn31_join (([(y5.getD (s.f_Kind).toNat default), y8] : List (List UInt8)) ++ ([yC7_8, ([119, 104, 111, 108, 101] : List UInt8), yC7_10] : List (List UInt8))) ([32] : List UInt8) G1) tr) tr) (r2_ tr))) tr)) tr)
theorem script_Line_c21_ok {w0 : World} {W : Nat → Prop} {μ0 : Emb} (hμ : ∀ c p, μ0 c = some p → c < 0) (s : TS) (y5 : (List (List UInt8))) (y8 : (List UInt8)) (yC7_4 : (List UInt8))   (r : (List UInt8) × (Int)) (h : script_Line_c21 s y5 y8 yC7_4   = some r) : kont Tryz.prog w0 W μ0 (FnPost Tryz.prog Tryz.f15 0 0 (script_Line_v r) []) (kAtR (bodyOf Tryz.f15) 21) none (script_Line_T1000021 s y5 y8 yC7_4 ) (script_Line_H1000021 s y5 y8 yC7_4 ) := by
 unfold script_Line_c21 at h
 obtain ⟨G1, h⟩ := guard_some h
 obtain rfl := si_ h
 exact rr_ [] 12 [.frz 0, .reg [(1, hC (.str (Lib.join (([(y5.getD (s.f_Kind).toNat default), y8] : List (List UInt8)).set 1 yC7_4) ([32] : List UInt8))))]]
  (a_ (a_ (a_ (fz_row (enc := cStr) (d := default) (fun _ => rfl) (([(y5.getD (s.f_Kind).toNat default), y8] : List (List UInt8)).set 1 yC7_4)) (a_ (Nat.le_refl ((([(y5.getD (s.f_Kind).toNat default), y8] : List (List UInt8)).set 1 yC7_4)).length) tr)) (a_ (r1_ (a_ (a_ (a_ (jn31_join (([(y5.getD (s.f_Kind).toNat default), y8] : List (List UInt8)).set 1 yC7_4) ([32] : List UInt8) G1) tr) tr) (r2_ tr))) tr)) tr)
theorem script_Line_c1021_ok {w0 : World} {W : Nat → Prop} {μ0 : Emb} (hμ : ∀ c p, μ0 c = some p → c < 0) (s : TS) (y5 : (List (List UInt8))) (y8 : (List UInt8)) (yC7_5 : (List UInt8))   (r : (List UInt8) × (Int)) (h : script_Line_c1021 s y5 y8 yC7_5   = some r) : kont Tryz.prog w0 W μ0 (FnPost Tryz.prog Tryz.f15 0 0 (script_Line_v r) []) (kAtR (bodyOf Tryz.f15) 21) none (script_Line_T1001021 s y5 y8 yC7_5 ) (script_Line_H1001021 s y5 y8 yC7_5 ) := by
 unfold script_Line_c1021 at h
 obtain ⟨G1, h⟩ := guard_some h
 obtain rfl := si_ h
 exact rr_ [] 12 [.frz 0, .reg [(1, hC (.str (Lib.join (([(y5.getD (s.f_Kind).toNat default), y8] : List (List UInt8)).set 1 yC7_5) ([32] : List UInt8))))]]
  (a_ (a_ (a_ (fz_row (enc := cStr) (d := default) (fun _ => rfl) (([(y5.getD (s.f_Kind).toNat default), y8] : List (List UInt8)).set 1 yC7_5)) (a_ (Nat.le_refl ((([(y5.getD (s.f_Kind).toNat default), y8] : List (List UInt8)).set 1 yC7_5)).length) tr)) (a_ (r1_ (a_ (a_ (a_ (jn31_join (([(y5.getD (s.f_Kind).toNat default), y8] : List (List UInt8)).set 1 yC7_5) ([32] : List UInt8) G1) tr) tr) (r2_ tr))) tr)) tr)
theorem script_Line_c7_ok {w0 : World} {W : Nat → Prop} {μ0 : Emb} (hμ : ∀ c p, μ0 c = some p → c < 0) (s : TS) (y5 : (List (List UInt8))) (y8 : (List UInt8))   (r : (List UInt8) × (Int)) (h : script_Line_c7 s y5 y8   = some r) : kont Tryz.prog w0 W μ0 (FnPost Tryz.prog Tryz.f15 0 0 (script_Line_v r) []) (kAtR (bodyOf Tryz.f15) 7) none (script_Line_T1000007 s y5 y8 ) (script_Line_H1000007 s y5 y8 ) := by
 unfold script_Line_c7 at h
 rcases itb_some h with ⟨C1, h⟩ | ⟨C1, h⟩
 ·obtain ⟨yC7_3, E2, h⟩ := bind_some h
  obtain ⟨G4, h⟩ := guard_some h
  obtain ⟨G5, h⟩ := guard_some h
  obtain rfl := si_ h
  exact rr_ [] 22 [.reg [(1, hT)], .reg [(3, hC (script_digits_v yC7_3)), (5, { os := [(1, .gr 1 ((([(y5.getD (s.f_Kind).toNat default), y8] : List (List UInt8)).set 1 yC7_3)).length (rowF cStr default (([(y5.getD (s.f_Kind).toNat default), y8] : List (List UInt8)).set 1 yC7_3)))] })], .wk [(4, .gs 1 ((([(y5.getD (s.f_Kind).toNat default), y8] : List (List UInt8)).set 1 yC7_3)).length), (32, .gs 1 ((([(y5.getD (s.f_Kind).toNat default), y8] : List (List UInt8)).set 1 yC7_3)).length)] [], .frz 1, .reg [(1, hC (.str (Lib.join (([(y5.getD (s.f_Kind).toNat default), y8] : List (List UInt8)).set 1 yC7_3) ([32] : List UInt8))))]]
   (a_ (a_ (r1_ (f_ C1 tr)) (a_ (r2_ (l_ 2 25 rfl (c_ (script_digits_tri s.f_Wire yC7_3 E2) (a_ (a_ (a_ (Eq.refl 1) G4) tr) (a_ (a_ (a_ (Eq.refl 1) (a_ (le_ 1 1 rfl) (ltN G4))) (a_ (sub_set_gr cStr default 1 ([(y5.getD (s.f_Kind).toNat default), y8] : List (List UInt8)) 1 yC7_3 (ltN G4) (splL (rowF cStr default ([(y5.getD (s.f_Kind).toNat default), y8] : List (List UInt8)) 1) 0 [.str yC7_3]) (by kernel_rfl)) tr)) tr))))) (a_ (a_ (a_ (le_gs 1 (show (([(y5.getD (s.f_Kind).toNat default), y8] : List (List UInt8))).length = ((([(y5.getD (s.f_Kind).toNat default), y8] : List (List UInt8)).set 1 yC7_3)).length from by simp)) (a_ (le_gs 1 (show (([(y5.getD (s.f_Kind).toNat default), y8] : List (List UInt8))).length = ((([(y5.getD (s.f_Kind).toNat default), y8] : List (List UInt8)).set 1 yC7_3)).length from by simp)) tr)) tr) (a_ (a_ (fz_row (enc := cStr) (d := default) (fun _ => rfl) (([(y5.getD (s.f_Kind).toNat default), y8] : List (List UInt8)).set 1 yC7_3)) (a_ (Nat.le_refl ((([(y5.getD (s.f_Kind).toNat default), y8] : List (List UInt8)).set 1 yC7_3)).length) (a_ (Nat.le_refl ((([(y5.getD (s.f_Kind).toNat default), y8] : List (List UInt8)).set 1 yC7_3)).length) tr))) (a_ (r1_ (a_ (a_ (a_ (jn31_join (([(y5.getD (s.f_Kind).toNat default), y8] : List (List UInt8)).set 1 yC7_3) ([32] : List UInt8) G5) tr) tr) (r2_ tr))) tr))))) tr)
 ·rcases itb_some h with ⟨C2, h⟩ | ⟨C2, h⟩
  ·obtain ⟨yC7_4, E3, h⟩ := bind_some h
   obtain ⟨G5, h⟩ := guard_some h
   exact rt_ hμ [1] 23 [.reg [(1, hF)], .reg [(1, hT)], .reg [(3, hC (script_digits_v yC7_4)), (5, { os := [(1, .gr 1 ((([(y5.getD (s.f_Kind).toNat default), y8] : List (List UInt8)).set 1 yC7_4)).length (rowF cStr default (([(y5.getD (s.f_Kind).toNat default), y8] : List (List UInt8)).set 1 yC7_4)))] })], .wk [(4, .gs 1 ((([(y5.getD (s.f_Kind).toNat default), y8] : List (List UInt8)).set 1 yC7_4)).length)] []]
    (a_ (r1_ (f_ C1 tr)) (a_ (r1_ (f_ C2 tr)) (a_ (r2_ (l_ 2 25 rfl (c_ (script_digits_tri s.f_Wire yC7_4 E3) (a_ (a_ (a_ (Eq.refl 1) G5) tr) (a_ (a_ (a_ (Eq.refl 1) (a_ (le_ 1 1 rfl) (ltN G5))) (a_ (sub_set_gr cStr default 1 ([(y5.getD (s.f_Kind).toNat default), y8] : List (List UInt8)) 1 yC7_4 (ltN G5) (splL (rowF cStr default ([(y5.getD (s.f_Kind).toNat default), y8] : List (List UInt8)) 1) 0 [.str yC7_4]) (by kernel_rfl)) tr)) tr))))) (a_ (a_ (a_ (le_gs 1 (show (([(y5.getD (s.f_Kind).toNat default), y8] : List (List UInt8))).length = ((([(y5.getD (s.f_Kind).toNat default), y8] : List (List UInt8)).set 1 yC7_4)).length from by simp)) tr) tr) tr)))) (script_Line_c21_ok hμ s y5 y8 yC7_4   r h) ⟨fun _ _ => rfl, trivial⟩
  ·rcases itb_some h with ⟨C3, h⟩ | ⟨C3, h⟩
   ·obtain ⟨yC7_5, E4, h⟩ := bind_some h
    obtain ⟨G6, h⟩ := guard_some h
    exact rt_ hμ [1] 27 [.reg [(1, hF)], .reg [(1, hF)], .reg [(1, hT)], .reg [(3, hC (script_digits_v yC7_5)), (5, { os := [(1, .gr 1 ((([(y5.getD (s.f_Kind).toNat default), y8] : List (List UInt8)).set 1 yC7_5)).length (rowF cStr default (([(y5.getD (s.f_Kind).toNat default), y8] : List (List UInt8)).set 1 yC7_5)))] })], .wk [(4, .gs 1 ((([(y5.getD (s.f_Kind).toNat default), y8] : List (List UInt8)).set 1 yC7_5)).length)] []]
     (a_ (r1_ (f_ C1 tr)) (a_ (r1_ (f_ C2 tr)) (a_ (r1_ (f_ C3 tr)) (a_ (r2_ (l_ 2 25 rfl (c_ (script_digits_tri s.f_Wire yC7_5 E4) (a_ (a_ (a_ (Eq.refl 1) G6) tr) (a_ (a_ (a_ (Eq.refl 1) (a_ (le_ 1 1 rfl) (ltN G6))) (a_ (sub_set_gr cStr default 1 ([(y5.getD (s.f_Kind).toNat default), y8] : List (List UInt8)) 1 yC7_5 (ltN G6) (splL (rowF cStr default ([(y5.getD (s.f_Kind).toNat default), y8] : List (List UInt8)) 1) 0 [.str yC7_5]) (by kernel_rfl)) tr)) tr))))) (a_ (a_ (a_ (le_gs 1 (show (([(y5.getD (s.f_Kind).toNat default), y8] : List (List UInt8))).length = ((([(y5.getD (s.f_Kind).toNat default), y8] : List (List UInt8)).set 1 yC7_5)).length from by simp)) tr) tr) tr))))) (script_Line_c1021_ok hμ s y5 y8 yC7_5   r h) ⟨fun _ _ => rfl, trivial⟩
   ·rcases itb_some h with ⟨C4, h⟩ | ⟨C4, h⟩
    ·obtain ⟨yC7_6, E5, h⟩ := bind_some h
     obtain ⟨G7, h⟩ := guard_some h
     exact rt_ hμ [1] 28 [.reg [(1, hF)], .reg [(1, hF)], .reg [(1, hF)], .reg [(1, hT)], .reg [(3, hC (script_digits_v yC7_6)), (5, { os := [(1, .gr 1 ((([(y5.getD (s.f_Kind).toNat default), y8] : List (List UInt8)).set 1 yC7_6)).length (rowF cStr default (([(y5.getD (s.f_Kind).toNat default), y8] : List (List UInt8)).set 1 yC7_6)))] })], .wk [(4, .gs 1 ((([(y5.getD (s.f_Kind).toNat default), y8] : List (List UInt8)).set 1 yC7_6)).length)] []]
      (a_ (r1_ (f_ C1 tr)) (a_ (r1_ (f_ C2 tr)) (a_ (r1_ (f_ C3 tr)) (a_ (r1_ (f_ C4 tr)) (a_ (r2_ (l_ 2 25 rfl (c_ (script_digits_tri s.f_Wire yC7_6 E5) (a_ (a_ (a_ (Eq.refl 1) G7) tr) (a_ (a_ (a_ (Eq.refl 1) (a_ (le_ 1 1 rfl) (ltN G7))) (a_ (sub_set_gr cStr default 1 ([(y5.getD (s.f_Kind).toNat default), y8] : List (List UInt8)) 1 yC7_6 (ltN G7) (splL (rowF cStr default ([(y5.getD (s.f_Kind).toNat default), y8] : List (List UInt8)) 1) 0 [.str yC7_6]) (by kernel_rfl)) tr)) tr))))) (a_ (a_ (a_ (le_gs 1 (show (([(y5.getD (s.f_Kind).toNat default), y8] : List (List UInt8))).length = ((([(y5.getD (s.f_Kind).toNat default), y8] : List (List UInt8)).set 1 yC7_6)).length from by simp)) tr) tr) tr)))))) (script_Line_c2021_ok hμ s y5 y8 yC7_6   r h) ⟨fun _ _ => rfl, trivial⟩
    ·rcases itb_some h with ⟨C5, h⟩ | ⟨C5, h⟩
     ·rcases itb_some h with ⟨C6, h⟩ | ⟨C6, h⟩
      ·obtain ⟨yC7_8, E7, h⟩ := bind_some h
       obtain ⟨yC7_10, E9, h⟩ := bind_some h
       obtain ⟨G11, h⟩ := guard_some h
       exact rt_ hμ [3] 41 [.reg [(1, hF)], .reg [(1, hF)], .reg [(1, hF)], .reg [(1, hF)], .reg [(1, hT)], .reg [], .reg [(1, hT)], .reg [], .reg [(3, hC (script_digits_v yC7_8)), (7, hC (script_hex_byte_v yC7_10)), (8, { os := [(2, .gr 1 (([yC7_8, ([99, 117, 116] : List UInt8), yC7_10] : List (List UInt8))).length (rowF cStr default ([yC7_8, ([99, 117, 116] : List UInt8), yC7_10] : List (List UInt8))))], v := some (.gs 2 (([yC7_8, ([99, 117, 116] : List UInt8), yC7_10] : List (List UInt8))).length) }), (9, { app := 3, os := [(3, .gr 1 ((([(y5.getD (s.f_Kind).toNat default), y8] : List (List UInt8)) ++ ([yC7_8, ([99, 117, 116] : List UInt8), yC7_10] : List (List UInt8)))).length (rowF cStr default (([(y5.getD (s.f_Kind).toNat default), y8] : List (List UInt8)) ++ ([yC7_8, ([99, 117, 116] : List UInt8), yC7_10] : List (List UInt8)))))], v := some (.gs 3 ((([(y5.getD (s.f_Kind).toNat default), y8] : List (List UInt8)) ++ ([yC7_8, ([99, 117, 116] : List UInt8), yC7_10] : List (List UInt8)))).length) })]]
        (a_ (r1_ (f_ C1 tr)) (a_ (r1_ (f_ C2 tr)) (a_ (r1_ (f_ C3 tr)) (a_ (r1_ (f_ C4 tr)) (a_ (r1_ (f_ C5 tr)) (a_ (r1_ tr) (a_ (r1_ (a_ (a_ (a_ tr (lt_ 4 25 rfl)) (a_ (leB C6) tr)) tr)) (a_ (r1_ tr) (a_ (r2_ (l_ 3 25 rfl (c_ (script_digits_tri s.f_N yC7_8 E7) (r2_ (l_ 24 25 rfl (c_ (script_hex_byte_tri s.f_Bytes yC7_10 E9) (a_ (a_ (a_ (Eq.refl true) (a_ (Eq.refl 1) (a_ (lt_ 0 1 rfl) (le_ 3 16777216 rfl)))) (a_ (le_sl_gs 2 3 (some 3) rfl) (a_ (sub_lit cStr default 1 (fun _ => rfl) ([yC7_8, ([99, 117, 116] : List UInt8), yC7_10] : List (List UInt8))) tr))) (a_ (a_ (a_ (a_ (Eq.refl 1) (Nat.le_refl (([yC7_8, ([99, 117, 116] : List UInt8), yC7_10] : List (List UInt8))).length)) (a_ (a_ (lt_ 0 1 rfl) (a_ (lt_ 0 16 rfl) (a_ G11 (a_ (Eq.refl 1) (Eq.refl true))))) (a_ (Eq.refl 1) (Nat.le_refl (([(y5.getD (s.f_Kind).toNat default), y8] : List (List UInt8))).length)))) (a_ (le_gs_app 3 ([(y5.getD (s.f_Kind).toNat default), y8] : List (List UInt8)) ([yC7_8, ([99, 117, 116] : List UInt8), yC7_10] : List (List UInt8))) (a_ (sub_app cStr default 1 ([(y5.getD (s.f_Kind).toNat default), y8] : List (List UInt8)) ([yC7_8, ([99, 117, 116] : List UInt8), yC7_10] : List (List UInt8))) tr))) (r1_ tr))))))))) tr))))))))) (script_Line_c3021_ok hμ s y5 y8 yC7_8 yC7_10   r h) ⟨fun _ _ => rfl, trivial⟩
      ·obtain ⟨yC7_8, E7, h⟩ := bind_some h
       obtain ⟨yC7_10, E9, h⟩ := bind_some h
       obtain ⟨G11, h⟩ := guard_some h
       exact rt_ hμ [3] 40 [.reg [(1, hF)], .reg [(1, hF)], .reg [(1, hF)], .reg [(1, hF)], .reg [(1, hT)], .reg [], .reg [(1, hF)], .reg [(3, hC (script_digits_v yC7_8)), (7, hC (script_hex_byte_v yC7_10)), (8, { os := [(2, .gr 1 (([yC7_8, ([119, 104, 111, 108, 101] : List UInt8), yC7_10] : List (List UInt8))).length (rowF cStr default ([yC7_8, ([119, 104, 111, 108, 101] : List UInt8), yC7_10] : List (List UInt8))))], v := some (.gs 2 (([yC7_8, ([119, 104, 111, 108, 101] : List UInt8), yC7_10] : List (List UInt8))).length) }), (9, { app := 3, os := [(3, .gr 1 ((([(y5.getD (s.f_Kind).toNat default), y8] : List (List UInt8)) ++ ([yC7_8, ([119, 104, 111, 108, 101] : List UInt8), yC7_10] : List (List UInt8)))).length (rowF cStr default (([(y5.getD (s.f_Kind).toNat default), y8] : List (List UInt8)) ++ ([yC7_8, ([119, 104, 111, 108, 101] : List UInt8), yC7_10] : List (List UInt8)))))], v := some (.gs 3 ((([(y5.getD (s.f_Kind).toNat default), y8] : List (List UInt8)) ++ ([yC7_8, ([119, 104, 111, 108, 101] : List UInt8), yC7_10] : List (List UInt8)))).length) })]]
        (a_ (r1_ (f_ C1 tr)) (a_ (r1_ (f_ C2 tr)) (a_ (r1_ (f_ C3 tr)) (a_ (r1_ (f_ C4 tr)) (a_ (r1_ (f_ C5 tr)) (a_ (r1_ tr) (a_ (r1_ (a_ (a_ (a_ tr (lt_ 4 25 rfl)) (a_ (leB C6) tr)) tr)) (a_ (r2_ (l_ 3 25 rfl (c_ (script_digits_tri s.f_N yC7_8 E7) (r2_ (l_ 24 25 rfl (c_ (script_hex_byte_tri s.f_Bytes yC7_10 E9) (a_ (a_ (a_ (Eq.refl true) (a_ (Eq.refl 1) (a_ (lt_ 0 1 rfl) (le_ 3 16777216 rfl)))) (a_ (le_sl_gs 2 3 (some 3) rfl) (a_ (sub_lit cStr default 1 (fun _ => rfl) ([yC7_8, ([119, 104, 111, 108, 101] : List UInt8), yC7_10] : List (List UInt8))) tr))) (a_ (a_ (a_ (a_ (Eq.refl 1) (Nat.le_refl (([yC7_8, ([119, 104, 111, 108, 101] : List UInt8), yC7_10] : List (List UInt8))).length)) (a_ (a_ (lt_ 0 1 rfl) (a_ (lt_ 0 16 rfl) (a_ G11 (a_ (Eq.refl 1) (Eq.refl true))))) (a_ (Eq.refl 1) (Nat.le_refl (([(y5.getD (s.f_Kind).toNat default), y8] : List (List UInt8))).length)))) (a_ (le_gs_app 3 ([(y5.getD (s.f_Kind).toNat default), y8] : List (List UInt8)) ([yC7_8, ([119, 104, 111, 108, 101] : List UInt8), yC7_10] : List (List UInt8))) (a_ (sub_app cStr default 1 ([(y5.getD (s.f_Kind).toNat default), y8] : List (List UInt8)) ([yC7_8, ([119, 104, 111, 108, 101] : List UInt8), yC7_10] : List (List UInt8))) tr))) (r1_ tr))))))))) tr)))))))) (script_Line_c4021_ok hμ s y5 y8 yC7_8 yC7_10   r h) ⟨fun _ _ => rfl, trivial⟩
     ·rcases itb_some h with ⟨C6, h⟩ | ⟨C6, h⟩
      ·obtain ⟨yC7_8, E7, h⟩ := bind_some h
       obtain ⟨G9, h⟩ := guard_some h
       exact rt_ hμ [3] 35 [.reg [(1, hF)], .reg [(1, hF)], .reg [(1, hF)], .reg [(1, hF)], .reg [(1, hF)], .reg [(1, hT)], .reg [(3, hC (script_digits_v yC7_8)), (4, { os := [(2, .gr 1 (([yC7_8] : List (List UInt8))).length (rowF cStr default ([yC7_8] : List (List UInt8))))], v := some (.gs 2 (([yC7_8] : List (List UInt8))).length) }), (5, { app := 3, os := [(3, .gr 1 ((([(y5.getD (s.f_Kind).toNat default), y8] : List (List UInt8)) ++ ([yC7_8] : List (List UInt8)))).length (rowF cStr default (([(y5.getD (s.f_Kind).toNat default), y8] : List (List UInt8)) ++ ([yC7_8] : List (List UInt8)))))], v := some (.gs 3 ((([(y5.getD (s.f_Kind).toNat default), y8] : List (List UInt8)) ++ ([yC7_8] : List (List UInt8)))).length) })]]
        (a_ (r1_ (f_ C1 tr)) (a_ (r1_ (f_ C2 tr)) (a_ (r1_ (f_ C3 tr)) (a_ (r1_ (f_ C4 tr)) (a_ (r1_ (f_ C5 tr)) (a_ (r1_ (f_ C6 tr)) (a_ (r2_ (l_ 3 25 rfl (c_ (script_digits_tri s.f_N yC7_8 E7) (a_ (a_ (a_ (Eq.refl true) (a_ (Eq.refl 1) (a_ (lt_ 0 1 rfl) (le_ 1 16777216 rfl)))) (a_ (le_sl_gs 2 1 (some 1) rfl) (a_ (sub_lit cStr default 1 (fun _ => rfl) ([yC7_8] : List (List UInt8))) tr))) (a_ (a_ (a_ (a_ (Eq.refl 1) (Nat.le_refl (([yC7_8] : List (List UInt8))).length)) (a_ (a_ (lt_ 0 1 rfl) (a_ (lt_ 0 16 rfl) (a_ G9 (a_ (Eq.refl 1) (Eq.refl true))))) (a_ (Eq.refl 1) (Nat.le_refl (([(y5.getD (s.f_Kind).toNat default), y8] : List (List UInt8))).length)))) (a_ (le_gs_app 3 ([(y5.getD (s.f_Kind).toNat default), y8] : List (List UInt8)) ([yC7_8] : List (List UInt8))) (a_ (sub_app cStr default 1 ([(y5.getD (s.f_Kind).toNat default), y8] : List (List UInt8)) ([yC7_8] : List (List UInt8))) tr))) (r1_ tr)))))) tr))))))) (script_Line_c5021_ok hμ s y5 y8 yC7_8   r h) ⟨fun _ _ => rfl, trivial⟩
      ·rcases itb_some h with ⟨C7, h⟩ | ⟨C7, h⟩
       ·obtain ⟨yC7_9, E8, h⟩ := bind_some h
        obtain ⟨yC7_11, E10, h⟩ := bind_some h
        obtain ⟨G12, h⟩ := guard_some h
        exact rt_ hμ [3] 39 [.reg [(1, hF)], .reg [(1, hF)], .reg [(1, hF)], .reg [(1, hF)], .reg [(1, hF)], .reg [(1, hF)], .reg [(1, hT)], .reg [(3, hC (script_digits_v yC7_9)), (6, hC (script_hex_byte_v yC7_11)), (7, { os := [(2, .gr 1 (([yC7_9, yC7_11] : List (List UInt8))).length (rowF cStr default ([yC7_9, yC7_11] : List (List UInt8))))], v := some (.gs 2 (([yC7_9, yC7_11] : List (List UInt8))).length) }), (8, { app := 3, os := [(3, .gr 1 ((([(y5.getD (s.f_Kind).toNat default), y8] : List (List UInt8)) ++ ([yC7_9, yC7_11] : List (List UInt8)))).length (rowF cStr default (([(y5.getD (s.f_Kind).toNat default), y8] : List (List UInt8)) ++ ([yC7_9, yC7_11] : List (List UInt8)))))], v := some (.gs 3 ((([(y5.getD (s.f_Kind).toNat default), y8] : List (List UInt8)) ++ ([yC7_9, yC7_11] : List (List UInt8)))).length) })]]
         (a_ (r1_ (f_ C1 tr)) (a_ (r1_ (f_ C2 tr)) (a_ (r1_ (f_ C3 tr)) (a_ (r1_ (f_ C4 tr)) (a_ (r1_ (f_ C5 tr)) (a_ (r1_ (f_ C6 tr)) (a_ (r1_ (f_ C7 tr)) (a_ (r2_ (l_ 23 25 rfl (c_ (script_digits_tri s.f_To yC7_9 E8) (r1_ (l_ 24 25 rfl (c_ (script_hex_byte_tri s.f_Bytes yC7_11 E10) (a_ (a_ (a_ (Eq.refl true) (a_ (Eq.refl 1) (a_ (lt_ 0 1 rfl) (le_ 2 16777216 rfl)))) (a_ (le_sl_gs 2 2 (some 2) rfl) (a_ (sub_lit cStr default 1 (fun _ => rfl) ([yC7_9, yC7_11] : List (List UInt8))) tr))) (a_ (a_ (a_ (a_ (Eq.refl 1) (Nat.le_refl (([yC7_9, yC7_11] : List (List UInt8))).length)) (a_ (a_ (lt_ 0 1 rfl) (a_ (lt_ 0 16 rfl) (a_ G12 (a_ (Eq.refl 1) (Eq.refl true))))) (a_ (Eq.refl 1) (Nat.le_refl (([(y5.getD (s.f_Kind).toNat default), y8] : List (List UInt8))).length)))) (a_ (le_gs_app 3 ([(y5.getD (s.f_Kind).toNat default), y8] : List (List UInt8)) ([yC7_9, yC7_11] : List (List UInt8))) (a_ (sub_app cStr default 1 ([(y5.getD (s.f_Kind).toNat default), y8] : List (List UInt8)) ([yC7_9, yC7_11] : List (List UInt8))) tr))) (r1_ tr))))))))) tr)))))))) (script_Line_c6021_ok hμ s y5 y8 yC7_9 yC7_11   r h) ⟨fun _ _ => rfl, trivial⟩
       ·obtain ⟨G8, h⟩ := guard_some h
        obtain rfl := si_ h
        exact rr_ [] 41 [.reg [(1, hF)], .reg [(1, hF)], .reg [(1, hF)], .reg [(1, hF)], .reg [(1, hF)], .reg [(1, hF)], .reg [(1, hF)], .frz 1, .reg [(1, hC (.str (Lib.join ([(y5.getD (s.f_Kind).toNat default), y8] : List (List UInt8)) ([32] : List UInt8))))]]
         (a_ (a_ (r1_ (f_ C1 tr)) (a_ (r1_ (f_ C2 tr)) (a_ (r1_ (f_ C3 tr)) (a_ (r1_ (f_ C4 tr)) (a_ (r1_ (f_ C5 tr)) (a_ (r1_ (f_ C6 tr)) (a_ (r1_ (f_ C7 tr)) (a_ (a_ (fz_row (enc := cStr) (d := default) (fun _ => rfl) ([(y5.getD (s.f_Kind).toNat default), y8] : List (List UInt8))) (a_ (Nat.le_refl (([(y5.getD (s.f_Kind).toNat default), y8] : List (List UInt8))).length) tr)) (a_ (r1_ (a_ (a_ (a_ (jn31_join ([(y5.getD (s.f_Kind).toNat default), y8] : List (List UInt8)) ([32] : List UInt8) G8) tr) tr) (r2_ tr))) tr))))))))) tr)
theorem script_Line_ok (s : TS) (r : (List UInt8) × (Int)) (h : script_Line s = some r) : ∀ σ, Inj 0 σ → FnTri Tryz.prog 15 (renL σ [v_TS s]) (preOf σ 0 []) ((script_Line_v r).ren σ) (upOf σ []) := by
 refine fo_ Tryz.func15 trivial trivial ?_
 intro w0 W μ0 hμ
 unfold script_Line at h
 obtain ⟨y2, e1, h⟩ := bind_some h
 rcases itb_some h with ⟨c3, h⟩ | ⟨c3, h⟩
 ·obtain rfl := si_ h
  exact rr_ [] 20 [.reg [], .reg [(1, hC (script_May_v y2)), (2, hT)], .reg []]
   (a_ (a_ (r1_ (r2_ tr)) (a_ (m_ 25 25 rfl (c_ (script_May_tri s y2 e1) (f_ c3 tr))) (a_ (r2_ tr) tr))) tr)
 ·obtain ⟨y5, e4, h⟩ := bind_some h
  obtain ⟨g6, h⟩ := guard_some h
  obtain ⟨y8, e7, h⟩ := bind_some h
  rcases itb_some h with ⟨c9, h⟩ | ⟨c9, h⟩
  ·exact rt_ hμ [0, 1] 30 [.reg [], .reg [(1, hC (script_May_v y2)), (2, hF)], .reg [(0, hC (script_verbs_v y5)), (7, hC (script_digits_v y8)), (8, { os := [(1, .gr 1 (([(y5.getD (s.f_Kind).toNat default), y8] : List (List UInt8))).length (rowF cStr default ([(y5.getD (s.f_Kind).toNat default), y8] : List (List UInt8))))], v := some (.gs 1 (([(y5.getD (s.f_Kind).toNat default), y8] : List (List UInt8))).length) })], .reg [], .reg [(1, hT)]]
    (a_ (r1_ (r2_ tr)) (a_ (m_ 25 25 rfl (c_ (script_May_tri s y2 e1) (f_ c3 tr))) (a_ (c_ (script_verbs_tri  y5 e4) (r1_ (l_ 0 25 rfl (a_ (a_ (a_ (Eq.refl 1) g6) tr) (a_ (a_ (lt_ 0 1 rfl) tr) (r1_ (l_ 1 25 rfl (c_ (script_digits_tri s.f_Node y8 e7) (a_ (a_ (a_ (Eq.refl true) (a_ (Eq.refl 1) (a_ (lt_ 0 1 rfl) (le_ 2 16777216 rfl)))) (a_ (le_sl_gs 1 2 (some 2) rfl) (a_ (sub_lit cStr default 1 (fun _ => rfl) ([(y5.getD (s.f_Kind).toNat default), y8] : List (List UInt8))) tr))) (r1_ tr)))))))))) (a_ (r1_ (l_ 0 25 rfl tr)) (a_ (r1_ (f_ c9 tr)) tr))))) (script_Line_c6_ok hμ s y5 y8   r h) ⟨rfl, fun _ _ => rfl, trivial⟩
  ·exact rt_ hμ [0, 1] 32 [.reg [], .reg [(1, hC (script_May_v y2)), (2, hF)], .reg [(0, hC (script_verbs_v y5)), (7, hC (script_digits_v y8)), (8, { os := [(1, .gr 1 (([(y5.getD (s.f_Kind).toNat default), y8] : List (List UInt8))).length (rowF cStr default ([(y5.getD (s.f_Kind).toNat default), y8] : List (List UInt8))))], v := some (.gs 1 (([(y5.getD (s.f_Kind).toNat default), y8] : List (List UInt8))).length) })], .reg [], .reg [(1, hF)]]
    (a_ (r1_ (r2_ tr)) (a_ (m_ 25 25 rfl (c_ (script_May_tri s y2 e1) (f_ c3 tr))) (a_ (c_ (script_verbs_tri  y5 e4) (r1_ (l_ 0 25 rfl (a_ (a_ (a_ (Eq.refl 1) g6) tr) (a_ (a_ (lt_ 0 1 rfl) tr) (r1_ (l_ 1 25 rfl (c_ (script_digits_tri s.f_Node y8 e7) (a_ (a_ (a_ (Eq.refl true) (a_ (Eq.refl 1) (a_ (lt_ 0 1 rfl) (le_ 2 16777216 rfl)))) (a_ (le_sl_gs 1 2 (some 2) rfl) (a_ (sub_lit cStr default 1 (fun _ => rfl) ([(y5.getD (s.f_Kind).toNat default), y8] : List (List UInt8))) tr))) (r1_ tr)))))))))) (a_ (r1_ (l_ 0 25 rfl tr)) (a_ (r1_ (f_ c9 tr)) tr))))) (script_Line_c7_ok hμ s y5 y8   r h) ⟨rfl, fun _ _ => rfl, trivial⟩
theorem script_Line_tri (s : TS) (r : (List UInt8) × (Int)) (h : script_Line s = some r) : FnTri Tryz.prog 15 [v_TS s] [] (script_Line_v r) [] := FnTri.none (script_Line_ok s r h) rfl rfl
/-- parrel/parrellaw27.alive -/
def l27_alive_v (r : (Bool)) : LV := .bool r
def l27_alive  : Option ((Bool)) :=
 (script_Parse ([100, 111, 32, 48, 32, 49, 32, 51, 32, 119, 114, 105, 116, 101, 32, 48, 46, 49, 46, 49, 32, 54, 49, 32, 55, 56] : List UInt8)).bind fun y2 =>
 (script_Line y2.1).bind fun y4 =>
 if ((y2.2 == 0) : Bool) then
  if ((y2.1.f_Call.f_Value == ([120] : List UInt8)) : Bool) then
   if ((decide (y2.1.f_Call.f_Key = (A8.mk 97 0 0 0 0 0 0 0))) : Bool) then
    if ((y4.1 == ([100, 111, 32, 48, 32, 49, 32, 51, 32, 119, 114, 105, 116, 101, 32, 48, 46, 49, 46, 49, 32, 54, 49, 32, 55, 56] : List UInt8)) : Bool) then
     some (y4.2 == 0)
    else
     some false
   else
    some false
  else
   some false
 else
  some false
theorem l27_alive_ok  (r : (Bool)) (h : l27_alive  = some r) : ∀ σ, Inj 0 σ → FnTri Tryz.prog 5 (renL σ []) (preOf σ 0 []) ((l27_alive_v r).ren σ) (upOf σ []) := by
 refine fo_ Tryz.func5 trivial trivial ?_
 intro w0 W μ0 hμ
 unfold l27_alive at h
 obtain ⟨y2, e1, h⟩ := bind_some h
 obtain ⟨y4, e3, h⟩ := bind_some h
 rcases itb_some h with ⟨c5, h⟩ | ⟨c5, h⟩
 ·rcases itb_some h with ⟨c6, h⟩ | ⟨c6, h⟩
  ·rcases itb_some h with ⟨c7, h⟩ | ⟨c7, h⟩
   ·rcases itb_some h with ⟨c8, h⟩ | ⟨c8, h⟩
    ·obtain rfl := si_ h
     exact rr_ [] 21 [.reg [], .reg [(0, hC (script_Parse_v y2))], .reg [(1, hC (script_Line_v y4))], .reg [(2, hT), (8, hT), (13, { v := some (.bool (decide (y2.1.f_Call.f_Key = (A8.mk 97 0 0 0 0 0 0 0)))) }), (15, hT), (19, hT)]]
      (a_ (a_ (r1_ tr) (a_ (a_ (a_ (a_ (script_Parse_tri ([100, 111, 32, 48, 32, 49, 32, 51, 32, 119, 114, 105, 116, 101, 32, 48, 46, 49, 46, 49, 32, 54, 49, 32, 55, 56] : List UInt8) y2 e1) tr) tr) (r4_ (a_ (a_ (a_ (Eq.refl 25) (a_ (le_ 25 25 rfl) (Eq.refl 0))) tr) (r1_ tr)))) (a_ (m_ 25 25 rfl (c_ (script_Line_tri y2.1 y4 e3) (r1_ (r4_ tr)))) (a_ (r2_ (f_ c5 (r2_ (l_ 19 25 rfl (r2_ (f_ c6 (r2_ (m_ 19 25 rfl (a_ (a_ (Eq.refl true) tr) (a_ (a_ tr (a_ (leB ((k_arr8 .u8) y2.1.f_Call.f_Key (A8.mk 97 0 0 0 0 0 0 0))) tr)) (r1_ (f_ c7 (r1_ (r2_ (f_ c8 (r4_ tr)))))))))))))))) tr)))) tr)
    ·obtain rfl := si_ h
     exact rr_ [] 21 [.reg [], .reg [(0, hC (script_Parse_v y2))], .reg [(1, hC (script_Line_v y4))], .reg [(2, hT), (8, hT), (13, { v := some (.bool (decide (y2.1.f_Call.f_Key = (A8.mk 97 0 0 0 0 0 0 0)))) }), (15, hT), (19, hF)]]
      (a_ (a_ (r1_ tr) (a_ (a_ (a_ (a_ (script_Parse_tri ([100, 111, 32, 48, 32, 49, 32, 51, 32, 119, 114, 105, 116, 101, 32, 48, 46, 49, 46, 49, 32, 54, 49, 32, 55, 56] : List UInt8) y2 e1) tr) tr) (r4_ (a_ (a_ (a_ (Eq.refl 25) (a_ (le_ 25 25 rfl) (Eq.refl 0))) tr) (r1_ tr)))) (a_ (m_ 25 25 rfl (c_ (script_Line_tri y2.1 y4 e3) (r1_ (r4_ tr)))) (a_ (r2_ (f_ c5 (r2_ (l_ 19 25 rfl (r2_ (f_ c6 (r2_ (m_ 19 25 rfl (a_ (a_ (Eq.refl true) tr) (a_ (a_ tr (a_ (leB ((k_arr8 .u8) y2.1.f_Call.f_Key (A8.mk 97 0 0 0 0 0 0 0))) tr)) (r1_ (f_ c7 (r1_ (r2_ (f_ c8 (t2_ (r2_ tr))))))))))))))))) tr)))) tr)
   ·obtain rfl := si_ h
    exact rr_ [] 21 [.reg [], .reg [(0, hC (script_Parse_v y2))], .reg [(1, hC (script_Line_v y4))], .reg [(2, hT), (8, hT), (13, { v := some (.bool (decide (y2.1.f_Call.f_Key = (A8.mk 97 0 0 0 0 0 0 0)))) }), (15, hF)]]
     (a_ (a_ (r1_ tr) (a_ (a_ (a_ (a_ (script_Parse_tri ([100, 111, 32, 48, 32, 49, 32, 51, 32, 119, 114, 105, 116, 101, 32, 48, 46, 49, 46, 49, 32, 54, 49, 32, 55, 56] : List UInt8) y2 e1) tr) tr) (r4_ (a_ (a_ (a_ (Eq.refl 25) (a_ (le_ 25 25 rfl) (Eq.refl 0))) tr) (r1_ tr)))) (a_ (m_ 25 25 rfl (c_ (script_Line_tri y2.1 y4 e3) (r1_ (r4_ tr)))) (a_ (r2_ (f_ c5 (r2_ (l_ 19 25 rfl (r2_ (f_ c6 (r2_ (m_ 19 25 rfl (a_ (a_ (Eq.refl true) tr) (a_ (a_ tr (a_ (leB ((k_arr8 .u8) y2.1.f_Call.f_Key (A8.mk 97 0 0 0 0 0 0 0))) tr)) (r1_ (f_ c7 (t2_ (r2_ (t2_ (r2_ tr)))))))))))))))) tr)))) tr)
  ·obtain rfl := si_ h
   exact rr_ [] 21 [.reg [], .reg [(0, hC (script_Parse_v y2))], .reg [(1, hC (script_Line_v y4))], .reg [(2, hT), (8, hF)]]
    (a_ (a_ (r1_ tr) (a_ (a_ (a_ (a_ (script_Parse_tri ([100, 111, 32, 48, 32, 49, 32, 51, 32, 119, 114, 105, 116, 101, 32, 48, 46, 49, 46, 49, 32, 54, 49, 32, 55, 56] : List UInt8) y2 e1) tr) tr) (r4_ (a_ (a_ (a_ (Eq.refl 25) (a_ (le_ 25 25 rfl) (Eq.refl 0))) tr) (r1_ tr)))) (a_ (m_ 25 25 rfl (c_ (script_Line_tri y2.1 y4 e3) (r1_ (r4_ tr)))) (a_ (r2_ (f_ c5 (r2_ (l_ 19 25 rfl (r2_ (f_ c6 (a_ tr (t4_ (r2_ (t2_ (r2_ (t2_ (r2_ tr))))))))))))) tr)))) tr)
 ·obtain rfl := si_ h
  exact rr_ [] 21 [.reg [], .reg [(0, hC (script_Parse_v y2))], .reg [(1, hC (script_Line_v y4))], .reg [(2, hF)]]
   (a_ (a_ (r1_ tr) (a_ (a_ (a_ (a_ (script_Parse_tri ([100, 111, 32, 48, 32, 49, 32, 51, 32, 119, 114, 105, 116, 101, 32, 48, 46, 49, 46, 49, 32, 54, 49, 32, 55, 56] : List UInt8) y2 e1) tr) tr) (r4_ (a_ (a_ (a_ (Eq.refl 25) (a_ (le_ 25 25 rfl) (Eq.refl 0))) tr) (r1_ tr)))) (a_ (m_ 25 25 rfl (c_ (script_Line_tri y2.1 y4 e3) (r1_ (r4_ tr)))) (a_ (r2_ (f_ c5 (t4_ (r2_ (a_ tr (t4_ (r2_ (t2_ (r2_ (t2_ (r2_ tr))))))))))) tr)))) tr)
theorem l27_alive_tri  (r : (Bool)) (h : l27_alive  = some r) : FnTri Tryz.prog 5 [] [] (l27_alive_v r) [] := FnTri.none (l27_alive_ok  r h) rfl rfl
/-- internal/stringslite.Index -/
def sl_Index_3_v (r : (Int)) : LV := .int .i64 r
def sl_Index_3 (s : List UInt8) : Option ((Int)) :=
 if ((([10] : List UInt8) == s) : Bool) then
  some 0
 else
  (sl_IndexByte s 10).bind fun y3 =>
  some y3
theorem sl_Index_3_ok (s : List UInt8) (r : (Int)) (h : sl_Index_3 s = some r) : ∀ σ, Inj 0 σ → FnTri Tryz.prog 82 (renL σ [.str s, .str ([10] : List UInt8)]) (preOf σ 0 []) ((sl_Index_3_v r).ren σ) (upOf σ []) := by
 refine fo_ Tryz.func82 trivial trivial ?_
 intro w0 W μ0 hμ
 unfold sl_Index_3 at h
 rcases itb_some h with ⟨c1, h⟩ | ⟨c1, h⟩
 ·obtain rfl := si_ h
  exact rr_ [] 24 [.reg [], .reg [], .reg [(7, hT)], .reg []]
   (a_ (a_ (r1_ tr) (a_ (r1_ (r2_ tr)) (a_ (r1_ (r2_ (r4_ (f_ c1 tr)))) (a_ (r1_ tr) tr)))) tr)
 ·obtain ⟨y3, e2, h⟩ := bind_some h
  obtain rfl := si_ h
  exact rr_ [] 28 [.reg [], .reg [], .reg [(7, hF)], .reg [], .reg [(3, hC (sl_IndexByte_v y3))]]
   (a_ (a_ (r1_ tr) (a_ (r1_ (r2_ tr)) (a_ (r1_ (r2_ (r4_ (f_ c1 tr)))) (a_ (r1_ (r2_ tr)) (a_ (r2_ (a_ (a_ (a_ (lei_ 0 0 rfl) (lti_ 0 1 rfl)) tr) (c_ (sl_IndexByte_tri s 10 y3 e2) (r1_ tr)))) tr))))) tr)
theorem sl_Index_3_tri (s : List UInt8) (r : (Int)) (h : sl_Index_3 s = some r) : FnTri Tryz.prog 82 [.str s, .str ([10] : List UInt8)] [] (sl_Index_3_v r) [] := FnTri.none (sl_Index_3_ok s r h) rfl rfl
/-- internal/stringslite.Cut -/
def sl_Cut_v (r : (List UInt8) × (List UInt8) × (Bool)) : LV := .tup [.str r.1, .str r.2.1, .bool r.2.2]
def sl_Cut (s : List UInt8) : Option ((List UInt8) × (List UInt8) × (Bool)) :=
 (sl_Index_3 s).bind fun y2 =>
 if ((decide (0 ≤ y2)) : Bool) then
  if 0 ≤ (0 : Int) ∧ (0 : Int) ≤ y2 ∧ y2 ≤ (((s).length : Nat) : Int) then
  if 0 ≤ (IntKind.wrap .i64 (y2 + 1)) ∧ (IntKind.wrap .i64 (y2 + 1)) ≤ (((s).length : Nat) : Int) ∧ (((s).length : Nat) : Int) ≤ (((s).length : Nat) : Int) then
  some (((s.drop 0).take (y2.toNat - 0)), ((s.drop ((IntKind.wrap .i64 (y2 + 1))).toNat).take (((s).length) - ((IntKind.wrap .i64 (y2 + 1))).toNat)), true)
  else none
  else none
 else
  some (s, [], false)
theorem sl_Cut_ok (s : List UInt8) (r : (List UInt8) × (List UInt8) × (Bool)) (h : sl_Cut s = some r) : ∀ σ, Inj 0 σ → FnTri Tryz.prog 52 (renL σ [.str s, .str ([10] : List UInt8)]) (preOf σ 0 []) ((sl_Cut_v r).ren σ) (upOf σ []) := by
 refine fo_ Tryz.func52 trivial trivial ?_
 intro w0 W μ0 hμ
 unfold sl_Cut at h
 obtain ⟨y2, e1, h⟩ := bind_some h
 rcases itb_some h with ⟨c3, h⟩ | ⟨c3, h⟩
 ·obtain ⟨g4, h⟩ := guard_some h
  obtain ⟨g5, h⟩ := guard_some h
  obtain rfl := si_ h
  exact rr_ [] 23 [.reg [], .reg [(2, hC (sl_Index_3_v y2))], .reg [(1, hT)], .reg []]
   (a_ (a_ (r1_ (r2_ tr)) (a_ (r2_ (c_ (sl_Index_3_tri s y2 e1) (r1_ tr))) (a_ (r1_ (f_ c3 tr)) (a_ (r2_ (a_ (a_ g4 tr) (r1_ (r4_ (a_ (a_ g5 tr) (r1_ (r2_ tr))))))) tr)))) tr)
 ·obtain rfl := si_ h
  exact rr_ [] 24 [.reg [], .reg [(2, hC (sl_Index_3_v y2))], .reg [(1, hF)], .reg []]
   (a_ (a_ (r1_ (r2_ tr)) (a_ (r2_ (c_ (sl_Index_3_tri s y2 e1) (r1_ tr))) (a_ (r1_ (f_ c3 tr)) (a_ (r4_ tr) tr)))) tr)
theorem sl_Cut_tri (s : List UInt8) (r : (List UInt8) × (List UInt8) × (Bool)) (h : sl_Cut s = some r) : FnTri Tryz.prog 52 [.str s, .str ([10] : List UInt8)] [] (sl_Cut_v r) [] := FnTri.none (sl_Cut_ok s r h) rfl rfl
/-- strings.Cut -/
def strings_Cut_v (r : (List UInt8) × (List UInt8) × (Bool)) : LV := .tup [.str r.1, .str r.2.1, .bool r.2.2]
def strings_Cut (s : List UInt8) : Option ((List UInt8) × (List UInt8) × (Bool)) :=
 (sl_Cut s).bind fun y2 =>
 some (y2.1, y2.2.1, y2.2.2)
theorem strings_Cut_ok (s : List UInt8) (r : (List UInt8) × (List UInt8) × (Bool)) (h : strings_Cut s = some r) : ∀ σ, Inj 0 σ → FnTri Tryz.prog 23 (renL σ [.str s, .str ([10] : List UInt8)]) (preOf σ 0 []) ((strings_Cut_v r).ren σ) (upOf σ []) := by
 refine fo_ Tryz.func23 trivial trivial ?_
 intro w0 W μ0 hμ
 unfold strings_Cut at h
 obtain ⟨y2, e1, h⟩ := bind_some h
 obtain rfl := si_ h
 exact rr_ [] 15 [.reg [], .reg [(2, hC (sl_Cut_v y2))]]
  (a_ (a_ (r1_ (r2_ tr)) (a_ (r2_ (c_ (sl_Cut_tri s y2 e1) (r2_ (r4_ tr)))) tr)) tr)
theorem strings_Cut_tri (s : List UInt8) (r : (List UInt8) × (List UInt8) × (Bool)) (h : strings_Cut s = some r) : FnTri Tryz.prog 23 [.str s, .str ([10] : List UInt8)] [] (strings_Cut_v r) [] := FnTri.none (strings_Cut_ok s r h) rfl rfl
/-- parrel/script.All -/
def script_All_v (r : (List (TS)) × (TF)) : LV := .tup [.ds 25 (r.1).length (rowF c_TS default r.1), v_TF r.2]
def script_All_T0  (text2 : List UInt8) (l : List (TS)) : List LV := (.str text2) :: .any :: .any :: (.ptr 0 0 0) :: (.gs 1 (l).length) :: n_ 43 []
def script_All_H0  (text2 : List UInt8) (l : List (TS)) : Heap := [some (.var (c_TF (TF.mk 0 0))), some (.gr 25 (l).length (rowF c_TS default l))]
def script_All_l0   : Nat → (List UInt8) → (List (TS)) → Option ((List (TS)) × (TF))
 | 0, _, _ => none
 | fuel + 1, text2, l =>
  if ((!(text2 == [])) : Bool) then
   if ((((l).length : Int) == 4096) : Bool) then
    some (([] : List (TS)), (TF.mk 5 ((l).length : Int)))
   else
    (strings_Cut text2).bind fun yL0_4 =>
    (script_Parse yL0_4.1).bind fun yL0_6 =>
    if ((yL0_6.2 == 0) : Bool) then
     if ((!yL0_4.2.2) : Bool) then
      some (([] : List (TS)), (TF.mk 3 ((l).length : Int)))
     else
      if ((yL0_6.2 != 0) : Bool) then
       some (([] : List (TS)), (TF.mk yL0_6.2 ((l).length : Int)))
      else
       if ((l).length + (([yL0_6.1] : List (TS))).length) * 152 ≤ 140737488351232 then
       script_All_l0   fuel yL0_4.2.1 (l ++ ([yL0_6.1] : List (TS)))
       else none
    else
     if ((yL0_6.2 != 0) : Bool) then
      some (([] : List (TS)), (TF.mk yL0_6.2 ((l).length : Int)))
     else
      if ((l).length + (([yL0_6.1] : List (TS))).length) * 152 ≤ 140737488351232 then
      script_All_l0   fuel yL0_4.2.1 (l ++ ([yL0_6.1] : List (TS)))
      else none
  else
   some (l, (TF.mk 0 0))
def script_All (text : List UInt8) : Option ((List (TS)) × (TF)) :=
 script_All_l0   big text ([] : List (TS))
theorem script_All_l0_ok {w0 : World} {W : Nat → Prop} {μ0 : Emb} (hμ : ∀ c p, μ0 c = some p → c < 0) : ∀ (fuel : Nat) (text2 : List UInt8) (l : List (TS)) (r : (List (TS)) × (TF)), script_All_l0   fuel text2 l = some r → kont Tryz.prog w0 W μ0 (FnPost Tryz.prog Tryz.f10 0 0 (script_All_v r) []) (kAt (bodyOf Tryz.f10) 0) none (script_All_T0  text2 l) (script_All_H0  text2 l) := by
 intro fuel
 induction fuel with
 | zero => intro text2 l r h; rw [script_All_l0] at h; cases h
 | succ fuel ih =>
  intro text2 l r h
  rw [script_All_l0] at h
  rcases itb_some h with ⟨C1, h⟩ | ⟨C1, h⟩
  ·rcases itb_some h with ⟨C2, h⟩ | ⟨C2, h⟩
   ·obtain rfl := si_ h
    exact rr_ [] 25 [.go, .reg [(1, hT)], .reg [(2, hT)], .reg [(3, { v := some (.ds 25 (([] : List (TS))).length (rowF c_TS default ([] : List (TS)))) })]]
     (a_ (a_ (r1_ (f_ C1 tr)) (a_ (r2_ (f_ C2 tr)) (a_ (r2_ (a_ (a_ (Eq.refl true) tr) (a_ (a_ tr (a_ (le_nil_ds 25 (rowF c_TS default [])) tr)) (a_ (a_ (a_ (Eq.refl 2) (a_ (le_ 2 2 rfl) (Eq.refl 0))) tr) tr)))) tr))) (a_ (a_ tr (le_ 2 2 rfl)) tr))
   ·obtain ⟨yL0_4, E3, h⟩ := bind_some h
    obtain ⟨yL0_6, E5, h⟩ := bind_some h
    rcases itb_some h with ⟨C7, h⟩ | ⟨C7, h⟩
    ·rcases itb_some h with ⟨C8, h⟩ | ⟨C8, h⟩
     ·obtain rfl := si_ h
      exact rr_ [] 44 [.go, .reg [(1, hT)], .reg [(2, hF)], .reg [(1, hC (strings_Cut_v yL0_4))], .reg [(1, hC (script_Parse_v yL0_6))], .reg [(2, hT), (5, hT)], .reg [], .reg [], .reg [(4, { v := some (.ds 25 (([] : List (TS))).length (rowF c_TS default ([] : List (TS)))) })]]
       (a_ (a_ (r1_ (f_ C1 tr)) (a_ (r2_ (f_ C2 tr)) (a_ (r1_ (c_ (strings_Cut_tri text2 yL0_4 E3) (r1_ (r2_ (r4_ tr))))) (a_ (r1_ (c_ (script_Parse_tri yL0_4.1 yL0_6 E5) (r4_ (a_ (a_ (a_ (Eq.refl 25) (a_ (le_ 25 25 rfl) (Eq.refl 0))) tr) (r1_ tr))))) (a_ (r2_ (f_ C7 (r2_ (f_ C8 tr)))) (a_ (r1_ tr) (a_ (r2_ tr) (a_ (r1_ (r2_ (a_ (a_ (Eq.refl true) tr) (a_ (a_ tr (a_ (le_nil_ds 25 (rowF c_TS default [])) tr)) (a_ (a_ (a_ (Eq.refl 2) (a_ (le_ 2 2 rfl) (Eq.refl 0))) tr) tr))))) tr)))))))) (a_ (a_ tr (le_ 2 2 rfl)) tr))
     ·rcases itb_some h with ⟨C9, h⟩ | ⟨C9, h⟩
      ·obtain rfl := si_ h
       exact rr_ [] 43 [.go, .reg [(1, hT)], .reg [(2, hF)], .reg [(1, hC (strings_Cut_v yL0_4))], .reg [(1, hC (script_Parse_v yL0_6))], .reg [(2, hT), (5, hF)], .reg [(1, hT)], .reg [(4, { v := some (.ds 25 (([] : List (TS))).length (rowF c_TS default ([] : List (TS)))) })]]
        (a_ (a_ (r1_ (f_ C1 tr)) (a_ (r2_ (f_ C2 tr)) (a_ (r1_ (c_ (strings_Cut_tri text2 yL0_4 E3) (r1_ (r2_ (r4_ tr))))) (a_ (r1_ (c_ (script_Parse_tri yL0_4.1 yL0_6 E5) (r4_ (a_ (a_ (a_ (Eq.refl 25) (a_ (le_ 25 25 rfl) (Eq.refl 0))) tr) (r1_ tr))))) (a_ (r2_ (f_ C7 (r2_ (f_ C8 tr)))) (a_ (r1_ (f_ C9 tr)) (a_ (r1_ (r2_ (a_ (a_ (Eq.refl true) tr) (a_ (a_ tr (a_ (le_nil_ds 25 (rowF c_TS default [])) tr)) (a_ (a_ (a_ (Eq.refl 2) (a_ (le_ 2 2 rfl) (Eq.refl 0))) tr) tr))))) tr))))))) (a_ (a_ tr (le_ 2 2 rfl)) tr))
      ·obtain ⟨G10, h⟩ := guard_some h
       exact rt_ hμ [0, 4] 47 [.go, .reg [(1, hT)], .reg [(2, hF)], .reg [(1, hC (strings_Cut_v yL0_4))], .reg [(1, hC (script_Parse_v yL0_6))], .reg [(2, hT), (5, hF)], .reg [(1, hF)], .reg [(2, { os := [(3, .gr 25 (([yL0_6.1] : List (TS))).length (rowF c_TS default ([yL0_6.1] : List (TS))))], v := some (.gs 3 (([yL0_6.1] : List (TS))).length) }), (3, { app := 3, os := [(4, .gr 25 ((l ++ ([yL0_6.1] : List (TS)))).length (rowF c_TS default (l ++ ([yL0_6.1] : List (TS)))))], v := some (.gs 4 ((l ++ ([yL0_6.1] : List (TS)))).length) })], .reg []]
        (a_ (r1_ (f_ C1 tr)) (a_ (r2_ (f_ C2 tr)) (a_ (r1_ (c_ (strings_Cut_tri text2 yL0_4 E3) (r1_ (r2_ (r4_ tr))))) (a_ (r1_ (c_ (script_Parse_tri yL0_4.1 yL0_6 E5) (r4_ (a_ (a_ (a_ (Eq.refl 25) (a_ (le_ 25 25 rfl) (Eq.refl 0))) tr) (r1_ tr))))) (a_ (r2_ (f_ C7 (r2_ (f_ C8 tr)))) (a_ (r1_ (f_ C9 tr)) (a_ (r1_ (m_ 25 25 rfl (a_ (a_ (a_ (Eq.refl true) (a_ (Eq.refl 25) (a_ (lt_ 0 25 rfl) (le_ 25 16777216 rfl)))) (a_ (le_sl_gs 3 1 (some 1) rfl) (a_ (sub_lit c_TS default 25 (fun _ => rfl) ([yL0_6.1] : List (TS))) tr))) (a_ (a_ (a_ (a_ (Eq.refl 25) (Nat.le_refl (([yL0_6.1] : List (TS))).length)) (a_ (a_ (lt_ 0 25 rfl) (a_ (lt_ 0 152 rfl) (a_ G10 (a_ (Eq.refl 25) (Eq.refl true))))) (a_ (Eq.refl 25) (Nat.le_refl (l).length)))) (a_ (le_gs_app 4 l ([yL0_6.1] : List (TS))) (a_ (sub_app c_TS default 25 l ([yL0_6.1] : List (TS))) tr))) (r1_ tr))))) (a_ (r2_ tr) tr)))))))) (ih _ _ r h) ⟨rfl, fun _ _ => rfl, trivial⟩
    ·rcases itb_some h with ⟨C8, h⟩ | ⟨C8, h⟩
     ·obtain rfl := si_ h
      exact rr_ [] 43 [.go, .reg [(1, hT)], .reg [(2, hF)], .reg [(1, hC (strings_Cut_v yL0_4))], .reg [(1, hC (script_Parse_v yL0_6))], .reg [(2, hF)], .reg [(1, hT)], .reg [(4, { v := some (.ds 25 (([] : List (TS))).length (rowF c_TS default ([] : List (TS)))) })]]
       (a_ (a_ (r1_ (f_ C1 tr)) (a_ (r2_ (f_ C2 tr)) (a_ (r1_ (c_ (strings_Cut_tri text2 yL0_4 E3) (r1_ (r2_ (r4_ tr))))) (a_ (r1_ (c_ (script_Parse_tri yL0_4.1 yL0_6 E5) (r4_ (a_ (a_ (a_ (Eq.refl 25) (a_ (le_ 25 25 rfl) (Eq.refl 0))) tr) (r1_ tr))))) (a_ (r2_ (f_ C7 (t2_ (r1_ tr)))) (a_ (r1_ (f_ C8 tr)) (a_ (r1_ (r2_ (a_ (a_ (Eq.refl true) tr) (a_ (a_ tr (a_ (le_nil_ds 25 (rowF c_TS default [])) tr)) (a_ (a_ (a_ (Eq.refl 2) (a_ (le_ 2 2 rfl) (Eq.refl 0))) tr) tr))))) tr))))))) (a_ (a_ tr (le_ 2 2 rfl)) tr))
     ·obtain ⟨G9, h⟩ := guard_some h
      exact rt_ hμ [0, 4] 47 [.go, .reg [(1, hT)], .reg [(2, hF)], .reg [(1, hC (strings_Cut_v yL0_4))], .reg [(1, hC (script_Parse_v yL0_6))], .reg [(2, hF)], .reg [(1, hF)], .reg [(2, { os := [(3, .gr 25 (([yL0_6.1] : List (TS))).length (rowF c_TS default ([yL0_6.1] : List (TS))))], v := some (.gs 3 (([yL0_6.1] : List (TS))).length) }), (3, { app := 3, os := [(4, .gr 25 ((l ++ ([yL0_6.1] : List (TS)))).length (rowF c_TS default (l ++ ([yL0_6.1] : List (TS)))))], v := some (.gs 4 ((l ++ ([yL0_6.1] : List (TS)))).length) })], .reg []]
       (a_ (r1_ (f_ C1 tr)) (a_ (r2_ (f_ C2 tr)) (a_ (r1_ (c_ (strings_Cut_tri text2 yL0_4 E3) (r1_ (r2_ (r4_ tr))))) (a_ (r1_ (c_ (script_Parse_tri yL0_4.1 yL0_6 E5) (r4_ (a_ (a_ (a_ (Eq.refl 25) (a_ (le_ 25 25 rfl) (Eq.refl 0))) tr) (r1_ tr))))) (a_ (r2_ (f_ C7 (t2_ (r1_ tr)))) (a_ (r1_ (f_ C8 tr)) (a_ (r1_ (m_ 25 25 rfl (a_ (a_ (a_ (Eq.refl true) (a_ (Eq.refl 25) (a_ (lt_ 0 25 rfl) (le_ 25 16777216 rfl)))) (a_ (le_sl_gs 3 1 (some 1) rfl) (a_ (sub_lit c_TS default 25 (fun _ => rfl) ([yL0_6.1] : List (TS))) tr))) (a_ (a_ (a_ (a_ (Eq.refl 25) (Nat.le_refl (([yL0_6.1] : List (TS))).length)) (a_ (a_ (lt_ 0 25 rfl) (a_ (lt_ 0 152 rfl) (a_ G9 (a_ (Eq.refl 25) (Eq.refl true))))) (a_ (Eq.refl 25) (Nat.le_refl (l).length)))) (a_ (le_gs_app 4 l ([yL0_6.1] : List (TS))) (a_ (sub_app c_TS default 25 l ([yL0_6.1] : List (TS))) tr))) (r1_ tr))))) (a_ (r2_ tr) tr)))))))) (ih _ _ r h) ⟨rfl, fun _ _ => rfl, trivial⟩
  ·obtain rfl := si_ h
   exact rr_ [] 20 [.go, .reg [(1, hF)], .reg [], .frz 1]
    (a_ (a_ (r1_ (f_ C1 tr)) (a_ (r1_ (a_ (a_ (Eq.refl true) tr) (r1_ (a_ (a_ (a_ (Eq.refl 2) (a_ (le_ 2 2 rfl) (Eq.refl 0))) tr) tr)))) (a_ (a_ (fz_row (enc := c_TS) (d := default) (fun _ => rfl) l) (a_ (Nat.le_refl (l).length) (a_ (Nat.le_refl (l).length) (a_ (Nat.le_refl (l).length) tr)))) tr))) (a_ (a_ tr (le_ 2 2 rfl)) tr))
theorem script_All_ok (text : List UInt8) (r : (List (TS)) × (TF)) (h : script_All text = some r) : ∀ σ, Inj 0 σ → FnTri Tryz.prog 10 (renL σ [.str text]) (preOf σ 0 []) ((script_All_v r).ren σ) (upOf σ []) := by
 refine fo_ Tryz.func10 trivial trivial ?_
 intro w0 W μ0 hμ
 unfold script_All at h
 exact rt_ hμ [0, 1] 19 [.reg [(0, { v := some (.ds 25 (([] : List (TS))).length (rowF c_TS default ([] : List (TS)))) })], .void (.gr 25 (([] : List (TS))).length (rowF c_TS default ([] : List (TS)))), .reg [(0, { v := some (.gs 1 (([] : List (TS))).length) })]]
  (a_ (a_ (a_ tr (a_ (le_nil_ds 25 (rowF c_TS default [])) tr)) (r1_ tr)) (a_ (Eq.refl 0) (a_ (a_ (a_ tr (a_ (le_nil_gs 1) tr)) tr) tr))) (script_All_l0_ok hμ   big _ _ r h) ⟨rfl, fun _ _ => rfl, trivial⟩
theorem script_All_tri (text : List UInt8) (r : (List (TS)) × (TF)) (h : script_All text = some r) : FnTri Tryz.prog 10 [.str text] [] (script_All_v r) [] := FnTri.none (script_All_ok text r h) rfl rfl
/-- parrel/parrelref27.split -/
def r27_split_v (r : (List (List UInt8))) : LV := .ds 1 (r).length (rowF cStr default r)
def r27_split_T0 (s : List UInt8) (x_by : Int) (i : Int) (l : List (List UInt8)) : List LV := (.str s) :: (.int .u8 x_by) :: .any :: .any :: .any :: (.gs 0 (l).length) :: (.int .i64 i) :: n_ 29 []
def r27_split_H0 (s : List UInt8) (x_by : Int) (i : Int) (l : List (List UInt8)) : Heap := [some (.gr 1 (l).length (rowF cStr default l))]
def r27_split_l0 (s : List UInt8) (x_by : Int)  : Nat → (Int) → (List (List UInt8)) → Option ((List (List UInt8)))
 | 0, _, _ => none
 | fuel + 1, i, l =>
  if ((decide (i < ((s).length : Int))) : Bool) then
   if 0 ≤ i ∧ i < (((s).length : Nat) : Int) then
   if ((((s.getD i.toNat 0).toNat : Int) == x_by) : Bool) then
    if ((l).length + (([[]] : List (List UInt8))).length) * 16 ≤ 140737488351232 then
    r27_split_l0 s x_by  fuel (IntKind.wrap .i64 (i + 1)) (l ++ ([[]] : List (List UInt8)))
    else none
   else
    if 0 ≤ (IntKind.wrap .i64 (((l).length : Int) - 1)) ∧ (IntKind.wrap .i64 (((l).length : Int) - 1)) < (((l).length : Nat) : Int) then
    if 0 ≤ i ∧ i ≤ (IntKind.wrap .i64 (i + 1)) ∧ (IntKind.wrap .i64 (i + 1)) ≤ (((s).length : Nat) : Int) then
    if ((l.getD ((IntKind.wrap .i64 (((l).length : Int) - 1))).toNat default)).length + (((s.drop i.toNat).take (((IntKind.wrap .i64 (i + 1))).toNat - i.toNat))).length ≤ 9223372036854775807 then
    r27_split_l0 s x_by  fuel (IntKind.wrap .i64 (i + 1)) (l.set ((IntKind.wrap .i64 (((l).length : Int) - 1))).toNat ((l.getD ((IntKind.wrap .i64 (((l).length : Int) - 1))).toNat default) ++ ((s.drop i.toNat).take (((IntKind.wrap .i64 (i + 1))).toNat - i.toNat))))
    else none
    else none
    else none
   else none
  else
   some l
def r27_split (s : List UInt8) (x_by : Int) : Option ((List (List UInt8))) :=
 r27_split_l0 s x_by  big 0 ([[]] : List (List UInt8))
theorem r27_split_l0_ok {w0 : World} {W : Nat → Prop} {μ0 : Emb} (hμ : ∀ c p, μ0 c = some p → c < 0) (s : List UInt8) (x_by : Int) : ∀ (fuel : Nat) (i : Int) (l : List (List UInt8)) (r : (List (List UInt8))), r27_split_l0 s x_by  fuel i l = some r → kont Tryz.prog w0 W μ0 (FnPost Tryz.prog Tryz.f20 0 0 (r27_split_v r) []) (kAt (bodyOf Tryz.f20) 0) none (r27_split_T0 s x_by i l) (r27_split_H0 s x_by i l) := by
 intro fuel
 induction fuel with
 | zero => intro i l r h; rw [r27_split_l0] at h; cases h
 | succ fuel ih =>
  intro i l r h
  rw [r27_split_l0] at h
  rcases itb_some h with ⟨C1, h⟩ | ⟨C1, h⟩
  ·obtain ⟨G2, h⟩ := guard_some h
   rcases itb_some h with ⟨C3, h⟩ | ⟨C3, h⟩
   ·obtain ⟨G4, h⟩ := guard_some h
    exact rt_ hμ [2] 27 [.go, .reg [(3, hT)], .reg [(4, hT)], .reg [(1, { os := [(1, .gr 1 (([[]] : List (List UInt8))).length (rowF cStr default ([[]] : List (List UInt8))))], v := some (.gs 1 (([[]] : List (List UInt8))).length) }), (2, { app := 3, os := [(2, .gr 1 ((l ++ ([[]] : List (List UInt8)))).length (rowF cStr default (l ++ ([[]] : List (List UInt8)))))], v := some (.gs 2 ((l ++ ([[]] : List (List UInt8)))).length) })], .reg []]
     (a_ (r1_ (r2_ (f_ C1 tr))) (a_ (r2_ (a_ (a_ G2 tr) (r1_ (f_ C3 tr)))) (a_ (r1_ (a_ (a_ (a_ (Eq.refl true) (a_ (Eq.refl 1) (a_ (lt_ 0 1 rfl) (le_ 1 16777216 rfl)))) (a_ (le_sl_gs 1 1 (some 1) rfl) (a_ (sub_lit cStr default 1 (fun _ => rfl) ([[]] : List (List UInt8))) tr))) (a_ (a_ (a_ (a_ (Eq.refl 1) (Nat.le_refl (([[]] : List (List UInt8))).length)) (a_ (a_ (lt_ 0 1 rfl) (a_ (lt_ 0 16 rfl) (a_ G4 (a_ (Eq.refl 1) (Eq.refl true))))) (a_ (Eq.refl 1) (Nat.le_refl (l).length)))) (a_ (le_gs_app 2 l ([[]] : List (List UInt8))) (a_ (sub_app cStr default 1 l ([[]] : List (List UInt8))) tr))) (r1_ tr)))) (a_ (r1_ (r2_ tr)) tr)))) (ih _ _ r h) ⟨fun _ _ => rfl, trivial⟩
   ·obtain ⟨G4, h⟩ := guard_some h
    obtain ⟨G5, h⟩ := guard_some h
    obtain ⟨G6, h⟩ := guard_some h
    exact rt_ hμ [0] 28 [.go, .reg [(3, hT)], .reg [(4, hF)], .reg [(13, { os := [(0, .gr 1 ((l.set ((IntKind.wrap .i64 (((l).length : Int) - 1))).toNat ((l.getD ((IntKind.wrap .i64 (((l).length : Int) - 1))).toNat default) ++ ((s.drop i.toNat).take (((IntKind.wrap .i64 (i + 1))).toNat - i.toNat))))).length (rowF cStr default (l.set ((IntKind.wrap .i64 (((l).length : Int) - 1))).toNat ((l.getD ((IntKind.wrap .i64 (((l).length : Int) - 1))).toNat default) ++ ((s.drop i.toNat).take (((IntKind.wrap .i64 (i + 1))).toNat - i.toNat))))))] })], .reg [], .wk [(5, .gs 0 ((l.set ((IntKind.wrap .i64 (((l).length : Int) - 1))).toNat ((l.getD ((IntKind.wrap .i64 (((l).length : Int) - 1))).toNat default) ++ ((s.drop i.toNat).take (((IntKind.wrap .i64 (i + 1))).toNat - i.toNat))))).length)] []]
     (a_ (r1_ (r2_ (f_ C1 tr))) (a_ (r2_ (a_ (a_ G2 tr) (r1_ (f_ C3 tr)))) (a_ (r4_ (a_ (a_ (a_ (Eq.refl 1) G4) tr) (a_ (a_ (a_ (ltN G4) (lt_ 0 1 rfl)) tr) (r4_ (a_ (a_ G5 tr) (a_ (a_ G6 tr) (a_ (a_ (a_ (Eq.refl 1) G4) tr) (a_ (a_ (a_ (Eq.refl 1) (a_ (le_ 1 1 rfl) (ltN G4))) (a_ (sub_set_gr cStr default 1 l ((IntKind.wrap .i64 (((l).length : Int) - 1))).toNat ((l.getD ((IntKind.wrap .i64 (((l).length : Int) - 1))).toNat default) ++ ((s.drop i.toNat).take (((IntKind.wrap .i64 (i + 1))).toNat - i.toNat))) (ltN G4) (splL (rowF cStr default l ((IntKind.wrap .i64 (((l).length : Int) - 1))).toNat) 0 [.str ((l.getD ((IntKind.wrap .i64 (((l).length : Int) - 1))).toNat default) ++ ((s.drop i.toNat).take (((IntKind.wrap .i64 (i + 1))).toNat - i.toNat)))]) (by kernel_rfl)) tr)) tr)))))))) (a_ (r1_ (r2_ tr)) (a_ (a_ (a_ (le_gs 0 (show (l).length = ((l.set ((IntKind.wrap .i64 (((l).length : Int) - 1))).toNat ((l.getD ((IntKind.wrap .i64 (((l).length : Int) - 1))).toNat default) ++ ((s.drop i.toNat).take (((IntKind.wrap .i64 (i + 1))).toNat - i.toNat))))).length from by simp)) tr) tr) tr))))) (ih _ _ r h) ⟨fun _ _ => rfl, trivial⟩
  ·obtain rfl := si_ h
   exact rr_ [] 20 [.go, .reg [(3, hF)], .reg [], .frz 0]
    (a_ (a_ (r1_ (r2_ (f_ C1 tr))) (a_ (r2_ tr) (a_ (a_ (fz_row (enc := cStr) (d := default) (fun _ => rfl) l) (a_ (Nat.le_refl (l).length) (a_ (Nat.le_refl (l).length) (a_ (Nat.le_refl (l).length) tr)))) tr))) tr)
theorem r27_split_ok (s : List UInt8) (x_by : Int) (r : (List (List UInt8))) (h : r27_split s x_by = some r) : ∀ σ, Inj 0 σ → FnTri Tryz.prog 20 (renL σ [.str s, .int .u8 x_by]) (preOf σ 0 []) ((r27_split_v r).ren σ) (upOf σ []) := by
 refine fo_ Tryz.func20 trivial trivial ?_
 intro w0 W μ0 hμ
 unfold r27_split at h
 exact rt_ hμ [0] 21 [.reg [(0, { v := some (.ds 1 (([] : List (List UInt8))).length (rowF cStr default ([] : List (List UInt8)))) })], .reg [(0, { os := [(0, .gr 1 (([[]] : List (List UInt8))).length (rowF cStr default ([[]] : List (List UInt8))))], v := some (.gs 0 (([[]] : List (List UInt8))).length) })], .reg []]
  (a_ (a_ (a_ tr (a_ (le_nil_ds 1 (rowF cStr default [])) tr)) tr) (a_ (a_ (a_ (a_ (Eq.refl true) (a_ (Eq.refl 1) (a_ (lt_ 0 1 rfl) (le_ 1 16777216 rfl)))) (a_ (le_sl_gs 0 1 (some 1) rfl) (a_ (sub_lit cStr default 1 (fun _ => rfl) ([[]] : List (List UInt8))) tr))) (r1_ tr)) (a_ (r1_ tr) tr))) (r27_split_l0_ok hμ s x_by  big _ _ r h) ⟨fun _ _ => rfl, trivial⟩
theorem r27_split_tri (s : List UInt8) (x_by : Int) (r : (List (List UInt8))) (h : r27_split s x_by = some r) : FnTri Tryz.prog 20 [.str s, .int .u8 x_by] [] (r27_split_v r) [] := FnTri.none (r27_split_ok s x_by r h) rfl rfl
/-- parrel/parrelref27.at -/
def r27_at_v (r : (List UInt8)) : LV := .str r
def r27_at (x_w : List (List UInt8)) (i : Int) : Option ((List UInt8)) :=
 if ((decide (i < ((x_w).length : Int))) : Bool) then
  if 0 ≤ i ∧ i < (((x_w).length : Nat) : Int) then
  some (x_w.getD i.toNat default)
  else none
 else
  some []
theorem r27_at_ok (x_w : List (List UInt8)) (i : Int) (r : (List UInt8)) (h : r27_at x_w i = some r) : ∀ σ, Inj 0 σ → FnTri Tryz.prog 43 (renL σ [.ds 1 (x_w).length (rowF cStr default x_w), .int .i64 i]) (preOf σ 0 []) ((r27_at_v r).ren σ) (upOf σ []) := by
 refine fo_ Tryz.func43 trivial trivial ?_
 intro w0 W μ0 hμ
 unfold r27_at at h
 rcases itb_some h with ⟨c1, h⟩ | ⟨c1, h⟩
 ·obtain ⟨g2, h⟩ := guard_some h
  obtain rfl := si_ h
  exact rr_ [] 20 [.reg [], .reg [(3, hT)], .reg []]
   (a_ (a_ (r1_ tr) (a_ (r1_ (r2_ (f_ c1 tr))) (a_ (r2_ (a_ (a_ (a_ (Eq.refl 1) g2) tr) (a_ (a_ (lt_ 0 1 rfl) tr) (r1_ tr)))) tr))) tr)
 ·obtain rfl := si_ h
  exact rr_ [] 21 [.reg [], .reg [(3, hF)], .reg []]
   (a_ (a_ (r1_ tr) (a_ (r1_ (r2_ (f_ c1 tr))) (a_ (r1_ tr) tr))) tr)
theorem r27_at_tri (x_w : List (List UInt8)) (i : Int) (r : (List UInt8)) (h : r27_at x_w i = some r) : FnTri Tryz.prog 43 [.ds 1 (x_w).length (rowF cStr default x_w), .int .i64 i] [] (r27_at_v r) [] := FnTri.none (r27_at_ok x_w i r h) rfl rfl
/-- parrel/parrelref27.value -/
def r27_value_v (r : (Int)) : LV := .int .i64 r
def r27_value_T0 (s : List UInt8) (x_n : Int) (i : Int) : List LV := (.str s) :: .any :: .any :: (.int .i64 x_n) :: (.int .i64 i) :: n_ 44 []
def r27_value_H0 (s : List UInt8) (x_n : Int) (i : Int) : Heap := []
def r27_value_l0 (s : List UInt8)  : Nat → (Int) → (Int) → Option ((Int))
 | 0, _, _ => none
 | fuel + 1, x_n, i =>
  if ((decide (i < ((s).length : Int))) : Bool) then
   if 0 ≤ i ∧ i < (((s).length : Nat) : Int) then
   if ((decide (((s.getD i.toNat 0).toNat : Int) < 48)) : Bool) then
    some (-2)
   else
    if ((decide (57 < ((s.getD i.toNat 0).toNat : Int))) : Bool) then
     some (-2)
    else
     r27_value_l0 s  fuel (IntKind.wrap .i64 ((IntKind.wrap .i64 (x_n * 10)) + (IntKind.wrap .i64 (IntKind.wrap .u8 (((s.getD i.toNat 0).toNat : Int) - 48))))) (IntKind.wrap .i64 (i + 1))
   else none
  else
   if ((decide (2147483647 < x_n)) : Bool) then
    some (-2)
   else
    some x_n
def r27_value (s : List UInt8) : Option ((Int)) :=
 if ((s == []) : Bool) then
  some (-2)
 else
  if ((decide (10 < ((s).length : Int))) : Bool) then
   some (-2)
  else
   if ((decide (1 < ((s).length : Int))) : Bool) then
    if 0 ≤ (0 : Int) ∧ (0 : Int) < (((s).length : Nat) : Int) then
    if ((((s.getD 0 0).toNat : Int) == 48) : Bool) then
     some (-2)
    else
     r27_value_l0 s  big 0 0
    else none
   else
    r27_value_l0 s  big 0 0
theorem r27_value_l0_ok {w0 : World} {W : Nat → Prop} {μ0 : Emb} (hμ : ∀ c p, μ0 c = some p → c < 0) (s : List UInt8) : ∀ (fuel : Nat) (x_n : Int) (i : Int) (r : (Int)), r27_value_l0 s  fuel x_n i = some r → kont Tryz.prog w0 W μ0 (FnPost Tryz.prog Tryz.f42 0 0 (r27_value_v r) []) (kAt (bodyOf Tryz.f42) 0) none (r27_value_T0 s x_n i) (r27_value_H0 s x_n i) := by
 intro fuel
 induction fuel with
 | zero => intro x_n i r h; rw [r27_value_l0] at h; cases h
 | succ fuel ih =>
  intro x_n i r h
  rw [r27_value_l0] at h
  rcases itb_some h with ⟨C1, h⟩ | ⟨C1, h⟩
  ·obtain ⟨G2, h⟩ := guard_some h
   rcases itb_some h with ⟨C3, h⟩ | ⟨C3, h⟩
   ·obtain rfl := si_ h
    exact rr_ [] 26 [.go, .reg [(3, hT)], .reg [(4, hT)], .reg []]
     (a_ (a_ (r1_ (r2_ (f_ C1 tr))) (a_ (r2_ (a_ (a_ G2 tr) (r1_ (f_ C3 (t4_ (r1_ tr)))))) (a_ (r1_ tr) tr))) tr)
   ·rcases itb_some h with ⟨C4, h⟩ | ⟨C4, h⟩
    ·obtain rfl := si_ h
     exact rr_ [] 26 [.go, .reg [(3, hT)], .reg [(4, hF), (9, hT)], .reg []]
      (a_ (a_ (r1_ (r2_ (f_ C1 tr))) (a_ (r2_ (a_ (a_ G2 tr) (r1_ (f_ C3 (r2_ (a_ (a_ G2 tr) (r1_ (f_ C4 tr)))))))) (a_ (r1_ tr) tr))) tr)
    ·exact rt_ hμ [] 29 [.go, .reg [(3, hT)], .reg [(4, hF), (9, hF)], .reg [], .reg []]
      (a_ (r1_ (r2_ (f_ C1 tr))) (a_ (r2_ (a_ (a_ G2 tr) (r1_ (f_ C3 (r2_ (a_ (a_ G2 tr) (r1_ (f_ C4 tr)))))))) (a_ (r4_ (a_ (a_ G2 tr) (r4_ tr))) (a_ (r1_ (r2_ tr)) tr)))) (ih _ _ r h) trivial
  ·rcases itb_some h with ⟨C2, h⟩ | ⟨C2, h⟩
   ·obtain rfl := si_ h
    exact rr_ [] 24 [.go, .reg [(3, hF)], .reg [(1, hT)], .reg []]
     (a_ (a_ (r1_ (r2_ (f_ C1 tr))) (a_ (r1_ (f_ C2 tr)) (a_ (r1_ tr) tr))) tr)
   ·obtain rfl := si_ h
    exact rr_ [] 25 [.go, .reg [(3, hF)], .reg [(1, hF)], .reg []]
     (a_ (a_ (r1_ (r2_ (f_ C1 tr))) (a_ (r1_ (f_ C2 tr)) (a_ (r2_ tr) tr))) tr)
theorem r27_value_ok (s : List UInt8) (r : (Int)) (h : r27_value s = some r) : ∀ σ, Inj 0 σ → FnTri Tryz.prog 42 (renL σ [.str s]) (preOf σ 0 []) ((r27_value_v r).ren σ) (upOf σ []) := by
 refine fo_ Tryz.func42 trivial trivial ?_
 intro w0 W μ0 hμ
 unfold r27_value at h
 rcases itb_some h with ⟨c1, h⟩ | ⟨c1, h⟩
 ·obtain rfl := si_ h
  exact rr_ [] 20 [.reg [], .reg [(2, hT)], .reg []]
   (a_ (a_ (r1_ tr) (a_ (r2_ (f_ c1 (a_ tr (t2_ (r2_ (t8_ (r1_ tr))))))) (a_ (r1_ tr) tr))) tr)
 ·rcases itb_some h with ⟨c2, h⟩ | ⟨c2, h⟩
  ·obtain rfl := si_ h
   exact rr_ [] 20 [.reg [], .reg [(2, hF), (7, hT)], .reg []]
    (a_ (a_ (r1_ tr) (a_ (r2_ (f_ c1 (r4_ (f_ c2 (t8_ (r1_ tr)))))) (a_ (r1_ tr) tr))) tr)
  ·rcases itb_some h with ⟨c3, h⟩ | ⟨c3, h⟩
   ·obtain ⟨g4, h⟩ := guard_some h
    rcases itb_some h with ⟨c5, h⟩ | ⟨c5, h⟩
    ·obtain rfl := si_ h
     exact rr_ [] 20 [.reg [], .reg [(2, hF), (7, hF), (11, hT), (16, hT)], .reg []]
      (a_ (a_ (r1_ tr) (a_ (r2_ (f_ c1 (r4_ (f_ c2 (r1_ (r2_ (f_ c3 (r1_ (a_ (a_ g4 tr) (r2_ (f_ c5 tr))))))))))) (a_ (r1_ tr) tr))) tr)
    ·exact rt_ hμ [] 27 [.reg [], .reg [(2, hF), (7, hF), (11, hT), (16, hF)], .reg [], .reg []]
      (a_ (r1_ tr) (a_ (r2_ (f_ c1 (r4_ (f_ c2 (r1_ (r2_ (f_ c3 (r1_ (a_ (a_ g4 tr) (r2_ (f_ c5 tr))))))))))) (a_ (r1_ tr) (a_ (r1_ tr) tr)))) (r27_value_l0_ok hμ s  big _ _ r h) trivial
   ·exact rt_ hμ [] 27 [.reg [], .reg [(2, hF), (7, hF), (11, hF)], .reg [], .reg []]
     (a_ (r1_ tr) (a_ (r2_ (f_ c1 (r4_ (f_ c2 (r1_ (r2_ (f_ c3 (a_ tr (t2_ (r2_ tr)))))))))) (a_ (r1_ tr) (a_ (r1_ tr) tr)))) (r27_value_l0_ok hμ s  big _ _ r h) trivial
theorem r27_value_tri (s : List UInt8) (r : (Int)) (h : r27_value s = some r) : FnTri Tryz.prog 42 [.str s] [] (r27_value_v r) [] := FnTri.none (r27_value_ok s r h) rfl rfl
/-- parrel/parrelref27.nibble -/
def r27_nibble_v (r : (Int)) : LV := .int .u8 r
def r27_nibble (c : Int) : Option ((Int)) :=
 if ((decide (97 ≤ c)) : Bool) then
  some (IntKind.wrap .u8 ((IntKind.wrap .u8 (c - 97)) + 10))
 else
  some (IntKind.wrap .u8 (c - 48))
theorem r27_nibble_ok (c : Int) (r : (Int)) (h : r27_nibble c = some r) : ∀ σ, Inj 0 σ → FnTri Tryz.prog 92 (renL σ [.int .u8 c]) (preOf σ 0 []) ((r27_nibble_v r).ren σ) (upOf σ []) := by
 refine fo_ Tryz.func92 trivial trivial ?_
 intro w0 W μ0 hμ
 unfold r27_nibble at h
 rcases itb_some h with ⟨c1, h⟩ | ⟨c1, h⟩
 ·obtain rfl := si_ h
  exact rr_ [] 20 [.reg [], .reg [(1, hT)], .reg []]
   (a_ (a_ (r1_ tr) (a_ (r1_ (f_ c1 tr)) (a_ (r4_ tr) tr))) tr)
 ·obtain rfl := si_ h
  exact rr_ [] 21 [.reg [], .reg [(1, hF)], .reg []]
   (a_ (a_ (r1_ tr) (a_ (r1_ (f_ c1 tr)) (a_ (r1_ (r2_ tr)) tr))) tr)
theorem r27_nibble_tri (c : Int) (r : (Int)) (h : r27_nibble c = some r) : FnTri Tryz.prog 92 [.int .u8 c] [] (r27_nibble_v r) [] := FnTri.none (r27_nibble_ok c r h) rfl rfl
/-- parrel/parrelref27.bytes -/
def r27_bytes_v (r : (List UInt8) × (Bool)) : LV := .tup [.str r.1, .bool r.2]
def r27_bytes_T1 (s : List UInt8) (out : List UInt8) (i2 : Int) : List LV := (.str s) :: .any :: .any :: .any :: (.str out) :: .any :: (.int .i64 i2) :: n_ 61 []
def r27_bytes_H1 (s : List UInt8) (out : List UInt8) (i2 : Int) : Heap := []
def r27_bytes_T0 (s : List UInt8) (i : Int) : List LV := (.str s) :: .any :: .any :: .any :: (.str []) :: (.int .i64 i) :: n_ 62 []
def r27_bytes_H0 (s : List UInt8) (i : Int) : Heap := []
def r27_bytes_l1 (s : List UInt8)  : Nat → (List UInt8) → (Int) → Option ((List UInt8) × (Bool))
 | 0, _, _ => none
 | fuel + 1, out, i2 =>
  if ((decide (i2 < ((s).length : Int))) : Bool) then
   if 0 ≤ i2 ∧ i2 < (((s).length : Nat) : Int) then
   (r27_nibble ((s.getD i2.toNat 0).toNat : Int)).bind fun yL1_4 =>
   if 0 ≤ (IntKind.wrap .i64 (i2 + 1)) ∧ (IntKind.wrap .i64 (i2 + 1)) < (((s).length : Nat) : Int) then
   (r27_nibble ((s.getD ((IntKind.wrap .i64 (i2 + 1))).toNat 0).toNat : Int)).bind fun yL1_7 =>
   if (out).length + ((strI ([(IntKind.wrap .u8 ((IntKind.wrap .u8 (yL1_4 * 16)) + yL1_7))] : List (Int)))).length ≤ 9223372036854775807 then
   r27_bytes_l1 s  fuel (out ++ (strI ([(IntKind.wrap .u8 ((IntKind.wrap .u8 (yL1_4 * 16)) + yL1_7))] : List (Int)))) (IntKind.wrap .i64 (i2 + 2))
   else none
   else none
   else none
  else
   some (out, true)
def r27_bytes_l0 (s : List UInt8)  : Nat → (Int) → Option ((List UInt8) × (Bool))
 | 0, _ => none
 | fuel + 1, i =>
  if ((decide (i < ((s).length : Int))) : Bool) then
   if 0 ≤ i ∧ i < (((s).length : Nat) : Int) then
   if ((decide (48 ≤ ((s.getD i.toNat 0).toNat : Int))) : Bool) then
    if ((decide (((s.getD i.toNat 0).toNat : Int) ≤ 57)) : Bool) then
     r27_bytes_l0 s  fuel (IntKind.wrap .i64 (i + 1))
    else
     if ((decide (97 ≤ ((s.getD i.toNat 0).toNat : Int))) : Bool) then
      if ((!(decide (((s.getD i.toNat 0).toNat : Int) ≤ 102))) : Bool) then
       some ([], false)
      else
       r27_bytes_l0 s  fuel (IntKind.wrap .i64 (i + 1))
     else
      some ([], false)
   else
    if ((decide (97 ≤ ((s.getD i.toNat 0).toNat : Int))) : Bool) then
     if ((!(decide (((s.getD i.toNat 0).toNat : Int) ≤ 102))) : Bool) then
      some ([], false)
     else
      r27_bytes_l0 s  fuel (IntKind.wrap .i64 (i + 1))
    else
     some ([], false)
   else none
  else
   r27_bytes_l1 s  big ([]) 0
def r27_bytes (s : List UInt8) : Option ((List UInt8) × (Bool)) :=
 if ((s == ([45] : List UInt8)) : Bool) then
  some ([], true)
 else
  if ((s == []) : Bool) then
   some ([], false)
  else
   if (((Int.tmod ((s).length : Int) 2) == 1) : Bool) then
    some ([], false)
   else
    r27_bytes_l0 s  big 0
theorem r27_bytes_l1_ok {w0 : World} {W : Nat → Prop} {μ0 : Emb} (hμ : ∀ c p, μ0 c = some p → c < 0) (s : List UInt8) : ∀ (fuel : Nat) (out : List UInt8) (i2 : Int) (r : (List UInt8) × (Bool)), r27_bytes_l1 s  fuel out i2 = some r → kont Tryz.prog w0 W μ0 (FnPost Tryz.prog Tryz.f76 0 0 (r27_bytes_v r) []) (kAt (bodyOf Tryz.f76) 1) none (r27_bytes_T1 s out i2) (r27_bytes_H1 s out i2) := by
 intro fuel
 induction fuel with
 | zero => intro out i2 r h; rw [r27_bytes_l1] at h; cases h
 | succ fuel ih =>
  intro out i2 r h
  rw [r27_bytes_l1] at h
  rcases itb_some h with ⟨C1, h⟩ | ⟨C1, h⟩
  ·obtain ⟨G2, h⟩ := guard_some h
   obtain ⟨yL1_4, E3, h⟩ := bind_some h
   obtain ⟨G5, h⟩ := guard_some h
   obtain ⟨yL1_7, E6, h⟩ := bind_some h
   obtain ⟨G8, h⟩ := guard_some h
   exact rt_ hμ [] 23 [.go, .reg [(3, hT)], .reg [(4, hC (r27_nibble_v yL1_4)), (10, hC (r27_nibble_v yL1_7)), (12, { os := [(0, .gr 1 (([(IntKind.wrap .u8 ((IntKind.wrap .u8 (yL1_4 * 16)) + yL1_7))] : List (Int))).length (rowF (cInt .u8) default ([(IntKind.wrap .u8 ((IntKind.wrap .u8 (yL1_4 * 16)) + yL1_7))] : List (Int))))], v := some (.gs 0 (([(IntKind.wrap .u8 ((IntKind.wrap .u8 (yL1_4 * 16)) + yL1_7))] : List (Int))).length), fz := true }), (13, { v := some (.str (strI ([(IntKind.wrap .u8 ((IntKind.wrap .u8 (yL1_4 * 16)) + yL1_7))] : List (Int)))) })], .reg []]
    (a_ (r1_ (r2_ (f_ C1 tr))) (a_ (r1_ (r2_ (a_ (a_ G2 tr) (a_ (a_ (a_ (r27_nibble_tri ((s.getD i2.toNat 0).toNat : Int) yL1_4 E3) tr) tr) (r4_ (a_ (a_ G5 tr) (a_ (a_ (a_ (r27_nibble_tri ((s.getD ((IntKind.wrap .i64 (i2 + 1))).toNat 0).toNat : Int) yL1_7 E6) tr) tr) (r1_ (a_ (a_ (a_ (a_ (Eq.refl true) (a_ (Eq.refl 1) (a_ (lt_ 0 1 rfl) (le_ 1 16777216 rfl)))) (a_ (le_sl_gs 0 1 (some 1) rfl) (a_ (sub_lit (cInt .u8) default 1 (fun _ => rfl) ([(IntKind.wrap .u8 ((IntKind.wrap .u8 (yL1_4 * 16)) + yL1_7))] : List (Int))) tr))) (a_ (Nat.le_refl (([(IntKind.wrap .u8 ((IntKind.wrap .u8 (yL1_4 * 16)) + yL1_7))] : List (Int))).length) (fz_row (enc := (cInt .u8)) (d := default) (fun _ => rfl) ([(IntKind.wrap .u8 ((IntKind.wrap .u8 (yL1_4 * 16)) + yL1_7))] : List (Int))))) (a_ (a_ (a_ (Eq.refl 1) (str_ob ([(IntKind.wrap .u8 ((IntKind.wrap .u8 (yL1_4 * 16)) + yL1_7))] : List (Int)))) (a_ (le_str ([(IntKind.wrap .u8 ((IntKind.wrap .u8 (yL1_4 * 16)) + yL1_7))] : List (Int))) tr)) (a_ (a_ G8 tr) (r1_ tr)))))))))))) (a_ (r1_ (r2_ tr)) tr))) (ih _ _ r h) trivial
  ·obtain rfl := si_ h
   exact rr_ [] 19 [.go, .reg [(3, hF)], .reg []]
    (a_ (a_ (r1_ (r2_ (f_ C1 tr))) (a_ (r1_ (r2_ tr)) tr)) tr)
theorem r27_bytes_l0_ok {w0 : World} {W : Nat → Prop} {μ0 : Emb} (hμ : ∀ c p, μ0 c = some p → c < 0) (s : List UInt8) : ∀ (fuel : Nat) (i : Int) (r : (List UInt8) × (Bool)), r27_bytes_l0 s  fuel i = some r → kont Tryz.prog w0 W μ0 (FnPost Tryz.prog Tryz.f76 0 0 (r27_bytes_v r) []) (kAt (bodyOf Tryz.f76) 0) none (r27_bytes_T0 s i) (r27_bytes_H0 s i) := by
 intro fuel
 induction fuel with
 | zero => intro i r h; rw [r27_bytes_l0] at h; cases h
 | succ fuel ih =>
  intro i r h
  rw [r27_bytes_l0] at h
  rcases itb_some h with ⟨C1, h⟩ | ⟨C1, h⟩
  ·obtain ⟨G2, h⟩ := guard_some h
   rcases itb_some h with ⟨C3, h⟩ | ⟨C3, h⟩
   ·rcases itb_some h with ⟨C4, h⟩ | ⟨C4, h⟩
    ·exact rt_ hμ [] 26 [.go, .reg [(3, hT)], .reg [(4, hT), (10, hT)], .reg []]
      (a_ (r1_ (r2_ (f_ C1 tr))) (a_ (r2_ (a_ (a_ G2 tr) (r1_ (f_ C3 (r2_ (a_ (a_ G2 tr) (r2_ (f_ C4 (t2_ (t8_ (r2_ tr))))))))))) (a_ (r1_ (r2_ tr)) tr))) (ih _ r h) trivial
    ·rcases itb_some h with ⟨C5, h⟩ | ⟨C5, h⟩
     ·rcases itb_some h with ⟨C6, h⟩ | ⟨C6, h⟩
      ·obtain rfl := si_ h
       exact rr_ [] 25 [.go, .reg [(3, hT)], .reg [(4, hT), (10, hF), (15, hT), (22, hT)], .reg []]
        (a_ (a_ (r1_ (r2_ (f_ C1 tr))) (a_ (r2_ (a_ (a_ G2 tr) (r1_ (f_ C3 (r2_ (a_ (a_ G2 tr) (r2_ (f_ C4 (r2_ (a_ (a_ G2 tr) (r1_ (f_ C5 (r2_ (a_ (a_ G2 tr) (r1_ (r2_ (f_ C6 tr))))))))))))))))) (a_ (r2_ tr) tr))) tr)
      ·exact rt_ hμ [] 26 [.go, .reg [(3, hT)], .reg [(4, hT), (10, hF), (15, hT), (22, hF)], .reg []]
        (a_ (r1_ (r2_ (f_ C1 tr))) (a_ (r2_ (a_ (a_ G2 tr) (r1_ (f_ C3 (r2_ (a_ (a_ G2 tr) (r2_ (f_ C4 (r2_ (a_ (a_ G2 tr) (r1_ (f_ C5 (r2_ (a_ (a_ G2 tr) (r1_ (r2_ (f_ C6 tr))))))))))))))))) (a_ (r1_ (r2_ tr)) tr))) (ih _ r h) trivial
     ·obtain rfl := si_ h
      exact rr_ [] 25 [.go, .reg [(3, hT)], .reg [(4, hT), (10, hF), (15, hF)], .reg []]
       (a_ (a_ (r1_ (r2_ (f_ C1 tr))) (a_ (r2_ (a_ (a_ G2 tr) (r1_ (f_ C3 (r2_ (a_ (a_ G2 tr) (r2_ (f_ C4 (r2_ (a_ (a_ G2 tr) (r1_ (f_ C5 (t4_ (r1_ (r2_ tr))))))))))))))) (a_ (r2_ tr) tr))) tr)
   ·rcases itb_some h with ⟨C4, h⟩ | ⟨C4, h⟩
    ·rcases itb_some h with ⟨C5, h⟩ | ⟨C5, h⟩
     ·obtain rfl := si_ h
      exact rr_ [] 25 [.go, .reg [(3, hT)], .reg [(4, hF), (15, hT), (22, hT)], .reg []]
       (a_ (a_ (r1_ (r2_ (f_ C1 tr))) (a_ (r2_ (a_ (a_ G2 tr) (r1_ (f_ C3 (t4_ (r4_ (a_ (a_ G2 tr) (r1_ (f_ C4 (r2_ (a_ (a_ G2 tr) (r1_ (r2_ (f_ C5 tr)))))))))))))) (a_ (r2_ tr) tr))) tr)
     ·exact rt_ hμ [] 26 [.go, .reg [(3, hT)], .reg [(4, hF), (15, hT), (22, hF)], .reg []]
       (a_ (r1_ (r2_ (f_ C1 tr))) (a_ (r2_ (a_ (a_ G2 tr) (r1_ (f_ C3 (t4_ (r4_ (a_ (a_ G2 tr) (r1_ (f_ C4 (r2_ (a_ (a_ G2 tr) (r1_ (r2_ (f_ C5 tr)))))))))))))) (a_ (r1_ (r2_ tr)) tr))) (ih _ r h) trivial
    ·obtain rfl := si_ h
     exact rr_ [] 25 [.go, .reg [(3, hT)], .reg [(4, hF), (15, hF)], .reg []]
      (a_ (a_ (r1_ (r2_ (f_ C1 tr))) (a_ (r2_ (a_ (a_ G2 tr) (r1_ (f_ C3 (t4_ (r4_ (a_ (a_ G2 tr) (r1_ (f_ C4 (t4_ (r1_ (r2_ tr)))))))))))) (a_ (r2_ tr) tr))) tr)
  ·exact rt_ hμ [] 22 [.go, .reg [(3, hF)], .reg []]
    (a_ (r1_ (r2_ (f_ C1 tr))) (a_ (r1_ tr) tr)) (r27_bytes_l1_ok hμ s  big _ _ r h) trivial
theorem r27_bytes_ok (s : List UInt8) (r : (List UInt8) × (Bool)) (h : r27_bytes s = some r) : ∀ σ, Inj 0 σ → FnTri Tryz.prog 76 (renL σ [.str s]) (preOf σ 0 []) ((r27_bytes_v r).ren σ) (upOf σ []) := by
 refine fo_ Tryz.func76 trivial trivial ?_
 intro w0 W μ0 hμ
 unfold r27_bytes at h
 rcases itb_some h with ⟨c1, h⟩ | ⟨c1, h⟩
 ·obtain rfl := si_ h
  exact rr_ [] 20 [.reg [], .reg [(1, hT)], .reg []]
   (a_ (a_ (r2_ tr) (a_ (r1_ (f_ c1 tr)) (a_ (r2_ tr) tr))) tr)
 ·rcases itb_some h with ⟨c2, h⟩ | ⟨c2, h⟩
  ·obtain rfl := si_ h
   exact rr_ [] 26 [.reg [], .reg [(1, hF)], .reg [(2, hT)], .reg []]
    (a_ (a_ (r2_ tr) (a_ (r1_ (f_ c1 tr)) (a_ (r2_ (f_ c2 (t4_ (r1_ tr)))) (a_ (r2_ tr) tr)))) tr)
  ·rcases itb_some h with ⟨c3, h⟩ | ⟨c3, h⟩
   ·obtain rfl := si_ h
    exact rr_ [] 26 [.reg [], .reg [(1, hF)], .reg [(2, hF), (7, hT)], .reg []]
     (a_ (a_ (r2_ tr) (a_ (r1_ (f_ c1 tr)) (a_ (r2_ (f_ c2 (r2_ (a_ (a_ (ne0 2 rfl) tr) (r1_ (f_ c3 tr)))))) (a_ (r2_ tr) tr)))) tr)
   ·exact rt_ hμ [] 33 [.reg [], .reg [(1, hF)], .reg [(2, hF), (7, hF)], .reg [], .reg []]
     (a_ (r2_ tr) (a_ (r1_ (f_ c1 tr)) (a_ (r2_ (f_ c2 (r2_ (a_ (a_ (ne0 2 rfl) tr) (r1_ (f_ c3 tr)))))) (a_ (r1_ tr) (a_ (r1_ tr) tr))))) (r27_bytes_l0_ok hμ s  big _ r h) trivial
theorem r27_bytes_tri (s : List UInt8) (r : (List UInt8) × (Bool)) (h : r27_bytes s = some r) : FnTri Tryz.prog 76 [.str s] [] (r27_bytes_v r) [] := FnTri.none (r27_bytes_ok s r h) rfl rfl
/-- parrel/parrelref27.text -/
def r27_text_v (r : (List UInt8)) : LV := .str r
def r27_text (s : List UInt8) : Option ((List UInt8)) :=
 (r27_bytes s).bind fun y2 =>
 some y2.1
theorem r27_text_ok (s : List UInt8) (r : (List UInt8)) (h : r27_text s = some r) : ∀ σ, Inj 0 σ → FnTri Tryz.prog 46 (renL σ [.str s]) (preOf σ 0 []) ((r27_text_v r).ren σ) (upOf σ []) := by
 refine fo_ Tryz.func46 trivial trivial ?_
 intro w0 W μ0 hμ
 unfold r27_text at h
 obtain ⟨y2, e1, h⟩ := bind_some h
 obtain rfl := si_ h
 exact rr_ [] 18 [.reg [], .reg [(1, hC (r27_bytes_v y2))], .reg []]
  (a_ (a_ (r1_ tr) (a_ (r1_ (c_ (r27_bytes_tri s y2 e1) (r1_ (r4_ tr)))) (a_ (r2_ tr) tr))) tr)
theorem r27_text_tri (s : List UInt8) (r : (List UInt8)) (h : r27_text s = some r) : FnTri Tryz.prog 46 [.str s] [] (r27_text_v r) [] := FnTri.none (r27_text_ok s r h) rfl rfl
end
end Go.Proofs.YtdchgoaokceomaaGreatDoor.Wk
