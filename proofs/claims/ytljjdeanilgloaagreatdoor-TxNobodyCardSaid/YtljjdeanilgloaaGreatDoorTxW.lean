import Derived.Test.YtljjdeanilgloaaGreatDoorTxWb
namespace Go.Proofs.YtljjdeanilgloaaGreatDoor.Wk
open Go Go.Cn Go.RowKit
set_option maxRecDepth 100000
set_option maxHeartbeats 4000000
set_option linter.unusedVariables false
set_option linter.unusedSimpArgs false
noncomputable section
def Al_v (r : Unit) : LV := .tup [.bool false, .int .i64 2]
def Al_c12 (y11 : I_ × (Int) × (Cl)) : Option (Unit) :=
 (CH y11.1 y11.2.1 (Ce.mk y11.2.2.f_Node y11.2.2.f_Reg y11.2.2.f_Item)).bind fun y2 =>
 some ()
def Al (a : Ci) : Option (Unit) :=
 if (((Int.tmod a.f_Kind 6) == 0) : Bool) then
  (Bw a.f_Key a.f_Mode a.f_Conf ([] : H_)).bind fun y3 =>
  some ()
 else
  if (((Int.tmod a.f_Kind 6) == 1) : Bool) then
   (Bw a.f_Key a.f_Mode a.f_Conf ([a.f_More] : H_)).bind fun y4 =>
   some ()
  else
   if (((Int.tmod a.f_Kind 6) == 3) : Bool) then
    (CT a.f_Key a.f_Text).bind fun y5 =>
    some ()
   else
    if (((Int.tmod a.f_Kind 6) == 4) : Bool) then
     (CQ a.f_Key a.f_Conf).bind fun y6 =>
     some ()
    else
     (Bt).bind fun y7 =>
     (CG).bind fun y9 =>
     (As a y9 y7 0).bind fun y11 =>
     Al_c12 y11
abbrev Al_K1000012 (w0 : World) (W : Nat → Prop) (μ0 : Emb) (y11 : I_ × (Int) × (Cl)) (r : Unit) : Prop := Kt_ w0 W μ0 Tryz.f9 0 0 (Al_v r) [] (kAtR (bodyOf Tryz.f9) 12) (.nilptr :: n_ 5 ((.ptr 0 0 0) :: (.int .u8 y11.2.1) :: .any :: (.ptr 1 0 0) :: n_ 71 [])) [some (.var [.int .u8 y11.1.a0, .int .u8 y11.1.a1, .int .u8 y11.1.a2, .int .u8 y11.1.a3, .int .u8 y11.1.a4, .int .u8 y11.1.a5, .int .u8 y11.1.a6, .int .u8 y11.1.a7]), some (.var (c_Cl y11.2.2))]
theorem Al_c12_ok {w0 W μ0} (hμ : Lt_ μ0 0) (y11 : I_ × (Int) × (Cl)) (r : Unit) (h : Al_c12 y11 = some r) : Al_K1000012 w0 W μ0 y11 r := by
 unfold Al_c12 at h
 obtain ⟨y2, E1, h⟩ := bs_ h
 obtain rfl := si_ h
 exact rr_ [] 11 [.reg [(10, hC (CH_v y2))]]
  (a_ (a_ (r1_ (m_ 8 8 rfl (r2_ (l_ 0 16 rfl (r1_ (m_ 3 16 rfl (r1_ (m_ 16 16 rfl (a_ (a_ (Eq.refl true) tr) (a_ (a_ (a_ (CH_tri y11.1 y11.2.1 (Ce.mk y11.2.2.f_Node y11.2.2.f_Reg y11.2.2.f_Item) y2 E1) tr) tr) (r4_ tr))))))))))) tr) tr)
theorem Al_ok (a : Ci) (r : Unit) (h : Al a = some r) : ∀ σ, Inj 0 σ → FnTri Tryz.prog 9 (renL σ [.nilptr, v_Ci a]) (preOf σ 0 []) ((Al_v r).ren σ) (upOf σ []) := by
 refine fo_ Tryz.func9 trivial trivial ?_
 intro w0 W μ0 hμ
 unfold Al at h
 rcases it_ h with ⟨c1, h⟩ | ⟨c1, h⟩
 ·obtain ⟨y3, e2, h⟩ := bs_ h
  obtain rfl := si_ h
  exact rr_ [] 24 [.reg [], .reg [], .reg [(1, hT)], .reg [(7, { call := some (Bw_v y3, [], []), cargs := some [.nilptr, .agg [.int .u8 a.f_Key.a0, .int .u8 a.f_Key.a1, .int .u8 a.f_Key.a2, .int .u8 a.f_Key.a3, .int .u8 a.f_Key.a4, .int .u8 a.f_Key.a5, .int .u8 a.f_Key.a6, .int .u8 a.f_Key.a7], .int .u8 a.f_Mode, v_Ca a.f_Conf, .ds 11 (([] : H_)).length (rowF c_Ca default ([] : H_))] })]]
   (a_ (a_ (r1_ (r2_ tr)) (a_ (r1_ (l_ 0 49 rfl (a_ (a_ (ne0 6 rfl) tr) tr))) (a_ (r1_ (f_ c1 tr)) (a_ (r2_ (m_ 9 49 rfl (r1_ (l_ 9 49 rfl (r1_ (m_ 21 49 rfl (a_ (a_ (a_ (Bw_tri a.f_Key a.f_Mode a.f_Conf ([] : H_) y3 e2) (a_ (a_ (vl_ (.nilptr)) (a_ (vl_ (.agg [.int .u8 a.f_Key.a0, .int .u8 a.f_Key.a1, .int .u8 a.f_Key.a2, .int .u8 a.f_Key.a3, .int .u8 a.f_Key.a4, .int .u8 a.f_Key.a5, .int .u8 a.f_Key.a6, .int .u8 a.f_Key.a7])) (a_ (vl_ (.int .u8 a.f_Mode)) (a_ (vl_ (v_Ca a.f_Conf)) (a_ (le_nil_ds 11 (rowF c_Ca default [])) tr))))) tr)) tr) (r2_ tr)))))))) tr)))) tr)
 ·rcases it_ h with ⟨c2, h⟩ | ⟨c2, h⟩
  ·obtain ⟨y4, e3, h⟩ := bs_ h
   obtain rfl := si_ h
   exact rr_ [] 28 [.reg [], .reg [], .reg [(1, hF)], .reg [(1, hT)], .reg [(9, { os := [(1, .gr 11 (([a.f_More] : H_)).length (rowF c_Ca default ([a.f_More] : H_)))], v := some (.gs 1 (([a.f_More] : H_)).length), fz := true }), (10, hC (Bw_v y4))]]
    (a_ (a_ (r1_ (r2_ tr)) (a_ (r1_ (l_ 0 49 rfl (a_ (a_ (ne0 6 rfl) tr) tr))) (a_ (r1_ (f_ c1 tr)) (a_ (r1_ (f_ c2 tr)) (a_ (r2_ (m_ 9 49 rfl (r1_ (l_ 9 49 rfl (r1_ (m_ 21 49 rfl (r1_ (m_ 32 49 rfl (a_ (a_ (a_ (a_ (Eq.refl true) (a_ (Eq.refl 11) (a_ (lt_ 0 11 rfl) (le_ 11 16777216 rfl)))) (a_ (le_sl_gs 1 1 (some 1) rfl) (a_ (sub_lit c_Ca default 11 (fun _ => rfl) ([a.f_More] : H_)) tr))) (a_ (Nat.le_refl (([a.f_More] : H_)).length) (fz_row (enc := c_Ca) (d := default) (fun _ => rfl) ([a.f_More] : H_)))) (a_ (a_ (a_ (Bw_tri a.f_Key a.f_Mode a.f_Conf ([a.f_More] : H_) y4 e3) tr) tr) (r2_ tr))))))))))) tr))))) tr)
  ·rcases it_ h with ⟨c3, h⟩ | ⟨c3, h⟩
   ·obtain ⟨y5, e4, h⟩ := bs_ h
    obtain rfl := si_ h
    exact rr_ [] 32 [.reg [], .reg [], .reg [(1, hF)], .reg [(1, hF)], .reg [(1, hT)], .reg [(5, hC (CT_v y5))]]
     (a_ (a_ (r1_ (r2_ tr)) (a_ (r1_ (l_ 0 49 rfl (a_ (a_ (ne0 6 rfl) tr) tr))) (a_ (r1_ (f_ c1 tr)) (a_ (r1_ (f_ c2 tr)) (a_ (r1_ (f_ c3 tr)) (a_ (r2_ (m_ 9 49 rfl (r1_ (l_ 48 49 rfl (c_ (CT_tri a.f_Key a.f_Text y5 e4) (r2_ tr)))))) tr)))))) tr)
   ·rcases it_ h with ⟨c4, h⟩ | ⟨c4, h⟩
    ·obtain ⟨y6, e5, h⟩ := bs_ h
     obtain rfl := si_ h
     exact rr_ [] 36 [.reg [], .reg [], .reg [(1, hF)], .reg [(1, hF)], .reg [(1, hF)], .reg [(1, hT)], .reg [(5, hC (CQ_v y6))]]
      (a_ (a_ (r1_ (r2_ tr)) (a_ (r1_ (l_ 0 49 rfl (a_ (a_ (ne0 6 rfl) tr) tr))) (a_ (r1_ (f_ c1 tr)) (a_ (r1_ (f_ c2 tr)) (a_ (r1_ (f_ c3 tr)) (a_ (r1_ (f_ c4 tr)) (a_ (r2_ (m_ 9 49 rfl (r1_ (m_ 21 49 rfl (c_ (CQ_tri a.f_Key a.f_Conf y6 e5) (r2_ tr)))))) tr))))))) tr)
    ·obtain ⟨y7, e5, h⟩ := bs_ h
     obtain ⟨y9, e8, h⟩ := bs_ h
     obtain ⟨y11, e10, h⟩ := bs_ h
     exact rt_ hμ [1, 2] 42 [.reg [], .reg [], .reg [(1, hF)], .reg [(1, hF)], .reg [(1, hF)], .reg [(1, hF)], .reg [(1, hC (Bt_v y7))], .reg [(2, hC (CG_v y9)), (5, hC (As_v y11))]]
      (a_ (r1_ (r2_ tr)) (a_ (r1_ (l_ 0 49 rfl (a_ (a_ (ne0 6 rfl) tr) tr))) (a_ (r1_ (f_ c1 tr)) (a_ (r1_ (f_ c2 tr)) (a_ (r1_ (f_ c3 tr)) (a_ (r1_ (f_ c4 tr)) (a_ (r1_ (c_ (Bt_tri y7 e5) (r1_ (r4_ (a_ (a_ (a_ (Eq.refl 8) (a_ (le_ 8 8 rfl) (Eq.refl 0))) tr) (r2_ tr)))))) (a_ (m_ 49 49 rfl (r1_ (c_ (CG_tri y9 e8) (m_ 8 8 rfl (r1_ (c_ (As_tri a y9 y7 0 y11 e10) (r1_ (r4_ (a_ (a_ (a_ (Eq.refl 8) (a_ (le_ 8 8 rfl) (Eq.refl 0))) tr) (r1_ (a_ (a_ (a_ (Eq.refl 16) (a_ (le_ 16 16 rfl) (Eq.refl 0))) tr) tr))))))))))) tr)))))))) (Al_c12_ok hμ y11 r h) ⟨rfl, rfl, trivial⟩
theorem Al_tri (a : Ci) (r : Unit) (h : Al a = some r) : FnTri Tryz.prog 9 [.nilptr, v_Ci a] [] (Al_v r) [] := FnTri.none (Al_ok a r h) rfl rfl
def CR_v (r : Unit) : LV := .nilptr
def CR (x_k : I_) : Option (Unit) :=
 (Ax).bind fun y2 =>
 some ()
theorem CR_ok (x_k : I_) (r : Unit) (h : CR x_k = some r) : ∀ σ, Inj 0 σ → FnTri Tryz.prog 28 (renL σ [.nilptr, .agg [.int .u8 x_k.a0, .int .u8 x_k.a1, .int .u8 x_k.a2, .int .u8 x_k.a3, .int .u8 x_k.a4, .int .u8 x_k.a5, .int .u8 x_k.a6, .int .u8 x_k.a7]]) (preOf σ 0 []) ((CR_v r).ren σ) (upOf σ []) := by
 refine fo_ Tryz.func28 trivial trivial ?_
 intro w0 W μ0 hμ
 unfold CR at h
 obtain ⟨y2, e1, h⟩ := bs_ h
 obtain rfl := si_ h
 exact rr_ [] 20 [.reg [], .reg [(1, hC (Ax_v y2))], .reg []]
  (a_ (a_ (r2_ tr) (a_ (r1_ (c_ (Ax_tri y2 e1) (r1_ tr))) (a_ (r1_ tr) tr))) tr)
theorem CR_tri (x_k : I_) (r : Unit) (h : CR x_k = some r) : FnTri Tryz.prog 28 [.nilptr, .agg [.int .u8 x_k.a0, .int .u8 x_k.a1, .int .u8 x_k.a2, .int .u8 x_k.a3, .int .u8 x_k.a4, .int .u8 x_k.a5, .int .u8 x_k.a6, .int .u8 x_k.a7]] [] (CR_v r) [] := FnTri.none (CR_ok x_k r h) rfl rfl
def AY_v (r : (Cj) × (Bool)) : LV := .tup [v_Cj r.1, .bool r.2]
def AY_l0 (y2 : F_) : Nat → (Int) → (List (Cj)) → Option ((Cj) × (Bool))
 | 0, _, _ => none
 | fuel + 1, t10, l =>
  if ((decide (t10 < ((y2).length : Int))) : Bool) then
   if 0 ≤ t10 ∧ t10 < (((y2).length : Nat) : Int) then
   if ((l).length + (([(y2.getD t10.toNat default).f_Item] : List (Cj))).length) * 40 ≤ 140737488351232 then
   AY_l0 y2 fuel (IntKind.wrap .i64 (t10 + 1)) (l ++ ([(y2.getD t10.toNat default).f_Item] : List (Cj)))
   else none
   else none
  else
   (BN l).bind fun y3 =>
   some (y3.1, y3.2)
def AY : Option ((Cj) × (Bool)) :=
 (BA).bind fun y2 =>
 AY_l0 y2 big 0 ([] : List (Cj))
abbrev AY_K0 (w0 : World) (W : Nat → Prop) (μ0 : Emb) (y2 : F_) (t10 : Int) (l : List (Cj)) (r : (Cj) × (Bool)) : Prop := Kt_ w0 W μ0 Tryz.f29 0 0 (AY_v r) [] (kAt (bodyOf Tryz.f29) 0) (.any :: .any :: (.ptr 0 0 0) :: .any :: (.gs 1 (l).length) :: .any :: .any :: .any :: (.ds 16 (y2).length (rowF c_Ce default y2)) :: (.int .i64 ((y2).length : Int)) :: (.int .i64 t10) :: n_ 13 []) [some (.var (c_Cj (Cj.mk 0 [] z2_))), some (.gr 13 (l).length (rowF c_Cj default l))]
theorem AY_l0_ok {w0 W μ0} (hμ : Lt_ μ0 0) (y2 : F_) : ∀ (fuel : Nat) (t10 : Int) (l : List (Cj)) (r : (Cj) × (Bool)), AY_l0 y2 fuel t10 l = some r → AY_K0 w0 W μ0 y2 t10 l r := by
 intro fuel
 induction fuel with
 | zero => intro t10 l r h; rw [AY_l0] at h; cases h
 | succ fuel ih =>
  intro t10 l r h
  rw [AY_l0] at h
  rcases it_ h with ⟨C1, h⟩ | ⟨C1, h⟩
  ·obtain ⟨G2, h⟩ := gs_ h
   obtain ⟨G3, h⟩ := gs_ h
   exact rt_ hμ [0, 4] 26 [.go, .reg [(0, hT)], .reg [], .reg [(3, { os := [(3, .gr 13 (([(y2.getD t10.toNat default).f_Item] : List (Cj))).length (rowF c_Cj default ([(y2.getD t10.toNat default).f_Item] : List (Cj))))], v := some (.gs 3 (([(y2.getD t10.toNat default).f_Item] : List (Cj))).length) }), (4, { app := 3, os := [(4, .gr 13 ((l ++ ([(y2.getD t10.toNat default).f_Item] : List (Cj)))).length (rowF c_Cj default (l ++ ([(y2.getD t10.toNat default).f_Item] : List (Cj)))))], v := some (.gs 4 ((l ++ ([(y2.getD t10.toNat default).f_Item] : List (Cj)))).length) })], .reg []]
    (a_ (f_ C1 tr) (a_ (a_ (a_ (a_ (Eq.refl 16) G2) tr) (a_ (a_ (le_ 16 16 rfl) tr) (r1_ (a_ (a_ (a_ (Eq.refl 16) (a_ (le_ 16 16 rfl) (Eq.refl 0))) tr) tr)))) (a_ (r2_ (m_ 16 16 rfl (a_ (a_ (a_ (Eq.refl true) (a_ (Eq.refl 13) (a_ (lt_ 0 13 rfl) (le_ 13 16777216 rfl)))) (a_ (le_sl_gs 3 1 (some 1) rfl) (a_ (sub_lit c_Cj default 13 (fun _ => rfl) ([(y2.getD t10.toNat default).f_Item] : List (Cj))) tr))) (a_ (a_ (a_ (a_ (Eq.refl 13) (Nat.le_refl (([(y2.getD t10.toNat default).f_Item] : List (Cj))).length)) (a_ (a_ (lt_ 0 13 rfl) (a_ (lt_ 0 40 rfl) (a_ G3 (a_ (Eq.refl 13) (Eq.refl true))))) (a_ (Eq.refl 13) (Nat.le_refl (l).length)))) (a_ (le_gs_app 4 l ([(y2.getD t10.toNat default).f_Item] : List (Cj))) (a_ (sub_app c_Cj default 13 l ([(y2.getD t10.toNat default).f_Item] : List (Cj))) tr))) (r1_ tr))))) (a_ (r2_ tr) tr)))) (ih _ _ r h) ⟨rfl, fun _ _ => rfl, trivial⟩
  ·obtain ⟨y3, E2, h⟩ := bs_ h
   obtain rfl := si_ h
   exact rr_ [] 20 [.go, .reg [(0, hF)], .frz 1, .reg [(1, hC (BN_v y3))]]
    (a_ (a_ (f_ C1 tr) (a_ (a_ (fz_row (enc := c_Cj) (d := default) (fun _ => rfl) l) (a_ (Nat.le_refl (l).length) tr)) (a_ (r1_ (c_ (BN_tri l y3 E2) (r2_ (a_ (a_ (a_ (Eq.refl 13) (a_ (le_ 13 13 rfl) (Eq.refl 0))) tr) (r1_ tr))))) tr))) (a_ (a_ tr (le_ 13 13 rfl)) tr))
theorem AY_ok (r : (Cj) × (Bool)) (h : AY = some r) : ∀ σ, Inj 0 σ → FnTri Tryz.prog 29 (renL σ [.nilptr]) (preOf σ 0 []) ((AY_v r).ren σ) (upOf σ []) := by
 refine fo_ Tryz.func29 trivial trivial ?_
 intro w0 W μ0 hμ
 unfold AY at h
 obtain ⟨y2, e1, h⟩ := bs_ h
 exact rt_ hμ [0, 1] 22 [.reg [], .void (.gr 13 (([] : List (Cj))).length (rowF c_Cj default ([] : List (Cj)))), .reg [(0, hv_ (.gs 1 (([] : List (Cj))).length))], .reg [(1, hC (BA_v y2))]]
  (a_ (r2_ tr) (a_ (Eq.refl 0) (a_ (a_ (a_ tr (a_ (le_nil_gs 1) tr)) tr) (a_ (r1_ (c_ (BA_tri y2 e1) (r2_ tr))) tr)))) (AY_l0_ok hμ y2 big _ _ r h) ⟨rfl, fun _ _ => rfl, trivial⟩
theorem AY_tri (r : (Cj) × (Bool)) (h : AY = some r) : FnTri Tryz.prog 29 [.nilptr] [] (AY_v r) [] := FnTri.none (AY_ok r h) rfl rfl
def Br_v (r : (Cj) × (Bool)) : LV := .tup [v_Cj r.1, .bool r.2]
def Br (x_k : I_) : Option ((Cj) × (Bool)) :=
 (CR x_k).bind fun y2 =>
 (AY).bind fun y4 =>
 some (y4.1, y4.2)
theorem Br_ok (x_k : I_) (r : (Cj) × (Bool)) (h : Br x_k = some r) : ∀ σ, Inj 0 σ → FnTri Tryz.prog 13 (renL σ [.nilptr, .agg [.int .u8 x_k.a0, .int .u8 x_k.a1, .int .u8 x_k.a2, .int .u8 x_k.a3, .int .u8 x_k.a4, .int .u8 x_k.a5, .int .u8 x_k.a6, .int .u8 x_k.a7]]) (preOf σ 0 []) ((Br_v r).ren σ) (upOf σ []) := by
 refine fo_ Tryz.func13 trivial trivial ?_
 intro w0 W μ0 hμ
 unfold Br at h
 obtain ⟨y2, e1, h⟩ := bs_ h
 obtain ⟨y4, e3, h⟩ := bs_ h
 obtain rfl := si_ h
 exact rr_ [] 15 [.reg [], .reg [(2, hC (CR_v y2)), (3, hC (AY_v y4))]]
  (a_ (a_ (r1_ (r2_ tr)) (a_ (r1_ (m_ 8 8 rfl (c_ (CR_tri x_k y2 e1) (c_ (AY_tri y4 e3) (r2_ (a_ (a_ (a_ (Eq.refl 13) (a_ (le_ 13 13 rfl) (Eq.refl 0))) tr) (r1_ tr))))))) tr)) (a_ (a_ tr (le_ 13 13 rfl)) tr))
theorem Br_tri (x_k : I_) (r : (Cj) × (Bool)) (h : Br x_k = some r) : FnTri Tryz.prog 13 [.nilptr, .agg [.int .u8 x_k.a0, .int .u8 x_k.a1, .int .u8 x_k.a2, .int .u8 x_k.a3, .int .u8 x_k.a4, .int .u8 x_k.a5, .int .u8 x_k.a6, .int .u8 x_k.a7]] [] (Br_v r) [] := FnTri.none (Br_ok x_k r h) rfl rfl
def Bj_v (r : J_) : LV := .tup [.str r, .bool false]
def Bj (x_k : I_) : Option (J_) :=
 (Ax).bind fun y2 =>
 some []
theorem Bj_ok (x_k : I_) (r : J_) (h : Bj x_k = some r) : ∀ σ, Inj 0 σ → FnTri Tryz.prog 10 (renL σ [.nilptr, .agg [.int .u8 x_k.a0, .int .u8 x_k.a1, .int .u8 x_k.a2, .int .u8 x_k.a3, .int .u8 x_k.a4, .int .u8 x_k.a5, .int .u8 x_k.a6, .int .u8 x_k.a7]]) (preOf σ 0 []) ((Bj_v r).ren σ) (upOf σ []) := by
 refine fo_ Tryz.func10 trivial trivial ?_
 intro w0 W μ0 hμ
 unfold Bj at h
 obtain ⟨y2, e1, h⟩ := bs_ h
 obtain rfl := si_ h
 exact rr_ [] 20 [.reg [], .reg [(1, hC (Ax_v y2))], .reg []]
  (a_ (a_ (r1_ (r2_ tr)) (a_ (r1_ (c_ (Ax_tri y2 e1) (r1_ tr))) (a_ (r2_ tr) tr))) tr)
theorem Bj_tri (x_k : I_) (r : J_) (h : Bj x_k = some r) : FnTri Tryz.prog 10 [.nilptr, .agg [.int .u8 x_k.a0, .int .u8 x_k.a1, .int .u8 x_k.a2, .int .u8 x_k.a3, .int .u8 x_k.a4, .int .u8 x_k.a5, .int .u8 x_k.a6, .int .u8 x_k.a7]] [] (Bj_v r) [] := FnTri.none (Bj_ok x_k r h) rfl rfl
def CJ_v (r : (Cc)) : LV := .tup [v_Cc r, .bool false]
def CJ (node : Int) : Option ((Cc)) :=
 (Ax).bind fun y2 =>
 some (Cc.mk 0 0)
theorem CJ_ok (node : Int) (r : (Cc)) (h : CJ node = some r) : ∀ σ, Inj 0 σ → FnTri Tryz.prog 14 (renL σ [.nilptr, .int .u8 node]) (preOf σ 0 []) ((CJ_v r).ren σ) (upOf σ []) := by
 refine fo_ Tryz.func14 trivial trivial ?_
 intro w0 W μ0 hμ
 unfold CJ at h
 obtain ⟨y2, e1, h⟩ := bs_ h
 obtain rfl := si_ h
 exact rr_ [] 20 [.reg [], .reg [(1, hC (Ax_v y2))], .reg []]
  (a_ (a_ (r2_ tr) (a_ (r1_ (c_ (Ax_tri y2 e1) (r2_ (t2_ (r1_ tr))))) (a_ (a_ (a_ (Eq.refl true) tr) (a_ (a_ (a_ (Eq.refl 2) (a_ (le_ 2 2 rfl) (Eq.refl 0))) tr) (r1_ tr))) tr))) (a_ (a_ tr (le_ 2 2 rfl)) tr))
theorem CJ_tri (node : Int) (r : (Cc)) (h : CJ node = some r) : FnTri Tryz.prog 14 [.nilptr, .int .u8 node] [] (CJ_v r) [] := FnTri.none (CJ_ok node r h) rfl rfl
def Bk_v (r : (List (Ck)) × (List (Ch))) : LV := .tup [.ds 10 (r.1).length (rowF c_Ck default r.1), .ds 21 (r.2).length (rowF c_Ch default r.2)]
def Bk : Option ((List (Ck)) × (List (Ch))) :=
 (Ax).bind fun y2 =>
 some (([] : List (Ck)), ([] : List (Ch)))
theorem Bk_ok (r : (List (Ck)) × (List (Ch))) (h : Bk = some r) : ∀ σ, Inj 0 σ → FnTri Tryz.prog 15 (renL σ [.nilptr]) (preOf σ 0 []) ((Bk_v r).ren σ) (upOf σ []) := by
 refine fo_ Tryz.func15 trivial trivial ?_
 intro w0 W μ0 hμ
 unfold Bk at h
 obtain ⟨y2, e1, h⟩ := bs_ h
 obtain rfl := si_ h
 exact rr_ [] 20 [.reg [(0, hv_ (.ds 10 (([] : List (Ck))).length (rowF c_Ck default ([] : List (Ck))))), (1, hv_ (.ds 21 (([] : List (Ch))).length (rowF c_Ch default ([] : List (Ch)))))], .reg [(1, hC (Ax_v y2))], .reg [(0, hv_ (.ds 10 (([] : List (Ck))).length (rowF c_Ck default ([] : List (Ck))))), (1, hv_ (.ds 21 (([] : List (Ch))).length (rowF c_Ch default ([] : List (Ch)))))]]
  (a_ (a_ (a_ (a_ tr (a_ (le_nil_ds 10 (rowF c_Ck default [])) tr)) (a_ (a_ tr (a_ (le_nil_ds 21 (rowF c_Ch default [])) tr)) tr)) (a_ (r1_ (c_ (Ax_tri y2 e1) (r1_ tr))) (a_ (a_ (a_ tr (a_ (le_nil_ds 10 (rowF c_Ck default [])) tr)) (a_ (a_ tr (a_ (le_nil_ds 21 (rowF c_Ch default [])) tr)) tr)) tr))) tr)
theorem Bk_tri (r : (List (Ck)) × (List (Ch))) (h : Bk = some r) : FnTri Tryz.prog 15 [.nilptr] [] (Bk_v r) [] := FnTri.none (Bk_ok r h) rfl rfl
def Bz_v (r : Unit) : LV := .int .u8 0
def Bz (x_k : I_) : Option (Unit) :=
 (Ax).bind fun y2 =>
 some ()
theorem Bz_ok (x_k : I_) (r : Unit) (h : Bz x_k = some r) : ∀ σ, Inj 0 σ → FnTri Tryz.prog 11 (renL σ [.nilptr, .agg [.int .u8 x_k.a0, .int .u8 x_k.a1, .int .u8 x_k.a2, .int .u8 x_k.a3, .int .u8 x_k.a4, .int .u8 x_k.a5, .int .u8 x_k.a6, .int .u8 x_k.a7]]) (preOf σ 0 []) ((Bz_v r).ren σ) (upOf σ []) := by
 refine fo_ Tryz.func11 trivial trivial ?_
 intro w0 W μ0 hμ
 unfold Bz at h
 obtain ⟨y2, e1, h⟩ := bs_ h
 obtain rfl := si_ h
 exact rr_ [] 20 [.reg [], .reg [(1, hC (Ax_v y2))], .reg []]
  (a_ (a_ (r2_ tr) (a_ (r1_ (c_ (Ax_tri y2 e1) (r1_ tr))) (a_ (r1_ tr) tr))) tr)
theorem Bz_tri (x_k : I_) (r : Unit) (h : Bz x_k = some r) : FnTri Tryz.prog 11 [.nilptr, .agg [.int .u8 x_k.a0, .int .u8 x_k.a1, .int .u8 x_k.a2, .int .u8 x_k.a3, .int .u8 x_k.a4, .int .u8 x_k.a5, .int .u8 x_k.a6, .int .u8 x_k.a7]] [] (Bz_v r) [] := FnTri.none (Bz_ok x_k r h) rfl rfl
def CM_v (r : (Cd)) : LV := v_Cd r
def CM : Option ((Cd)) :=
 (Ax).bind fun y2 =>
 some z6_
theorem CM_ok (r : (Cd)) (h : CM = some r) : ∀ σ, Inj 0 σ → FnTri Tryz.prog 17 (renL σ [.nilptr]) (preOf σ 0 []) ((CM_v r).ren σ) (upOf σ []) := by
 refine fo_ Tryz.func17 trivial trivial ?_
 intro w0 W μ0 hμ
 unfold CM at h
 obtain ⟨y2, e1, h⟩ := bs_ h
 obtain rfl := si_ h
 exact rr_ [] 20 [.reg [], .reg [(1, hC (Ax_v y2))], .reg []]
  (a_ (a_ (r1_ tr) (a_ (r1_ (c_ (Ax_tri y2 e1) (r1_ tr))) (a_ (a_ (a_ (Eq.refl true) tr) (a_ (a_ (a_ (Eq.refl 4) (a_ (le_ 4 4 rfl) (Eq.refl 0))) tr) tr)) tr))) (a_ (a_ tr (le_ 4 4 rfl)) tr))
theorem CM_tri (r : (Cd)) (h : CM = some r) : FnTri Tryz.prog 17 [.nilptr] [] (CM_v r) [] := FnTri.none (CM_ok r h) rfl rfl
def Ab_v (r : Unit) : LV := .bool false
def Ab_up (r : Unit) : Upd := []
def Ab_objs (ti : Cd) (key : Cb) (re : D_) : List LO := [.row 33 1 (fun _ => (cT_60 ti .nilmap key .any re .nilmap .nilmap)) false]
def Ab (ti : Cd) (key : Cb) (re : D_) : Option (Unit) :=
 some ()
theorem Ab_ok (ti : Cd) (key : Cb) (re : D_) (r : Unit) (h : Ab ti key re = some r) : ∀ σ, Inj 1 σ → FnTri Tryz.prog 27 (renL σ [.ptr 0 0 0]) (preOf σ 0 (Ab_objs ti key re)) ((Ab_v r).ren σ) (upOf σ (Ab_up r)) := by
 refine fo_ Tryz.func27 ⟨fun _ _ => rfl, trivial⟩ trivial ?_
 intro w0 W μ0 hμ
 unfold Ab at h
 obtain rfl := si_ h
 exact rr_ [] 15 [.reg [], .reg []]
  (a_ (a_ (r1_ tr) (a_ (r2_ (r4_ (a_ (a_ (a_ (lt_ 0 1 rfl) (lt_ 4 33 rfl)) tr) (r1_ (r2_ tr))))) tr)) tr)
def Bg_v (r : Unit) : LV := .int .i64 2
def Bg_up (ti : Cd) (key : Cb) (re : D_) (r : Unit) : Upd := [(0, some (.var (cT_60 ti .nilmap key .nilptr re .nilmap .nilmap)))]
def Bg_objs (ti : Cd) (key : Cb) (re : D_) : List LO := [.var (cT_60 ti .nilmap key .nilptr re .nilmap .nilmap)]
def Bg (ti : Cd) (key : Cb) (re : D_) (x_k : I_) (mode : Int) (c : Ca) (more : H_) : Option (Unit) :=
 (Ab ti key re).bind fun y2 =>
 some ()
theorem Bg_ok (ti : Cd) (key : Cb) (re : D_) (x_k : I_) (mode : Int) (c : Ca) (more : H_) (r : Unit) (h : Bg ti key re x_k mode c more = some r) : ∀ σ, Inj 1 σ → FnTri Tryz.prog 20 (renL σ [.ptr 0 0 0, .agg [.int .u8 x_k.a0, .int .u8 x_k.a1, .int .u8 x_k.a2, .int .u8 x_k.a3, .int .u8 x_k.a4, .int .u8 x_k.a5, .int .u8 x_k.a6, .int .u8 x_k.a7], .int .u8 mode, v_Ca c, .ds 11 (more).length (rowF c_Ca default more)]) (preOf σ 0 (Bg_objs ti key re)) ((Bg_v r).ren σ) (upOf σ (Bg_up ti key re r)) := by
 refine fo_ Tryz.func20 ⟨rfl, trivial⟩ ⟨rfl, trivial⟩ ?_
 intro w0 W μ0 hμ
 unfold Bg at h
 obtain ⟨y2, e1, h⟩ := bs_ h
 obtain rfl := si_ h
 exact rr_ [] 21 [.reg [], .reg [(1, hk_ (hK_ [0] (Ab_v y2) (Ab_objs ti key re) (Ab_up y2)))], .reg []]
  (a_ (a_ (r1_ (r2_ tr)) (a_ (r1_ (a_ (a_ (a_ (Ab_ok ti key re y2 e1 (sel [0]) sj_) (a_ (LO.Le.ofVarL (lel_set (cT_60 ti .nilmap key .nilptr re .nilmap .nilmap) 14 (.nilptr) .any rfl (le_any _))) tr)) tr) (r2_ tr))) (a_ (r1_ tr) tr))) tr)
def Bb_v (r : Unit) : LV := .int .i64 2
def Bb_up (r : Unit) : Upd := []
def Bb_objs (ti : Cd) (key : Cb) (re : D_) : List LO := [.row 33 1 (fun _ => (cT_60 ti .nilmap key .any re .nilmap .nilmap)) false]
def Bb (ti : Cd) (key : Cb) (re : D_) (x_k : I_) : Option (Unit) :=
 (Ab ti key re).bind fun y2 =>
 some ()
theorem Bb_ok (ti : Cd) (key : Cb) (re : D_) (x_k : I_) (r : Unit) (h : Bb ti key re x_k = some r) : ∀ σ, Inj 1 σ → FnTri Tryz.prog 53 (renL σ [.ptr 0 0 0, .agg [.int .u8 x_k.a0, .int .u8 x_k.a1, .int .u8 x_k.a2, .int .u8 x_k.a3, .int .u8 x_k.a4, .int .u8 x_k.a5, .int .u8 x_k.a6, .int .u8 x_k.a7]]) (preOf σ 0 (Bb_objs ti key re)) ((Bb_v r).ren σ) (upOf σ (Bb_up r)) := by
 refine fo_ Tryz.func53 ⟨fun _ _ => rfl, trivial⟩ trivial ?_
 intro w0 W μ0 hμ
 unfold Bb at h
 obtain ⟨y2, e1, h⟩ := bs_ h
 obtain rfl := si_ h
 exact rr_ [] 20 [.reg [], .reg [(1, hk_ (hK_ [0] (Ab_v y2) (Ab_objs ti key re) (Ab_up y2)))], .reg []]
  (a_ (a_ (r2_ tr) (a_ (r1_ (a_ (a_ (a_ (Ab_ok ti key re y2 e1 (sel [0]) sj_) (a_ (rl_ (.row 33 1 (fun _ => (cT_60 ti .nilmap key .any re .nilmap .nilmap)) false)) tr)) tr) (r1_ tr))) (a_ (r1_ tr) tr))) tr)
def CN_v (r : Unit) : LV := .int .i64 2
def CN_up (r : Unit) : Upd := []
def CN_objs (ti : Cd) (key : Cb) (re : D_) : List LO := [.row 33 1 (fun _ => (cT_60 ti .nilmap key .any re .nilmap .nilmap)) false]
def CN (ti : Cd) (key : Cb) (re : D_) (x_k : I_) (s : J_) : Option (Unit) :=
 (Bb ti key re x_k).bind fun y2 =>
 some ()
theorem CN_ok (ti : Cd) (key : Cb) (re : D_) (x_k : I_) (s : J_) (r : Unit) (h : CN ti key re x_k s = some r) : ∀ σ, Inj 1 σ → FnTri Tryz.prog 24 (renL σ [.ptr 0 0 0, .agg [.int .u8 x_k.a0, .int .u8 x_k.a1, .int .u8 x_k.a2, .int .u8 x_k.a3, .int .u8 x_k.a4, .int .u8 x_k.a5, .int .u8 x_k.a6, .int .u8 x_k.a7], .str s]) (preOf σ 0 (CN_objs ti key re)) ((CN_v r).ren σ) (upOf σ (CN_up r)) := by
 refine fo_ Tryz.func24 ⟨fun _ _ => rfl, trivial⟩ trivial ?_
 intro w0 W μ0 hμ
 unfold CN at h
 obtain ⟨y2, e1, h⟩ := bs_ h
 obtain rfl := si_ h
 exact rr_ [] 24 [.reg [], .reg [(2, hk_ (hK_ [0] (Bb_v y2) (Bb_objs ti key re) (Bb_up y2)))], .reg [], .reg []]
  (a_ (a_ (r2_ tr) (a_ (r1_ (m_ 8 8 rfl (a_ (a_ (a_ (Bb_ok ti key re x_k y2 e1 (sel [0]) sj_) (a_ (rl_ (.row 33 1 (fun _ => (cT_60 ti .nilmap key .any re .nilmap .nilmap)) false)) tr)) tr) (r1_ tr)))) (a_ (r1_ (r2_ tr)) (a_ (r2_ tr) tr)))) tr)
def Bv_v (r : Unit) : LV := .int .i64 2
def Bv_up (r : Unit) : Upd := []
def Bv_objs (ti : Cd) (key : Cb) (re : D_) : List LO := [.row 33 1 (fun _ => (cT_60 ti .nilmap key .any re .nilmap .nilmap)) false]
def Bv (ti : Cd) (key : Cb) (re : D_) (x_k : I_) (c : Ca) : Option (Unit) :=
 (Bb ti key re x_k).bind fun y2 =>
 some ()
theorem Bv_ok (ti : Cd) (key : Cb) (re : D_) (x_k : I_) (c : Ca) (r : Unit) (h : Bv ti key re x_k c = some r) : ∀ σ, Inj 1 σ → FnTri Tryz.prog 25 (renL σ [.ptr 0 0 0, .agg [.int .u8 x_k.a0, .int .u8 x_k.a1, .int .u8 x_k.a2, .int .u8 x_k.a3, .int .u8 x_k.a4, .int .u8 x_k.a5, .int .u8 x_k.a6, .int .u8 x_k.a7], v_Ca c]) (preOf σ 0 (Bv_objs ti key re)) ((Bv_v r).ren σ) (upOf σ (Bv_up r)) := by
 refine fo_ Tryz.func25 ⟨fun _ _ => rfl, trivial⟩ trivial ?_
 intro w0 W μ0 hμ
 unfold Bv at h
 obtain ⟨y2, e1, h⟩ := bs_ h
 obtain rfl := si_ h
 exact rr_ [] 24 [.reg [], .reg [(2, hk_ (hK_ [0] (Bb_v y2) (Bb_objs ti key re) (Bb_up y2)))], .reg [], .reg []]
  (a_ (a_ (r1_ (r2_ tr)) (a_ (r1_ (m_ 8 8 rfl (a_ (a_ (a_ (Bb_ok ti key re x_k y2 e1 (sel [0]) sj_) (a_ (rl_ (.row 33 1 (fun _ => (cT_60 ti .nilmap key .any re .nilmap .nilmap)) false)) tr)) tr) (r1_ tr)))) (a_ (r1_ (r2_ tr)) (a_ (r2_ tr) tr)))) tr)
def BF_v (r : I_) : LV := .tup [.agg [.int .u8 r.a0, .int .u8 r.a1, .int .u8 r.a2, .int .u8 r.a3, .int .u8 r.a4, .int .u8 r.a5, .int .u8 r.a6, .int .u8 r.a7], .int .u8 0, .bool false]
def BF_up (ti : Cd) (key : Cb) (re : D_) (r : I_) : Upd := [(0, some (.var (cT_60 ti .nilmap key .nilptr re .nilmap .nilmap)))]
def BF_objs (ti : Cd) (key : Cb) (re : D_) : List LO := [.var (cT_60 ti .nilmap key .nilptr re .nilmap .nilmap)]
def BF (ti : Cd) (key : Cb) (re : D_) : Option (I_) :=
 (Ab ti key re).bind fun y2 =>
 some (A8.mk 0 0 0 0 0 0 0 0)
theorem BF_ok (ti : Cd) (key : Cb) (re : D_) (r : I_) (h : BF ti key re = some r) : ∀ σ, Inj 1 σ → FnTri Tryz.prog 12 (renL σ [.ptr 0 0 0]) (preOf σ 0 (BF_objs ti key re)) ((BF_v r).ren σ) (upOf σ (BF_up ti key re r)) := by
 refine fo_ Tryz.func12 ⟨rfl, trivial⟩ ⟨rfl, trivial⟩ ?_
 intro w0 W μ0 hμ
 unfold BF at h
 obtain ⟨y2, e1, h⟩ := bs_ h
 obtain rfl := si_ h
 exact rr_ [] 20 [.reg [], .reg [(1, hk_ (hK_ [0] (Ab_v y2) (Ab_objs ti key re) (Ab_up y2)))], .reg []]
  (a_ (a_ (r1_ (r2_ tr)) (a_ (r1_ (a_ (a_ (a_ (Ab_ok ti key re y2 e1 (sel [0]) sj_) (a_ (LO.Le.ofVarL (lel_set (cT_60 ti .nilmap key .nilptr re .nilmap .nilmap) 14 (.nilptr) .any rfl (le_any _))) tr)) tr) (r1_ tr))) (a_ (a_ (a_ (Eq.refl true) tr) (a_ (a_ (a_ (Eq.refl 8) (a_ (le_ 8 8 rfl) (Eq.refl 0))) tr) (r2_ tr))) tr))) (a_ (a_ tr (le_ 8 8 rfl)) tr))
def BU_v (r : (List (Int))) : LV := .ds 1 (r).length (rowF (cInt .u8) default r)
def BU_up (ti : Cd) (key : Cb) (re : D_) (r : (List (Int))) : Upd := [(0, some (.var (cT_60 ti .nilmap key .nilptr re .nilmap .nilmap)))]
def BU_objs (ti : Cd) (key : Cb) (re : D_) : List LO := [.var (cT_60 ti .nilmap key .nilptr re .nilmap .nilmap)]
def BU (ti : Cd) (key : Cb) (re : D_) : Option ((List (Int))) :=
 (Ab ti key re).bind fun y2 =>
 some ([] : List (Int))
theorem BU_ok (ti : Cd) (key : Cb) (re : D_) (r : (List (Int))) (h : BU ti key re = some r) : ∀ σ, Inj 1 σ → FnTri Tryz.prog 16 (renL σ [.ptr 0 0 0]) (preOf σ 0 (BU_objs ti key re)) ((BU_v r).ren σ) (upOf σ (BU_up ti key re r)) := by
 refine fo_ Tryz.func16 ⟨rfl, trivial⟩ ⟨rfl, trivial⟩ ?_
 intro w0 W μ0 hμ
 unfold BU at h
 obtain ⟨y2, e1, h⟩ := bs_ h
 obtain rfl := si_ h
 exact rr_ [] 20 [.reg [(0, hv_ (.ds 1 (([] : List (Int))).length (rowF (cInt .u8) default ([] : List (Int)))))], .reg [(1, hk_ (hK_ [0] (Ab_v y2) (Ab_objs ti key re) (Ab_up y2)))], .reg [(0, hv_ (.ds 1 (([] : List (Int))).length (rowF (cInt .u8) default ([] : List (Int)))))]]
  (a_ (a_ (a_ (a_ tr (a_ (le_nil_ds 1 (rowF (cInt .u8) default [])) tr)) tr) (a_ (r1_ (a_ (a_ (a_ (Ab_ok ti key re y2 e1 (sel [0]) sj_) (a_ (LO.Le.ofVarL (lel_set (cT_60 ti .nilmap key .nilptr re .nilmap .nilmap) 14 (.nilptr) .any rfl (le_any _))) tr)) tr) (r1_ tr))) (a_ (a_ (a_ tr (a_ (le_nil_ds 1 (rowF (cInt .u8) default [])) tr)) tr) tr))) tr)
def CA_v (r : Unit) : LV := .tup [.bool false, .int .i64 2]
def CA_up (ti : Cd) (key : Cb) (re : D_) (r : Unit) : Upd := [(0, some (.var (cT_60 ti .nilmap key .nilptr re .nilmap .nilmap)))]
def CA_objs (ti : Cd) (key : Cb) (re : D_) : List LO := [.var (cT_60 ti .nilmap key .nilptr re .nilmap .nilmap)]
def CA (ti : Cd) (key : Cb) (re : D_) (x_k : I_) (mode : Int) (x : Ce) : Option (Unit) :=
 (Ab ti key re).bind fun y2 =>
 some ()
theorem CA_ok (ti : Cd) (key : Cb) (re : D_) (x_k : I_) (mode : Int) (x : Ce) (r : Unit) (h : CA ti key re x_k mode x = some r) : ∀ σ, Inj 1 σ → FnTri Tryz.prog 22 (renL σ [.ptr 0 0 0, .agg [.int .u8 x_k.a0, .int .u8 x_k.a1, .int .u8 x_k.a2, .int .u8 x_k.a3, .int .u8 x_k.a4, .int .u8 x_k.a5, .int .u8 x_k.a6, .int .u8 x_k.a7], .int .u8 mode, v_Ce x]) (preOf σ 0 (CA_objs ti key re)) ((CA_v r).ren σ) (upOf σ (CA_up ti key re r)) := by
 refine fo_ Tryz.func22 ⟨rfl, trivial⟩ ⟨rfl, trivial⟩ ?_
 intro w0 W μ0 hμ
 unfold CA at h
 obtain ⟨y2, e1, h⟩ := bs_ h
 obtain rfl := si_ h
 exact rr_ [] 20 [.reg [], .reg [(1, hk_ (hK_ [0] (Ab_v y2) (Ab_objs ti key re) (Ab_up y2)))], .reg []]
  (a_ (a_ (r4_ tr) (a_ (r1_ (a_ (a_ (a_ (Ab_ok ti key re y2 e1 (sel [0]) sj_) (a_ (LO.Le.ofVarL (lel_set (cT_60 ti .nilmap key .nilptr re .nilmap .nilmap) 14 (.nilptr) .any rfl (le_any _))) tr)) tr) (r1_ tr))) (a_ (r2_ tr) tr))) tr)
def AS_v (r : Unit) : LV := .tup [.bool false, .int .i64 2]
def AS_up (ti : Cd) (key : Cb) (re : D_) (r : Unit) : Upd := [(0, some (.var (cT_60 ti .nilmap key .nilptr re .nilmap .nilmap)))]
def AS_objs (ti : Cd) (key : Cb) (re : D_) : List LO := [.var (cT_60 ti .nilmap key .nilptr re .nilmap .nilmap)]
def AS_c11 (ti : Cd) (key : Cb) (re : D_) (a : Ci) (y7 : I_) : Option (Unit) :=
 (BU ti key re).bind fun y2 =>
 (As a y2 y7 0).bind fun y4 =>
 (CA ti key re y4.1 y4.2.1 (Ce.mk y4.2.2.f_Node y4.2.2.f_Reg y4.2.2.f_Item)).bind fun y6 =>
 some ()
def AS (ti : Cd) (key : Cb) (re : D_) (a : Ci) : Option (Unit) :=
 if (((Int.tmod a.f_Kind 6) == 0) : Bool) then
  (Bg ti key re a.f_Key a.f_Mode a.f_Conf ([] : H_)).bind fun y3 =>
  some ()
 else
  if (((Int.tmod a.f_Kind 6) == 1) : Bool) then
   (Bg ti key re a.f_Key a.f_Mode a.f_Conf ([a.f_More] : H_)).bind fun y4 =>
   some ()
  else
   if (((Int.tmod a.f_Kind 6) == 3) : Bool) then
    (CN ti key re a.f_Key a.f_Text).bind fun y5 =>
    some ()
   else
    if (((Int.tmod a.f_Kind 6) == 4) : Bool) then
     (Bv ti key re a.f_Key a.f_Conf).bind fun y6 =>
     some ()
    else
     (BF ti key re).bind fun y7 =>
     AS_c11 ti key re a y7
abbrev AS_K1000011 (w0 : World) (W : Nat → Prop) (μ0 : Emb) (ti : Cd) (key : Cb) (re : D_) (a : Ci) (y7 : I_) (r : Unit) : Prop := Kt_ w0 W μ0 Tryz.f9 1 1 (AS_v r) (AS_up ti key re r) (kAtR (bodyOf Tryz.f9) 11) ((.ptr 0 0 0) :: .any :: .any :: (.ptr 1 0 0) :: .any :: .any :: (.ptr 2 0 0) :: (.int .u8 0) :: n_ 73 []) [some (.var (cT_60 ti .nilmap key .nilptr re .nilmap .nilmap)), some (.var (c_Ci a)), some (.var [.int .u8 y7.a0, .int .u8 y7.a1, .int .u8 y7.a2, .int .u8 y7.a3, .int .u8 y7.a4, .int .u8 y7.a5, .int .u8 y7.a6, .int .u8 y7.a7])]
theorem AS_c11_ok {w0 W μ0} (hμ : Lt_ μ0 1) (ti : Cd) (key : Cb) (re : D_) (a : Ci) (y7 : I_) (r : Unit) (h : AS_c11 ti key re a y7 = some r) : AS_K1000011 w0 W μ0 ti key re a y7 r := by
 unfold AS_c11 at h
 obtain ⟨y2, E1, h⟩ := bs_ h
 obtain ⟨y4, E3, h⟩ := bs_ h
 obtain ⟨y6, E5, h⟩ := bs_ h
 obtain rfl := si_ h
 exact rr_ [] 14 [.reg [(2, hk_ (hK_ [0] (BU_v y2) (BU_objs ti key re) (BU_up ti key re y2))), (5, hC (As_v y4))], .reg [(10, hk_ (hK_ [0] (CA_v y6) (CA_objs ti key re) (CA_up ti key re y6)))]]
  (a_ (a_ (m_ 49 49 rfl (r1_ (a_ (a_ (a_ (BU_ok ti key re y2 E1 (sel [0]) sj_) (a_ (rl_ (.var (cT_60 ti .nilmap key .nilptr re .nilmap .nilmap))) tr)) tr) (m_ 8 8 rfl (r1_ (c_ (As_tri a y2 y7 0 y4 E3) (r1_ (r4_ (a_ (a_ (a_ (Eq.refl 8) (a_ (le_ 8 8 rfl) (Eq.refl 0))) tr) (r1_ (a_ (a_ (a_ (Eq.refl 16) (a_ (le_ 16 16 rfl) (Eq.refl 0))) tr) tr))))))))))) (a_ (r1_ (m_ 8 8 rfl (r2_ (l_ 0 16 rfl (r1_ (m_ 3 16 rfl (r1_ (m_ 16 16 rfl (a_ (a_ (Eq.refl true) tr) (a_ (a_ (a_ (CA_ok ti key re y4.1 y4.2.1 (Ce.mk y4.2.2.f_Node y4.2.2.f_Reg y4.2.2.f_Item) y6 E5 (sel [0]) sj_) (a_ (rl_ (.var (cT_60 ti .nilmap key .nilptr re .nilmap .nilmap))) tr)) tr) (r4_ tr))))))))))) tr)) tr)
theorem AS_ok (ti : Cd) (key : Cb) (re : D_) (a : Ci) (r : Unit) (h : AS ti key re a = some r) : ∀ σ, Inj 1 σ → FnTri Tryz.prog 9 (renL σ [.ptr 0 0 0, v_Ci a]) (preOf σ 0 (AS_objs ti key re)) ((AS_v r).ren σ) (upOf σ (AS_up ti key re r)) := by
 refine fo_ Tryz.func9 ⟨rfl, trivial⟩ ⟨rfl, trivial⟩ ?_
 intro w0 W μ0 hμ
 unfold AS at h
 rcases it_ h with ⟨c1, h⟩ | ⟨c1, h⟩
 ·obtain ⟨y3, e2, h⟩ := bs_ h
  obtain rfl := si_ h
  exact rr_ [] 24 [.reg [], .reg [], .reg [(1, hT)], .reg [(7, { call := some (hK_ [0] (Bg_v y3) (Bg_objs ti key re) (Bg_up ti key re y3)), cargs := some [.ptr 0 0 0, .agg [.int .u8 a.f_Key.a0, .int .u8 a.f_Key.a1, .int .u8 a.f_Key.a2, .int .u8 a.f_Key.a3, .int .u8 a.f_Key.a4, .int .u8 a.f_Key.a5, .int .u8 a.f_Key.a6, .int .u8 a.f_Key.a7], .int .u8 a.f_Mode, v_Ca a.f_Conf, .ds 11 (([] : H_)).length (rowF c_Ca default ([] : H_))] })]]
   (a_ (a_ (r1_ (r2_ tr)) (a_ (r1_ (l_ 0 49 rfl (a_ (a_ (ne0 6 rfl) tr) tr))) (a_ (r1_ (f_ c1 tr)) (a_ (r2_ (m_ 9 49 rfl (r1_ (l_ 9 49 rfl (r1_ (m_ 21 49 rfl (a_ (a_ (a_ (Bg_ok ti key re a.f_Key a.f_Mode a.f_Conf ([] : H_) y3 e2 (sel [0]) sj_) (a_ (a_ (vl_ (.ptr 0 0 0)) (a_ (vl_ (.agg [.int .u8 a.f_Key.a0, .int .u8 a.f_Key.a1, .int .u8 a.f_Key.a2, .int .u8 a.f_Key.a3, .int .u8 a.f_Key.a4, .int .u8 a.f_Key.a5, .int .u8 a.f_Key.a6, .int .u8 a.f_Key.a7])) (a_ (vl_ (.int .u8 a.f_Mode)) (a_ (vl_ (v_Ca a.f_Conf)) (a_ (le_nil_ds 11 (rowF c_Ca default [])) tr))))) (a_ (rl_ (.var (cT_60 ti .nilmap key .nilptr re .nilmap .nilmap))) tr))) tr) (r2_ tr)))))))) tr)))) tr)
 ·rcases it_ h with ⟨c2, h⟩ | ⟨c2, h⟩
  ·obtain ⟨y4, e3, h⟩ := bs_ h
   obtain rfl := si_ h
   exact rr_ [] 28 [.reg [], .reg [], .reg [(1, hF)], .reg [(1, hT)], .reg [(9, { os := [(2, .gr 11 (([a.f_More] : H_)).length (rowF c_Ca default ([a.f_More] : H_)))], v := some (.gs 2 (([a.f_More] : H_)).length), fz := true }), (10, hk_ (hK_ [0] (Bg_v y4) (Bg_objs ti key re) (Bg_up ti key re y4)))]]
    (a_ (a_ (r1_ (r2_ tr)) (a_ (r1_ (l_ 0 49 rfl (a_ (a_ (ne0 6 rfl) tr) tr))) (a_ (r1_ (f_ c1 tr)) (a_ (r1_ (f_ c2 tr)) (a_ (r2_ (m_ 9 49 rfl (r1_ (l_ 9 49 rfl (r1_ (m_ 21 49 rfl (r1_ (m_ 32 49 rfl (a_ (a_ (a_ (a_ (Eq.refl true) (a_ (Eq.refl 11) (a_ (lt_ 0 11 rfl) (le_ 11 16777216 rfl)))) (a_ (le_sl_gs 2 1 (some 1) rfl) (a_ (sub_lit c_Ca default 11 (fun _ => rfl) ([a.f_More] : H_)) tr))) (a_ (Nat.le_refl (([a.f_More] : H_)).length) (fz_row (enc := c_Ca) (d := default) (fun _ => rfl) ([a.f_More] : H_)))) (a_ (a_ (a_ (Bg_ok ti key re a.f_Key a.f_Mode a.f_Conf ([a.f_More] : H_) y4 e3 (sel [0]) sj_) (a_ (rl_ (.var (cT_60 ti .nilmap key .nilptr re .nilmap .nilmap))) tr)) tr) (r2_ tr))))))))))) tr))))) tr)
  ·rcases it_ h with ⟨c3, h⟩ | ⟨c3, h⟩
   ·obtain ⟨y5, e4, h⟩ := bs_ h
    obtain rfl := si_ h
    exact rr_ [] 32 [.reg [], .reg [], .reg [(1, hF)], .reg [(1, hF)], .reg [(1, hT)], .reg [(5, hk_ (hK_ [0] (CN_v y5) (CN_objs ti key re) (CN_up y5)))]]
     (a_ (a_ (r1_ (r2_ tr)) (a_ (r1_ (l_ 0 49 rfl (a_ (a_ (ne0 6 rfl) tr) tr))) (a_ (r1_ (f_ c1 tr)) (a_ (r1_ (f_ c2 tr)) (a_ (r1_ (f_ c3 tr)) (a_ (r2_ (m_ 9 49 rfl (r1_ (l_ 48 49 rfl (a_ (a_ (a_ (CN_ok ti key re a.f_Key a.f_Text y5 e4 (sel [0]) sj_) (a_ (LO.Le.ofVarL (lel_set (cT_60 ti .nilmap key .nilptr re .nilmap .nilmap) 14 (.nilptr) .any rfl (le_any _))) tr)) tr) (r2_ tr)))))) tr)))))) tr)
   ·rcases it_ h with ⟨c4, h⟩ | ⟨c4, h⟩
    ·obtain ⟨y6, e5, h⟩ := bs_ h
     obtain rfl := si_ h
     exact rr_ [] 36 [.reg [], .reg [], .reg [(1, hF)], .reg [(1, hF)], .reg [(1, hF)], .reg [(1, hT)], .reg [(5, hk_ (hK_ [0] (Bv_v y6) (Bv_objs ti key re) (Bv_up y6)))]]
      (a_ (a_ (r1_ (r2_ tr)) (a_ (r1_ (l_ 0 49 rfl (a_ (a_ (ne0 6 rfl) tr) tr))) (a_ (r1_ (f_ c1 tr)) (a_ (r1_ (f_ c2 tr)) (a_ (r1_ (f_ c3 tr)) (a_ (r1_ (f_ c4 tr)) (a_ (r2_ (m_ 9 49 rfl (r1_ (m_ 21 49 rfl (a_ (a_ (a_ (Bv_ok ti key re a.f_Key a.f_Conf y6 e5 (sel [0]) sj_) (a_ (LO.Le.ofVarL (lel_set (cT_60 ti .nilmap key .nilptr re .nilmap .nilmap) 14 (.nilptr) .any rfl (le_any _))) tr)) tr) (r2_ tr)))))) tr))))))) tr)
    ·obtain ⟨y7, e5, h⟩ := bs_ h
     exact rt_ hμ [1, 2] 39 [.reg [], .reg [], .reg [(1, hF)], .reg [(1, hF)], .reg [(1, hF)], .reg [(1, hF)], .reg [(1, hk_ (hK_ [0] (BF_v y7) (BF_objs ti key re) (BF_up ti key re y7)))]]
      (a_ (r1_ (r2_ tr)) (a_ (r1_ (l_ 0 49 rfl (a_ (a_ (ne0 6 rfl) tr) tr))) (a_ (r1_ (f_ c1 tr)) (a_ (r1_ (f_ c2 tr)) (a_ (r1_ (f_ c3 tr)) (a_ (r1_ (f_ c4 tr)) (a_ (r1_ (a_ (a_ (a_ (BF_ok ti key re y7 e5 (sel [0]) sj_) (a_ (rl_ (.var (cT_60 ti .nilmap key .nilptr re .nilmap .nilmap))) tr)) tr) (r1_ (r4_ (a_ (a_ (a_ (Eq.refl 8) (a_ (le_ 8 8 rfl) (Eq.refl 0))) tr) (r2_ tr)))))) tr))))))) (AS_c11_ok hμ ti key re a y7 r h) ⟨rfl, rfl, rfl, trivial⟩
def CE_v (r : Unit) : LV := .nilptr
def CE_up (r : Unit) : Upd := []
def CE_objs (ti : Cd) (key : Cb) (re : D_) : List LO := [.row 33 1 (fun _ => (cT_60 ti .nilmap key .any re .nilmap .nilmap)) false]
def CE (ti : Cd) (key : Cb) (re : D_) (x_k : I_) : Option (Unit) :=
 (Ab ti key re).bind fun y2 =>
 some ()
theorem CE_ok (ti : Cd) (key : Cb) (re : D_) (x_k : I_) (r : Unit) (h : CE ti key re x_k = some r) : ∀ σ, Inj 1 σ → FnTri Tryz.prog 28 (renL σ [.ptr 0 0 0, .agg [.int .u8 x_k.a0, .int .u8 x_k.a1, .int .u8 x_k.a2, .int .u8 x_k.a3, .int .u8 x_k.a4, .int .u8 x_k.a5, .int .u8 x_k.a6, .int .u8 x_k.a7]]) (preOf σ 0 (CE_objs ti key re)) ((CE_v r).ren σ) (upOf σ (CE_up r)) := by
 refine fo_ Tryz.func28 ⟨fun _ _ => rfl, trivial⟩ trivial ?_
 intro w0 W μ0 hμ
 unfold CE at h
 obtain ⟨y2, e1, h⟩ := bs_ h
 obtain rfl := si_ h
 exact rr_ [] 20 [.reg [], .reg [(1, hk_ (hK_ [0] (Ab_v y2) (Ab_objs ti key re) (Ab_up y2)))], .reg []]
  (a_ (a_ (r2_ tr) (a_ (r1_ (a_ (a_ (a_ (Ab_ok ti key re y2 e1 (sel [0]) sj_) (a_ (rl_ (.row 33 1 (fun _ => (cT_60 ti .nilmap key .any re .nilmap .nilmap)) false)) tr)) tr) (r1_ tr))) (a_ (r1_ tr) tr))) tr)
def BP_v (r : (Cj) × (Bool)) : LV := .tup [v_Cj r.1, .bool r.2]
def BP_up (r : (Cj) × (Bool)) : Upd := []
def BP_objs (ti : Cd) (key : Cb) (re : D_) : List LO := [.row 33 1 (fun _ => (cT_60 ti .nilmap key .any re .nilmap .nilmap)) false]
def BP (ti : Cd) (key : Cb) (re : D_) (x_k : I_) : Option ((Cj) × (Bool)) :=
 (CE ti key re x_k).bind fun y2 =>
 (AY).bind fun y4 =>
 some (y4.1, y4.2)
theorem BP_ok (ti : Cd) (key : Cb) (re : D_) (x_k : I_) (r : (Cj) × (Bool)) (h : BP ti key re x_k = some r) : ∀ σ, Inj 1 σ → FnTri Tryz.prog 13 (renL σ [.ptr 0 0 0, .agg [.int .u8 x_k.a0, .int .u8 x_k.a1, .int .u8 x_k.a2, .int .u8 x_k.a3, .int .u8 x_k.a4, .int .u8 x_k.a5, .int .u8 x_k.a6, .int .u8 x_k.a7]]) (preOf σ 0 (BP_objs ti key re)) ((BP_v r).ren σ) (upOf σ (BP_up r)) := by
 refine fo_ Tryz.func13 ⟨fun _ _ => rfl, trivial⟩ trivial ?_
 intro w0 W μ0 hμ
 unfold BP at h
 obtain ⟨y2, e1, h⟩ := bs_ h
 obtain ⟨y4, e3, h⟩ := bs_ h
 obtain rfl := si_ h
 exact rr_ [] 15 [.reg [], .reg [(2, hk_ (hK_ [0] (CE_v y2) (CE_objs ti key re) (CE_up y2))), (3, hC (AY_v y4))]]
  (a_ (a_ (r1_ (r2_ tr)) (a_ (r1_ (m_ 8 8 rfl (a_ (a_ (a_ (CE_ok ti key re x_k y2 e1 (sel [0]) sj_) (a_ (rl_ (.row 33 1 (fun _ => (cT_60 ti .nilmap key .any re .nilmap .nilmap)) false)) tr)) tr) (c_ (AY_tri y4 e3) (r2_ (a_ (a_ (a_ (Eq.refl 13) (a_ (le_ 13 13 rfl) (Eq.refl 0))) tr) (r1_ tr))))))) tr)) (a_ (a_ tr (le_ 13 13 rfl)) tr))
def BI_v (r : J_) : LV := .tup [.str r, .bool false]
def BI_up (r : J_) : Upd := []
def BI_objs (ti : Cd) (key : Cb) (re : D_) : List LO := [.row 33 1 (fun _ => (cT_60 ti .nilmap key .any re .nilmap .nilmap)) false]
def BI (ti : Cd) (key : Cb) (re : D_) (x_k : I_) : Option (J_) :=
 (Ab ti key re).bind fun y2 =>
 some []
theorem BI_ok (ti : Cd) (key : Cb) (re : D_) (x_k : I_) (r : J_) (h : BI ti key re x_k = some r) : ∀ σ, Inj 1 σ → FnTri Tryz.prog 10 (renL σ [.ptr 0 0 0, .agg [.int .u8 x_k.a0, .int .u8 x_k.a1, .int .u8 x_k.a2, .int .u8 x_k.a3, .int .u8 x_k.a4, .int .u8 x_k.a5, .int .u8 x_k.a6, .int .u8 x_k.a7]]) (preOf σ 0 (BI_objs ti key re)) ((BI_v r).ren σ) (upOf σ (BI_up r)) := by
 refine fo_ Tryz.func10 ⟨fun _ _ => rfl, trivial⟩ trivial ?_
 intro w0 W μ0 hμ
 unfold BI at h
 obtain ⟨y2, e1, h⟩ := bs_ h
 obtain rfl := si_ h
 exact rr_ [] 20 [.reg [], .reg [(1, hk_ (hK_ [0] (Ab_v y2) (Ab_objs ti key re) (Ab_up y2)))], .reg []]
  (a_ (a_ (r1_ (r2_ tr)) (a_ (r1_ (a_ (a_ (a_ (Ab_ok ti key re y2 e1 (sel [0]) sj_) (a_ (rl_ (.row 33 1 (fun _ => (cT_60 ti .nilmap key .any re .nilmap .nilmap)) false)) tr)) tr) (r1_ tr))) (a_ (r2_ tr) tr))) tr)
def BX_v (r : (Cc)) : LV := .tup [v_Cc r, .bool false]
def BX_up (r : (Cc)) : Upd := []
def BX_objs (ti : Cd) (key : Cb) (re : D_) : List LO := [.row 33 1 (fun _ => (cT_60 ti .nilmap key .any re .nilmap .nilmap)) false]
def BX (ti : Cd) (key : Cb) (re : D_) (node : Int) : Option ((Cc)) :=
 (Ab ti key re).bind fun y2 =>
 some (Cc.mk 0 0)
theorem BX_ok (ti : Cd) (key : Cb) (re : D_) (node : Int) (r : (Cc)) (h : BX ti key re node = some r) : ∀ σ, Inj 1 σ → FnTri Tryz.prog 14 (renL σ [.ptr 0 0 0, .int .u8 node]) (preOf σ 0 (BX_objs ti key re)) ((BX_v r).ren σ) (upOf σ (BX_up r)) := by
 refine fo_ Tryz.func14 ⟨fun _ _ => rfl, trivial⟩ trivial ?_
 intro w0 W μ0 hμ
 unfold BX at h
 obtain ⟨y2, e1, h⟩ := bs_ h
 obtain rfl := si_ h
 exact rr_ [] 20 [.reg [], .reg [(1, hk_ (hK_ [0] (Ab_v y2) (Ab_objs ti key re) (Ab_up y2)))], .reg []]
  (a_ (a_ (r2_ tr) (a_ (r1_ (a_ (a_ (a_ (Ab_ok ti key re y2 e1 (sel [0]) sj_) (a_ (rl_ (.row 33 1 (fun _ => (cT_60 ti .nilmap key .any re .nilmap .nilmap)) false)) tr)) tr) (r2_ (t2_ (r1_ tr))))) (a_ (a_ (a_ (Eq.refl true) tr) (a_ (a_ (a_ (Eq.refl 2) (a_ (le_ 2 2 rfl) (Eq.refl 0))) tr) (r1_ tr))) tr))) (a_ (a_ tr (le_ 2 2 rfl)) tr))
def BJ_v (r : (List (Ck)) × (List (Ch))) : LV := .tup [.ds 10 (r.1).length (rowF c_Ck default r.1), .ds 21 (r.2).length (rowF c_Ch default r.2)]
def BJ_up (r : (List (Ck)) × (List (Ch))) : Upd := []
def BJ_objs (ti : Cd) (key : Cb) (re : D_) : List LO := [.row 33 1 (fun _ => (cT_60 ti .nilmap key .any re .nilmap .nilmap)) false]
def BJ (ti : Cd) (key : Cb) (re : D_) : Option ((List (Ck)) × (List (Ch))) :=
 (Ab ti key re).bind fun y2 =>
 some (([] : List (Ck)), ([] : List (Ch)))
theorem BJ_ok (ti : Cd) (key : Cb) (re : D_) (r : (List (Ck)) × (List (Ch))) (h : BJ ti key re = some r) : ∀ σ, Inj 1 σ → FnTri Tryz.prog 15 (renL σ [.ptr 0 0 0]) (preOf σ 0 (BJ_objs ti key re)) ((BJ_v r).ren σ) (upOf σ (BJ_up r)) := by
 refine fo_ Tryz.func15 ⟨fun _ _ => rfl, trivial⟩ trivial ?_
 intro w0 W μ0 hμ
 unfold BJ at h
 obtain ⟨y2, e1, h⟩ := bs_ h
 obtain rfl := si_ h
 exact rr_ [] 20 [.reg [(0, hv_ (.ds 10 (([] : List (Ck))).length (rowF c_Ck default ([] : List (Ck))))), (1, hv_ (.ds 21 (([] : List (Ch))).length (rowF c_Ch default ([] : List (Ch)))))], .reg [(1, hk_ (hK_ [0] (Ab_v y2) (Ab_objs ti key re) (Ab_up y2)))], .reg [(0, hv_ (.ds 10 (([] : List (Ck))).length (rowF c_Ck default ([] : List (Ck))))), (1, hv_ (.ds 21 (([] : List (Ch))).length (rowF c_Ch default ([] : List (Ch)))))]]
  (a_ (a_ (a_ (a_ tr (a_ (le_nil_ds 10 (rowF c_Ck default [])) tr)) (a_ (a_ tr (a_ (le_nil_ds 21 (rowF c_Ch default [])) tr)) tr)) (a_ (r1_ (a_ (a_ (a_ (Ab_ok ti key re y2 e1 (sel [0]) sj_) (a_ (rl_ (.row 33 1 (fun _ => (cT_60 ti .nilmap key .any re .nilmap .nilmap)) false)) tr)) tr) (r1_ tr))) (a_ (a_ (a_ tr (a_ (le_nil_ds 10 (rowF c_Ck default [])) tr)) (a_ (a_ tr (a_ (le_nil_ds 21 (rowF c_Ch default [])) tr)) tr)) tr))) tr)
def Bl_v (r : Unit) : LV := .int .u8 0
def Bl_up (r : Unit) : Upd := []
def Bl_objs (ti : Cd) (key : Cb) (re : D_) : List LO := [.row 33 1 (fun _ => (cT_60 ti .nilmap key .any re .nilmap .nilmap)) false]
def Bl (ti : Cd) (key : Cb) (re : D_) (x_k : I_) : Option (Unit) :=
 (Ab ti key re).bind fun y2 =>
 some ()
theorem Bl_ok (ti : Cd) (key : Cb) (re : D_) (x_k : I_) (r : Unit) (h : Bl ti key re x_k = some r) : ∀ σ, Inj 1 σ → FnTri Tryz.prog 11 (renL σ [.ptr 0 0 0, .agg [.int .u8 x_k.a0, .int .u8 x_k.a1, .int .u8 x_k.a2, .int .u8 x_k.a3, .int .u8 x_k.a4, .int .u8 x_k.a5, .int .u8 x_k.a6, .int .u8 x_k.a7]]) (preOf σ 0 (Bl_objs ti key re)) ((Bl_v r).ren σ) (upOf σ (Bl_up r)) := by
 refine fo_ Tryz.func11 ⟨fun _ _ => rfl, trivial⟩ trivial ?_
 intro w0 W μ0 hμ
 unfold Bl at h
 obtain ⟨y2, e1, h⟩ := bs_ h
 obtain rfl := si_ h
 exact rr_ [] 20 [.reg [], .reg [(1, hk_ (hK_ [0] (Ab_v y2) (Ab_objs ti key re) (Ab_up y2)))], .reg []]
  (a_ (a_ (r2_ tr) (a_ (r1_ (a_ (a_ (a_ (Ab_ok ti key re y2 e1 (sel [0]) sj_) (a_ (rl_ (.row 33 1 (fun _ => (cT_60 ti .nilmap key .any re .nilmap .nilmap)) false)) tr)) tr) (r1_ tr))) (a_ (r1_ tr) tr))) tr)
def Bn_v (r : (Cd)) : LV := v_Cd r
def Bn_up (r : (Cd)) : Upd := []
def Bn_objs (ti : Cd) (key : Cb) (re : D_) : List LO := [.row 33 1 (fun _ => (cT_60 ti .nilmap key .any re .nilmap .nilmap)) false]
def Bn (ti : Cd) (key : Cb) (re : D_) : Option ((Cd)) :=
 (Ab ti key re).bind fun y2 =>
 some z6_
theorem Bn_ok (ti : Cd) (key : Cb) (re : D_) (r : (Cd)) (h : Bn ti key re = some r) : ∀ σ, Inj 1 σ → FnTri Tryz.prog 17 (renL σ [.ptr 0 0 0]) (preOf σ 0 (Bn_objs ti key re)) ((Bn_v r).ren σ) (upOf σ (Bn_up r)) := by
 refine fo_ Tryz.func17 ⟨fun _ _ => rfl, trivial⟩ trivial ?_
 intro w0 W μ0 hμ
 unfold Bn at h
 obtain ⟨y2, e1, h⟩ := bs_ h
 obtain rfl := si_ h
 exact rr_ [] 20 [.reg [], .reg [(1, hk_ (hK_ [0] (Ab_v y2) (Ab_objs ti key re) (Ab_up y2)))], .reg []]
  (a_ (a_ (r1_ tr) (a_ (r1_ (a_ (a_ (a_ (Ab_ok ti key re y2 e1 (sel [0]) sj_) (a_ (rl_ (.row 33 1 (fun _ => (cT_60 ti .nilmap key .any re .nilmap .nilmap)) false)) tr)) tr) (r1_ tr))) (a_ (a_ (a_ (Eq.refl true) tr) (a_ (a_ (a_ (Eq.refl 4) (a_ (le_ 4 4 rfl) (Eq.refl 0))) tr) tr)) tr))) (a_ (a_ tr (le_ 4 4 rfl)) tr))
def AQ_v (r : J_ × (Bool)) : LV := .tup [.str r.1, .bool r.2]
def AQ_l1 (x_k : I_) (x_n : Int) : Nat → (Int) → Option (J_ × (Bool))
 | 0, _ => none
 | fuel + 1, i =>
  if ((decide (i < 8)) : Bool) then
   if 0 ≤ i ∧ i < 8 then
   if (((A8.get x_k i.toNat) != 0) : Bool) then
    some ([], false)
   else
    AQ_l1 x_k x_n fuel (IntKind.wrap .i64 (i + 1))
   else none
  else
   if ((x_n == 0) : Bool) then
    some ([], false)
   else
    if 0 ≤ (0 : Int) ∧ 0 ≤ x_n ∧ x_n ≤ 8 then
    some ((strI (([x_k.a0, x_k.a1, x_k.a2, x_k.a3, x_k.a4, x_k.a5, x_k.a6, x_k.a7] : List Int).take (x_n.toNat))), true)
    else none
def AQ_l0 (x_k : I_) : Nat → (Int) → Option (J_ × (Bool))
 | 0, _ => none
 | fuel + 1, x_n =>
  if ((decide (x_n < 8)) : Bool) then
   if 0 ≤ x_n ∧ x_n < 8 then
   if (((A8.get x_k x_n.toNat) != 0) : Bool) then
    AQ_l0 x_k fuel (IntKind.wrap .i64 (x_n + 1))
   else
    AQ_l1 x_k x_n big x_n
   else none
  else
   AQ_l1 x_k x_n big x_n
def AQ (x_k : I_) : Option (J_ × (Bool)) :=
 AQ_l0 x_k big 0
abbrev AQ_K1 (w0 : World) (W : Nat → Prop) (μ0 : Emb) (x_k : I_) (x_n i : Int) (r : J_ × (Bool)) : Prop := Kt_ w0 W μ0 Tryz.f92 0 0 (AQ_v r) [] (kAt (bodyOf Tryz.f92) 1) (.any :: (.ptr 0 0 0) :: .any :: .any :: (.int .i64 x_n) :: (.int .i64 i) :: n_ 24 []) [some (.var [.int .u8 x_k.a0, .int .u8 x_k.a1, .int .u8 x_k.a2, .int .u8 x_k.a3, .int .u8 x_k.a4, .int .u8 x_k.a5, .int .u8 x_k.a6, .int .u8 x_k.a7])]
abbrev AQ_K0 (w0 : World) (W : Nat → Prop) (μ0 : Emb) (x_k : I_) (x_n : Int) (r : J_ × (Bool)) : Prop := Kt_ w0 W μ0 Tryz.f92 0 0 (AQ_v r) [] (kAt (bodyOf Tryz.f92) 0) (.any :: (.ptr 0 0 0) :: .any :: .any :: (.int .i64 x_n) :: n_ 25 []) [some (.var [.int .u8 x_k.a0, .int .u8 x_k.a1, .int .u8 x_k.a2, .int .u8 x_k.a3, .int .u8 x_k.a4, .int .u8 x_k.a5, .int .u8 x_k.a6, .int .u8 x_k.a7])]
theorem AQ_l1_ok {w0 W μ0} (hμ : Lt_ μ0 0) (x_k : I_) (x_n : Int) : ∀ (fuel : Nat) (i : Int) (r : J_ × (Bool)), AQ_l1 x_k x_n fuel i = some r → AQ_K1 w0 W μ0 x_k x_n i r := by
 intro fuel
 induction fuel with
 | zero => intro i r h; rw [AQ_l1] at h; cases h
 | succ fuel ih =>
  intro i r h
  rw [AQ_l1] at h
  rcases it_ h with ⟨C1, h⟩ | ⟨C1, h⟩
  ·obtain ⟨G2, h⟩ := gs_ h
   rcases it_ h with ⟨C3, h⟩ | ⟨C3, h⟩
   ·obtain rfl := si_ h
    exact rr_ [] 25 [.go, .reg [(1, hT)], .reg [(2, hv_ (.int .u8 (A8.get x_k i.toNat))), (3, hT)], .reg []]
     (a_ (a_ (r1_ (f_ C1 tr)) (a_ (r1_ (a_ (a_ G2 tr) (a_ (a_ (a_ tr (arrLt (len := 8) G2 0 1 8 rfl rfl)) (a_ (ld8s (cInt .u8) 1 (fun _ => rfl) x_k [] [] 0 rfl i.toNat (lt8N G2) (le_ (0 + 1) 1 rfl)) tr)) (f_ C3 tr)))) (a_ (r2_ tr) tr))) tr)
   ·exact rt_ hμ [0] 26 [.go, .reg [(1, hT)], .reg [(2, hv_ (.int .u8 (A8.get x_k i.toNat))), (3, hF)], .reg []]
     (a_ (r1_ (f_ C1 tr)) (a_ (r1_ (a_ (a_ G2 tr) (a_ (a_ (a_ tr (arrLt (len := 8) G2 0 1 8 rfl rfl)) (a_ (ld8s (cInt .u8) 1 (fun _ => rfl) x_k [] [] 0 rfl i.toNat (lt8N G2) (le_ (0 + 1) 1 rfl)) tr)) (f_ C3 tr)))) (a_ (r1_ (r2_ tr)) tr))) (ih _ r h) ⟨rfl, trivial⟩
  ·rcases it_ h with ⟨C2, h⟩ | ⟨C2, h⟩
   ·obtain rfl := si_ h
    exact rr_ [] 24 [.go, .reg [(1, hF)], .reg [(1, hT)], .reg []]
     (a_ (a_ (r1_ (f_ C1 tr)) (a_ (r1_ (f_ C2 tr)) (a_ (r2_ tr) tr))) tr)
   ·obtain ⟨G3, h⟩ := gs_ h
    obtain rfl := si_ h
    exact rr_ [] 25 [.go, .reg [(1, hF)], .reg [(1, hF)], .reg [(2, { v := some (.str (strI (([x_k.a0, x_k.a1, x_k.a2, x_k.a3, x_k.a4, x_k.a5, x_k.a6, x_k.a7] : List Int).take (x_n.toNat)))) })]]
     (a_ (a_ (r1_ (f_ C1 tr)) (a_ (r1_ (f_ C2 tr)) (a_ (r1_ (a_ (a_ G3 tr) (a_ (a_ (arr_ob [x_k.a0, x_k.a1, x_k.a2, x_k.a3, x_k.a4, x_k.a5, x_k.a6, x_k.a7] (x_n.toNat) 8 (toN_le (n := 8) G3.2.2) rfl) (a_ (le_arr [x_k.a0, x_k.a1, x_k.a2, x_k.a3, x_k.a4, x_k.a5, x_k.a6, x_k.a7] (x_n.toNat) 8 (toN_le (n := 8) G3.2.2) rfl) tr)) (r2_ tr)))) tr))) tr)
theorem AQ_l0_ok {w0 W μ0} (hμ : Lt_ μ0 0) (x_k : I_) : ∀ (fuel : Nat) (x_n : Int) (r : J_ × (Bool)), AQ_l0 x_k fuel x_n = some r → AQ_K0 w0 W μ0 x_k x_n r := by
 intro fuel
 induction fuel with
 | zero => intro x_n r h; rw [AQ_l0] at h; cases h
 | succ fuel ih =>
  intro x_n r h
  rw [AQ_l0] at h
  rcases it_ h with ⟨C1, h⟩ | ⟨C1, h⟩
  ·obtain ⟨G2, h⟩ := gs_ h
   rcases it_ h with ⟨C3, h⟩ | ⟨C3, h⟩
   ·exact rt_ hμ [0] 20 [.go, .reg [(2, hT), (5, hv_ (.int .u8 (A8.get x_k x_n.toNat))), (7, hT)], .reg []]
     (a_ (r2_ (f_ C1 (r1_ (a_ (a_ G2 tr) (a_ (a_ (a_ tr (arrLt (len := 8) G2 0 1 8 rfl rfl)) (a_ (ld8s (cInt .u8) 1 (fun _ => rfl) x_k [] [] 0 rfl x_n.toNat (lt8N G2) (le_ (0 + 1) 1 rfl)) tr)) (r1_ (f_ C3 tr))))))) (a_ (r1_ (r2_ tr)) tr)) (ih _ r h) ⟨rfl, trivial⟩
   ·exact rt_ hμ [0] 22 [.go, .reg [(2, hT), (5, hv_ (.int .u8 (A8.get x_k x_n.toNat))), (7, hF)], .reg []]
     (a_ (r2_ (f_ C1 (r1_ (a_ (a_ G2 tr) (a_ (a_ (a_ tr (arrLt (len := 8) G2 0 1 8 rfl rfl)) (a_ (ld8s (cInt .u8) 1 (fun _ => rfl) x_k [] [] 0 rfl x_n.toNat (lt8N G2) (le_ (0 + 1) 1 rfl)) tr)) (r1_ (f_ C3 tr))))))) (a_ (r2_ tr) tr)) (AQ_l1_ok hμ x_k x_n big _ r h) ⟨rfl, trivial⟩
  ·exact rt_ hμ [0] 22 [.go, .reg [(2, hF)], .reg []]
    (a_ (r2_ (f_ C1 (t4_ (r1_ tr)))) (a_ (r2_ tr) tr)) (AQ_l1_ok hμ x_k x_n big _ r h) ⟨rfl, trivial⟩
theorem AQ_ok (x_k : I_) (r : J_ × (Bool)) (h : AQ x_k = some r) : ∀ σ, Inj 0 σ → FnTri Tryz.prog 92 (renL σ [.agg [.int .u8 x_k.a0, .int .u8 x_k.a1, .int .u8 x_k.a2, .int .u8 x_k.a3, .int .u8 x_k.a4, .int .u8 x_k.a5, .int .u8 x_k.a6, .int .u8 x_k.a7]]) (preOf σ 0 []) ((AQ_v r).ren σ) (upOf σ []) := by
 refine fo_ Tryz.func92 trivial trivial ?_
 intro w0 W μ0 hμ
 unfold AQ at h
 exact rt_ hμ [0] 18 [.reg [], .reg []]
  (a_ (r1_ (r2_ tr)) (a_ (r1_ tr) tr)) (AQ_l0_ok hμ x_k big _ r h) ⟨rfl, trivial⟩
theorem AQ_tri (x_k : I_) (r : J_ × (Bool)) (h : AQ x_k = some r) : FnTri Tryz.prog 92 [.agg [.int .u8 x_k.a0, .int .u8 x_k.a1, .int .u8 x_k.a2, .int .u8 x_k.a3, .int .u8 x_k.a4, .int .u8 x_k.a5, .int .u8 x_k.a6, .int .u8 x_k.a7]] [] (AQ_v r) [] := FnTri.none (AQ_ok x_k r h) rfl rfl
def Ae_v (r : (Bool)) : LV := .bool r
def Ae (x_k : I_) : Option ((Bool)) :=
 (AQ x_k).bind fun y2 =>
 some y2.2
theorem Ae_ok (x_k : I_) (r : (Bool)) (h : Ae x_k = some r) : ∀ σ, Inj 0 σ → FnTri Tryz.prog 69 (renL σ [.agg [.int .u8 x_k.a0, .int .u8 x_k.a1, .int .u8 x_k.a2, .int .u8 x_k.a3, .int .u8 x_k.a4, .int .u8 x_k.a5, .int .u8 x_k.a6, .int .u8 x_k.a7]]) (preOf σ 0 []) ((Ae_v r).ren σ) (upOf σ []) := by
 refine fo_ Tryz.func69 trivial trivial ?_
 intro w0 W μ0 hμ
 unfold Ae at h
 obtain ⟨y2, e1, h⟩ := bs_ h
 obtain rfl := si_ h
 exact rr_ [] 18 [.reg [], .reg [(1, hC (AQ_v y2))], .reg []]
  (a_ (a_ (r2_ tr) (a_ (m_ 8 8 rfl (c_ (AQ_tri x_k y2 e1) (r1_ (r4_ tr)))) (a_ (r2_ tr) tr))) tr)
theorem Ae_tri (x_k : I_) (r : (Bool)) (h : Ae x_k = some r) : FnTri Tryz.prog 69 [.agg [.int .u8 x_k.a0, .int .u8 x_k.a1, .int .u8 x_k.a2, .int .u8 x_k.a3, .int .u8 x_k.a4, .int .u8 x_k.a5, .int .u8 x_k.a6, .int .u8 x_k.a7]] [] (Ae_v r) [] := FnTri.none (Ae_ok x_k r h) rfl rfl
def BO_v (r : (Bool)) : LV := .bool r
def BO (x_n : Int) : Option ((Bool)) :=
 if ((decide (1 ≤ x_n)) : Bool) then
  some (decide (x_n ≤ 2147483647))
 else
  some false
theorem BO_ok (x_n : Int) (r : (Bool)) (h : BO x_n = some r) : ∀ σ, Inj 0 σ → FnTri Tryz.prog 93 (renL σ [.int .u32 x_n]) (preOf σ 0 []) ((BO_v r).ren σ) (upOf σ []) := by
 refine fo_ Tryz.func93 trivial trivial ?_
 intro w0 W μ0 hμ
 unfold BO at h
 rcases it_ h with ⟨c1, h⟩ | ⟨c1, h⟩
 ·obtain rfl := si_ h
  exact rr_ [] 15 [.reg [], .reg [(2, hT)]]
   (a_ (a_ (r1_ tr) (a_ (r2_ (f_ c1 (r4_ tr))) tr)) tr)
 ·obtain rfl := si_ h
  exact rr_ [] 15 [.reg [], .reg [(2, hF)]]
   (a_ (a_ (r1_ tr) (a_ (r2_ (f_ c1 (t2_ (r2_ tr)))) tr)) tr)
theorem BO_tri (x_n : Int) (r : (Bool)) (h : BO x_n = some r) : FnTri Tryz.prog 93 [.int .u32 x_n] [] (BO_v r) [] := FnTri.none (BO_ok x_n r h) rfl rfl
def BY_v (r : (Bool)) : LV := .bool r
def BY (g : Cc) : Option ((Bool)) :=
 (BO g.f_Boot).bind fun y2 =>
 if (y2 : Bool) then
  (BO g.f_N).bind fun y5 =>
  some y5
 else
  some false
theorem BY_ok (g : Cc) (r : (Bool)) (h : BY g = some r) : ∀ σ, Inj 0 σ → FnTri Tryz.prog 70 (renL σ [v_Cc g]) (preOf σ 0 []) ((BY_v r).ren σ) (upOf σ []) := by
 refine fo_ Tryz.func70 trivial trivial ?_
 intro w0 W μ0 hμ
 unfold BY at h
 obtain ⟨y2, e1, h⟩ := bs_ h
 rcases it_ h with ⟨c3, h⟩ | ⟨c3, h⟩
 ·obtain ⟨y5, e4, h⟩ := bs_ h
  obtain rfl := si_ h
  exact rr_ [] 15 [.reg [], .reg [(2, hC (BO_v y2)), (3, hT), (6, hC (BO_v y5))]]
   (a_ (a_ (r2_ tr) (a_ (r1_ (l_ 0 2 rfl (c_ (BO_tri g.f_Boot y2 e1) (f_ c3 (r1_ (l_ 1 2 rfl (c_ (BO_tri g.f_N y5 e4) (r2_ tr)))))))) tr)) tr)
 ·obtain rfl := si_ h
  exact rr_ [] 15 [.reg [], .reg [(2, hC (BO_v y2)), (3, hF)]]
   (a_ (a_ (r2_ tr) (a_ (r1_ (l_ 0 2 rfl (c_ (BO_tri g.f_Boot y2 e1) (f_ c3 (a_ tr (t2_ (r2_ tr))))))) tr)) tr)
theorem BY_tri (g : Cc) (r : (Bool)) (h : BY g = some r) : FnTri Tryz.prog 70 [v_Cc g] [] (BY_v r) [] := FnTri.none (BY_ok g r h) rfl rfl
def AW_v (r : (Bool)) : LV := .bool r
def AW_l1 (locks : List (Cg)) (i : Int) (k0 : (Int) → Option ((Bool))) : Nat → (Int) → Option ((Bool))
 | 0, _ => none
 | fuel + 1, x_k =>
  if ((decide (x_k < (((locks.getD i.toNat default).f_Got).length : Int))) : Bool) then
   if 0 ≤ x_k ∧ x_k < ((((locks.getD i.toNat default).f_Got).length : Nat) : Int) then
   if ((decide (8 ≤ ((locks.getD i.toNat default).f_Got.getD x_k.toNat default).f_Node)) : Bool) then
    some false
   else
    (BY ((locks.getD i.toNat default).f_Got.getD x_k.toNat default).f_Reg).bind fun y5 =>
    if ((!y5) : Bool) then
     some false
    else
     AW_l1 locks i k0 fuel (IntKind.wrap .i64 (x_k + 1))
   else none
  else
   k0 (IntKind.wrap .i64 (i + 1))
def AW_l0 (locks : List (Cg)) : Nat → (Int) → Option ((Bool))
 | 0, _ => none
 | fuel + 1, i =>
  if ((decide (i < ((locks).length : Int))) : Bool) then
   if 0 ≤ i ∧ i < (((locks).length : Nat) : Int) then
   (Ae (locks.getD i.toNat default).f_Key).bind fun y4 =>
   if ((!y4) : Bool) then
    some false
   else
    if ((decide ((locks.getD i.toNat default).f_Mode < 1)) : Bool) then
     some false
    else
     if ((decide (2 < (locks.getD i.toNat default).f_Mode)) : Bool) then
      some false
     else
      AW_l1 locks i (AW_l0 locks fuel) big 0
   else none
  else
   some true
def AW (locks : List (Cg)) : Option ((Bool)) :=
 AW_l0 locks big 0
abbrev AW_K1 (w0 : World) (W : Nat → Prop) (μ0 : Emb) (locks : List (Cg)) (i x_k : Int) (r : (Bool)) : Prop := Kt_ w0 W μ0 Tryz.f36 0 0 (AW_v r) [] (kAt (bodyOf Tryz.f36) 1) ((.ds 10 (locks).length (rowF c_Cg default locks)) :: .any :: .any :: (.int .i64 i) :: (.ptr 0 0 0) :: (.int .i64 x_k) :: n_ 48 []) [some (.var (c_Cg (locks.getD i.toNat default)))]
abbrev AW_K0 (w0 : World) (W : Nat → Prop) (μ0 : Emb) (locks : List (Cg)) (i : Int) (r : (Bool)) : Prop := Kt_ w0 W μ0 Tryz.f36 0 0 (AW_v r) [] (kAt (bodyOf Tryz.f36) 0) ((.ds 10 (locks).length (rowF c_Cg default locks)) :: .any :: .any :: (.int .i64 i) :: n_ 50 []) []
theorem AW_l1_ok {w0 W μ0} (hμ : Lt_ μ0 0) (locks : List (Cg)) (i : Int) (k0 : (Int) → Option ((Bool))) (hk0 : ∀ (i : Int) (r : (Bool)), k0 i = some r → AW_K0 w0 W μ0 locks i r) : ∀ (fuel : Nat) (x_k : Int) (r : (Bool)), AW_l1 locks i k0 fuel x_k = some r → AW_K1 w0 W μ0 locks i x_k r := by
 intro fuel
 induction fuel with
 | zero => intro x_k r h; rw [AW_l1] at h; cases h
 | succ fuel ih =>
  intro x_k r h
  rw [AW_l1] at h
  rcases it_ h with ⟨C1, h⟩ | ⟨C1, h⟩
  ·obtain ⟨G2, h⟩ := gs_ h
   rcases it_ h with ⟨C3, h⟩ | ⟨C3, h⟩
   ·obtain rfl := si_ h
    exact rr_ [] 25 [.go, .reg [(4, hT)], .reg [(7, hT)], .reg []]
     (a_ (a_ (r2_ (l_ 9 10 rfl (r1_ (f_ C1 tr)))) (a_ (r1_ (l_ 9 10 rfl (r1_ (a_ (a_ (a_ (Eq.refl 16) G2) tr) (r1_ (a_ (a_ (lt_ 0 16 rfl) tr) (r1_ (f_ C3 (t8_ (r1_ tr)))))))))) (a_ (r1_ tr) tr))) tr)
   ·obtain ⟨y5, E4, h⟩ := bs_ h
    rcases it_ h with ⟨C6, h⟩ | ⟨C6, h⟩
    ·obtain rfl := si_ h
     exact rr_ [] 25 [.go, .reg [(4, hT)], .reg [(7, hF), (14, hC (BY_v y5)), (16, hT)], .reg []]
      (a_ (a_ (r2_ (l_ 9 10 rfl (r1_ (f_ C1 tr)))) (a_ (r1_ (l_ 9 10 rfl (r1_ (a_ (a_ (a_ (Eq.refl 16) G2) tr) (r1_ (a_ (a_ (lt_ 0 16 rfl) tr) (r1_ (f_ C3 (r1_ (l_ 9 10 rfl (r1_ (a_ (a_ (a_ (Eq.refl 16) G2) tr) (r1_ (a_ (a_ (le_ 2 15 rfl) tr) (a_ (a_ (a_ (BY_tri ((locks.getD i.toNat default).f_Got.getD x_k.toNat default).f_Reg y5 E4) tr) tr) (r1_ (f_ C6 tr))))))))))))))))) (a_ (r1_ tr) tr))) tr)
    ·exact rt_ hμ [0] 26 [.go, .reg [(4, hT)], .reg [(7, hF), (14, hC (BY_v y5)), (16, hF)], .reg []]
      (a_ (r2_ (l_ 9 10 rfl (r1_ (f_ C1 tr)))) (a_ (r1_ (l_ 9 10 rfl (r1_ (a_ (a_ (a_ (Eq.refl 16) G2) tr) (r1_ (a_ (a_ (lt_ 0 16 rfl) tr) (r1_ (f_ C3 (r1_ (l_ 9 10 rfl (r1_ (a_ (a_ (a_ (Eq.refl 16) G2) tr) (r1_ (a_ (a_ (le_ 2 15 rfl) tr) (a_ (a_ (a_ (BY_tri ((locks.getD i.toNat default).f_Got.getD x_k.toNat default).f_Reg y5 E4) tr) tr) (r1_ (f_ C6 tr))))))))))))))))) (a_ (r1_ (r2_ tr)) tr))) (ih _ r h) ⟨rfl, trivial⟩
  ·exact rt_ hμ [] 19 [.go, .reg [(4, hF)], .reg []]
    (a_ (r2_ (l_ 9 10 rfl (r1_ (f_ C1 tr)))) (a_ (r1_ (r2_ tr)) tr)) (hk0 _ r h) trivial
theorem AW_l0_ok {w0 W μ0} (hμ : Lt_ μ0 0) (locks : List (Cg)) : ∀ (fuel : Nat) (i : Int) (r : (Bool)), AW_l0 locks fuel i = some r → AW_K0 w0 W μ0 locks i r := by
 intro fuel
 induction fuel with
 | zero => intro i r h; rw [AW_l0] at h; cases h
 | succ fuel ih =>
  intro i r h
  rw [AW_l0] at h
  rcases it_ h with ⟨C1, h⟩ | ⟨C1, h⟩
  ·obtain ⟨G2, h⟩ := gs_ h
   obtain ⟨y4, E3, h⟩ := bs_ h
   rcases it_ h with ⟨C5, h⟩ | ⟨C5, h⟩
   ·obtain rfl := si_ h
    exact rr_ [] 29 [.go, .reg [(3, hT)], .reg [], .reg [(2, hC (Ae_v y4)), (4, hT)], .reg []]
     (a_ (a_ (r1_ (r2_ (f_ C1 tr))) (a_ (r2_ (a_ (a_ (a_ (Eq.refl 10) G2) tr) (a_ (a_ (le_ 10 10 rfl) tr) (r1_ (a_ (a_ (a_ (Eq.refl 10) (a_ (le_ 10 10 rfl) (Eq.refl 0))) tr) tr))))) (a_ (r1_ (m_ 8 10 rfl (a_ (a_ (a_ (Ae_tri (locks.getD i.toNat default).f_Key y4 E3) tr) tr) (r1_ (f_ C5 (a_ tr (t2_ (r2_ (a_ tr (t2_ (r1_ tr))))))))))) (a_ (r1_ tr) tr)))) tr)
   ·rcases it_ h with ⟨C6, h⟩ | ⟨C6, h⟩
    ·obtain rfl := si_ h
     exact rr_ [] 29 [.go, .reg [(3, hT)], .reg [], .reg [(2, hC (Ae_v y4)), (4, hF), (9, hT)], .reg []]
      (a_ (a_ (r1_ (r2_ (f_ C1 tr))) (a_ (r2_ (a_ (a_ (a_ (Eq.refl 10) G2) tr) (a_ (a_ (le_ 10 10 rfl) tr) (r1_ (a_ (a_ (a_ (Eq.refl 10) (a_ (le_ 10 10 rfl) (Eq.refl 0))) tr) tr))))) (a_ (r1_ (m_ 8 10 rfl (a_ (a_ (a_ (Ae_tri (locks.getD i.toNat default).f_Key y4 E3) tr) tr) (r1_ (f_ C5 (r1_ (l_ 8 10 rfl (r2_ (f_ C6 (a_ tr (t2_ (r1_ tr)))))))))))) (a_ (r1_ tr) tr)))) tr)
    ·rcases it_ h with ⟨C7, h⟩ | ⟨C7, h⟩
     ·obtain rfl := si_ h
      exact rr_ [] 29 [.go, .reg [(3, hT)], .reg [], .reg [(2, hC (Ae_v y4)), (4, hF), (9, hF), (13, hT)], .reg []]
       (a_ (a_ (r1_ (r2_ (f_ C1 tr))) (a_ (r2_ (a_ (a_ (a_ (Eq.refl 10) G2) tr) (a_ (a_ (le_ 10 10 rfl) tr) (r1_ (a_ (a_ (a_ (Eq.refl 10) (a_ (le_ 10 10 rfl) (Eq.refl 0))) tr) tr))))) (a_ (r1_ (m_ 8 10 rfl (a_ (a_ (a_ (Ae_tri (locks.getD i.toNat default).f_Key y4 E3) tr) tr) (r1_ (f_ C5 (r1_ (l_ 8 10 rfl (r2_ (f_ C6 (r1_ (l_ 8 10 rfl (r1_ (f_ C7 tr))))))))))))) (a_ (r1_ tr) tr)))) tr)
     ·exact rt_ hμ [0] 32 [.go, .reg [(3, hT)], .reg [], .reg [(2, hC (Ae_v y4)), (4, hF), (9, hF), (13, hF)], .reg []]
       (a_ (r1_ (r2_ (f_ C1 tr))) (a_ (r2_ (a_ (a_ (a_ (Eq.refl 10) G2) tr) (a_ (a_ (le_ 10 10 rfl) tr) (r1_ (a_ (a_ (a_ (Eq.refl 10) (a_ (le_ 10 10 rfl) (Eq.refl 0))) tr) tr))))) (a_ (r1_ (m_ 8 10 rfl (a_ (a_ (a_ (Ae_tri (locks.getD i.toNat default).f_Key y4 E3) tr) tr) (r1_ (f_ C5 (r1_ (l_ 8 10 rfl (r2_ (f_ C6 (r1_ (l_ 8 10 rfl (r1_ (f_ C7 tr))))))))))))) (a_ (r1_ tr) tr)))) (AW_l1_ok hμ locks i (AW_l0 locks fuel) ih big _ r h) ⟨rfl, trivial⟩
  ·obtain rfl := si_ h
   exact rr_ [] 19 [.go, .reg [(3, hF)], .reg []]
    (a_ (a_ (r1_ (r2_ (f_ C1 tr))) (a_ (r1_ tr) tr)) tr)
theorem AW_ok (locks : List (Cg)) (r : (Bool)) (h : AW locks = some r) : ∀ σ, Inj 0 σ → FnTri Tryz.prog 36 (renL σ [.ds 10 (locks).length (rowF c_Cg default locks)]) (preOf σ 0 []) ((AW_v r).ren σ) (upOf σ []) := by
 refine fo_ Tryz.func36 trivial trivial ?_
 intro w0 W μ0 hμ
 unfold AW at h
 exact rt_ hμ [] 18 [.reg [], .reg []]
  (a_ (r1_ tr) (a_ (r1_ tr) tr)) (AW_l0_ok hμ locks big _ r h) trivial
theorem AW_tri (locks : List (Cg)) (r : (Bool)) (h : AW locks = some r) : FnTri Tryz.prog 36 [.ds 10 (locks).length (rowF c_Cg default locks)] [] (AW_v r) [] := FnTri.none (AW_ok locks r h) rfl rfl
def Au_v (r : (Int)) : LV := .int .i64 r
def Au_l0 (c : Ca) : Nat → (Int) → (Int) → Option ((Int))
 | 0, _, _ => none
 | fuel + 1, x_n, i =>
  if ((decide (i < 8)) : Bool) then
   if 0 ≤ i ∧ i < 8 then
   Au_l0 c fuel (IntKind.wrap .i64 (x_n + (IntKind.wrap .i64 (A8.get c.f_Votes i.toNat)))) (IntKind.wrap .i64 (i + 1))
   else none
  else
   some x_n
def Au (c : Ca) : Option ((Int)) :=
 Au_l0 c big 0 0
abbrev Au_K0 (w0 : World) (W : Nat → Prop) (μ0 : Emb) (c : Ca) (x_n i : Int) (r : (Int)) : Prop := Kt_ w0 W μ0 Tryz.f118 0 0 (Au_v r) [] (kAt (bodyOf Tryz.f118) 0) (.any :: (.ptr 0 0 0) :: .any :: (.int .i64 x_n) :: (.int .i64 i) :: n_ 12 []) [some (.var (c_Ca c))]
theorem Au_l0_ok {w0 W μ0} (hμ : Lt_ μ0 0) (c : Ca) : ∀ (fuel : Nat) (x_n i : Int) (r : (Int)), Au_l0 c fuel x_n i = some r → Au_K0 w0 W μ0 c x_n i r := by
 intro fuel
 induction fuel with
 | zero => intro x_n i r h; rw [Au_l0] at h; cases h
 | succ fuel ih =>
  intro x_n i r h
  rw [Au_l0] at h
  rcases it_ h with ⟨C1, h⟩ | ⟨C1, h⟩
  ·obtain ⟨G2, h⟩ := gs_ h
   exact rt_ hμ [0] 23 [.go, .reg [(1, hT)], .reg [(4, hv_ (.int .u8 (A8.get c.f_Votes i.toNat)))], .reg []]
    (a_ (r1_ (f_ C1 tr)) (a_ (r1_ (r2_ (a_ (a_ G2 tr) (a_ (a_ (a_ tr (arrLt (len := 8) G2 3 1 11 rfl rfl)) (a_ (ld8s (cInt .u8) 1 (fun _ => rfl) c.f_Votes [.int .u32 c.f_Epoch, .int .u8 c.f_R, .int .u8 c.f_W] [] 3 rfl i.toNat (lt8N G2) (le_ (0 + 1) 1 rfl)) tr)) (r1_ (r2_ tr)))))) (a_ (r1_ (r2_ tr)) tr))) (ih _ _ r h) ⟨rfl, trivial⟩
  ·obtain rfl := si_ h
   exact rr_ [] 19 [.go, .reg [(1, hF)], .reg []]
    (a_ (a_ (r1_ (f_ C1 tr)) (a_ (r2_ tr) tr)) tr)
theorem Au_ok (c : Ca) (r : (Int)) (h : Au c = some r) : ∀ σ, Inj 0 σ → FnTri Tryz.prog 118 (renL σ [v_Ca c]) (preOf σ 0 []) ((Au_v r).ren σ) (upOf σ []) := by
 refine fo_ Tryz.func118 trivial trivial ?_
 intro w0 W μ0 hμ
 unfold Au at h
 exact rt_ hμ [0] 21 [.reg [], .reg [], .reg []]
  (a_ (r2_ tr) (a_ (r1_ tr) (a_ (r1_ tr) tr))) (Au_l0_ok hμ c big _ _ r h) ⟨rfl, trivial⟩
theorem Au_tri (c : Ca) (r : (Int)) (h : Au c = some r) : FnTri Tryz.prog 118 [v_Ca c] [] (Au_v r) [] := FnTri.none (Au_ok c r h) rfl rfl
def BD_v (r : (Bool)) : LV := .bool r
def BD_l0 (c : Ca) (y2 : (Int)) : Nat → (Int) → Option ((Bool))
 | 0, _ => none
 | fuel + 1, i =>
  if ((decide (i < 8)) : Bool) then
   if 0 ≤ i ∧ i < 8 then
   if ((decide (15 < (A8.get c.f_Votes i.toNat))) : Bool) then
    some false
   else
    BD_l0 c y2 fuel (IntKind.wrap .i64 (i + 1))
   else none
  else
   if ((decide (1 ≤ c.f_Epoch)) : Bool) then
    if ((decide (c.f_Epoch ≤ 2147483647)) : Bool) then
     if ((decide (1 ≤ (IntKind.wrap .i64 c.f_R))) : Bool) then
      if ((decide (1 ≤ (IntKind.wrap .i64 c.f_W))) : Bool) then
       if ((decide ((IntKind.wrap .i64 c.f_R) ≤ y2)) : Bool) then
        if ((decide ((IntKind.wrap .i64 c.f_W) ≤ y2)) : Bool) then
         if ((decide (y2 < (IntKind.wrap .i64 ((IntKind.wrap .i64 c.f_R) + (IntKind.wrap .i64 c.f_W))))) : Bool) then
          some (decide (y2 < (IntKind.wrap .i64 (2 * (IntKind.wrap .i64 c.f_W)))))
         else
          some false
        else
         some false
       else
        some false
      else
       some false
     else
      some false
    else
     some false
   else
    some false
def BD (c : Ca) : Option ((Bool)) :=
 (Au c).bind fun y2 =>
 BD_l0 c y2 big 0
abbrev BD_K0 (w0 : World) (W : Nat → Prop) (μ0 : Emb) (c : Ca) (y2 : (Int)) (i : Int) (r : (Bool)) : Prop := Kt_ w0 W μ0 Tryz.f94 0 0 (BD_v r) [] (kAt (bodyOf Tryz.f94) 0) (.any :: (.ptr 0 0 0) :: .any :: (.int .i64 y2) :: (.int .i64 (IntKind.wrap .i64 c.f_R)) :: (.int .i64 (IntKind.wrap .i64 c.f_W)) :: (.int .i64 i) :: n_ 56 []) [some (.var (c_Ca c))]
theorem BD_l0_ok {w0 W μ0} (hμ : Lt_ μ0 0) (c : Ca) (y2 : (Int)) : ∀ (fuel : Nat) (i : Int) (r : (Bool)), BD_l0 c y2 fuel i = some r → BD_K0 w0 W μ0 c y2 i r := by
 intro fuel
 induction fuel with
 | zero => intro i r h; rw [BD_l0] at h; cases h
 | succ fuel ih =>
  intro i r h
  rw [BD_l0] at h
  rcases it_ h with ⟨C1, h⟩ | ⟨C1, h⟩
  ·obtain ⟨G2, h⟩ := gs_ h
   rcases it_ h with ⟨C3, h⟩ | ⟨C3, h⟩
   ·obtain rfl := si_ h
    exact rr_ [] 25 [.go, .reg [(1, hT)], .reg [(3, hv_ (.int .u8 (A8.get c.f_Votes i.toNat))), (4, hT)], .reg []]
     (a_ (a_ (r1_ (f_ C1 tr)) (a_ (r2_ (a_ (a_ G2 tr) (a_ (a_ (a_ tr (arrLt (len := 8) G2 3 1 11 rfl rfl)) (a_ (ld8s (cInt .u8) 1 (fun _ => rfl) c.f_Votes [.int .u32 c.f_Epoch, .int .u8 c.f_R, .int .u8 c.f_W] [] 3 rfl i.toNat (lt8N G2) (le_ (0 + 1) 1 rfl)) tr)) (f_ C3 tr)))) (a_ (r1_ tr) tr))) tr)
   ·exact rt_ hμ [0] 26 [.go, .reg [(1, hT)], .reg [(3, hv_ (.int .u8 (A8.get c.f_Votes i.toNat))), (4, hF)], .reg []]
     (a_ (r1_ (f_ C1 tr)) (a_ (r2_ (a_ (a_ G2 tr) (a_ (a_ (a_ tr (arrLt (len := 8) G2 3 1 11 rfl rfl)) (a_ (ld8s (cInt .u8) 1 (fun _ => rfl) c.f_Votes [.int .u32 c.f_Epoch, .int .u8 c.f_R, .int .u8 c.f_W] [] 3 rfl i.toNat (lt8N G2) (le_ (0 + 1) 1 rfl)) tr)) (f_ C3 tr)))) (a_ (r1_ (r2_ tr)) tr))) (ih _ r h) ⟨rfl, trivial⟩
  ·rcases it_ h with ⟨C2, h⟩ | ⟨C2, h⟩
   ·rcases it_ h with ⟨C3, h⟩ | ⟨C3, h⟩
    ·rcases it_ h with ⟨C4, h⟩ | ⟨C4, h⟩
     ·rcases it_ h with ⟨C5, h⟩ | ⟨C5, h⟩
      ·rcases it_ h with ⟨C6, h⟩ | ⟨C6, h⟩
       ·rcases it_ h with ⟨C7, h⟩ | ⟨C7, h⟩
        ·rcases it_ h with ⟨C8, h⟩ | ⟨C8, h⟩
         ·obtain rfl := si_ h
          exact rr_ [] 19 [.go, .reg [(1, hF)], .reg [(3, hT), (8, hT), (12, hT), (16, hT), (21, hT), (26, hT), (33, hT)]]
           (a_ (a_ (r1_ (f_ C1 tr)) (a_ (r1_ (l_ 0 11 rfl (r1_ (f_ C2 (r1_ (l_ 0 11 rfl (r2_ (f_ C3 (r1_ (r2_ (f_ C4 (r1_ (r2_ (f_ C5 (r4_ (f_ C6 (r4_ (f_ C7 (r2_ (r4_ (f_ C8 (r2_ (r4_ tr))))))))))))))))))))))) tr)) tr)
         ·obtain rfl := si_ h
          exact rr_ [] 19 [.go, .reg [(1, hF)], .reg [(3, hT), (8, hT), (12, hT), (16, hT), (21, hT), (26, hT), (33, hF)]]
           (a_ (a_ (r1_ (f_ C1 tr)) (a_ (r1_ (l_ 0 11 rfl (r1_ (f_ C2 (r1_ (l_ 0 11 rfl (r2_ (f_ C3 (r1_ (r2_ (f_ C4 (r1_ (r2_ (f_ C5 (r4_ (f_ C6 (r4_ (f_ C7 (r2_ (r4_ (f_ C8 (t4_ (r2_ tr))))))))))))))))))))))) tr)) tr)
        ·obtain rfl := si_ h
         exact rr_ [] 19 [.go, .reg [(1, hF)], .reg [(3, hT), (8, hT), (12, hT), (16, hT), (21, hT), (26, hF)]]
          (a_ (a_ (r1_ (f_ C1 tr)) (a_ (r1_ (l_ 0 11 rfl (r1_ (f_ C2 (r1_ (l_ 0 11 rfl (r2_ (f_ C3 (r1_ (r2_ (f_ C4 (r1_ (r2_ (f_ C5 (r4_ (f_ C6 (r4_ (f_ C7 (a_ tr (t4_ (r2_ (t4_ (r2_ tr))))))))))))))))))))))) tr)) tr)
       ·obtain rfl := si_ h
        exact rr_ [] 19 [.go, .reg [(1, hF)], .reg [(3, hT), (8, hT), (12, hT), (16, hT), (21, hF)]]
         (a_ (a_ (r1_ (f_ C1 tr)) (a_ (r1_ (l_ 0 11 rfl (r1_ (f_ C2 (r1_ (l_ 0 11 rfl (r2_ (f_ C3 (r1_ (r2_ (f_ C4 (r1_ (r2_ (f_ C5 (r4_ (f_ C6 (a_ tr (t2_ (r2_ (a_ tr (t4_ (r2_ (t4_ (r2_ tr)))))))))))))))))))))))) tr)) tr)
      ·obtain rfl := si_ h
       exact rr_ [] 19 [.go, .reg [(1, hF)], .reg [(3, hT), (8, hT), (12, hT), (16, hF)]]
        (a_ (a_ (r1_ (f_ C1 tr)) (a_ (r1_ (l_ 0 11 rfl (r1_ (f_ C2 (r1_ (l_ 0 11 rfl (r2_ (f_ C3 (r1_ (r2_ (f_ C4 (r1_ (r2_ (f_ C5 (a_ tr (t2_ (r2_ (a_ tr (t2_ (r2_ (a_ tr (t4_ (r2_ (t4_ (r2_ tr))))))))))))))))))))))))) tr)) tr)
     ·obtain rfl := si_ h
      exact rr_ [] 19 [.go, .reg [(1, hF)], .reg [(3, hT), (8, hT), (12, hF)]]
       (a_ (a_ (r1_ (f_ C1 tr)) (a_ (r1_ (l_ 0 11 rfl (r1_ (f_ C2 (r1_ (l_ 0 11 rfl (r2_ (f_ C3 (r1_ (r2_ (f_ C4 (t2_ (r2_ (a_ tr (t2_ (r2_ (a_ tr (t2_ (r2_ (a_ tr (t4_ (r2_ (t4_ (r2_ tr)))))))))))))))))))))))) tr)) tr)
    ·obtain rfl := si_ h
     exact rr_ [] 19 [.go, .reg [(1, hF)], .reg [(3, hT), (8, hF)]]
      (a_ (a_ (r1_ (f_ C1 tr)) (a_ (r1_ (l_ 0 11 rfl (r1_ (f_ C2 (r1_ (l_ 0 11 rfl (r2_ (f_ C3 (t2_ (r2_ (t2_ (r2_ (a_ tr (t2_ (r2_ (a_ tr (t2_ (r2_ (a_ tr (t4_ (r2_ (t4_ (r2_ tr))))))))))))))))))))))) tr)) tr)
   ·obtain rfl := si_ h
    exact rr_ [] 19 [.go, .reg [(1, hF)], .reg [(3, hF)]]
     (a_ (a_ (r1_ (f_ C1 tr)) (a_ (r1_ (l_ 0 11 rfl (r1_ (f_ C2 (a_ tr (t2_ (r2_ (t2_ (r2_ (t2_ (r2_ (a_ tr (t2_ (r2_ (a_ tr (t2_ (r2_ (a_ tr (t4_ (r2_ (t4_ (r2_ tr)))))))))))))))))))))) tr)) tr)
theorem BD_ok (c : Ca) (r : (Bool)) (h : BD c = some r) : ∀ σ, Inj 0 σ → FnTri Tryz.prog 94 (renL σ [v_Ca c]) (preOf σ 0 []) ((BD_v r).ren σ) (upOf σ []) := by
 refine fo_ Tryz.func94 trivial trivial ?_
 intro w0 W μ0 hμ
 unfold BD at h
 obtain ⟨y2, e1, h⟩ := bs_ h
 exact rt_ hμ [0] 21 [.reg [], .reg [(1, hC (Au_v y2))], .reg []]
  (a_ (r2_ tr) (a_ (m_ 11 11 rfl (c_ (Au_tri c y2 e1) (r1_ (l_ 1 11 rfl (r2_ (l_ 2 11 rfl (r4_ tr))))))) (a_ (r1_ tr) tr))) (BD_l0_ok hμ c y2 big _ r h) ⟨rfl, trivial⟩
theorem BD_tri (c : Ca) (r : (Bool)) (h : BD c = some r) : FnTri Tryz.prog 94 [v_Ca c] [] (BD_v r) [] := FnTri.none (BD_ok c r h) rfl rfl
def BB_v (r : (Bool)) : LV := .bool r
def BB (i : Cj) : Option ((Bool)) :=
 if ((decide (i.f_Version ≤ 2147483647)) : Bool) then
  if ((decide (((i.f_Value).length : Int) ≤ 64)) : Bool) then
   (BD i.f_Conf).bind fun y4 =>
   some y4
  else
   some false
 else
  some false
theorem BB_ok (i : Cj) (r : (Bool)) (h : BB i = some r) : ∀ σ, Inj 0 σ → FnTri Tryz.prog 71 (renL σ [v_Cj i]) (preOf σ 0 []) ((BB_v r).ren σ) (upOf σ []) := by
 refine fo_ Tryz.func71 trivial trivial ?_
 intro w0 W μ0 hμ
 unfold BB at h
 rcases it_ h with ⟨c1, h⟩ | ⟨c1, h⟩
 ·rcases it_ h with ⟨c2, h⟩ | ⟨c2, h⟩
  ·obtain ⟨y4, e3, h⟩ := bs_ h
   obtain rfl := si_ h
   exact rr_ [] 15 [.reg [], .reg [(3, hT), (9, hT), (12, hC (BD_v y4))]]
    (a_ (a_ (r2_ tr) (a_ (r1_ (l_ 0 13 rfl (r1_ (f_ c1 (r1_ (l_ 1 13 rfl (r1_ (r2_ (f_ c2 (r1_ (m_ 13 13 rfl (c_ (BD_tri i.f_Conf y4 e3) (r2_ tr))))))))))))) tr)) tr)
  ·obtain rfl := si_ h
   exact rr_ [] 15 [.reg [], .reg [(3, hT), (9, hF)]]
    (a_ (a_ (r2_ tr) (a_ (r1_ (l_ 0 13 rfl (r1_ (f_ c1 (r1_ (l_ 1 13 rfl (r1_ (r2_ (f_ c2 (a_ tr (t2_ (r2_ tr)))))))))))) tr)) tr)
 ·obtain rfl := si_ h
  exact rr_ [] 15 [.reg [], .reg [(3, hF)]]
   (a_ (a_ (r2_ tr) (a_ (r1_ (l_ 0 13 rfl (r1_ (f_ c1 (t4_ (r2_ (a_ tr (t2_ (r2_ tr))))))))) tr)) tr)
theorem BB_tri (i : Cj) (r : (Bool)) (h : BB i = some r) : FnTri Tryz.prog 71 [v_Cj i] [] (BB_v r) [] := FnTri.none (BB_ok i r h) rfl rfl
def Am_v (r : (Int)) : LV := .int .i64 r
def Am_l0 (a b : List (Int)) : Nat → (Int) → Option ((Int))
 | 0, _ => none
 | fuel + 1, i =>
  if ((decide (i < ((a).length : Int))) : Bool) then
   if 0 ≤ i ∧ i < (((a).length : Nat) : Int) then
   if 0 ≤ i ∧ i < (((b).length : Nat) : Int) then
   if ((decide ((a.getD i.toNat default) < (b.getD i.toNat default))) : Bool) then
    some (-1)
   else
    if ((decide ((b.getD i.toNat default) < (a.getD i.toNat default))) : Bool) then
     some 1
    else
     Am_l0 a b fuel (IntKind.wrap .i64 (i + 1))
   else none
   else none
  else
   some 0
def Am (a b : List (Int)) : Option ((Int)) :=
 Am_l0 a b big 0
abbrev Am_K0 (w0 : World) (W : Nat → Prop) (μ0 : Emb) (a b : List (Int)) (i : Int) (r : (Int)) : Prop := Kt_ w0 W μ0 Tryz.f95 0 0 (Am_v r) [] (kAt (bodyOf Tryz.f95) 0) ((.ds 1 (a).length (rowF (cInt .u32) default a)) :: (.ds 1 (b).length (rowF (cInt .u32) default b)) :: .any :: .any :: .any :: (.int .i64 i) :: n_ 24 []) []
theorem Am_l0_ok {w0 W μ0} (hμ : Lt_ μ0 0) (a b : List (Int)) : ∀ (fuel : Nat) (i : Int) (r : (Int)), Am_l0 a b fuel i = some r → Am_K0 w0 W μ0 a b i r := by
 intro fuel
 induction fuel with
 | zero => intro i r h; rw [Am_l0] at h; cases h
 | succ fuel ih =>
  intro i r h
  rw [Am_l0] at h
  rcases it_ h with ⟨C1, h⟩ | ⟨C1, h⟩
  ·obtain ⟨G2, h⟩ := gs_ h
   obtain ⟨G3, h⟩ := gs_ h
   rcases it_ h with ⟨C4, h⟩ | ⟨C4, h⟩
   ·obtain rfl := si_ h
    exact rr_ [] 26 [.go, .reg [(3, hT)], .reg [(8, hT)], .reg []]
     (a_ (a_ (r1_ (r2_ (f_ C1 tr))) (a_ (r2_ (a_ (a_ (a_ (Eq.refl 1) G2) tr) (a_ (a_ (lt_ 0 1 rfl) tr) (r2_ (a_ (a_ (a_ (Eq.refl 1) G3) tr) (a_ (a_ (lt_ 0 1 rfl) tr) (f_ C4 tr))))))) (a_ (r1_ tr) tr))) tr)
   ·rcases it_ h with ⟨C5, h⟩ | ⟨C5, h⟩
    ·obtain rfl := si_ h
     exact rr_ [] 31 [.go, .reg [(3, hT)], .reg [(8, hF)], .reg [(8, hT)], .reg []]
      (a_ (a_ (r1_ (r2_ (f_ C1 tr))) (a_ (r2_ (a_ (a_ (a_ (Eq.refl 1) G2) tr) (a_ (a_ (lt_ 0 1 rfl) tr) (r2_ (a_ (a_ (a_ (Eq.refl 1) G3) tr) (a_ (a_ (lt_ 0 1 rfl) tr) (f_ C4 tr))))))) (a_ (r2_ (a_ (a_ (a_ (Eq.refl 1) G2) tr) (a_ (a_ (lt_ 0 1 rfl) tr) (r2_ (a_ (a_ (a_ (Eq.refl 1) G3) tr) (a_ (a_ (lt_ 0 1 rfl) tr) (f_ C5 tr))))))) (a_ (r1_ tr) tr)))) tr)
    ·exact rt_ hμ [] 32 [.go, .reg [(3, hT)], .reg [(8, hF)], .reg [(8, hF)], .reg []]
      (a_ (r1_ (r2_ (f_ C1 tr))) (a_ (r2_ (a_ (a_ (a_ (Eq.refl 1) G2) tr) (a_ (a_ (lt_ 0 1 rfl) tr) (r2_ (a_ (a_ (a_ (Eq.refl 1) G3) tr) (a_ (a_ (lt_ 0 1 rfl) tr) (f_ C4 tr))))))) (a_ (r2_ (a_ (a_ (a_ (Eq.refl 1) G2) tr) (a_ (a_ (lt_ 0 1 rfl) tr) (r2_ (a_ (a_ (a_ (Eq.refl 1) G3) tr) (a_ (a_ (lt_ 0 1 rfl) tr) (f_ C5 tr))))))) (a_ (r1_ (r2_ tr)) tr)))) (ih _ r h) trivial
  ·obtain rfl := si_ h
   exact rr_ [] 19 [.go, .reg [(3, hF)], .reg []]
    (a_ (a_ (r1_ (r2_ (f_ C1 tr))) (a_ (r1_ tr) tr)) tr)
theorem Am_ok (a b : List (Int)) (r : (Int)) (h : Am a b = some r) : ∀ σ, Inj 0 σ → FnTri Tryz.prog 95 (renL σ [.ds 1 (a).length (rowF (cInt .u32) default a), .ds 1 (b).length (rowF (cInt .u32) default b)]) (preOf σ 0 []) ((Am_v r).ren σ) (upOf σ []) := by
 refine fo_ Tryz.func95 trivial trivial ?_
 intro w0 W μ0 hμ
 unfold Am at h
 exact rt_ hμ [] 18 [.reg [], .reg []]
  (a_ (r1_ tr) (a_ (r1_ tr) tr)) (Am_l0_ok hμ a b big _ r h) trivial
theorem Am_tri (a b : List (Int)) (r : (Int)) (h : Am a b = some r) : FnTri Tryz.prog 95 [.ds 1 (a).length (rowF (cInt .u32) default a), .ds 1 (b).length (rowF (cInt .u32) default b)] [] (Am_v r) [] := FnTri.none (Am_ok a b r h) rfl rfl
def An_v (r : (Int)) : LV := .int .i64 r
def An_l0 (a b : I_) : Nat → (Int) → (List (Int)) → (List (Int)) → Option ((Int))
 | 0, _, _, _ => none
 | fuel + 1, i, l, l2 =>
  if ((decide (i < 8)) : Bool) then
   if 0 ≤ i ∧ i < 8 then
   if ((l).length + (([(IntKind.wrap .u32 (A8.get a i.toNat))] : List (Int))).length) * 4 ≤ 140737488351232 then
   if ((l2).length + (([(IntKind.wrap .u32 (A8.get b i.toNat))] : List (Int))).length) * 4 ≤ 140737488351232 then
   An_l0 a b fuel (IntKind.wrap .i64 (i + 1)) (l ++ ([(IntKind.wrap .u32 (A8.get a i.toNat))] : List (Int))) (l2 ++ ([(IntKind.wrap .u32 (A8.get b i.toNat))] : List (Int)))
   else none
   else none
   else none
  else
   (Am l l2).bind fun y3 =>
   some y3
def An (a b : I_) : Option ((Int)) :=
 An_l0 a b big 0 ([] : List (Int)) ([] : List (Int))
abbrev An_K0 (w0 : World) (W : Nat → Prop) (μ0 : Emb) (a b : I_) (i : Int) (l l2 : List (Int)) (r : (Int)) : Prop := Kt_ w0 W μ0 Tryz.f72 0 0 (An_v r) [] (kAt (bodyOf Tryz.f72) 0) (.any :: .any :: (.ptr 0 0 0) :: (.ptr 1 0 0) :: .any :: (.gs 2 (l).length) :: (.gs 3 (l2).length) :: (.int .i64 i) :: n_ 21 []) [some (.var [.int .u8 a.a0, .int .u8 a.a1, .int .u8 a.a2, .int .u8 a.a3, .int .u8 a.a4, .int .u8 a.a5, .int .u8 a.a6, .int .u8 a.a7]), some (.var [.int .u8 b.a0, .int .u8 b.a1, .int .u8 b.a2, .int .u8 b.a3, .int .u8 b.a4, .int .u8 b.a5, .int .u8 b.a6, .int .u8 b.a7]), some (.gr 1 (l).length (rowF (cInt .u32) default l)), some (.gr 1 (l2).length (rowF (cInt .u32) default l2))]
theorem An_l0_ok {w0 W μ0} (hμ : Lt_ μ0 0) (a b : I_) : ∀ (fuel : Nat) (i : Int) (l l2 : List (Int)) (r : (Int)), An_l0 a b fuel i l l2 = some r → An_K0 w0 W μ0 a b i l l2 r := by
 intro fuel
 induction fuel with
 | zero => intro i l l2 r h; rw [An_l0] at h; cases h
 | succ fuel ih =>
  intro i l l2 r h
  rw [An_l0] at h
  rcases it_ h with ⟨C1, h⟩ | ⟨C1, h⟩
  ·obtain ⟨G2, h⟩ := gs_ h
   obtain ⟨G3, h⟩ := gs_ h
   obtain ⟨G4, h⟩ := gs_ h
   exact rt_ hμ [0, 1, 5, 7] 26 [.go, .reg [(1, hT)], .reg [(3, hv_ (.int .u8 (A8.get a i.toNat))), (5, { os := [(4, .gr 1 (([(IntKind.wrap .u32 (A8.get a i.toNat))] : List (Int))).length (rowF (cInt .u32) default ([(IntKind.wrap .u32 (A8.get a i.toNat))] : List (Int))))], v := some (.gs 4 (([(IntKind.wrap .u32 (A8.get a i.toNat))] : List (Int))).length) }), (6, { app := 3, os := [(5, .gr 1 ((l ++ ([(IntKind.wrap .u32 (A8.get a i.toNat))] : List (Int)))).length (rowF (cInt .u32) default (l ++ ([(IntKind.wrap .u32 (A8.get a i.toNat))] : List (Int)))))], v := some (.gs 5 ((l ++ ([(IntKind.wrap .u32 (A8.get a i.toNat))] : List (Int)))).length) })], .reg [(3, hv_ (.int .u8 (A8.get b i.toNat))), (5, { os := [(6, .gr 1 (([(IntKind.wrap .u32 (A8.get b i.toNat))] : List (Int))).length (rowF (cInt .u32) default ([(IntKind.wrap .u32 (A8.get b i.toNat))] : List (Int))))], v := some (.gs 6 (([(IntKind.wrap .u32 (A8.get b i.toNat))] : List (Int))).length) }), (6, { app := 3, os := [(7, .gr 1 ((l2 ++ ([(IntKind.wrap .u32 (A8.get b i.toNat))] : List (Int)))).length (rowF (cInt .u32) default (l2 ++ ([(IntKind.wrap .u32 (A8.get b i.toNat))] : List (Int)))))], v := some (.gs 7 ((l2 ++ ([(IntKind.wrap .u32 (A8.get b i.toNat))] : List (Int)))).length) })], .reg []]
    (a_ (r1_ (f_ C1 tr)) (a_ (r2_ (a_ (a_ G2 tr) (a_ (a_ (a_ tr (arrLt (len := 8) G2 0 1 8 rfl rfl)) (a_ (ld8s (cInt .u8) 1 (fun _ => rfl) a [] [] 0 rfl i.toNat (lt8N G2) (le_ (0 + 1) 1 rfl)) tr)) (r1_ (a_ (a_ (a_ (Eq.refl true) (a_ (Eq.refl 1) (a_ (lt_ 0 1 rfl) (le_ 1 16777216 rfl)))) (a_ (le_sl_gs 4 1 (some 1) rfl) (a_ (sub_lit (cInt .u32) default 1 (fun _ => rfl) ([(IntKind.wrap .u32 (A8.get a i.toNat))] : List (Int))) tr))) (a_ (a_ (a_ (a_ (Eq.refl 1) (Nat.le_refl (([(IntKind.wrap .u32 (A8.get a i.toNat))] : List (Int))).length)) (a_ (a_ (lt_ 0 1 rfl) (a_ (lt_ 0 4 rfl) (a_ G3 (a_ (Eq.refl 1) (Eq.refl true))))) (a_ (Eq.refl 1) (Nat.le_refl (l).length)))) (a_ (le_gs_app 5 l ([(IntKind.wrap .u32 (A8.get a i.toNat))] : List (Int))) (a_ (sub_app (cInt .u32) default 1 l ([(IntKind.wrap .u32 (A8.get a i.toNat))] : List (Int))) tr))) (r1_ tr))))))) (a_ (r2_ (a_ (a_ G2 tr) (a_ (a_ (a_ tr (arrLt (len := 8) G2 0 1 8 rfl rfl)) (a_ (ld8s (cInt .u8) 1 (fun _ => rfl) b [] [] 0 rfl i.toNat (lt8N G2) (le_ (0 + 1) 1 rfl)) tr)) (r1_ (a_ (a_ (a_ (Eq.refl true) (a_ (Eq.refl 1) (a_ (lt_ 0 1 rfl) (le_ 1 16777216 rfl)))) (a_ (le_sl_gs 6 1 (some 1) rfl) (a_ (sub_lit (cInt .u32) default 1 (fun _ => rfl) ([(IntKind.wrap .u32 (A8.get b i.toNat))] : List (Int))) tr))) (a_ (a_ (a_ (a_ (Eq.refl 1) (Nat.le_refl (([(IntKind.wrap .u32 (A8.get b i.toNat))] : List (Int))).length)) (a_ (a_ (lt_ 0 1 rfl) (a_ (lt_ 0 4 rfl) (a_ G4 (a_ (Eq.refl 1) (Eq.refl true))))) (a_ (Eq.refl 1) (Nat.le_refl (l2).length)))) (a_ (le_gs_app 7 l2 ([(IntKind.wrap .u32 (A8.get b i.toNat))] : List (Int))) (a_ (sub_app (cInt .u32) default 1 l2 ([(IntKind.wrap .u32 (A8.get b i.toNat))] : List (Int))) tr))) (r1_ tr))))))) (a_ (r1_ (r2_ tr)) tr)))) (ih _ _ _ r h) ⟨rfl, rfl, fun _ _ => rfl, fun _ _ => rfl, trivial⟩
  ·obtain ⟨y3, E2, h⟩ := bs_ h
   obtain rfl := si_ h
   exact rr_ [] 21 [.go, .reg [(1, hF)], .frz 2, .frz 3, .reg [(2, hC (Am_v y3))]]
    (a_ (a_ (r1_ (f_ C1 tr)) (a_ (a_ (fz_row (enc := (cInt .u32)) (d := default) (fun _ => rfl) l) (a_ (Nat.le_refl (l).length) tr)) (a_ (a_ (fz_row (enc := (cInt .u32)) (d := default) (fun _ => rfl) l2) (a_ (Nat.le_refl (l2).length) tr)) (a_ (r2_ (c_ (Am_tri l l2 y3 E2) (r1_ tr))) tr)))) tr)
theorem An_ok (a b : I_) (r : (Int)) (h : An a b = some r) : ∀ σ, Inj 0 σ → FnTri Tryz.prog 72 (renL σ [.agg [.int .u8 a.a0, .int .u8 a.a1, .int .u8 a.a2, .int .u8 a.a3, .int .u8 a.a4, .int .u8 a.a5, .int .u8 a.a6, .int .u8 a.a7], .agg [.int .u8 b.a0, .int .u8 b.a1, .int .u8 b.a2, .int .u8 b.a3, .int .u8 b.a4, .int .u8 b.a5, .int .u8 b.a6, .int .u8 b.a7]]) (preOf σ 0 []) ((An_v r).ren σ) (upOf σ []) := by
 refine fo_ Tryz.func72 trivial trivial ?_
 intro w0 W μ0 hμ
 unfold An at h
 exact rt_ hμ [0, 1, 2, 3] 23 [.reg [], .void (.gr 1 (([] : List (Int))).length (rowF (cInt .u32) default ([] : List (Int)))), .void (.gr 1 (([] : List (Int))).length (rowF (cInt .u32) default ([] : List (Int)))), .reg [(0, hv_ (.gs 2 (([] : List (Int))).length)), (1, hv_ (.gs 3 (([] : List (Int))).length))], .reg []]
  (a_ (r1_ (r2_ tr)) (a_ (Eq.refl 0) (a_ (Eq.refl 0) (a_ (a_ (a_ tr (a_ (le_nil_gs 2) tr)) (a_ (a_ tr (a_ (le_nil_gs 3) tr)) tr)) (a_ (r1_ tr) tr))))) (An_l0_ok hμ a b big _ _ _ r h) ⟨rfl, rfl, fun _ _ => rfl, fun _ _ => rfl, trivial⟩
theorem An_tri (a b : I_) (r : (Int)) (h : An a b = some r) : FnTri Tryz.prog 72 [.agg [.int .u8 a.a0, .int .u8 a.a1, .int .u8 a.a2, .int .u8 a.a3, .int .u8 a.a4, .int .u8 a.a5, .int .u8 a.a6, .int .u8 a.a7], .agg [.int .u8 b.a0, .int .u8 b.a1, .int .u8 b.a2, .int .u8 b.a3, .int .u8 b.a4, .int .u8 b.a5, .int .u8 b.a6, .int .u8 b.a7]] [] (An_v r) [] := FnTri.none (An_ok a b r h) rfl rfl
def Ac_v (r : (Bool)) : LV := .bool r
def Ac_l0 (l : List (Ch)) : Nat → (Int) → Option ((Bool))
 | 0, _ => none
 | fuel + 1, i =>
  if ((decide (i < ((l).length : Int))) : Bool) then
   if 0 ≤ i ∧ i < (((l).length : Nat) : Int) then
   (Ae (l.getD i.toNat default).f_Key).bind fun y4 =>
   if ((!y4) : Bool) then
    some false
   else
    (BB (l.getD i.toNat default).f_Item).bind fun y7 =>
    if ((!y7) : Bool) then
     some false
    else
     if ((decide (0 < i)) : Bool) then
      if 0 ≤ (IntKind.wrap .i64 (i - 1)) ∧ (IntKind.wrap .i64 (i - 1)) < (((l).length : Nat) : Int) then
      (An (l.getD ((IntKind.wrap .i64 (i - 1))).toNat default).f_Key (l.getD i.toNat default).f_Key).bind fun y12 =>
      if ((decide (0 ≤ y12)) : Bool) then
       some false
      else
       Ac_l0 l fuel (IntKind.wrap .i64 (i + 1))
      else none
     else
      Ac_l0 l fuel (IntKind.wrap .i64 (i + 1))
   else none
  else
   some (decide (((l).length : Int) ≤ 16))
def Ac (l : List (Ch)) : Option ((Bool)) :=
 Ac_l0 l big 0
abbrev Ac_K0 (w0 : World) (W : Nat → Prop) (μ0 : Emb) (l : List (Ch)) (i : Int) (r : (Bool)) : Prop := Kt_ w0 W μ0 Tryz.f37 0 0 (Ac_v r) [] (kAt (bodyOf Tryz.f37) 0) ((.ds 21 (l).length (rowF c_Ch default l)) :: .any :: .any :: (.int .i64 i) :: n_ 44 []) []
theorem Ac_l0_ok {w0 W μ0} (hμ : Lt_ μ0 0) (l : List (Ch)) : ∀ (fuel : Nat) (i : Int) (r : (Bool)), Ac_l0 l fuel i = some r → Ac_K0 w0 W μ0 l i r := by
 intro fuel
 induction fuel with
 | zero => intro i r h; rw [Ac_l0] at h; cases h
 | succ fuel ih =>
  intro i r h
  rw [Ac_l0] at h
  rcases it_ h with ⟨C1, h⟩ | ⟨C1, h⟩
  ·obtain ⟨G2, h⟩ := gs_ h
   obtain ⟨y4, E3, h⟩ := bs_ h
   rcases it_ h with ⟨C5, h⟩ | ⟨C5, h⟩
   ·obtain rfl := si_ h
    exact rr_ [] 25 [.go, .reg [(3, hT)], .reg [(5, hC (Ae_v y4)), (7, hT)], .reg []]
     (a_ (a_ (r1_ (r2_ (f_ C1 tr))) (a_ (r2_ (a_ (a_ (a_ (Eq.refl 21) G2) tr) (r1_ (a_ (a_ (le_ 8 21 rfl) tr) (a_ (a_ (a_ (Ae_tri (l.getD i.toNat default).f_Key y4 E3) tr) tr) (r1_ (f_ C5 (a_ tr (t2_ (t4_ (r2_ (a_ tr (t8_ (t8_ (r1_ tr))))))))))))))) (a_ (r1_ tr) tr))) tr)
   ·obtain ⟨y7, E6, h⟩ := bs_ h
    rcases it_ h with ⟨C8, h⟩ | ⟨C8, h⟩
    ·obtain rfl := si_ h
     exact rr_ [] 25 [.go, .reg [(3, hT)], .reg [(5, hC (Ae_v y4)), (7, hF), (13, hC (BB_v y7)), (16, hT)], .reg []]
      (a_ (a_ (r1_ (r2_ (f_ C1 tr))) (a_ (r2_ (a_ (a_ (a_ (Eq.refl 21) G2) tr) (r1_ (a_ (a_ (le_ 8 21 rfl) tr) (a_ (a_ (a_ (Ae_tri (l.getD i.toNat default).f_Key y4 E3) tr) tr) (r1_ (f_ C5 (r2_ (a_ (a_ (a_ (Eq.refl 21) G2) tr) (r1_ (a_ (a_ (le_ 13 13 rfl) tr) (a_ (a_ (a_ (BB_tri (l.getD i.toNat default).f_Item y7 E6) tr) tr) (r2_ (f_ C8 (a_ tr (t8_ (t8_ (r1_ tr)))))))))))))))))) (a_ (r1_ tr) tr))) tr)
    ·rcases it_ h with ⟨C9, h⟩ | ⟨C9, h⟩
     ·obtain ⟨G10, h⟩ := gs_ h
      obtain ⟨y12, E11, h⟩ := bs_ h
      rcases it_ h with ⟨C13, h⟩ | ⟨C13, h⟩
      ·obtain rfl := si_ h
       exact rr_ [] 25 [.go, .reg [(3, hT)], .reg [(5, hC (Ae_v y4)), (7, hF), (13, hC (BB_v y7)), (16, hF), (19, hT), (31, hC (An_v y12)), (34, hT)], .reg []]
        (a_ (a_ (r1_ (r2_ (f_ C1 tr))) (a_ (r2_ (a_ (a_ (a_ (Eq.refl 21) G2) tr) (r1_ (a_ (a_ (le_ 8 21 rfl) tr) (a_ (a_ (a_ (Ae_tri (l.getD i.toNat default).f_Key y4 E3) tr) tr) (r1_ (f_ C5 (r2_ (a_ (a_ (a_ (Eq.refl 21) G2) tr) (r1_ (a_ (a_ (le_ 13 13 rfl) tr) (a_ (a_ (a_ (BB_tri (l.getD i.toNat default).f_Item y7 E6) tr) tr) (r2_ (f_ C8 (r2_ (f_ C9 (r1_ (r2_ (a_ (a_ (a_ (Eq.refl 21) G10) tr) (r1_ (a_ (a_ (le_ 8 21 rfl) tr) (r2_ (a_ (a_ (a_ (Eq.refl 21) G2) tr) (r1_ (a_ (a_ (le_ 8 21 rfl) tr) (a_ (a_ (a_ (An_tri (l.getD ((IntKind.wrap .i64 (i - 1))).toNat default).f_Key (l.getD i.toNat default).f_Key y12 E11) tr) tr) (r2_ (f_ C13 tr)))))))))))))))))))))))))))) (a_ (r1_ tr) tr))) tr)
      ·exact rt_ hμ [] 26 [.go, .reg [(3, hT)], .reg [(5, hC (Ae_v y4)), (7, hF), (13, hC (BB_v y7)), (16, hF), (19, hT), (31, hC (An_v y12)), (34, hF)], .reg []]
        (a_ (r1_ (r2_ (f_ C1 tr))) (a_ (r2_ (a_ (a_ (a_ (Eq.refl 21) G2) tr) (r1_ (a_ (a_ (le_ 8 21 rfl) tr) (a_ (a_ (a_ (Ae_tri (l.getD i.toNat default).f_Key y4 E3) tr) tr) (r1_ (f_ C5 (r2_ (a_ (a_ (a_ (Eq.refl 21) G2) tr) (r1_ (a_ (a_ (le_ 13 13 rfl) tr) (a_ (a_ (a_ (BB_tri (l.getD i.toNat default).f_Item y7 E6) tr) tr) (r2_ (f_ C8 (r2_ (f_ C9 (r1_ (r2_ (a_ (a_ (a_ (Eq.refl 21) G10) tr) (r1_ (a_ (a_ (le_ 8 21 rfl) tr) (r2_ (a_ (a_ (a_ (Eq.refl 21) G2) tr) (r1_ (a_ (a_ (le_ 8 21 rfl) tr) (a_ (a_ (a_ (An_tri (l.getD ((IntKind.wrap .i64 (i - 1))).toNat default).f_Key (l.getD i.toNat default).f_Key y12 E11) tr) tr) (r2_ (f_ C13 tr)))))))))))))))))))))))))))) (a_ (r1_ (r2_ tr)) tr))) (ih _ r h) trivial
     ·exact rt_ hμ [] 26 [.go, .reg [(3, hT)], .reg [(5, hC (Ae_v y4)), (7, hF), (13, hC (BB_v y7)), (16, hF), (19, hF)], .reg []]
       (a_ (r1_ (r2_ (f_ C1 tr))) (a_ (r2_ (a_ (a_ (a_ (Eq.refl 21) G2) tr) (r1_ (a_ (a_ (le_ 8 21 rfl) tr) (a_ (a_ (a_ (Ae_tri (l.getD i.toNat default).f_Key y4 E3) tr) tr) (r1_ (f_ C5 (r2_ (a_ (a_ (a_ (Eq.refl 21) G2) tr) (r1_ (a_ (a_ (le_ 13 13 rfl) tr) (a_ (a_ (a_ (BB_tri (l.getD i.toNat default).f_Item y7 E6) tr) tr) (r2_ (f_ C8 (r2_ (f_ C9 (a_ tr (t4_ (t8_ (r2_ tr)))))))))))))))))))) (a_ (r1_ (r2_ tr)) tr))) (ih _ r h) trivial
  ·obtain rfl := si_ h
   exact rr_ [] 19 [.go, .reg [(3, hF)], .reg []]
    (a_ (a_ (r1_ (r2_ (f_ C1 tr))) (a_ (r4_ tr) tr)) tr)
theorem Ac_ok (l : List (Ch)) (r : (Bool)) (h : Ac l = some r) : ∀ σ, Inj 0 σ → FnTri Tryz.prog 37 (renL σ [.ds 21 (l).length (rowF c_Ch default l)]) (preOf σ 0 []) ((Ac_v r).ren σ) (upOf σ []) := by
 refine fo_ Tryz.func37 trivial trivial ?_
 intro w0 W μ0 hμ
 unfold Ac at h
 exact rt_ hμ [] 18 [.reg [], .reg []]
  (a_ (r1_ tr) (a_ (r1_ tr) tr)) (Ac_l0_ok hμ l big _ r h) trivial
theorem Ac_tri (l : List (Ch)) (r : (Bool)) (h : Ac l = some r) : FnTri Tryz.prog 37 [.ds 21 (l).length (rowF c_Ch default l)] [] (Ac_v r) [] := FnTri.none (Ac_ok l r h) rfl rfl
def Ao_v (r : (Int)) : LV := .int .u64 r
def Ao_l0 (x_n : Int) : Nat → (Int) → (Int) → Option ((Int))
 | 0, _, _ => none
 | fuel + 1, p, i =>
  if ((decide (i < x_n)) : Bool) then
   Ao_l0 x_n fuel (IntKind.wrap .u64 (p * 2)) (IntKind.wrap .i64 (i + 1))
  else
   some p
def Ao (x_n : Int) : Option ((Int)) :=
 Ao_l0 x_n big 1 0
abbrev Ao_K0 (w0 : World) (W : Nat → Prop) (μ0 : Emb) (x_n p i : Int) (r : (Int)) : Prop := Kt_ w0 W μ0 Tryz.f73 0 0 (Ao_v r) [] (kAt (bodyOf Tryz.f73) 0) ((.int .i64 x_n) :: .any :: .any :: (.int .u64 p) :: (.int .i64 i) :: n_ 8 []) []
theorem Ao_l0_ok {w0 W μ0} (hμ : Lt_ μ0 0) (x_n : Int) : ∀ (fuel : Nat) (p i : Int) (r : (Int)), Ao_l0 x_n fuel p i = some r → Ao_K0 w0 W μ0 x_n p i r := by
 intro fuel
 induction fuel with
 | zero => intro p i r h; rw [Ao_l0] at h; cases h
 | succ fuel ih =>
  intro p i r h
  rw [Ao_l0] at h
  rcases it_ h with ⟨C1, h⟩ | ⟨C1, h⟩
  ·exact rt_ hμ [] 23 [.go, .reg [(2, hT)], .reg [], .reg []]
    (a_ (r2_ (f_ C1 tr)) (a_ (r1_ (r2_ tr)) (a_ (r1_ (r2_ tr)) tr))) (ih _ _ r h) trivial
  ·obtain rfl := si_ h
   exact rr_ [] 19 [.go, .reg [(2, hF)], .reg []]
    (a_ (a_ (r2_ (f_ C1 tr)) (a_ (r2_ tr) tr)) tr)
theorem Ao_ok (x_n : Int) (r : (Int)) (h : Ao x_n = some r) : ∀ σ, Inj 0 σ → FnTri Tryz.prog 73 (renL σ [.int .i64 x_n]) (preOf σ 0 []) ((Ao_v r).ren σ) (upOf σ []) := by
 refine fo_ Tryz.func73 trivial trivial ?_
 intro w0 W μ0 hμ
 unfold Ao at h
 exact rt_ hμ [] 21 [.reg [], .reg [], .reg []]
  (a_ (r1_ tr) (a_ (r1_ tr) (a_ (r1_ tr) tr))) (Ao_l0_ok hμ x_n big _ _ r h) trivial
theorem Ao_tri (x_n : Int) (r : (Int)) (h : Ao x_n = some r) : FnTri Tryz.prog 73 [.int .i64 x_n] [] (Ao_v r) [] := FnTri.none (Ao_ok x_n r h) rfl rfl
def Ah_v (r : (Bool)) : LV := .bool r
def Ah (set x_n : Int) : Option ((Bool)) :=
 if ((decide (0 ≤ x_n)) : Bool) then
  if ((decide (x_n < 64)) : Bool) then
   (Ao x_n).bind fun y4 =>
   if y4 ≠ 0 then
   some ((Int.tmod (IntKind.wrap .u64 (Int.tdiv set y4)) 2) == 1)
   else none
  else
   some false
 else
  some false
theorem Ah_ok (set x_n : Int) (r : (Bool)) (h : Ah set x_n = some r) : ∀ σ, Inj 0 σ → FnTri Tryz.prog 41 (renL σ [.int .u64 set, .int .i64 x_n]) (preOf σ 0 []) ((Ah_v r).ren σ) (upOf σ []) := by
 refine fo_ Tryz.func41 trivial trivial ?_
 intro w0 W μ0 hμ
 unfold Ah at h
 rcases it_ h with ⟨c1, h⟩ | ⟨c1, h⟩
 ·rcases it_ h with ⟨c2, h⟩ | ⟨c2, h⟩
  ·obtain ⟨y4, e3, h⟩ := bs_ h
   obtain ⟨g5, h⟩ := gs_ h
   obtain rfl := si_ h
   exact rr_ [] 15 [.reg [], .reg [(2, hT), (6, hT), (9, hC (Ao_v y4))]]
    (a_ (a_ (r1_ tr) (a_ (r2_ (f_ c1 (r1_ (r2_ (f_ c2 (r2_ (c_ (Ao_tri x_n y4 e3) (a_ (a_ g5 tr) (a_ (a_ (ne0 2 rfl) tr) (r1_ (r2_ tr))))))))))) tr)) tr)
  ·obtain rfl := si_ h
   exact rr_ [] 15 [.reg [], .reg [(2, hT), (6, hF)]]
    (a_ (a_ (r1_ tr) (a_ (r2_ (f_ c1 (r1_ (r2_ (f_ c2 (t2_ (t4_ (r2_ tr)))))))) tr)) tr)
 ·obtain rfl := si_ h
  exact rr_ [] 15 [.reg [], .reg [(2, hF)]]
   (a_ (a_ (r1_ tr) (a_ (r2_ (f_ c1 (t2_ (r2_ (t2_ (t4_ (r2_ tr))))))) tr)) tr)
theorem Ah_tri (set x_n : Int) (r : (Bool)) (h : Ah set x_n = some r) : FnTri Tryz.prog 41 [.int .u64 set, .int .i64 x_n] [] (Ah_v r) [] := FnTri.none (Ah_ok set x_n r h) rfl rfl
def Bc_v (r : (Int)) : LV := .int .u64 r
def Bc (set x_n : Int) : Option ((Int)) :=
 if ((decide (x_n < 0)) : Bool) then
  some set
 else
  if ((decide (63 < x_n)) : Bool) then
   some set
  else
   (Ah set x_n).bind fun y4 =>
   if (y4 : Bool) then
    some set
   else
    (Ao x_n).bind fun y7 =>
    some (IntKind.wrap .u64 (set + y7))
theorem Bc_ok (set x_n : Int) (r : (Int)) (h : Bc set x_n = some r) : ∀ σ, Inj 0 σ → FnTri Tryz.prog 44 (renL σ [.int .u64 set, .int .i64 x_n]) (preOf σ 0 []) ((Bc_v r).ren σ) (upOf σ []) := by
 refine fo_ Tryz.func44 trivial trivial ?_
 intro w0 W μ0 hμ
 unfold Bc at h
 rcases it_ h with ⟨c1, h⟩ | ⟨c1, h⟩
 ·obtain rfl := si_ h
  exact rr_ [] 20 [.reg [], .reg [(2, hT)], .reg []]
   (a_ (a_ (r1_ tr) (a_ (r2_ (f_ c1 (t2_ (r2_ (a_ tr (t2_ (r1_ tr))))))) (a_ (r2_ tr) tr))) tr)
 ·rcases it_ h with ⟨c2, h⟩ | ⟨c2, h⟩
  ·obtain rfl := si_ h
   exact rr_ [] 20 [.reg [], .reg [(2, hF), (6, hT)], .reg []]
    (a_ (a_ (r1_ tr) (a_ (r2_ (f_ c1 (r1_ (r2_ (f_ c2 (a_ tr (t2_ (r1_ tr)))))))) (a_ (r2_ tr) tr))) tr)
  ·obtain ⟨y4, e3, h⟩ := bs_ h
   rcases it_ h with ⟨c5, h⟩ | ⟨c5, h⟩
   ·obtain rfl := si_ h
    exact rr_ [] 20 [.reg [], .reg [(2, hF), (6, hF), (9, hC (Ah_v y4)), (10, hT)], .reg []]
     (a_ (a_ (r1_ tr) (a_ (r2_ (f_ c1 (r1_ (r2_ (f_ c2 (r2_ (c_ (Ah_tri set x_n y4 e3) (f_ c5 tr)))))))) (a_ (r2_ tr) tr))) tr)
   ·obtain ⟨y7, e6, h⟩ := bs_ h
    obtain rfl := si_ h
    exact rr_ [] 21 [.reg [], .reg [(2, hF), (6, hF), (9, hC (Ah_v y4)), (10, hF)], .reg [(2, hC (Ao_v y7))]]
     (a_ (a_ (r1_ tr) (a_ (r2_ (f_ c1 (r1_ (r2_ (f_ c2 (r2_ (c_ (Ah_tri set x_n y4 e3) (f_ c5 tr)))))))) (a_ (r2_ (c_ (Ao_tri x_n y7 e6) (r2_ tr))) tr))) tr)
theorem Bc_tri (set x_n : Int) (r : (Int)) (h : Bc set x_n = some r) : FnTri Tryz.prog 44 [.int .u64 set, .int .i64 x_n] [] (Bc_v r) [] := FnTri.none (Bc_ok set x_n r h) rfl rfl
def AT_v (r : (Int)) : LV := .int .u64 r
def AT_l1 (locks : List (Cg)) (i : Int) (k0 : (Int) → (Int) → Option ((Int))) : Nat → (Int) → (Int) → Option ((Int))
 | 0, _, _ => none
 | fuel + 1, set2, x_k =>
  if 0 ≤ i ∧ i < (((locks).length : Nat) : Int) then
  if ((decide (x_k < (((locks.getD i.toNat default).f_Got).length : Int))) : Bool) then
   if 0 ≤ x_k ∧ x_k < ((((locks.getD i.toNat default).f_Got).length : Nat) : Int) then
   (Bc set2 (IntKind.wrap .i64 ((locks.getD i.toNat default).f_Got.getD x_k.toNat default).f_Node)).bind fun y5 =>
   AT_l1 locks i k0 fuel y5 (IntKind.wrap .i64 (x_k + 1))
   else none
  else
   k0 set2 (IntKind.wrap .i64 (i + 1))
  else none
def AT_l0 (locks : List (Cg)) : Nat → (Int) → (Int) → Option ((Int))
 | 0, _, _ => none
 | fuel + 1, set, i =>
  if ((decide (i < ((locks).length : Int))) : Bool) then
   AT_l1 locks i (AT_l0 locks fuel) big set 0
  else
   some set
def AT (locks : List (Cg)) : Option ((Int)) :=
 AT_l0 locks big 0 0
abbrev AT_K1 (w0 : World) (W : Nat → Prop) (μ0 : Emb) (locks : List (Cg)) (i set2 x_k : Int) (r : (Int)) : Prop := Kt_ w0 W μ0 Tryz.f39 0 0 (AT_v r) [] (kAt (bodyOf Tryz.f39) 1) ((.ds 10 (locks).length (rowF c_Cg default locks)) :: .any :: .any :: (.int .u64 set2) :: (.int .i64 i) :: (.int .i64 x_k) :: n_ 29 []) []
abbrev AT_K0 (w0 : World) (W : Nat → Prop) (μ0 : Emb) (locks : List (Cg)) (set i : Int) (r : (Int)) : Prop := Kt_ w0 W μ0 Tryz.f39 0 0 (AT_v r) [] (kAt (bodyOf Tryz.f39) 0) ((.ds 10 (locks).length (rowF c_Cg default locks)) :: .any :: .any :: (.int .u64 set) :: (.int .i64 i) :: n_ 30 []) []
theorem AT_l1_ok {w0 W μ0} (hμ : Lt_ μ0 0) (locks : List (Cg)) (i : Int) (k0 : (Int) → (Int) → Option ((Int))) (hk0 : ∀ (set i : Int) (r : (Int)), k0 set i = some r → AT_K0 w0 W μ0 locks set i r) : ∀ (fuel : Nat) (set2 x_k : Int) (r : (Int)), AT_l1 locks i k0 fuel set2 x_k = some r → AT_K1 w0 W μ0 locks i set2 x_k r := by
 intro fuel
 induction fuel with
 | zero => intro set2 x_k r h; rw [AT_l1] at h; cases h
 | succ fuel ih =>
  intro set2 x_k r h
  rw [AT_l1] at h
  obtain ⟨G1, h⟩ := gs_ h
  rcases it_ h with ⟨C2, h⟩ | ⟨C2, h⟩
  ·obtain ⟨G3, h⟩ := gs_ h
   obtain ⟨y5, E4, h⟩ := bs_ h
   exact rt_ hμ [] 23 [.go, .reg [(7, hT)], .reg [(11, hC (Bc_v y5))], .reg []]
    (a_ (r1_ (r2_ (a_ (a_ (a_ (Eq.refl 10) G1) tr) (r1_ (a_ (a_ (lt_ 0 1 rfl) tr) (r1_ (f_ C2 tr))))))) (a_ (r1_ (r2_ (a_ (a_ (a_ (Eq.refl 10) G1) tr) (r1_ (a_ (a_ (lt_ 0 1 rfl) tr) (r1_ (a_ (a_ (a_ (Eq.refl 16) G3) tr) (r1_ (a_ (a_ (lt_ 0 16 rfl) tr) (r1_ (a_ (a_ (a_ (Bc_tri set2 (IntKind.wrap .i64 ((locks.getD i.toNat default).f_Got.getD x_k.toNat default).f_Node) y5 E4) tr) tr) (r1_ tr)))))))))))) (a_ (r1_ (r2_ tr)) tr))) (ih _ _ r h) trivial
  ·exact rt_ hμ [] 19 [.go, .reg [(7, hF)], .reg []]
    (a_ (r1_ (r2_ (a_ (a_ (a_ (Eq.refl 10) G1) tr) (r1_ (a_ (a_ (lt_ 0 1 rfl) tr) (r1_ (f_ C2 tr))))))) (a_ (r1_ (r2_ tr)) tr)) (hk0 _ _ r h) trivial
theorem AT_l0_ok {w0 W μ0} (hμ : Lt_ μ0 0) (locks : List (Cg)) : ∀ (fuel : Nat) (set i : Int) (r : (Int)), AT_l0 locks fuel set i = some r → AT_K0 w0 W μ0 locks set i r := by
 intro fuel
 induction fuel with
 | zero => intro set i r h; rw [AT_l0] at h; cases h
 | succ fuel ih =>
  intro set i r h
  rw [AT_l0] at h
  rcases it_ h with ⟨C1, h⟩ | ⟨C1, h⟩
  ·exact rt_ hμ [] 23 [.go, .reg [(3, hT)], .reg []]
    (a_ (r1_ (r2_ (f_ C1 tr))) (a_ (r1_ tr) tr)) (AT_l1_ok hμ locks i (AT_l0 locks fuel) ih big _ _ r h) trivial
  ·obtain rfl := si_ h
   exact rr_ [] 19 [.go, .reg [(3, hF)], .reg []]
    (a_ (a_ (r1_ (r2_ (f_ C1 tr))) (a_ (r2_ tr) tr)) tr)
theorem AT_ok (locks : List (Cg)) (r : (Int)) (h : AT locks = some r) : ∀ σ, Inj 0 σ → FnTri Tryz.prog 39 (renL σ [.ds 10 (locks).length (rowF c_Cg default locks)]) (preOf σ 0 []) ((AT_v r).ren σ) (upOf σ []) := by
 refine fo_ Tryz.func39 trivial trivial ?_
 intro w0 W μ0 hμ
 unfold AT at h
 exact rt_ hμ [] 21 [.reg [], .reg [], .reg []]
  (a_ (r1_ tr) (a_ (r1_ tr) (a_ (r1_ tr) tr))) (AT_l0_ok hμ locks big _ _ r h) trivial
theorem AT_tri (locks : List (Cg)) (r : (Int)) (h : AT locks = some r) : FnTri Tryz.prog 39 [.ds 10 (locks).length (rowF c_Cg default locks)] [] (AT_v r) [] := FnTri.none (AT_ok locks r h) rfl rfl
def Av_v (r : (List (Int))) : LV := .ds 1 (r).length (rowF (cInt .i64) default r)
def Av_l0 (set : Int) : Nat → (Int) → (List (Int)) → Option ((List (Int)))
 | 0, _, _ => none
 | fuel + 1, i, l =>
  if ((decide (i < 64)) : Bool) then
   (Ah set i).bind fun y3 =>
   if (y3 : Bool) then
    if ((l).length + (([i] : List (Int))).length) * 8 ≤ 140737488351232 then
    Av_l0 set fuel (IntKind.wrap .i64 (i + 1)) (l ++ ([i] : List (Int)))
    else none
   else
    Av_l0 set fuel (IntKind.wrap .i64 (i + 1)) l
  else
   some l
def Av (set : Int) : Option ((List (Int))) :=
 Av_l0 set big 0 ([] : List (Int))
abbrev Av_K0 (w0 : World) (W : Nat → Prop) (μ0 : Emb) (set i : Int) (l : List (Int)) (r : (List (Int))) : Prop := Kt_ w0 W μ0 Tryz.f38 0 0 (Av_v r) [] (kAt (bodyOf Tryz.f38) 0) ((.int .u64 set) :: .any :: .any :: (.gs 0 (l).length) :: (.int .i64 i) :: n_ 12 []) [some (.gr 1 (l).length (rowF (cInt .i64) default l))]
theorem Av_l0_ok {w0 W μ0} (hμ : Lt_ μ0 0) (set : Int) : ∀ (fuel : Nat) (i : Int) (l : List (Int)) (r : (List (Int))), Av_l0 set fuel i l = some r → Av_K0 w0 W μ0 set i l r := by
 intro fuel
 induction fuel with
 | zero => intro i l r h; rw [Av_l0] at h; cases h
 | succ fuel ih =>
  intro i l r h
  rw [Av_l0] at h
  rcases it_ h with ⟨C1, h⟩ | ⟨C1, h⟩
  ·obtain ⟨y3, E2, h⟩ := bs_ h
   rcases it_ h with ⟨C4, h⟩ | ⟨C4, h⟩
   ·obtain ⟨G5, h⟩ := gs_ h
    exact rt_ hμ [2] 27 [.go, .reg [(1, hT)], .reg [(2, { call := some (Ah_v y3, [], []), v := some (.bool true) })], .reg [(2, { os := [(1, .gr 1 (([i] : List (Int))).length (rowF (cInt .i64) default ([i] : List (Int))))], v := some (.gs 1 (([i] : List (Int))).length) }), (3, { app := 3, os := [(2, .gr 1 ((l ++ ([i] : List (Int)))).length (rowF (cInt .i64) default (l ++ ([i] : List (Int)))))], v := some (.gs 2 ((l ++ ([i] : List (Int)))).length) })], .reg []]
     (a_ (r1_ (f_ C1 tr)) (a_ (r2_ (a_ (a_ (a_ (Ah_tri set i y3 E2) tr) (a_ (leB C4) tr)) tr)) (a_ (r2_ (a_ (a_ (a_ (Eq.refl true) (a_ (Eq.refl 1) (a_ (lt_ 0 1 rfl) (le_ 1 16777216 rfl)))) (a_ (le_sl_gs 1 1 (some 1) rfl) (a_ (sub_lit (cInt .i64) default 1 (fun _ => rfl) ([i] : List (Int))) tr))) (a_ (a_ (a_ (a_ (Eq.refl 1) (Nat.le_refl (([i] : List (Int))).length)) (a_ (a_ (lt_ 0 1 rfl) (a_ (lt_ 0 8 rfl) (a_ G5 (a_ (Eq.refl 1) (Eq.refl true))))) (a_ (Eq.refl 1) (Nat.le_refl (l).length)))) (a_ (le_gs_app 2 l ([i] : List (Int))) (a_ (sub_app (cInt .i64) default 1 l ([i] : List (Int))) tr))) (r1_ tr)))) (a_ (r1_ (r2_ tr)) tr)))) (ih _ _ r h) ⟨fun _ _ => rfl, trivial⟩
   ·exact rt_ hμ [0] 26 [.go, .reg [(1, hT)], .reg [(2, { call := some (Ah_v y3, [], []), v := some (.bool false) })], .reg []]
     (a_ (r1_ (f_ C1 tr)) (a_ (r2_ (a_ (a_ (a_ (Ah_tri set i y3 E2) tr) (a_ (leB C4) tr)) tr)) (a_ (r1_ (r2_ tr)) tr))) (ih _ _ r h) ⟨fun _ _ => rfl, trivial⟩
  ·obtain rfl := si_ h
   exact rr_ [] 20 [.go, .reg [(1, hF)], .reg [], .frz 0]
    (a_ (a_ (r1_ (f_ C1 tr)) (a_ (r2_ tr) (a_ (a_ (fz_row (enc := (cInt .i64)) (d := default) (fun _ => rfl) l) (a_ (Nat.le_refl (l).length) (a_ (Nat.le_refl (l).length) (a_ (Nat.le_refl (l).length) tr)))) tr))) tr)
theorem Av_ok (set : Int) (r : (List (Int))) (h : Av set = some r) : ∀ σ, Inj 0 σ → FnTri Tryz.prog 38 (renL σ [.int .u64 set]) (preOf σ 0 []) ((Av_v r).ren σ) (upOf σ []) := by
 refine fo_ Tryz.func38 trivial trivial ?_
 intro w0 W μ0 hμ
 unfold Av at h
 exact rt_ hμ [0] 22 [.reg [(0, hv_ (.ds 1 (([] : List (Int))).length (rowF (cInt .i64) default ([] : List (Int)))))], .void (.gr 1 (([] : List (Int))).length (rowF (cInt .i64) default ([] : List (Int)))), .reg [(0, hv_ (.gs 0 (([] : List (Int))).length))], .reg []]
  (a_ (a_ (a_ tr (a_ (le_nil_ds 1 (rowF (cInt .i64) default [])) tr)) tr) (a_ (Eq.refl 0) (a_ (a_ (a_ tr (a_ (le_nil_gs 0) tr)) tr) (a_ (r1_ tr) tr)))) (Av_l0_ok hμ set big _ _ r h) ⟨fun _ _ => rfl, trivial⟩
theorem Av_tri (set : Int) (r : (List (Int))) (h : Av set = some r) : FnTri Tryz.prog 38 [.int .u64 set] [] (Av_v r) [] := FnTri.none (Av_ok set r h) rfl rfl
def AX_v (r : (Cc) × (Bool)) : LV := .tup [v_Cc r.1, .bool r.2]
def AX_l1 (locks : List (Cg)) (x_n i : Int) (k0 : (Int) → (Int) → (Int) → Option ((Cc) × (Bool))) : Nat → (Int) → (Int) → (Int) → Option ((Cc) × (Bool))
 | 0, _, _, _ => none
 | fuel + 1, x_k, Boot2, N2 =>
  if 0 ≤ i ∧ i < (((locks).length : Nat) : Int) then
  if ((decide (x_k < (((locks.getD i.toNat default).f_Got).length : Int))) : Bool) then
   if 0 ≤ x_k ∧ x_k < ((((locks.getD i.toNat default).f_Got).length : Nat) : Int) then
   if (((IntKind.wrap .i64 ((locks.getD i.toNat default).f_Got.getD x_k.toNat default).f_Node) != x_n) : Bool) then
    AX_l1 locks x_n i k0 fuel (IntKind.wrap .i64 (x_k + 1)) Boot2 N2
   else
    if ((!decide ((Cc.mk Boot2 N2) = (Cc.mk 0 0))) : Bool) then
     if ((!decide ((Cc.mk Boot2 N2) = ((locks.getD i.toNat default).f_Got.getD x_k.toNat default).f_Reg)) : Bool) then
      some ((Cc.mk Boot2 N2), false)
     else
      AX_l1 locks x_n i k0 fuel (IntKind.wrap .i64 (x_k + 1)) ((locks.getD i.toNat default).f_Got.getD x_k.toNat default).f_Reg.f_Boot ((locks.getD i.toNat default).f_Got.getD x_k.toNat default).f_Reg.f_N
    else
     AX_l1 locks x_n i k0 fuel (IntKind.wrap .i64 (x_k + 1)) ((locks.getD i.toNat default).f_Got.getD x_k.toNat default).f_Reg.f_Boot ((locks.getD i.toNat default).f_Got.getD x_k.toNat default).f_Reg.f_N
   else none
  else
   k0 (IntKind.wrap .i64 (i + 1)) Boot2 N2
  else none
def AX_l0 (locks : List (Cg)) (x_n : Int) : Nat → (Int) → (Int) → (Int) → Option ((Cc) × (Bool))
 | 0, _, _, _ => none
 | fuel + 1, i, re, N =>
  if ((decide (i < ((locks).length : Int))) : Bool) then
   AX_l1 locks x_n i (AX_l0 locks x_n fuel) big 0 re N
  else
   some ((Cc.mk re N), true)
def AX (locks : List (Cg)) (x_n : Int) : Option ((Cc) × (Bool)) :=
 AX_l0 locks x_n big 0 0 0
abbrev AX_K1 (w0 : World) (W : Nat → Prop) (μ0 : Emb) (locks : List (Cg)) (x_n i : Int) (x_k Boot2 N2 : Int) (r : (Cc) × (Bool)) : Prop := Kt_ w0 W μ0 Tryz.f40 0 0 (AX_v r) [] (kAt (bodyOf Tryz.f40) 1) ((.ds 10 (locks).length (rowF c_Cg default locks)) :: (.int .i64 x_n) :: .any :: .any :: (.ptr 0 0 0) :: .any :: (.ptr 1 0 0) :: (.int .i64 i) :: (.int .i64 x_k) :: n_ 44 []) [some (.var (c_Cc (Cc.mk 0 0))), some (.var (c_Cc (Cc.mk Boot2 N2)))]
abbrev AX_K0 (w0 : World) (W : Nat → Prop) (μ0 : Emb) (locks : List (Cg)) (x_n i : Int) (re N : Int) (r : (Cc) × (Bool)) : Prop := Kt_ w0 W μ0 Tryz.f40 0 0 (AX_v r) [] (kAt (bodyOf Tryz.f40) 0) ((.ds 10 (locks).length (rowF c_Cg default locks)) :: (.int .i64 x_n) :: .any :: .any :: (.ptr 0 0 0) :: .any :: (.ptr 1 0 0) :: (.int .i64 i) :: n_ 45 []) [some (.var (c_Cc (Cc.mk 0 0))), some (.var (c_Cc (Cc.mk re N)))]
theorem AX_l1_ok {w0 W μ0} (hμ : Lt_ μ0 0) (locks : List (Cg)) (x_n i : Int) (k0 : (Int) → (Int) → (Int) → Option ((Cc) × (Bool))) (hk0 : ∀ (i re N : Int) (r : (Cc) × (Bool)), k0 i re N = some r → AX_K0 w0 W μ0 locks x_n i re N r) : ∀ (fuel : Nat) (x_k Boot2 N2 : Int) (r : (Cc) × (Bool)), AX_l1 locks x_n i k0 fuel x_k Boot2 N2 = some r → AX_K1 w0 W μ0 locks x_n i x_k Boot2 N2 r := by
 intro fuel
 induction fuel with
 | zero => intro x_k Boot2 N2 r h; rw [AX_l1] at h; cases h
 | succ fuel ih =>
  intro x_k Boot2 N2 r h
  rw [AX_l1] at h
  obtain ⟨G1, h⟩ := gs_ h
  rcases it_ h with ⟨C2, h⟩ | ⟨C2, h⟩
  ·obtain ⟨G3, h⟩ := gs_ h
   rcases it_ h with ⟨C4, h⟩ | ⟨C4, h⟩
   ·exact rt_ hμ [0, 1] 29 [.go, .reg [(7, hT)], .reg [], .reg [(4, hT)], .reg []]
     (a_ (r1_ (r2_ (a_ (a_ (a_ (Eq.refl 10) G1) tr) (r1_ (a_ (a_ (lt_ 0 1 rfl) tr) (r1_ (f_ C2 tr))))))) (a_ (r2_ (a_ (a_ (a_ (Eq.refl 10) G1) tr) (r1_ (a_ (a_ (lt_ 0 1 rfl) tr) (r1_ (a_ (a_ (a_ (Eq.refl 16) G3) tr) (a_ (a_ (le_ 16 16 rfl) tr) (r1_ (a_ (a_ (a_ (Eq.refl 16) (a_ (le_ 16 16 rfl) (Eq.refl 0))) tr) tr))))))))) (a_ (r1_ (l_ 0 16 rfl (r2_ (f_ C4 tr)))) (a_ (r1_ (r2_ tr)) tr)))) (ih _ _ _ r h) ⟨rfl, rfl, trivial⟩
   ·rcases it_ h with ⟨C5, h⟩ | ⟨C5, h⟩
    ·rcases it_ h with ⟨C6, h⟩ | ⟨C6, h⟩
     ·obtain rfl := si_ h
      exact rr_ [] 35 [.go, .reg [(7, hT)], .reg [], .reg [(4, hF)], .reg [(2, hv_ (.bool (!decide ((Cc.mk Boot2 N2) = (Cc.mk 0 0))))), (3, hT), (7, hv_ (.bool (!decide ((Cc.mk Boot2 N2) = ((locks.getD i.toNat default).f_Got.getD x_k.toNat default).f_Reg)))), (8, hT)], .reg []]
       (a_ (a_ (r1_ (r2_ (a_ (a_ (a_ (Eq.refl 10) G1) tr) (r1_ (a_ (a_ (lt_ 0 1 rfl) tr) (r1_ (f_ C2 tr))))))) (a_ (r2_ (a_ (a_ (a_ (Eq.refl 10) G1) tr) (r1_ (a_ (a_ (lt_ 0 1 rfl) tr) (r1_ (a_ (a_ (a_ (Eq.refl 16) G3) tr) (a_ (a_ (le_ 16 16 rfl) tr) (r1_ (a_ (a_ (a_ (Eq.refl 16) (a_ (le_ 16 16 rfl) (Eq.refl 0))) tr) tr))))))))) (a_ (r1_ (l_ 0 16 rfl (r2_ (f_ C4 tr)))) (a_ (m_ 2 2 rfl (a_ (a_ (Eq.refl true) tr) (a_ (a_ tr (a_ (leB (congrArg not (k_Cc (Cc.mk Boot2 N2) (Cc.mk 0 0)))) tr)) (f_ C5 (m_ 2 2 rfl (r1_ (m_ 3 16 rfl (a_ (a_ tr (a_ (leB (congrArg not (k_Cc (Cc.mk Boot2 N2) ((locks.getD i.toNat default).f_Got.getD x_k.toNat default).f_Reg))) tr)) (f_ C6 tr))))))))) (a_ (m_ 2 2 rfl (a_ (a_ (a_ (Eq.refl 2) (a_ (le_ 2 2 rfl) (Eq.refl 0))) tr) (r1_ tr))) tr))))) (a_ (a_ tr (le_ 2 2 rfl)) tr))
     ·exact rt_ hμ [0, 1] 38 [.go, .reg [(7, hT)], .reg [], .reg [(4, hF)], .reg [(2, hv_ (.bool (!decide ((Cc.mk Boot2 N2) = (Cc.mk 0 0))))), (3, hT), (7, hv_ (.bool (!decide ((Cc.mk Boot2 N2) = ((locks.getD i.toNat default).f_Got.getD x_k.toNat default).f_Reg)))), (8, hF)], .reg [], .reg []]
       (a_ (r1_ (r2_ (a_ (a_ (a_ (Eq.refl 10) G1) tr) (r1_ (a_ (a_ (lt_ 0 1 rfl) tr) (r1_ (f_ C2 tr))))))) (a_ (r2_ (a_ (a_ (a_ (Eq.refl 10) G1) tr) (r1_ (a_ (a_ (lt_ 0 1 rfl) tr) (r1_ (a_ (a_ (a_ (Eq.refl 16) G3) tr) (a_ (a_ (le_ 16 16 rfl) tr) (r1_ (a_ (a_ (a_ (Eq.refl 16) (a_ (le_ 16 16 rfl) (Eq.refl 0))) tr) tr))))))))) (a_ (r1_ (l_ 0 16 rfl (r2_ (f_ C4 tr)))) (a_ (m_ 2 2 rfl (a_ (a_ (Eq.refl true) tr) (a_ (a_ tr (a_ (leB (congrArg not (k_Cc (Cc.mk Boot2 N2) (Cc.mk 0 0)))) tr)) (f_ C5 (m_ 2 2 rfl (r1_ (m_ 3 16 rfl (a_ (a_ tr (a_ (leB (congrArg not (k_Cc (Cc.mk Boot2 N2) ((locks.getD i.toNat default).f_Got.getD x_k.toNat default).f_Reg))) tr)) (f_ C6 tr))))))))) (a_ (r1_ (m_ 3 16 rfl (a_ (a_ (a_ (Eq.refl 2) (a_ (le_ 2 2 rfl) (Eq.refl 0))) tr) tr))) (a_ (r1_ (r2_ tr)) tr)))))) (ih _ _ _ r h) ⟨rfl, rfl, trivial⟩
    ·exact rt_ hμ [0, 1] 38 [.go, .reg [(7, hT)], .reg [], .reg [(4, hF)], .reg [(2, hv_ (.bool (!decide ((Cc.mk Boot2 N2) = (Cc.mk 0 0))))), (3, hF)], .reg [], .reg []]
      (a_ (r1_ (r2_ (a_ (a_ (a_ (Eq.refl 10) G1) tr) (r1_ (a_ (a_ (lt_ 0 1 rfl) tr) (r1_ (f_ C2 tr))))))) (a_ (r2_ (a_ (a_ (a_ (Eq.refl 10) G1) tr) (r1_ (a_ (a_ (lt_ 0 1 rfl) tr) (r1_ (a_ (a_ (a_ (Eq.refl 16) G3) tr) (a_ (a_ (le_ 16 16 rfl) tr) (r1_ (a_ (a_ (a_ (Eq.refl 16) (a_ (le_ 16 16 rfl) (Eq.refl 0))) tr) tr))))))))) (a_ (r1_ (l_ 0 16 rfl (r2_ (f_ C4 tr)))) (a_ (m_ 2 2 rfl (a_ (a_ (Eq.refl true) tr) (a_ (a_ tr (a_ (leB (congrArg not (k_Cc (Cc.mk Boot2 N2) (Cc.mk 0 0)))) tr)) (f_ C5 (t4_ (r1_ tr)))))) (a_ (r1_ (m_ 3 16 rfl (a_ (a_ (a_ (Eq.refl 2) (a_ (le_ 2 2 rfl) (Eq.refl 0))) tr) tr))) (a_ (r1_ (r2_ tr)) tr)))))) (ih _ _ _ r h) ⟨rfl, rfl, trivial⟩
  ·exact rt_ hμ [0, 1] 19 [.go, .reg [(7, hF)], .reg []]
    (a_ (r1_ (r2_ (a_ (a_ (a_ (Eq.refl 10) G1) tr) (r1_ (a_ (a_ (lt_ 0 1 rfl) tr) (r1_ (f_ C2 tr))))))) (a_ (r1_ (r2_ tr)) tr)) (hk0 _ _ _ r h) ⟨rfl, rfl, trivial⟩
theorem AX_l0_ok {w0 W μ0} (hμ : Lt_ μ0 0) (locks : List (Cg)) (x_n : Int) : ∀ (fuel : Nat) (i re N : Int) (r : (Cc) × (Bool)), AX_l0 locks x_n fuel i re N = some r → AX_K0 w0 W μ0 locks x_n i re N r := by
 intro fuel
 induction fuel with
 | zero => intro i re N r h; rw [AX_l0] at h; cases h
 | succ fuel ih =>
  intro i re N r h
  rw [AX_l0] at h
  rcases it_ h with ⟨C1, h⟩ | ⟨C1, h⟩
  ·exact rt_ hμ [0, 1] 23 [.go, .reg [(3, hT)], .reg []]
    (a_ (r1_ (r2_ (f_ C1 tr))) (a_ (r1_ tr) tr)) (AX_l1_ok hμ locks x_n i (AX_l0 locks x_n fuel) ih big _ _ _ r h) ⟨rfl, rfl, trivial⟩
  ·obtain rfl := si_ h
   exact rr_ [] 19 [.go, .reg [(3, hF)], .reg []]
    (a_ (a_ (r1_ (r2_ (f_ C1 tr))) (a_ (m_ 2 2 rfl (a_ (a_ (a_ (Eq.refl 2) (a_ (le_ 2 2 rfl) (Eq.refl 0))) tr) (r1_ tr))) tr)) (a_ (a_ tr (le_ 2 2 rfl)) tr))
theorem AX_ok (locks : List (Cg)) (x_n : Int) (r : (Cc) × (Bool)) (h : AX locks x_n = some r) : ∀ σ, Inj 0 σ → FnTri Tryz.prog 40 (renL σ [.ds 10 (locks).length (rowF c_Cg default locks), .int .i64 x_n]) (preOf σ 0 []) ((AX_v r).ren σ) (upOf σ []) := by
 refine fo_ Tryz.func40 trivial trivial ?_
 intro w0 W μ0 hμ
 unfold AX at h
 exact rt_ hμ [0, 1] 21 [.reg [], .reg [], .reg []]
  (a_ (r2_ tr) (a_ (a_ (a_ (Eq.refl true) tr) (r1_ (a_ (a_ (a_ (Eq.refl 2) (a_ (le_ 2 2 rfl) (Eq.refl 0))) tr) tr))) (a_ (r1_ tr) tr))) (AX_l0_ok hμ locks x_n big _ _ _ r h) ⟨rfl, rfl, trivial⟩
theorem AX_tri (locks : List (Cg)) (x_n : Int) (r : (Cc) × (Bool)) (h : AX locks x_n = some r) : FnTri Tryz.prog 40 [.ds 10 (locks).length (rowF c_Cg default locks), .int .i64 x_n] [] (AX_v r) [] := FnTri.none (AX_ok locks x_n r h) rfl rfl
def Ag_v (r : (Int)) : LV := .int .u64 r
def Ag_l0 (locks : List (Cg)) (x_k : I_) : Nat → (Int) → (List (Cg)) → Option ((Int))
 | 0, _, _ => none
 | fuel + 1, i, l =>
  if ((decide (i < ((locks).length : Int))) : Bool) then
   if 0 ≤ i ∧ i < (((locks).length : Nat) : Int) then
   if ((decide ((locks.getD i.toNat default).f_Key = x_k)) : Bool) then
    if (((locks.getD i.toNat default).f_Mode == 2) : Bool) then
     if ((l).length + (([(locks.getD i.toNat default)] : List (Cg))).length) * 40 ≤ 140737488351232 then
     Ag_l0 locks x_k fuel (IntKind.wrap .i64 (i + 1)) (l ++ ([(locks.getD i.toNat default)] : List (Cg)))
     else none
    else
     Ag_l0 locks x_k fuel (IntKind.wrap .i64 (i + 1)) l
   else
    Ag_l0 locks x_k fuel (IntKind.wrap .i64 (i + 1)) l
   else none
  else
   (AT l).bind fun y3 =>
   some y3
def Ag (locks : List (Cg)) (x_k : I_) : Option ((Int)) :=
 Ag_l0 locks x_k big 0 ([] : List (Cg))
abbrev Ag_K0 (w0 : World) (W : Nat → Prop) (μ0 : Emb) (locks : List (Cg)) (x_k : I_) (i : Int) (l : List (Cg)) (r : (Int)) : Prop := Kt_ w0 W μ0 Tryz.f42 0 0 (Ag_v r) [] (kAt (bodyOf Tryz.f42) 0) ((.ds 10 (locks).length (rowF c_Cg default locks)) :: .any :: .any :: (.ptr 0 0 0) :: .any :: (.gs 1 (l).length) :: (.int .i64 i) :: n_ 30 []) [some (.var [.int .u8 x_k.a0, .int .u8 x_k.a1, .int .u8 x_k.a2, .int .u8 x_k.a3, .int .u8 x_k.a4, .int .u8 x_k.a5, .int .u8 x_k.a6, .int .u8 x_k.a7]), some (.gr 10 (l).length (rowF c_Cg default l))]
theorem Ag_l0_ok {w0 W μ0} (hμ : Lt_ μ0 0) (locks : List (Cg)) (x_k : I_) : ∀ (fuel : Nat) (i : Int) (l : List (Cg)) (r : (Int)), Ag_l0 locks x_k fuel i l = some r → Ag_K0 w0 W μ0 locks x_k i l r := by
 intro fuel
 induction fuel with
 | zero => intro i l r h; rw [Ag_l0] at h; cases h
 | succ fuel ih =>
  intro i l r h
  rw [Ag_l0] at h
  rcases it_ h with ⟨C1, h⟩ | ⟨C1, h⟩
  ·obtain ⟨G2, h⟩ := gs_ h
   rcases it_ h with ⟨C3, h⟩ | ⟨C3, h⟩
   ·rcases it_ h with ⟨C4, h⟩ | ⟨C4, h⟩
    ·obtain ⟨G5, h⟩ := gs_ h
     exact rt_ hμ [0, 3] 27 [.go, .reg [(3, hT)], .reg [(6, hv_ (.bool (decide ((locks.getD i.toNat default).f_Key = x_k)))), (7, hT), (14, hT)], .reg [(5, { os := [(2, .gr 10 (([(locks.getD i.toNat default)] : List (Cg))).length (rowF c_Cg default ([(locks.getD i.toNat default)] : List (Cg))))], v := some (.gs 2 (([(locks.getD i.toNat default)] : List (Cg))).length) }), (6, { app := 3, os := [(3, .gr 10 ((l ++ ([(locks.getD i.toNat default)] : List (Cg)))).length (rowF c_Cg default (l ++ ([(locks.getD i.toNat default)] : List (Cg)))))], v := some (.gs 3 ((l ++ ([(locks.getD i.toNat default)] : List (Cg)))).length) })], .reg []]
      (a_ (r1_ (r2_ (f_ C1 tr))) (a_ (r2_ (a_ (a_ (a_ (Eq.refl 10) G2) tr) (r1_ (a_ (a_ (le_ 8 10 rfl) tr) (m_ 8 8 rfl (a_ (a_ tr (a_ (leB ((k_arr8 .u8) (locks.getD i.toNat default).f_Key x_k)) tr)) (f_ C3 (r2_ (a_ (a_ (a_ (Eq.refl 10) G2) tr) (r1_ (a_ (a_ (lt_ 0 2 rfl) tr) (r1_ (f_ C4 tr))))))))))))) (a_ (r1_ (r2_ (a_ (a_ (a_ (Eq.refl 10) G2) tr) (a_ (a_ (le_ 10 10 rfl) tr) (a_ (a_ (a_ (Eq.refl true) (a_ (Eq.refl 10) (a_ (lt_ 0 10 rfl) (le_ 10 16777216 rfl)))) (a_ (le_sl_gs 2 1 (some 1) rfl) (a_ (sub_lit c_Cg default 10 (fun _ => rfl) ([(locks.getD i.toNat default)] : List (Cg))) tr))) (a_ (a_ (a_ (a_ (Eq.refl 10) (Nat.le_refl (([(locks.getD i.toNat default)] : List (Cg))).length)) (a_ (a_ (lt_ 0 10 rfl) (a_ (lt_ 0 40 rfl) (a_ G5 (a_ (Eq.refl 10) (Eq.refl true))))) (a_ (Eq.refl 10) (Nat.le_refl (l).length)))) (a_ (le_gs_app 3 l ([(locks.getD i.toNat default)] : List (Cg))) (a_ (sub_app c_Cg default 10 l ([(locks.getD i.toNat default)] : List (Cg))) tr))) (r1_ tr))))))) (a_ (r1_ (r2_ tr)) tr)))) (ih _ _ r h) ⟨rfl, fun _ _ => rfl, trivial⟩
    ·exact rt_ hμ [0, 1] 26 [.go, .reg [(3, hT)], .reg [(6, hv_ (.bool (decide ((locks.getD i.toNat default).f_Key = x_k)))), (7, hT), (14, hF)], .reg []]
      (a_ (r1_ (r2_ (f_ C1 tr))) (a_ (r2_ (a_ (a_ (a_ (Eq.refl 10) G2) tr) (r1_ (a_ (a_ (le_ 8 10 rfl) tr) (m_ 8 8 rfl (a_ (a_ tr (a_ (leB ((k_arr8 .u8) (locks.getD i.toNat default).f_Key x_k)) tr)) (f_ C3 (r2_ (a_ (a_ (a_ (Eq.refl 10) G2) tr) (r1_ (a_ (a_ (lt_ 0 2 rfl) tr) (r1_ (f_ C4 tr))))))))))))) (a_ (r1_ (r2_ tr)) tr))) (ih _ _ r h) ⟨rfl, fun _ _ => rfl, trivial⟩
   ·exact rt_ hμ [0, 1] 26 [.go, .reg [(3, hT)], .reg [(6, hv_ (.bool (decide ((locks.getD i.toNat default).f_Key = x_k)))), (7, hF)], .reg []]
     (a_ (r1_ (r2_ (f_ C1 tr))) (a_ (r2_ (a_ (a_ (a_ (Eq.refl 10) G2) tr) (r1_ (a_ (a_ (le_ 8 10 rfl) tr) (m_ 8 8 rfl (a_ (a_ tr (a_ (leB ((k_arr8 .u8) (locks.getD i.toNat default).f_Key x_k)) tr)) (f_ C3 (t2_ (t4_ (r1_ tr)))))))))) (a_ (r1_ (r2_ tr)) tr))) (ih _ _ r h) ⟨rfl, fun _ _ => rfl, trivial⟩
  ·obtain ⟨y3, E2, h⟩ := bs_ h
   obtain rfl := si_ h
   exact rr_ [] 20 [.go, .reg [(3, hF)], .frz 1, .reg [(1, hC (AT_v y3))]]
    (a_ (a_ (r1_ (r2_ (f_ C1 tr))) (a_ (a_ (fz_row (enc := c_Cg) (d := default) (fun _ => rfl) l) (a_ (Nat.le_refl (l).length) tr)) (a_ (r1_ (c_ (AT_tri l y3 E2) (r1_ tr))) tr))) tr)
theorem Ag_ok (locks : List (Cg)) (x_k : I_) (r : (Int)) (h : Ag locks x_k = some r) : ∀ σ, Inj 0 σ → FnTri Tryz.prog 42 (renL σ [.ds 10 (locks).length (rowF c_Cg default locks), .agg [.int .u8 x_k.a0, .int .u8 x_k.a1, .int .u8 x_k.a2, .int .u8 x_k.a3, .int .u8 x_k.a4, .int .u8 x_k.a5, .int .u8 x_k.a6, .int .u8 x_k.a7]]) (preOf σ 0 []) ((Ag_v r).ren σ) (upOf σ []) := by
 refine fo_ Tryz.func42 trivial trivial ?_
 intro w0 W μ0 hμ
 unfold Ag at h
 exact rt_ hμ [0, 1] 22 [.reg [], .void (.gr 10 (([] : List (Cg))).length (rowF c_Cg default ([] : List (Cg)))), .reg [(0, hv_ (.gs 1 (([] : List (Cg))).length))], .reg []]
  (a_ (r2_ tr) (a_ (Eq.refl 0) (a_ (a_ (a_ tr (a_ (le_nil_gs 1) tr)) tr) (a_ (r1_ tr) tr)))) (Ag_l0_ok hμ locks x_k big _ _ r h) ⟨rfl, fun _ _ => rfl, trivial⟩
theorem Ag_tri (locks : List (Cg)) (x_k : I_) (r : (Int)) (h : Ag locks x_k = some r) : FnTri Tryz.prog 42 [.ds 10 (locks).length (rowF c_Cg default locks), .agg [.int .u8 x_k.a0, .int .u8 x_k.a1, .int .u8 x_k.a2, .int .u8 x_k.a3, .int .u8 x_k.a4, .int .u8 x_k.a5, .int .u8 x_k.a6, .int .u8 x_k.a7]] [] (Ag_v r) [] := FnTri.none (Ag_ok locks x_k r h) rfl rfl
def Ay_v (r : (Int)) : LV := .int .i64 r
def Ay_l0 (c : Ca) (set : Int) : Nat → (Int) → (Int) → Option ((Int))
 | 0, _, _ => none
 | fuel + 1, x_n, i =>
  if ((decide (i < 8)) : Bool) then
   (Ah set i).bind fun y3 =>
   if (y3 : Bool) then
    if 0 ≤ i ∧ i < 8 then
    Ay_l0 c set fuel (IntKind.wrap .i64 (x_n + (IntKind.wrap .i64 (A8.get c.f_Votes i.toNat)))) (IntKind.wrap .i64 (i + 1))
    else none
   else
    Ay_l0 c set fuel x_n (IntKind.wrap .i64 (i + 1))
  else
   some x_n
def Ay (c : Ca) (set : Int) : Option ((Int)) :=
 Ay_l0 c set big 0 0
abbrev Ay_K0 (w0 : World) (W : Nat → Prop) (μ0 : Emb) (c : Ca) (set x_n i : Int) (r : (Int)) : Prop := Kt_ w0 W μ0 Tryz.f43 0 0 (Ay_v r) [] (kAt (bodyOf Tryz.f43) 0) (.any :: (.int .u64 set) :: (.ptr 0 0 0) :: .any :: .any :: (.int .i64 x_n) :: (.int .i64 i) :: n_ 15 []) [some (.var (c_Ca c))]
theorem Ay_l0_ok {w0 W μ0} (hμ : Lt_ μ0 0) (c : Ca) (set : Int) : ∀ (fuel : Nat) (x_n i : Int) (r : (Int)), Ay_l0 c set fuel x_n i = some r → Ay_K0 w0 W μ0 c set x_n i r := by
 intro fuel
 induction fuel with
 | zero => intro x_n i r h; rw [Ay_l0] at h; cases h
 | succ fuel ih =>
  intro x_n i r h
  rw [Ay_l0] at h
  rcases it_ h with ⟨C1, h⟩ | ⟨C1, h⟩
  ·obtain ⟨y3, E2, h⟩ := bs_ h
   rcases it_ h with ⟨C4, h⟩ | ⟨C4, h⟩
   ·obtain ⟨G5, h⟩ := gs_ h
    exact rt_ hμ [0] 27 [.go, .reg [(1, hT)], .reg [(2, { call := some (Ah_v y3, [], []), v := some (.bool true) })], .reg [(4, hv_ (.int .u8 (A8.get c.f_Votes i.toNat)))], .reg []]
     (a_ (r1_ (f_ C1 tr)) (a_ (r2_ (a_ (a_ (a_ (Ah_tri set i y3 E2) tr) (a_ (leB C4) tr)) tr)) (a_ (r1_ (r2_ (a_ (a_ G5 tr) (a_ (a_ (a_ tr (arrLt (len := 8) G5 3 1 11 rfl rfl)) (a_ (ld8s (cInt .u8) 1 (fun _ => rfl) c.f_Votes [.int .u32 c.f_Epoch, .int .u8 c.f_R, .int .u8 c.f_W] [] 3 rfl i.toNat (lt8N G5) (le_ (0 + 1) 1 rfl)) tr)) (r1_ (r2_ tr)))))) (a_ (r1_ (r2_ tr)) tr)))) (ih _ _ r h) ⟨rfl, trivial⟩
   ·exact rt_ hμ [0] 26 [.go, .reg [(1, hT)], .reg [(2, { call := some (Ah_v y3, [], []), v := some (.bool false) })], .reg []]
     (a_ (r1_ (f_ C1 tr)) (a_ (r2_ (a_ (a_ (a_ (Ah_tri set i y3 E2) tr) (a_ (leB C4) tr)) tr)) (a_ (r1_ (r2_ tr)) tr))) (ih _ _ r h) ⟨rfl, trivial⟩
  ·obtain rfl := si_ h
   exact rr_ [] 19 [.go, .reg [(1, hF)], .reg []]
    (a_ (a_ (r1_ (f_ C1 tr)) (a_ (r2_ tr) tr)) tr)
theorem Ay_ok (c : Ca) (set : Int) (r : (Int)) (h : Ay c set = some r) : ∀ σ, Inj 0 σ → FnTri Tryz.prog 43 (renL σ [v_Ca c, .int .u64 set]) (preOf σ 0 []) ((Ay_v r).ren σ) (upOf σ []) := by
 refine fo_ Tryz.func43 trivial trivial ?_
 intro w0 W μ0 hμ
 unfold Ay at h
 exact rt_ hμ [0] 21 [.reg [], .reg [], .reg []]
  (a_ (r2_ tr) (a_ (r1_ tr) (a_ (r1_ tr) tr))) (Ay_l0_ok hμ c set big _ _ r h) ⟨rfl, trivial⟩
theorem Ay_tri (c : Ca) (set : Int) (r : (Int)) (h : Ay c set = some r) : FnTri Tryz.prog 43 [v_Ca c, .int .u64 set] [] (Ay_v r) [] := FnTri.none (Ay_ok c set r h) rfl rfl
def AB_v (r : (List (Cf)) × (List (Int)) × (Int)) : LV := .tup [.ds 5 (r.1).length (rowF c_Cf default r.1), .ds 1 (r.2.1).length (rowF (cInt .u64) default r.2.1), .int .i64 r.2.2]
def AB_c2 : Option ((List (Cf)) × (List (Int)) × (Int)) :=
 some (([] : List (Cf)), ([] : List (Int)), 1)
def AB_l1 (locks : List (Cg)) (writes : List (Ch)) (i : Int) (l : List (Cf)) (yC3_4 : (List (Int))) (yL0_4 : (Cc) × (Bool)) (k0 : (Int) → (List (Cf)) → Option ((List (Cf)) × (List (Int)) × (Int))) : Nat → (Int) → (List (Ch)) → Option ((List (Cf)) × (List (Int)) × (Int))
 | 0, _, _ => none
 | fuel + 1, x_k, l2 =>
  if ((decide (x_k < ((writes).length : Int))) : Bool) then
   if 0 ≤ x_k ∧ x_k < (((writes).length : Nat) : Int) then
   (Ag locks (writes.getD x_k.toNat default).f_Key).bind fun yL1_4 =>
   if 0 ≤ i ∧ i < (((yC3_4).length : Nat) : Int) then
   (Ah yL1_4 (yC3_4.getD i.toNat default)).bind fun y7 =>
   if (y7 : Bool) then
    if ((l2).length + (([(writes.getD x_k.toNat default)] : List (Ch))).length) * 48 ≤ 140737488351232 then
    AB_l1 locks writes i l yC3_4 yL0_4 k0 fuel (IntKind.wrap .i64 (x_k + 1)) (l2 ++ ([(writes.getD x_k.toNat default)] : List (Ch)))
    else none
   else
    AB_l1 locks writes i l yC3_4 yL0_4 k0 fuel (IntKind.wrap .i64 (x_k + 1)) l2
   else none
   else none
  else
   if ((l).length + (([(Cf.mk (IntKind.wrap .u8 (yC3_4.getD i.toNat default)) yL0_4.1 l2 0)] : List (Cf))).length) * 48 ≤ 140737488351232 then
   k0 (IntKind.wrap .i64 (i + 1)) (l ++ ([(Cf.mk (IntKind.wrap .u8 (yC3_4.getD i.toNat default)) yL0_4.1 l2 0)] : List (Cf)))
   else none
def AB_l4 (locks : List (Cg)) (writes : List (Ch)) (l : List (Cf)) (x_k3 : Int) (l3 : List (Int)) (y4 : (Int)) (k3 : (Int) → (List (Int)) → Option ((List (Cf)) × (List (Int)) × (Int))) : Nat → (Int) → (Int) → Option ((List (Cf)) × (List (Int)) × (Int))
 | 0, _, _ => none
 | fuel + 1, left, x_n =>
  if ((decide (x_n < 8)) : Bool) then
   if 0 ≤ x_n ∧ x_n < 8 then
   if ((decide (0 < (A8.get (writes.getD x_k3.toNat default).f_Item.f_Conf.f_Votes x_n.toNat))) : Bool) then
    (Ah y4 x_n).bind fun y5 =>
    if ((!y5) : Bool) then
     (Bc left x_n).bind fun y8 =>
     AB_l4 locks writes l x_k3 l3 y4 k3 fuel y8 (IntKind.wrap .i64 (x_n + 1))
    else
     AB_l4 locks writes l x_k3 l3 y4 k3 fuel left (IntKind.wrap .i64 (x_n + 1))
   else
    AB_l4 locks writes l x_k3 l3 y4 k3 fuel left (IntKind.wrap .i64 (x_n + 1))
   else none
  else
   if ((l3).length + (([left] : List (Int))).length) * 8 ≤ 140737488351232 then
   k3 (IntKind.wrap .i64 (x_k3 + 1)) (l3 ++ ([left] : List (Int)))
   else none
def AB_l3 (locks : List (Cg)) (writes : List (Ch)) (l : List (Cf)) : Nat → (Int) → (List (Int)) → Option ((List (Cf)) × (List (Int)) × (Int))
 | 0, _, _ => none
 | fuel + 1, x_k3, l3 =>
  if ((decide (x_k3 < ((writes).length : Int))) : Bool) then
   if 0 ≤ x_k3 ∧ x_k3 < (((writes).length : Nat) : Int) then
   (Ag locks (writes.getD x_k3.toNat default).f_Key).bind fun y4 =>
   (Ay (writes.getD x_k3.toNat default).f_Item.f_Conf y4).bind fun y6 =>
   if ((decide (y6 < (IntKind.wrap .i64 (writes.getD x_k3.toNat default).f_Item.f_Conf.f_W))) : Bool) then
    some (([] : List (Cf)), ([] : List (Int)), 16)
   else
    AB_l4 locks writes l x_k3 l3 y4 (AB_l3 locks writes l fuel) big 0 0
   else none
  else
   some (l, l3, 0)
def AB_l2 (locks : List (Cg)) (writes : List (Ch)) (l : List (Cf)) : Nat → (Int) → Option ((List (Cf)) × (List (Int)) × (Int))
 | 0, _ => none
 | fuel + 1, x_k2 =>
  if ((decide (x_k2 < ((writes).length : Int))) : Bool) then
   if 0 ≤ x_k2 ∧ x_k2 < (((writes).length : Nat) : Int) then
   (Ag locks (writes.getD x_k2.toNat default).f_Key).bind fun y4 =>
   if ((y4 == 0) : Bool) then
    some (([] : List (Cf)), ([] : List (Int)), 6)
   else
    AB_l2 locks writes l fuel (IntKind.wrap .i64 (x_k2 + 1))
   else none
  else
   AB_l3 locks writes l big 0 ([] : List (Int))
def AB_l0 (locks : List (Cg)) (writes : List (Ch)) (yC3_4 : (List (Int))) : Nat → (Int) → (List (Cf)) → Option ((List (Cf)) × (List (Int)) × (Int))
 | 0, _, _ => none
 | fuel + 1, i, l =>
  if ((decide (i < ((yC3_4).length : Int))) : Bool) then
   if 0 ≤ i ∧ i < (((yC3_4).length : Nat) : Int) then
   (AX locks (yC3_4.getD i.toNat default)).bind fun yL0_4 =>
   if ((!yL0_4.2) : Bool) then
    some (([] : List (Cf)), ([] : List (Int)), 14)
   else
    AB_l1 locks writes i l yC3_4 yL0_4 (AB_l0 locks writes yC3_4 fuel) big 0 ([] : List (Ch))
   else none
  else
   AB_l2 locks writes l big 0
def AB_c3 (locks : List (Cg)) (writes : List (Ch)) : Option ((List (Cf)) × (List (Int)) × (Int)) :=
 (AT locks).bind fun y2 =>
 (Av y2).bind fun y4 =>
 AB_l0 locks writes y4 big 0 ([] : List (Cf))
def AB (locks : List (Cg)) (writes : List (Ch)) : Option ((List (Cf)) × (List (Int)) × (Int)) :=
 (AW locks).bind fun y2 =>
 if ((!y2) : Bool) then
  some (([] : List (Cf)), ([] : List (Int)), 1)
 else
  (Ac writes).bind fun y5 =>
  if ((!y5) : Bool) then
   AB_c2
  else
   AB_c3 locks writes
abbrev AB_K1000002 (w0 : World) (W : Nat → Prop) (μ0 : Emb) (r : (List (Cf)) × (List (Int)) × (Int)) : Prop := Kt_ w0 W μ0 Tryz.f18 0 0 (AB_v r) [] (kAtR (bodyOf Tryz.f18) 2) (n_ 151 []) []
abbrev AB_K1 (w0 : World) (W : Nat → Prop) (μ0 : Emb) (locks : List (Cg)) (writes : List (Ch)) (i : Int) (l : List (Cf)) (yC3_4 : (List (Int))) (yL0_4 : (Cc) × (Bool)) (x_k : Int) (l2 : List (Ch)) (r : (List (Cf)) × (List (Int)) × (Int)) : Prop := Kt_ w0 W μ0 Tryz.f18 0 0 (AB_v r) [] (kAt (bodyOf Tryz.f18) 1) ((.ds 10 (locks).length (rowF c_Cg default locks)) :: (.ds 21 (writes).length (rowF c_Ch default writes)) :: n_ 5 ((.ds 1 (yC3_4).length (rowF (cInt .i64) default yC3_4)) :: (.gs 0 (l).length) :: (.int .i64 i) :: .any :: .any :: (.ptr 1 0 0) :: (.int .i64 x_k) :: n_ 137 [])) [some (.gr 5 (l).length (rowF c_Cf default l)), some (.var [.int .u8 (IntKind.wrap .u8 (yC3_4.getD i.toNat default)), .int .u32 yL0_4.1.f_Boot, .int .u32 yL0_4.1.f_N, .gs 2 (l2).length, .int .u8 0]), some (.gr 21 (l2).length (rowF c_Ch default l2))]
abbrev AB_K4 (w0 : World) (W : Nat → Prop) (μ0 : Emb) (locks : List (Cg)) (writes : List (Ch)) (l : List (Cf)) (x_k3 : Int) (l3 : List (Int)) (y4 : (Int)) (left x_n : Int) (r : (List (Cf)) × (List (Int)) × (Int)) : Prop := Kt_ w0 W μ0 Tryz.f18 0 0 (AB_v r) [] (kAt (bodyOf Tryz.f18) 4) ((.ds 10 (locks).length (rowF c_Cg default locks)) :: (.ds 21 (writes).length (rowF c_Ch default writes)) :: n_ 6 ((.gs 0 (l).length) :: n_ 6 ((.gs 1 (l3).length) :: (.int .i64 x_k3) :: (.int .u64 y4) :: (.ptr 2 0 0) :: (.int .u64 left) :: (.int .i64 x_n) :: n_ 130 []))) [some (.gr 5 (l).length (rowF c_Cf default l)), some (.gr 1 (l3).length (rowF (cInt .u64) default l3)), some (.var (c_Ca (writes.getD x_k3.toNat default).f_Item.f_Conf))]
abbrev AB_K3 (w0 : World) (W : Nat → Prop) (μ0 : Emb) (locks : List (Cg)) (writes : List (Ch)) (l : List (Cf)) (x_k3 : Int) (l3 : List (Int)) (r : (List (Cf)) × (List (Int)) × (Int)) : Prop := Kt_ w0 W μ0 Tryz.f18 0 0 (AB_v r) [] (kAt (bodyOf Tryz.f18) 3) ((.ds 10 (locks).length (rowF c_Cg default locks)) :: (.ds 21 (writes).length (rowF c_Ch default writes)) :: n_ 6 ((.gs 0 (l).length) :: n_ 6 ((.gs 1 (l3).length) :: (.int .i64 x_k3) :: n_ 134 []))) [some (.gr 5 (l).length (rowF c_Cf default l)), some (.gr 1 (l3).length (rowF (cInt .u64) default l3))]
abbrev AB_K2 (w0 : World) (W : Nat → Prop) (μ0 : Emb) (locks : List (Cg)) (writes : List (Ch)) (l : List (Cf)) (x_k2 : Int) (r : (List (Cf)) × (List (Int)) × (Int)) : Prop := Kt_ w0 W μ0 Tryz.f18 0 0 (AB_v r) [] (kAt (bodyOf Tryz.f18) 2) ((.ds 10 (locks).length (rowF c_Cg default locks)) :: (.ds 21 (writes).length (rowF c_Ch default writes)) :: n_ 6 ((.gs 0 (l).length) :: n_ 5 ((.int .i64 x_k2) :: n_ 136 []))) [some (.gr 5 (l).length (rowF c_Cf default l))]
abbrev AB_K0 (w0 : World) (W : Nat → Prop) (μ0 : Emb) (locks : List (Cg)) (writes : List (Ch)) (y4 : (List (Int))) (i : Int) (l : List (Cf)) (r : (List (Cf)) × (List (Int)) × (Int)) : Prop := Kt_ w0 W μ0 Tryz.f18 0 0 (AB_v r) [] (kAt (bodyOf Tryz.f18) 0) ((.ds 10 (locks).length (rowF c_Cg default locks)) :: (.ds 21 (writes).length (rowF c_Ch default writes)) :: n_ 5 ((.ds 1 (y4).length (rowF (cInt .i64) default y4)) :: (.gs 0 (l).length) :: (.int .i64 i) :: n_ 141 [])) [some (.gr 5 (l).length (rowF c_Cf default l))]
abbrev AB_K1000003 (w0 : World) (W : Nat → Prop) (μ0 : Emb) (locks : List (Cg)) (writes : List (Ch)) (r : (List (Cf)) × (List (Int)) × (Int)) : Prop := Kt_ w0 W μ0 Tryz.f18 0 0 (AB_v r) [] (kAtR (bodyOf Tryz.f18) 3) ((.ds 10 (locks).length (rowF c_Cg default locks)) :: (.ds 21 (writes).length (rowF c_Ch default writes)) :: n_ 149 []) []
theorem AB_c2_ok {w0 W μ0} (hμ : Lt_ μ0 0) (r : (List (Cf)) × (List (Int)) × (Int)) (h : AB_c2 = some r) : AB_K1000002 w0 W μ0 r := by
 unfold AB_c2 at h
 obtain rfl := si_ h
 exact rr_ [] 11 [.reg [(0, hv_ (.ds 5 (([] : List (Cf))).length (rowF c_Cf default ([] : List (Cf))))), (1, hv_ (.ds 1 (([] : List (Int))).length (rowF (cInt .u64) default ([] : List (Int)))))]]
  (a_ (a_ (a_ (a_ tr (a_ (le_nil_ds 5 (rowF c_Cf default [])) tr)) (a_ (a_ tr (a_ (le_nil_ds 1 (rowF (cInt .u64) default [])) tr)) (r1_ tr))) tr) tr)
theorem AB_l1_ok {w0 W μ0} (hμ : Lt_ μ0 0) (locks : List (Cg)) (writes : List (Ch)) (i : Int) (l : List (Cf)) (yC3_4 : (List (Int))) (yL0_4 : (Cc) × (Bool)) (k0 : (Int) → (List (Cf)) → Option ((List (Cf)) × (List (Int)) × (Int))) (hk0 : ∀ (i : Int) (l : List (Cf)) (r : (List (Cf)) × (List (Int)) × (Int)), k0 i l = some r → AB_K0 w0 W μ0 locks writes yC3_4 i l r) : ∀ (fuel : Nat) (x_k : Int) (l2 : List (Ch)) (r : (List (Cf)) × (List (Int)) × (Int)), AB_l1 locks writes i l yC3_4 yL0_4 k0 fuel x_k l2 = some r → AB_K1 w0 W μ0 locks writes i l yC3_4 yL0_4 x_k l2 r := by
 intro fuel
 induction fuel with
 | zero => intro x_k l2 r h; rw [AB_l1] at h; cases h
 | succ fuel ih =>
  intro x_k l2 r h
  rw [AB_l1] at h
  rcases it_ h with ⟨C1, h⟩ | ⟨C1, h⟩
  ·obtain ⟨G2, h⟩ := gs_ h
   obtain ⟨yL1_4, E3, h⟩ := bs_ h
   obtain ⟨G5, h⟩ := gs_ h
   obtain ⟨y7, E6, h⟩ := bs_ h
   rcases it_ h with ⟨C8, h⟩ | ⟨C8, h⟩
   ·obtain ⟨G9, h⟩ := gs_ h
    exact rt_ hμ [0, 1, 4] 27 [.go, .reg [(3, hT)], .reg [(6, hC (Ag_v yL1_4)), (11, { call := some (Ah_v y7, [], []), v := some (.bool true) })], .reg [(6, { os := [(3, .gr 21 (([(writes.getD x_k.toNat default)] : List (Ch))).length (rowF c_Ch default ([(writes.getD x_k.toNat default)] : List (Ch))))], v := some (.gs 3 (([(writes.getD x_k.toNat default)] : List (Ch))).length) }), (7, { app := 3, os := [(4, .gr 21 ((l2 ++ ([(writes.getD x_k.toNat default)] : List (Ch)))).length (rowF c_Ch default (l2 ++ ([(writes.getD x_k.toNat default)] : List (Ch)))))], v := some (.gs 4 ((l2 ++ ([(writes.getD x_k.toNat default)] : List (Ch)))).length) })], .reg []]
     (a_ (r1_ (r2_ (f_ C1 tr))) (a_ (r1_ (r2_ (a_ (a_ (a_ (Eq.refl 21) G2) tr) (r1_ (a_ (a_ (le_ 8 21 rfl) tr) (a_ (a_ (a_ (Ag_tri locks (writes.getD x_k.toNat default).f_Key yL1_4 E3) tr) tr) (r2_ (a_ (a_ (a_ (Eq.refl 1) G5) tr) (a_ (a_ (lt_ 0 1 rfl) tr) (a_ (a_ (a_ (Ah_tri yL1_4 (yC3_4.getD i.toNat default) y7 E6) tr) (a_ (leB C8) tr)) tr)))))))))) (a_ (r1_ (l_ 3 5 rfl (r2_ (a_ (a_ (a_ (Eq.refl 21) G2) tr) (a_ (a_ (le_ 21 21 rfl) tr) (a_ (a_ (a_ (Eq.refl true) (a_ (Eq.refl 21) (a_ (lt_ 0 21 rfl) (le_ 21 16777216 rfl)))) (a_ (le_sl_gs 3 1 (some 1) rfl) (a_ (sub_lit c_Ch default 21 (fun _ => rfl) ([(writes.getD x_k.toNat default)] : List (Ch))) tr))) (a_ (a_ (a_ (a_ (Eq.refl 21) (Nat.le_refl (([(writes.getD x_k.toNat default)] : List (Ch))).length)) (a_ (a_ (lt_ 0 21 rfl) (a_ (lt_ 0 48 rfl) (a_ G9 (a_ (Eq.refl 21) (Eq.refl true))))) (a_ (Eq.refl 21) (Nat.le_refl (l2).length)))) (a_ (le_gs_app 4 l2 ([(writes.getD x_k.toNat default)] : List (Ch))) (a_ (sub_app c_Ch default 21 l2 ([(writes.getD x_k.toNat default)] : List (Ch))) tr))) (r1_ (a_ (a_ (a_ (Eq.refl 1) (a_ (le_ 4 5 rfl) (Eq.refl 0))) tr) tr))))))))) (a_ (r1_ (r2_ tr)) tr)))) (ih _ _ r h) ⟨fun _ _ => rfl, rfl, fun _ _ => rfl, trivial⟩
   ·exact rt_ hμ [0, 1, 2] 26 [.go, .reg [(3, hT)], .reg [(6, hC (Ag_v yL1_4)), (11, { call := some (Ah_v y7, [], []), v := some (.bool false) })], .reg []]
     (a_ (r1_ (r2_ (f_ C1 tr))) (a_ (r1_ (r2_ (a_ (a_ (a_ (Eq.refl 21) G2) tr) (r1_ (a_ (a_ (le_ 8 21 rfl) tr) (a_ (a_ (a_ (Ag_tri locks (writes.getD x_k.toNat default).f_Key yL1_4 E3) tr) tr) (r2_ (a_ (a_ (a_ (Eq.refl 1) G5) tr) (a_ (a_ (lt_ 0 1 rfl) tr) (a_ (a_ (a_ (Ah_tri yL1_4 (yC3_4.getD i.toNat default) y7 E6) tr) (a_ (leB C8) tr)) tr)))))))))) (a_ (r1_ (r2_ tr)) tr))) (ih _ _ r h) ⟨fun _ _ => rfl, rfl, fun _ _ => rfl, trivial⟩
  ·obtain ⟨G2, h⟩ := gs_ h
   exact rt_ hμ [4] 22 [.go, .reg [(3, hF)], .frz 2, .reg [(2, { os := [(3, .gr 5 (([(Cf.mk (IntKind.wrap .u8 (yC3_4.getD i.toNat default)) yL0_4.1 l2 0)] : List (Cf))).length (rowF c_Cf default ([(Cf.mk (IntKind.wrap .u8 (yC3_4.getD i.toNat default)) yL0_4.1 l2 0)] : List (Cf))))], v := some (.gs 3 (([(Cf.mk (IntKind.wrap .u8 (yC3_4.getD i.toNat default)) yL0_4.1 l2 0)] : List (Cf))).length) }), (3, { app := 3, os := [(4, .gr 5 ((l ++ ([(Cf.mk (IntKind.wrap .u8 (yC3_4.getD i.toNat default)) yL0_4.1 l2 0)] : List (Cf)))).length (rowF c_Cf default (l ++ ([(Cf.mk (IntKind.wrap .u8 (yC3_4.getD i.toNat default)) yL0_4.1 l2 0)] : List (Cf)))))], v := some (.gs 4 ((l ++ ([(Cf.mk (IntKind.wrap .u8 (yC3_4.getD i.toNat default)) yL0_4.1 l2 0)] : List (Cf)))).length) })], .reg []]
    (a_ (r1_ (r2_ (f_ C1 tr))) (a_ (a_ (fz_row (enc := c_Ch) (d := default) (fun _ => rfl) l2) (a_ (Nat.le_refl (l2).length) tr)) (a_ (r1_ (m_ 5 5 rfl (a_ (a_ (a_ (Eq.refl true) (a_ (Eq.refl 5) (a_ (lt_ 0 5 rfl) (le_ 5 16777216 rfl)))) (a_ (le_sl_gs 3 1 (some 1) rfl) (a_ (sub_lit c_Cf default 5 (fun _ => rfl) ([(Cf.mk (IntKind.wrap .u8 (yC3_4.getD i.toNat default)) yL0_4.1 l2 0)] : List (Cf))) tr))) (a_ (a_ (a_ (a_ (Eq.refl 5) (Nat.le_refl (([(Cf.mk (IntKind.wrap .u8 (yC3_4.getD i.toNat default)) yL0_4.1 l2 0)] : List (Cf))).length)) (a_ (a_ (lt_ 0 5 rfl) (a_ (lt_ 0 48 rfl) (a_ G2 (a_ (Eq.refl 5) (Eq.refl true))))) (a_ (Eq.refl 5) (Nat.le_refl (l).length)))) (a_ (le_gs_app 4 l ([(Cf.mk (IntKind.wrap .u8 (yC3_4.getD i.toNat default)) yL0_4.1 l2 0)] : List (Cf))) (a_ (sub_app c_Cf default 5 l ([(Cf.mk (IntKind.wrap .u8 (yC3_4.getD i.toNat default)) yL0_4.1 l2 0)] : List (Cf))) tr))) (r1_ tr))))) (a_ (r1_ (r2_ tr)) tr)))) (hk0 _ _ r h) ⟨fun _ _ => rfl, trivial⟩
theorem AB_l4_ok {w0 W μ0} (hμ : Lt_ μ0 0) (locks : List (Cg)) (writes : List (Ch)) (l : List (Cf)) (x_k3 : Int) (l3 : List (Int)) (y4 : (Int)) (k3 : (Int) → (List (Int)) → Option ((List (Cf)) × (List (Int)) × (Int))) (hk3 : ∀ (x_k3 : Int) (l3 : List (Int)) (r : (List (Cf)) × (List (Int)) × (Int)), k3 x_k3 l3 = some r → AB_K3 w0 W μ0 locks writes l x_k3 l3 r) : ∀ (fuel : Nat) (left x_n : Int) (r : (List (Cf)) × (List (Int)) × (Int)), AB_l4 locks writes l x_k3 l3 y4 k3 fuel left x_n = some r → AB_K4 w0 W μ0 locks writes l x_k3 l3 y4 left x_n r := by
 intro fuel
 induction fuel with
 | zero => intro left x_n r h; rw [AB_l4] at h; cases h
 | succ fuel ih =>
  intro left x_n r h
  rw [AB_l4] at h
  rcases it_ h with ⟨C1, h⟩ | ⟨C1, h⟩
  ·obtain ⟨G2, h⟩ := gs_ h
   rcases it_ h with ⟨C3, h⟩ | ⟨C3, h⟩
   ·obtain ⟨y5, E4, h⟩ := bs_ h
    rcases it_ h with ⟨C6, h⟩ | ⟨C6, h⟩
    ·obtain ⟨y8, E7, h⟩ := bs_ h
     exact rt_ hμ [0, 1, 2] 27 [.go, .reg [(1, hT)], .reg [(3, hv_ (.int .u8 (A8.get (writes.getD x_k3.toNat default).f_Item.f_Conf.f_Votes x_n.toNat))), (5, hT), (8, hC (Ah_v y5)), (10, hT)], .reg [(2, hC (Bc_v y8))], .reg []]
      (a_ (r1_ (f_ C1 tr)) (a_ (r2_ (a_ (a_ G2 tr) (a_ (a_ (a_ tr (arrLt (len := 8) G2 3 1 11 rfl rfl)) (a_ (ld8s (cInt .u8) 1 (fun _ => rfl) (writes.getD x_k3.toNat default).f_Item.f_Conf.f_Votes [.int .u32 (writes.getD x_k3.toNat default).f_Item.f_Conf.f_Epoch, .int .u8 (writes.getD x_k3.toNat default).f_Item.f_Conf.f_R, .int .u8 (writes.getD x_k3.toNat default).f_Item.f_Conf.f_W] [] 3 rfl x_n.toNat (lt8N G2) (le_ (0 + 1) 1 rfl)) tr)) (r1_ (f_ C3 (r2_ (c_ (Ah_tri y4 x_n y5 E4) (r1_ (f_ C6 tr))))))))) (a_ (r2_ (c_ (Bc_tri left x_n y8 E7) (r1_ tr))) (a_ (r1_ (r2_ tr)) tr)))) (ih _ _ r h) ⟨fun _ _ => rfl, fun _ _ => rfl, rfl, trivial⟩
    ·exact rt_ hμ [0, 1, 2] 26 [.go, .reg [(1, hT)], .reg [(3, hv_ (.int .u8 (A8.get (writes.getD x_k3.toNat default).f_Item.f_Conf.f_Votes x_n.toNat))), (5, hT), (8, hC (Ah_v y5)), (10, hF)], .reg []]
      (a_ (r1_ (f_ C1 tr)) (a_ (r2_ (a_ (a_ G2 tr) (a_ (a_ (a_ tr (arrLt (len := 8) G2 3 1 11 rfl rfl)) (a_ (ld8s (cInt .u8) 1 (fun _ => rfl) (writes.getD x_k3.toNat default).f_Item.f_Conf.f_Votes [.int .u32 (writes.getD x_k3.toNat default).f_Item.f_Conf.f_Epoch, .int .u8 (writes.getD x_k3.toNat default).f_Item.f_Conf.f_R, .int .u8 (writes.getD x_k3.toNat default).f_Item.f_Conf.f_W] [] 3 rfl x_n.toNat (lt8N G2) (le_ (0 + 1) 1 rfl)) tr)) (r1_ (f_ C3 (r2_ (c_ (Ah_tri y4 x_n y5 E4) (r1_ (f_ C6 tr))))))))) (a_ (r1_ (r2_ tr)) tr))) (ih _ _ r h) ⟨fun _ _ => rfl, fun _ _ => rfl, rfl, trivial⟩
   ·exact rt_ hμ [0, 1, 2] 26 [.go, .reg [(1, hT)], .reg [(3, hv_ (.int .u8 (A8.get (writes.getD x_k3.toNat default).f_Item.f_Conf.f_Votes x_n.toNat))), (5, hF)], .reg []]
     (a_ (r1_ (f_ C1 tr)) (a_ (r2_ (a_ (a_ G2 tr) (a_ (a_ (a_ tr (arrLt (len := 8) G2 3 1 11 rfl rfl)) (a_ (ld8s (cInt .u8) 1 (fun _ => rfl) (writes.getD x_k3.toNat default).f_Item.f_Conf.f_Votes [.int .u32 (writes.getD x_k3.toNat default).f_Item.f_Conf.f_Epoch, .int .u8 (writes.getD x_k3.toNat default).f_Item.f_Conf.f_R, .int .u8 (writes.getD x_k3.toNat default).f_Item.f_Conf.f_W] [] 3 rfl x_n.toNat (lt8N G2) (le_ (0 + 1) 1 rfl)) tr)) (r1_ (f_ C3 (t4_ (r1_ tr))))))) (a_ (r1_ (r2_ tr)) tr))) (ih _ _ r h) ⟨fun _ _ => rfl, fun _ _ => rfl, rfl, trivial⟩
  ·obtain ⟨G2, h⟩ := gs_ h
   exact rt_ hμ [0, 4] 21 [.go, .reg [(1, hF)], .reg [(2, { os := [(3, .gr 1 (([left] : List (Int))).length (rowF (cInt .u64) default ([left] : List (Int))))], v := some (.gs 3 (([left] : List (Int))).length) }), (3, { app := 3, os := [(4, .gr 1 ((l3 ++ ([left] : List (Int)))).length (rowF (cInt .u64) default (l3 ++ ([left] : List (Int)))))], v := some (.gs 4 ((l3 ++ ([left] : List (Int)))).length) })], .reg []]
    (a_ (r1_ (f_ C1 tr)) (a_ (r2_ (a_ (a_ (a_ (Eq.refl true) (a_ (Eq.refl 1) (a_ (lt_ 0 1 rfl) (le_ 1 16777216 rfl)))) (a_ (le_sl_gs 3 1 (some 1) rfl) (a_ (sub_lit (cInt .u64) default 1 (fun _ => rfl) ([left] : List (Int))) tr))) (a_ (a_ (a_ (a_ (Eq.refl 1) (Nat.le_refl (([left] : List (Int))).length)) (a_ (a_ (lt_ 0 1 rfl) (a_ (lt_ 0 8 rfl) (a_ G2 (a_ (Eq.refl 1) (Eq.refl true))))) (a_ (Eq.refl 1) (Nat.le_refl (l3).length)))) (a_ (le_gs_app 4 l3 ([left] : List (Int))) (a_ (sub_app (cInt .u64) default 1 l3 ([left] : List (Int))) tr))) (r1_ tr)))) (a_ (r1_ (r2_ tr)) tr))) (hk3 _ _ r h) ⟨fun _ _ => rfl, fun _ _ => rfl, trivial⟩
theorem AB_l3_ok {w0 W μ0} (hμ : Lt_ μ0 0) (locks : List (Cg)) (writes : List (Ch)) (l : List (Cf)) : ∀ (fuel : Nat) (x_k3 : Int) (l3 : List (Int)) (r : (List (Cf)) × (List (Int)) × (Int)), AB_l3 locks writes l fuel x_k3 l3 = some r → AB_K3 w0 W μ0 locks writes l x_k3 l3 r := by
 intro fuel
 induction fuel with
 | zero => intro x_k3 l3 r h; rw [AB_l3] at h; cases h
 | succ fuel ih =>
  intro x_k3 l3 r h
  rw [AB_l3] at h
  rcases it_ h with ⟨C1, h⟩ | ⟨C1, h⟩
  ·obtain ⟨G2, h⟩ := gs_ h
   obtain ⟨y4, E3, h⟩ := bs_ h
   obtain ⟨y6, E5, h⟩ := bs_ h
   rcases it_ h with ⟨C7, h⟩ | ⟨C7, h⟩
   ·obtain rfl := si_ h
    exact rr_ [] 32 [.go, .reg [(3, hT)], .reg [(6, hC (Ag_v y4))], .reg [], .reg [(2, hC (Ay_v y6)), (6, hT)], .reg [(0, hv_ (.ds 5 (([] : List (Cf))).length (rowF c_Cf default ([] : List (Cf))))), (1, hv_ (.ds 1 (([] : List (Int))).length (rowF (cInt .u64) default ([] : List (Int)))))]]
     (a_ (a_ (r1_ (r2_ (f_ C1 tr))) (a_ (r1_ (r2_ (a_ (a_ (a_ (Eq.refl 21) G2) tr) (r1_ (a_ (a_ (le_ 8 21 rfl) tr) (a_ (a_ (a_ (Ag_tri locks (writes.getD x_k3.toNat default).f_Key y4 E3) tr) tr) (r1_ tr))))))) (a_ (r2_ (a_ (a_ (a_ (Eq.refl 21) G2) tr) (r2_ (a_ (a_ (le_ 11 11 rfl) tr) (r1_ (a_ (a_ (a_ (Eq.refl 11) (a_ (le_ 11 11 rfl) (Eq.refl 0))) tr) tr)))))) (a_ (m_ 11 11 rfl (r1_ (a_ (a_ (a_ (Ay_tri (writes.getD x_k3.toNat default).f_Item.f_Conf y4 y6 E5) tr) tr) (r1_ (l_ 2 11 rfl (r1_ (f_ C7 tr))))))) (a_ (a_ (a_ tr (a_ (le_nil_ds 5 (rowF c_Cf default [])) tr)) (a_ (a_ tr (a_ (le_nil_ds 1 (rowF (cInt .u64) default [])) tr)) (r1_ tr))) tr))))) tr)
   ·exact rt_ hμ [0, 1, 2] 39 [.go, .reg [(3, hT)], .reg [(6, hC (Ag_v y4))], .reg [], .reg [(2, hC (Ay_v y6)), (6, hF)], .reg [], .reg []]
     (a_ (r1_ (r2_ (f_ C1 tr))) (a_ (r1_ (r2_ (a_ (a_ (a_ (Eq.refl 21) G2) tr) (r1_ (a_ (a_ (le_ 8 21 rfl) tr) (a_ (a_ (a_ (Ag_tri locks (writes.getD x_k3.toNat default).f_Key y4 E3) tr) tr) (r1_ tr))))))) (a_ (r2_ (a_ (a_ (a_ (Eq.refl 21) G2) tr) (r2_ (a_ (a_ (le_ 11 11 rfl) tr) (r1_ (a_ (a_ (a_ (Eq.refl 11) (a_ (le_ 11 11 rfl) (Eq.refl 0))) tr) tr)))))) (a_ (m_ 11 11 rfl (r1_ (a_ (a_ (a_ (Ay_tri (writes.getD x_k3.toNat default).f_Item.f_Conf y4 y6 E5) tr) tr) (r1_ (l_ 2 11 rfl (r1_ (f_ C7 tr))))))) (a_ (r1_ tr) (a_ (r1_ tr) tr)))))) (AB_l4_ok hμ locks writes l x_k3 l3 y4 (AB_l3 locks writes l fuel) ih big _ _ r h) ⟨fun _ _ => rfl, fun _ _ => rfl, rfl, trivial⟩
  ·obtain rfl := si_ h
   exact rr_ [] 21 [.go, .reg [(3, hF)], .reg [], .frz 0, .frz 1]
    (a_ (a_ (r1_ (r2_ (f_ C1 tr))) (a_ (r1_ (r4_ tr)) (a_ (a_ (fz_row (enc := c_Cf) (d := default) (fun _ => rfl) l) (a_ (Nat.le_refl (l).length) (a_ (Nat.le_refl (l).length) (a_ (Nat.le_refl (l).length) tr)))) (a_ (a_ (fz_row (enc := (cInt .u64)) (d := default) (fun _ => rfl) l3) (a_ (Nat.le_refl (l3).length) (a_ (Nat.le_refl (l3).length) (a_ (Nat.le_refl (l3).length) tr)))) tr)))) tr)
theorem AB_l2_ok {w0 W μ0} (hμ : Lt_ μ0 0) (locks : List (Cg)) (writes : List (Ch)) (l : List (Cf)) : ∀ (fuel : Nat) (x_k2 : Int) (r : (List (Cf)) × (List (Int)) × (Int)), AB_l2 locks writes l fuel x_k2 = some r → AB_K2 w0 W μ0 locks writes l x_k2 r := by
 intro fuel
 induction fuel with
 | zero => intro x_k2 r h; rw [AB_l2] at h; cases h
 | succ fuel ih =>
  intro x_k2 r h
  rw [AB_l2] at h
  rcases it_ h with ⟨C1, h⟩ | ⟨C1, h⟩
  ·obtain ⟨G2, h⟩ := gs_ h
   obtain ⟨y4, E3, h⟩ := bs_ h
   rcases it_ h with ⟨C5, h⟩ | ⟨C5, h⟩
   ·obtain rfl := si_ h
    exact rr_ [] 25 [.go, .reg [(3, hT)], .reg [(6, hC (Ag_v y4)), (7, hT)], .reg [(0, hv_ (.ds 5 (([] : List (Cf))).length (rowF c_Cf default ([] : List (Cf))))), (1, hv_ (.ds 1 (([] : List (Int))).length (rowF (cInt .u64) default ([] : List (Int)))))]]
     (a_ (a_ (r1_ (r2_ (f_ C1 tr))) (a_ (r1_ (r2_ (a_ (a_ (a_ (Eq.refl 21) G2) tr) (r1_ (a_ (a_ (le_ 8 21 rfl) tr) (a_ (a_ (a_ (Ag_tri locks (writes.getD x_k2.toNat default).f_Key y4 E3) tr) tr) (f_ C5 tr))))))) (a_ (a_ (a_ tr (a_ (le_nil_ds 5 (rowF c_Cf default [])) tr)) (a_ (a_ tr (a_ (le_nil_ds 1 (rowF (cInt .u64) default [])) tr)) (r1_ tr))) tr))) tr)
   ·exact rt_ hμ [0] 26 [.go, .reg [(3, hT)], .reg [(6, hC (Ag_v y4)), (7, hF)], .reg []]
     (a_ (r1_ (r2_ (f_ C1 tr))) (a_ (r1_ (r2_ (a_ (a_ (a_ (Eq.refl 21) G2) tr) (r1_ (a_ (a_ (le_ 8 21 rfl) tr) (a_ (a_ (a_ (Ag_tri locks (writes.getD x_k2.toNat default).f_Key y4 E3) tr) tr) (f_ C5 tr))))))) (a_ (r1_ (r2_ tr)) tr))) (ih _ r h) ⟨fun _ _ => rfl, trivial⟩
  ·exact rt_ hμ [0, 1] 26 [.go, .reg [(3, hF)], .void (.gr 1 (([] : List (Int))).length (rowF (cInt .u64) default ([] : List (Int)))), .reg [(0, hv_ (.gs 1 (([] : List (Int))).length))], .reg []]
    (a_ (r1_ (r2_ (f_ C1 tr))) (a_ (Eq.refl 0) (a_ (a_ (a_ tr (a_ (le_nil_gs 1) tr)) tr) (a_ (r1_ tr) tr)))) (AB_l3_ok hμ locks writes l big _ _ r h) ⟨fun _ _ => rfl, fun _ _ => rfl, trivial⟩
theorem AB_l0_ok {w0 W μ0} (hμ : Lt_ μ0 0) (locks : List (Cg)) (writes : List (Ch)) (yC3_4 : (List (Int))) : ∀ (fuel : Nat) (i : Int) (l : List (Cf)) (r : (List (Cf)) × (List (Int)) × (Int)), AB_l0 locks writes yC3_4 fuel i l = some r → AB_K0 w0 W μ0 locks writes yC3_4 i l r := by
 intro fuel
 induction fuel with
 | zero => intro i l r h; rw [AB_l0] at h; cases h
 | succ fuel ih =>
  intro i l r h
  rw [AB_l0] at h
  rcases it_ h with ⟨C1, h⟩ | ⟨C1, h⟩
  ·obtain ⟨G2, h⟩ := gs_ h
   obtain ⟨yL0_4, E3, h⟩ := bs_ h
   rcases it_ h with ⟨C5, h⟩ | ⟨C5, h⟩
   ·obtain rfl := si_ h
    exact rr_ [] 29 [.go, .reg [(3, hT)], .reg [(5, hC (AX_v yL0_4))], .reg [(1, hT)], .reg [(0, hv_ (.ds 5 (([] : List (Cf))).length (rowF c_Cf default ([] : List (Cf))))), (1, hv_ (.ds 1 (([] : List (Int))).length (rowF (cInt .u64) default ([] : List (Int)))))]]
     (a_ (a_ (r1_ (r2_ (f_ C1 tr))) (a_ (r1_ (r2_ (a_ (a_ (a_ (Eq.refl 1) G2) tr) (a_ (a_ (lt_ 0 1 rfl) tr) (a_ (a_ (a_ (AX_tri locks (yC3_4.getD i.toNat default) yL0_4 E3) tr) tr) (r4_ (a_ (a_ (a_ (Eq.refl 2) (a_ (le_ 2 2 rfl) (Eq.refl 0))) tr) (r1_ tr)))))))) (a_ (r1_ (f_ C5 tr)) (a_ (a_ (a_ tr (a_ (le_nil_ds 5 (rowF c_Cf default [])) tr)) (a_ (a_ tr (a_ (le_nil_ds 1 (rowF (cInt .u64) default [])) tr)) (r1_ tr))) tr)))) tr)
   ·exact rt_ hμ [0, 4, 3] 38 [.go, .reg [(3, hT)], .reg [(5, hC (AX_v yL0_4))], .reg [(1, hF)], .void (.gr 21 (([] : List (Ch))).length (rowF c_Ch default ([] : List (Ch)))), .void (.gr 21 (([] : List (Ch))).length (rowF c_Ch default ([] : List (Ch)))), .reg [(7, { os := [(4, .var [.int .u8 0, .int .u32 0, .int .u32 0, .gs 2 (([] : List (Ch))).length, .int .u8 0])] }), (8, { os := [(4, .var [.int .u8 (IntKind.wrap .u8 (yC3_4.getD i.toNat default)), .int .u32 yL0_4.1.f_Boot, .int .u32 yL0_4.1.f_N, .gs 3 (([] : List (Ch))).length, .int .u8 0])] })], .reg []]
     (a_ (r1_ (r2_ (f_ C1 tr))) (a_ (r1_ (r2_ (a_ (a_ (a_ (Eq.refl 1) G2) tr) (a_ (a_ (lt_ 0 1 rfl) tr) (a_ (a_ (a_ (AX_tri locks (yC3_4.getD i.toNat default) yL0_4 E3) tr) tr) (r4_ (a_ (a_ (a_ (Eq.refl 2) (a_ (le_ 2 2 rfl) (Eq.refl 0))) tr) (r1_ tr)))))))) (a_ (r1_ (f_ C5 tr)) (a_ (Eq.refl 0) (a_ (Eq.refl 0) (a_ (r2_ (a_ (a_ (a_ (Eq.refl 1) G2) tr) (a_ (a_ (lt_ 0 1 rfl) tr) (r1_ (m_ 2 2 rfl (a_ (a_ (Eq.refl true) tr) (a_ (a_ tr (a_ (LO.Sub.var (a := [.int .u8 0, .int .u32 0, .int .u32 0, .nilsl, .int .u8 0]) (b := [.int .u8 0, .int .u32 0, .int .u32 0, .gs 2 (([] : List (Ch))).length, .int .u8 0]) (a_ (vl_ (.int .u8 0)) (a_ (vl_ (.int .u32 0)) (a_ (vl_ (.int .u32 0)) (a_ (le_nil_gs 2) (a_ (vl_ (.int .u8 0)) tr)))))) tr)) (a_ (a_ (a_ (Eq.refl 5) (a_ (le_ 5 5 rfl) (Eq.refl 0))) (a_ (LO.Sub.var (a := [.int .u8 (IntKind.wrap .u8 (yC3_4.getD i.toNat default)), .int .u32 yL0_4.1.f_Boot, .int .u32 yL0_4.1.f_N, .nilsl, .int .u8 0]) (b := [.int .u8 (IntKind.wrap .u8 (yC3_4.getD i.toNat default)), .int .u32 yL0_4.1.f_Boot, .int .u32 yL0_4.1.f_N, .gs 3 (([] : List (Ch))).length, .int .u8 0]) (a_ (vl_ (.int .u8 (IntKind.wrap .u8 (yC3_4.getD i.toNat default)))) (a_ (vl_ (.int .u32 yL0_4.1.f_Boot)) (a_ (vl_ (.int .u32 yL0_4.1.f_N)) (a_ (le_nil_gs 3) (a_ (vl_ (.int .u8 0)) tr)))))) tr)) tr)))))))) (a_ (r1_ tr) tr))))))) (AB_l1_ok hμ locks writes i l yC3_4 yL0_4 (AB_l0 locks writes yC3_4 fuel) ih big _ _ r h) ⟨fun _ _ => rfl, rfl, fun _ _ => rfl, trivial⟩
  ·exact rt_ hμ [0] 22 [.go, .reg [(3, hF)], .reg []]
    (a_ (r1_ (r2_ (f_ C1 tr))) (a_ (r1_ tr) tr)) (AB_l2_ok hμ locks writes l big _ r h) ⟨fun _ _ => rfl, trivial⟩
theorem AB_c3_ok {w0 W μ0} (hμ : Lt_ μ0 0) (locks : List (Cg)) (writes : List (Ch)) (r : (List (Cf)) × (List (Int)) × (Int)) (h : AB_c3 locks writes = some r) : AB_K1000003 w0 W μ0 locks writes r := by
 unfold AB_c3 at h
 obtain ⟨y2, E1, h⟩ := bs_ h
 obtain ⟨y4, E3, h⟩ := bs_ h
 exact rt_ hμ [0] 21 [.reg [(1, hC (AT_v y2)), (2, hC (Av_v y4))], .void (.gr 5 (([] : List (Cf))).length (rowF c_Cf default ([] : List (Cf)))), .reg [(0, hv_ (.gs 0 (([] : List (Cf))).length))], .reg []]
  (a_ (r1_ (c_ (AT_tri locks y2 E1) (c_ (Av_tri y2 y4 E3) (r1_ tr)))) (a_ (Eq.refl 0) (a_ (a_ (a_ tr (a_ (le_nil_gs 0) tr)) tr) (a_ (r1_ tr) tr)))) (AB_l0_ok hμ locks writes y4 big _ _ r h) ⟨fun _ _ => rfl, trivial⟩
theorem AB_ok (locks : List (Cg)) (writes : List (Ch)) (r : (List (Cf)) × (List (Int)) × (Int)) (h : AB locks writes = some r) : ∀ σ, Inj 0 σ → FnTri Tryz.prog 18 (renL σ [.ds 10 (locks).length (rowF c_Cg default locks), .ds 21 (writes).length (rowF c_Ch default writes)]) (preOf σ 0 []) ((AB_v r).ren σ) (upOf σ []) := by
 refine fo_ Tryz.func18 trivial trivial ?_
 intro w0 W μ0 hμ
 unfold AB at h
 obtain ⟨y2, e1, h⟩ := bs_ h
 rcases it_ h with ⟨c3, h⟩ | ⟨c3, h⟩
 ·obtain rfl := si_ h
  exact rr_ [] 20 [.reg [(0, hv_ (.ds 5 (([] : List (Cf))).length (rowF c_Cf default ([] : List (Cf))))), (1, hv_ (.ds 1 (([] : List (Int))).length (rowF (cInt .u64) default ([] : List (Int)))))], .reg [(1, hC (AW_v y2)), (3, hT)], .reg [(0, hv_ (.ds 5 (([] : List (Cf))).length (rowF c_Cf default ([] : List (Cf))))), (1, hv_ (.ds 1 (([] : List (Int))).length (rowF (cInt .u64) default ([] : List (Int)))))]]
   (a_ (a_ (a_ (a_ tr (a_ (le_nil_ds 5 (rowF c_Cf default [])) tr)) (a_ (a_ tr (a_ (le_nil_ds 1 (rowF (cInt .u64) default [])) tr)) (r1_ tr))) (a_ (r1_ (c_ (AW_tri locks y2 e1) (r1_ (f_ c3 (a_ tr (t2_ (r1_ tr))))))) (a_ (a_ (a_ tr (a_ (le_nil_ds 5 (rowF c_Cf default [])) tr)) (a_ (a_ tr (a_ (le_nil_ds 1 (rowF (cInt .u64) default [])) tr)) (r1_ tr))) tr))) tr)
 ·obtain ⟨y5, e4, h⟩ := bs_ h
  rcases it_ h with ⟨c6, h⟩ | ⟨c6, h⟩
  ·exact rt_ hμ [] 18 [.reg [(0, hv_ (.ds 5 (([] : List (Cf))).length (rowF c_Cf default ([] : List (Cf))))), (1, hv_ (.ds 1 (([] : List (Int))).length (rowF (cInt .u64) default ([] : List (Int)))))], .reg [(1, hC (AW_v y2)), (3, hF), (5, hC (Ac_v y5)), (7, hT)]]
    (a_ (a_ (a_ tr (a_ (le_nil_ds 5 (rowF c_Cf default [])) tr)) (a_ (a_ tr (a_ (le_nil_ds 1 (rowF (cInt .u64) default [])) tr)) (r1_ tr))) (a_ (r1_ (c_ (AW_tri locks y2 e1) (r1_ (f_ c3 (r1_ (c_ (Ac_tri writes y5 e4) (r1_ (f_ c6 tr)))))))) tr)) (AB_c2_ok hμ r h) trivial
  ·exact rt_ hμ [] 19 [.reg [(0, hv_ (.ds 5 (([] : List (Cf))).length (rowF c_Cf default ([] : List (Cf))))), (1, hv_ (.ds 1 (([] : List (Int))).length (rowF (cInt .u64) default ([] : List (Int)))))], .reg [(1, hC (AW_v y2)), (3, hF), (5, hC (Ac_v y5)), (7, hF)]]
    (a_ (a_ (a_ tr (a_ (le_nil_ds 5 (rowF c_Cf default [])) tr)) (a_ (a_ tr (a_ (le_nil_ds 1 (rowF (cInt .u64) default [])) tr)) (r1_ tr))) (a_ (r1_ (c_ (AW_tri locks y2 e1) (r1_ (f_ c3 (r1_ (c_ (Ac_tri writes y5 e4) (r1_ (f_ c6 tr)))))))) tr)) (AB_c3_ok hμ locks writes r h) trivial
theorem AB_tri (locks : List (Cg)) (writes : List (Ch)) (r : (List (Cf)) × (List (Int)) × (Int)) (h : AB locks writes = some r) : FnTri Tryz.prog 18 [.ds 10 (locks).length (rowF c_Cg default locks), .ds 21 (writes).length (rowF c_Ch default writes)] [] (AB_v r) [] := FnTri.none (AB_ok locks writes r h) rfl rfl
def AH_v (r : (Bool)) : LV := .bool r
def AH_l3000 (a : Ci) : Nat → Option ((Bool))
 | 0 => none
 | fuel + 1 =>
  (AB ([] : List (Cg)) ([] : List (Ch))).bind fun y2 =>
  if ((y2.2.2 == 0) : Bool) then
   (AD).bind fun y5 =>
   some y5
  else
   some false
def AH_l2000 (a : Ci) : Nat → Option ((Bool))
 | 0 => none
 | fuel + 1 =>
  (AS z6_ z0_ z1_ a).bind fun y2 =>
  (BF z6_ z0_ z1_).bind fun y4 =>
  (BP z6_ z0_ z1_ a.f_Key).bind fun y6 =>
  (BI z6_ z0_ z1_ a.f_Key).bind fun y8 =>
  (BX z6_ z0_ z1_ a.f_Got.f_Node).bind fun y10 =>
  (BJ z6_ z0_ z1_).bind fun y12 =>
  if (y6.2 : Bool) then
   some false
  else
   (BU z6_ z0_ z1_).bind fun y15 =>
   if (((IntKind.wrap .i64 ((IntKind.wrap .i64 (((y12.1).length : Int) + ((y12.2).length : Int))) + ((y15).length : Int))) != 0) : Bool) then
    some false
   else
    (Bl z6_ z0_ z1_ a.f_Key).bind fun y18 =>
    (Bn z6_ z0_ z1_).bind fun y20 =>
    if ((!decide (y20 = z6_)) : Bool) then
     some false
    else
     AH_l3000 a big
def AH_l1000 (a : Ci) : Nat → Option ((Bool))
 | 0 => none
 | fuel + 1 =>
  (Al a).bind fun y2 =>
  (Bt).bind fun y4 =>
  (Br a.f_Key).bind fun y6 =>
  (Bj a.f_Key).bind fun y8 =>
  (CJ a.f_Got.f_Node).bind fun y10 =>
  (Bk).bind fun y12 =>
  if (y6.2 : Bool) then
   some false
  else
   (CG).bind fun y15 =>
   if (((IntKind.wrap .i64 ((IntKind.wrap .i64 (((y12.1).length : Int) + ((y12.2).length : Int))) + ((y15).length : Int))) != 0) : Bool) then
    some false
   else
    (Bz a.f_Key).bind fun y18 =>
    (CM).bind fun y20 =>
    if ((!decide (y20 = z6_)) : Bool) then
     some false
    else
     AH_l2000 a big
def AH (a : Ci) : Option ((Bool)) :=
 (Ar ([a] : List (Ci))).bind fun y2 =>
 if (y2 : Bool) then
  (AD).bind fun y5 =>
  some y5
 else
  AH_l1000 a big
abbrev AH_K3000 (w0 : World) (W : Nat → Prop) (μ0 : Emb) (a : Ci) (r : (Bool)) : Prop := Kt_ w0 W μ0 Tryz.f4 0 0 (AH_v r) [] (kAt (bodyOf Tryz.f4) 0) (.any :: (.ptr 0 0 0) :: n_ 25 ((.sl 1 0 0 false 2 (some 2)) :: (.int .i64 2) :: (.int .i64 2) :: n_ 95 [])) [some (.var (c_Ci a)), some (.row 1 2 (chunk 1 [.nilptr, .ptr 2 0 0]) true), some (.var (cT_60 z6_ .nilmap z0_ .nilptr z1_ .nilmap .nilmap))]
abbrev AH_K2000 (w0 : World) (W : Nat → Prop) (μ0 : Emb) (a : Ci) (r : (Bool)) : Prop := Kt_ w0 W μ0 Tryz.f4 0 0 (AH_v r) [] (kAt (bodyOf Tryz.f4) 0) (.any :: (.ptr 0 0 0) :: n_ 25 ((.sl 1 0 0 false 2 (some 2)) :: (.int .i64 2) :: (.int .i64 1) :: n_ 95 [])) [some (.var (c_Ci a)), some (.row 1 2 (chunk 1 [.nilptr, .ptr 2 0 0]) true), some (.var (cT_60 z6_ .nilmap z0_ .nilptr z1_ .nilmap .nilmap))]
abbrev AH_K1000 (w0 : World) (W : Nat → Prop) (μ0 : Emb) (a : Ci) (r : (Bool)) : Prop := Kt_ w0 W μ0 Tryz.f4 0 0 (AH_v r) [] (kAt (bodyOf Tryz.f4) 0) (.any :: (.ptr 0 0 0) :: n_ 25 ((.sl 1 0 0 false 2 (some 2)) :: (.int .i64 2) :: (.int .i64 0) :: n_ 95 [])) [some (.var (c_Ci a)), some (.row 1 2 (chunk 1 [.nilptr, .ptr 2 0 0]) true), some (.var (cT_60 z6_ .nilmap z0_ .nilptr z1_ .nilmap .nilmap))]
theorem AH_l3000_ok {w0 W μ0} (hμ : Lt_ μ0 0) (a : Ci) : ∀ (fuel : Nat) (r : (Bool)), AH_l3000 a fuel = some r → AH_K3000 w0 W μ0 a r := by
 intro fuel
 induction fuel with
 | zero => intro r h; rw [AH_l3000] at h; cases h
 | succ fuel ih =>
  intro r h
  rw [AH_l3000] at h
  obtain ⟨y2, E1, h⟩ := bs_ h
  rcases it_ h with ⟨C3, h⟩ | ⟨C3, h⟩
  ·obtain ⟨y5, E4, h⟩ := bs_ h
   obtain rfl := si_ h
   exact rr_ [] 22 [.go, .reg [], .reg [(0, { call := some (AB_v y2, [], []), cargs := some [.ds 10 (([] : List (Cg))).length (rowF c_Cg default ([] : List (Cg))), .ds 21 (([] : List (Ch))).length (rowF c_Ch default ([] : List (Ch)))] })], .reg [(2, hT), (3, hC (AD_v y5))]]
    (a_ (a_ (r1_ tr) (a_ (a_ (a_ (a_ (AB_tri ([] : List (Cg)) ([] : List (Ch)) y2 E1) (a_ (a_ (le_nil_ds 10 (rowF c_Cg default [])) (a_ (le_nil_ds 21 (rowF c_Ch default [])) tr)) tr)) tr) (r1_ (r2_ (r4_ tr)))) (a_ (r2_ (f_ C3 (c_ (AD_tri y5 E4) (r2_ tr)))) tr))) tr)
  ·obtain rfl := si_ h
   exact rr_ [] 22 [.go, .reg [], .reg [(0, { call := some (AB_v y2, [], []), cargs := some [.ds 10 (([] : List (Cg))).length (rowF c_Cg default ([] : List (Cg))), .ds 21 (([] : List (Ch))).length (rowF c_Ch default ([] : List (Ch)))] })], .reg [(2, hF)]]
    (a_ (a_ (r1_ tr) (a_ (a_ (a_ (a_ (AB_tri ([] : List (Cg)) ([] : List (Ch)) y2 E1) (a_ (a_ (le_nil_ds 10 (rowF c_Cg default [])) (a_ (le_nil_ds 21 (rowF c_Ch default [])) tr)) tr)) tr) (r1_ (r2_ (r4_ tr)))) (a_ (r2_ (f_ C3 (a_ tr (r2_ tr)))) tr))) tr)
theorem AH_l2000_ok {w0 W μ0} (hμ : Lt_ μ0 0) (a : Ci) : ∀ (fuel : Nat) (r : (Bool)), AH_l2000 a fuel = some r → AH_K2000 w0 W μ0 a r := by
 intro fuel
 induction fuel with
 | zero => intro r h; rw [AH_l2000] at h; cases h
 | succ fuel ih =>
  intro r h
  rw [AH_l2000] at h
  obtain ⟨y2, E1, h⟩ := bs_ h
  obtain ⟨y4, E3, h⟩ := bs_ h
  obtain ⟨y6, E5, h⟩ := bs_ h
  obtain ⟨y8, E7, h⟩ := bs_ h
  obtain ⟨y10, E9, h⟩ := bs_ h
  obtain ⟨y12, E11, h⟩ := bs_ h
  rcases it_ h with ⟨C13, h⟩ | ⟨C13, h⟩
  ·obtain rfl := si_ h
   exact rr_ [] 46 [.go, .reg [], .reg [], .reg [(2, hk_ (hK_ [2] (AS_v y2) (AS_objs z6_ z0_ z1_) (AS_up z6_ z0_ z1_ y2)))], .reg [(1, hk_ (hK_ [2] (BF_v y4) (BF_objs z6_ z0_ z1_) (BF_up z6_ z0_ z1_ y4)))], .reg [(3, hk_ (hK_ [2] (BP_v y6) (BP_objs z6_ z0_ z1_) (BP_up y6)))], .reg [(3, hk_ (hK_ [2] (BI_v y8) (BI_objs z6_ z0_ z1_) (BI_up y8)))], .reg [(4, hk_ (hK_ [2] (BX_v y10) (BX_objs z6_ z0_ z1_) (BX_up y10)))], .reg [(1, hk_ (hK_ [2] (BJ_v y12) (BJ_objs z6_ z0_ z1_) (BJ_up y12)))], .reg [(11, hT)], .reg []]
    (a_ (a_ (r1_ tr) (a_ (a_ (a_ (a_ (Eq.refl 1) (a_ (lei_ 0 1 rfl) (lti_ 1 2 rfl))) tr) (a_ (a_ (a_ (lt_ 1 2 rfl) (lt_ 0 1 rfl)) tr) (r1_ tr))) (a_ (r1_ (m_ 49 49 rfl (a_ (a_ (a_ (AS_ok z6_ z0_ z1_ a y2 E1 (sel [2]) sj_) (a_ (rl_ (.var (cT_60 z6_ .nilmap z0_ .nilptr z1_ .nilmap .nilmap))) tr)) tr) (r1_ (r4_ tr))))) (a_ (r1_ (a_ (a_ (a_ (BF_ok z6_ z0_ z1_ y4 E3 (sel [2]) sj_) (a_ (rl_ (.var (cT_60 z6_ .nilmap z0_ .nilptr z1_ .nilmap .nilmap))) tr)) tr) (r1_ (r4_ (a_ (a_ (a_ (Eq.refl 8) (a_ (le_ 8 8 rfl) (Eq.refl 0))) tr) (r2_ tr)))))) (a_ (r2_ (m_ 9 49 rfl (a_ (a_ (a_ (BP_ok z6_ z0_ z1_ a.f_Key y6 E5 (sel [2]) sj_) (a_ (LO.Le.ofVarL (lel_set (cT_60 z6_ .nilmap z0_ .nilptr z1_ .nilmap .nilmap) 14 (.nilptr) .any rfl (le_any _))) tr)) tr) (r4_ (a_ (a_ (a_ (Eq.refl 13) (a_ (le_ 13 13 rfl) (Eq.refl 0))) tr) (r1_ tr)))))) (a_ (r2_ (m_ 9 49 rfl (a_ (a_ (a_ (BI_ok z6_ z0_ z1_ a.f_Key y8 E7 (sel [2]) sj_) (a_ (LO.Le.ofVarL (lel_set (cT_60 z6_ .nilmap z0_ .nilptr z1_ .nilmap .nilmap) 14 (.nilptr) .any rfl (le_any _))) tr)) tr) (r1_ (r4_ tr))))) (a_ (r1_ (r2_ (l_ 32 49 rfl (a_ (a_ (a_ (BX_ok z6_ z0_ z1_ a.f_Got.f_Node y10 E9 (sel [2]) sj_) (a_ (LO.Le.ofVarL (lel_set (cT_60 z6_ .nilmap z0_ .nilptr z1_ .nilmap .nilmap) 14 (.nilptr) .any rfl (le_any _))) tr)) tr) (r4_ (a_ (a_ (a_ (Eq.refl 2) (a_ (le_ 2 2 rfl) (Eq.refl 0))) tr) (r1_ tr))))))) (a_ (r1_ (a_ (a_ (a_ (BJ_ok z6_ z0_ z1_ y12 E11 (sel [2]) sj_) (a_ (LO.Le.ofVarL (lel_set (cT_60 z6_ .nilmap z0_ .nilptr z1_ .nilmap .nilmap) 14 (.nilptr) .any rfl (le_any _))) tr)) tr) (r1_ (r4_ tr)))) (a_ (r1_ (r2_ (r8_ (f_ C13 (a_ tr (r2_ (a_ tr (r2_ (t2_ (t8_ (r2_ (a_ tr (t4_ (r2_ (t4_ (r1_ tr)))))))))))))))) (a_ (r1_ tr) tr)))))))))) tr)
  ·obtain ⟨y15, E14, h⟩ := bs_ h
   rcases it_ h with ⟨C16, h⟩ | ⟨C16, h⟩
   ·obtain rfl := si_ h
    exact rr_ [] 46 [.go, .reg [], .reg [], .reg [(2, hk_ (hK_ [2] (AS_v y2) (AS_objs z6_ z0_ z1_) (AS_up z6_ z0_ z1_ y2)))], .reg [(1, hk_ (hK_ [2] (BF_v y4) (BF_objs z6_ z0_ z1_) (BF_up z6_ z0_ z1_ y4)))], .reg [(3, hk_ (hK_ [2] (BP_v y6) (BP_objs z6_ z0_ z1_) (BP_up y6)))], .reg [(3, hk_ (hK_ [2] (BI_v y8) (BI_objs z6_ z0_ z1_) (BI_up y8)))], .reg [(4, hk_ (hK_ [2] (BX_v y10) (BX_objs z6_ z0_ z1_) (BX_up y10)))], .reg [(1, hk_ (hK_ [2] (BJ_v y12) (BJ_objs z6_ z0_ z1_) (BJ_up y12)))], .reg [(11, hF), (24, hk_ (hK_ [2] (BU_v y15) (BU_objs z6_ z0_ z1_) (BU_up z6_ z0_ z1_ y15))), (29, hT)], .reg []]
     (a_ (a_ (r1_ tr) (a_ (a_ (a_ (a_ (Eq.refl 1) (a_ (lei_ 0 1 rfl) (lti_ 1 2 rfl))) tr) (a_ (a_ (a_ (lt_ 1 2 rfl) (lt_ 0 1 rfl)) tr) (r1_ tr))) (a_ (r1_ (m_ 49 49 rfl (a_ (a_ (a_ (AS_ok z6_ z0_ z1_ a y2 E1 (sel [2]) sj_) (a_ (rl_ (.var (cT_60 z6_ .nilmap z0_ .nilptr z1_ .nilmap .nilmap))) tr)) tr) (r1_ (r4_ tr))))) (a_ (r1_ (a_ (a_ (a_ (BF_ok z6_ z0_ z1_ y4 E3 (sel [2]) sj_) (a_ (rl_ (.var (cT_60 z6_ .nilmap z0_ .nilptr z1_ .nilmap .nilmap))) tr)) tr) (r1_ (r4_ (a_ (a_ (a_ (Eq.refl 8) (a_ (le_ 8 8 rfl) (Eq.refl 0))) tr) (r2_ tr)))))) (a_ (r2_ (m_ 9 49 rfl (a_ (a_ (a_ (BP_ok z6_ z0_ z1_ a.f_Key y6 E5 (sel [2]) sj_) (a_ (LO.Le.ofVarL (lel_set (cT_60 z6_ .nilmap z0_ .nilptr z1_ .nilmap .nilmap) 14 (.nilptr) .any rfl (le_any _))) tr)) tr) (r4_ (a_ (a_ (a_ (Eq.refl 13) (a_ (le_ 13 13 rfl) (Eq.refl 0))) tr) (r1_ tr)))))) (a_ (r2_ (m_ 9 49 rfl (a_ (a_ (a_ (BI_ok z6_ z0_ z1_ a.f_Key y8 E7 (sel [2]) sj_) (a_ (LO.Le.ofVarL (lel_set (cT_60 z6_ .nilmap z0_ .nilptr z1_ .nilmap .nilmap) 14 (.nilptr) .any rfl (le_any _))) tr)) tr) (r1_ (r4_ tr))))) (a_ (r1_ (r2_ (l_ 32 49 rfl (a_ (a_ (a_ (BX_ok z6_ z0_ z1_ a.f_Got.f_Node y10 E9 (sel [2]) sj_) (a_ (LO.Le.ofVarL (lel_set (cT_60 z6_ .nilmap z0_ .nilptr z1_ .nilmap .nilmap) 14 (.nilptr) .any rfl (le_any _))) tr)) tr) (r4_ (a_ (a_ (a_ (Eq.refl 2) (a_ (le_ 2 2 rfl) (Eq.refl 0))) tr) (r1_ tr))))))) (a_ (r1_ (a_ (a_ (a_ (BJ_ok z6_ z0_ z1_ y12 E11 (sel [2]) sj_) (a_ (LO.Le.ofVarL (lel_set (cT_60 z6_ .nilmap z0_ .nilptr z1_ .nilmap .nilmap) 14 (.nilptr) .any rfl (le_any _))) tr)) tr) (r1_ (r4_ tr)))) (a_ (r1_ (r2_ (r8_ (f_ C13 (r4_ (r8_ (a_ (a_ (a_ (BU_ok z6_ z0_ z1_ y15 E14 (sel [2]) sj_) (a_ (rl_ (.var (cT_60 z6_ .nilmap z0_ .nilptr z1_ .nilmap .nilmap))) tr)) tr) (r4_ (f_ C16 (a_ tr (t4_ (r2_ (t4_ (r1_ tr)))))))))))))) (a_ (r1_ tr) tr)))))))))) tr)
   ·obtain ⟨y18, E17, h⟩ := bs_ h
    obtain ⟨y20, E19, h⟩ := bs_ h
    rcases it_ h with ⟨C21, h⟩ | ⟨C21, h⟩
    ·obtain rfl := si_ h
     exact rr_ [] 46 [.go, .reg [], .reg [], .reg [(2, hk_ (hK_ [2] (AS_v y2) (AS_objs z6_ z0_ z1_) (AS_up z6_ z0_ z1_ y2)))], .reg [(1, hk_ (hK_ [2] (BF_v y4) (BF_objs z6_ z0_ z1_) (BF_up z6_ z0_ z1_ y4)))], .reg [(3, hk_ (hK_ [2] (BP_v y6) (BP_objs z6_ z0_ z1_) (BP_up y6)))], .reg [(3, hk_ (hK_ [2] (BI_v y8) (BI_objs z6_ z0_ z1_) (BI_up y8)))], .reg [(4, hk_ (hK_ [2] (BX_v y10) (BX_objs z6_ z0_ z1_) (BX_up y10)))], .reg [(1, hk_ (hK_ [2] (BJ_v y12) (BJ_objs z6_ z0_ z1_) (BJ_up y12)))], .reg [(11, hF), (24, hk_ (hK_ [2] (BU_v y15) (BU_objs z6_ z0_ z1_) (BU_up z6_ z0_ z1_ y15))), (29, hF), (33, hk_ (hK_ [2] (Bl_v y18) (Bl_objs z6_ z0_ z1_) (Bl_up y18))), (38, hk_ (hK_ [2] (Bn_v y20) (Bn_objs z6_ z0_ z1_) (Bn_up y20))), (40, hv_ (.bool (!decide (y20 = z6_)))), (41, hT)], .reg []]
      (a_ (a_ (r1_ tr) (a_ (a_ (a_ (a_ (Eq.refl 1) (a_ (lei_ 0 1 rfl) (lti_ 1 2 rfl))) tr) (a_ (a_ (a_ (lt_ 1 2 rfl) (lt_ 0 1 rfl)) tr) (r1_ tr))) (a_ (r1_ (m_ 49 49 rfl (a_ (a_ (a_ (AS_ok z6_ z0_ z1_ a y2 E1 (sel [2]) sj_) (a_ (rl_ (.var (cT_60 z6_ .nilmap z0_ .nilptr z1_ .nilmap .nilmap))) tr)) tr) (r1_ (r4_ tr))))) (a_ (r1_ (a_ (a_ (a_ (BF_ok z6_ z0_ z1_ y4 E3 (sel [2]) sj_) (a_ (rl_ (.var (cT_60 z6_ .nilmap z0_ .nilptr z1_ .nilmap .nilmap))) tr)) tr) (r1_ (r4_ (a_ (a_ (a_ (Eq.refl 8) (a_ (le_ 8 8 rfl) (Eq.refl 0))) tr) (r2_ tr)))))) (a_ (r2_ (m_ 9 49 rfl (a_ (a_ (a_ (BP_ok z6_ z0_ z1_ a.f_Key y6 E5 (sel [2]) sj_) (a_ (LO.Le.ofVarL (lel_set (cT_60 z6_ .nilmap z0_ .nilptr z1_ .nilmap .nilmap) 14 (.nilptr) .any rfl (le_any _))) tr)) tr) (r4_ (a_ (a_ (a_ (Eq.refl 13) (a_ (le_ 13 13 rfl) (Eq.refl 0))) tr) (r1_ tr)))))) (a_ (r2_ (m_ 9 49 rfl (a_ (a_ (a_ (BI_ok z6_ z0_ z1_ a.f_Key y8 E7 (sel [2]) sj_) (a_ (LO.Le.ofVarL (lel_set (cT_60 z6_ .nilmap z0_ .nilptr z1_ .nilmap .nilmap) 14 (.nilptr) .any rfl (le_any _))) tr)) tr) (r1_ (r4_ tr))))) (a_ (r1_ (r2_ (l_ 32 49 rfl (a_ (a_ (a_ (BX_ok z6_ z0_ z1_ a.f_Got.f_Node y10 E9 (sel [2]) sj_) (a_ (LO.Le.ofVarL (lel_set (cT_60 z6_ .nilmap z0_ .nilptr z1_ .nilmap .nilmap) 14 (.nilptr) .any rfl (le_any _))) tr)) tr) (r4_ (a_ (a_ (a_ (Eq.refl 2) (a_ (le_ 2 2 rfl) (Eq.refl 0))) tr) (r1_ tr))))))) (a_ (r1_ (a_ (a_ (a_ (BJ_ok z6_ z0_ z1_ y12 E11 (sel [2]) sj_) (a_ (LO.Le.ofVarL (lel_set (cT_60 z6_ .nilmap z0_ .nilptr z1_ .nilmap .nilmap) 14 (.nilptr) .any rfl (le_any _))) tr)) tr) (r1_ (r4_ tr)))) (a_ (r1_ (r2_ (r8_ (f_ C13 (r4_ (r8_ (a_ (a_ (a_ (BU_ok z6_ z0_ z1_ y15 E14 (sel [2]) sj_) (a_ (rl_ (.var (cT_60 z6_ .nilmap z0_ .nilptr z1_ .nilmap .nilmap))) tr)) tr) (r4_ (f_ C16 (r2_ (m_ 9 49 rfl (a_ (a_ (a_ (Bl_ok z6_ z0_ z1_ a.f_Key y18 E17 (sel [2]) sj_) (a_ (LO.Le.ofVarL (lel_set (cT_60 z6_ .nilmap z0_ .nilptr z1_ .nilmap .nilmap) 14 (.nilptr) .any rfl (le_any _))) tr)) tr) (r4_ (a_ (a_ (a_ (Bn_ok z6_ z0_ z1_ y20 E19 (sel [2]) sj_) (a_ (LO.Le.ofVarL (lel_set (cT_60 z6_ .nilmap z0_ .nilptr z1_ .nilmap .nilmap) 14 (.nilptr) .any rfl (le_any _))) tr)) tr) (a_ (a_ (Eq.refl true) tr) (a_ (a_ tr (a_ (leB (congrArg not (k_Cd y20 z6_))) tr)) (f_ C21 tr))))))))))))))))) (a_ (r1_ tr) tr)))))))))) tr)
    ·exact run_to_h mixed [some (.var (c_Ci a)), some (.row 1 2 (chunk 1 [.nilptr, .ptr 2 0 0]) true), some (.var (cT_60 z6_ .nilmap z0_ .nilptr z1_ .nilmap .nilmap))] hμ (L := [0, 1, 2]) (n := 47) (s := [.go, .reg [], .reg [], .reg [(2, hk_ (hK_ [2] (AS_v y2) (AS_objs z6_ z0_ z1_) (AS_up z6_ z0_ z1_ y2)))], .reg [(1, hk_ (hK_ [2] (BF_v y4) (BF_objs z6_ z0_ z1_) (BF_up z6_ z0_ z1_ y4)))], .reg [(3, hk_ (hK_ [2] (BP_v y6) (BP_objs z6_ z0_ z1_) (BP_up y6)))], .reg [(3, hk_ (hK_ [2] (BI_v y8) (BI_objs z6_ z0_ z1_) (BI_up y8)))], .reg [(4, hk_ (hK_ [2] (BX_v y10) (BX_objs z6_ z0_ z1_) (BX_up y10)))], .reg [(1, hk_ (hK_ [2] (BJ_v y12) (BJ_objs z6_ z0_ z1_) (BJ_up y12)))], .reg [(11, hF), (24, hk_ (hK_ [2] (BU_v y15) (BU_objs z6_ z0_ z1_) (BU_up z6_ z0_ z1_ y15))), (29, hF), (33, hk_ (hK_ [2] (Bl_v y18) (Bl_objs z6_ z0_ z1_) (Bl_up y18))), (38, hk_ (hK_ [2] (Bn_v y20) (Bn_objs z6_ z0_ z1_) (Bn_up y20))), (40, hv_ (.bool (!decide (y20 = z6_)))), (41, hF)], .reg []])
      (a_ (r1_ tr) (a_ (a_ (a_ (a_ (Eq.refl 1) (a_ (lei_ 0 1 rfl) (lti_ 1 2 rfl))) tr) (a_ (a_ (a_ (lt_ 1 2 rfl) (lt_ 0 1 rfl)) tr) (r1_ tr))) (a_ (r1_ (m_ 49 49 rfl (a_ (a_ (a_ (AS_ok z6_ z0_ z1_ a y2 E1 (sel [2]) sj_) (a_ (rl_ (.var (cT_60 z6_ .nilmap z0_ .nilptr z1_ .nilmap .nilmap))) tr)) tr) (r1_ (r4_ tr))))) (a_ (r1_ (a_ (a_ (a_ (BF_ok z6_ z0_ z1_ y4 E3 (sel [2]) sj_) (a_ (rl_ (.var (cT_60 z6_ .nilmap z0_ .nilptr z1_ .nilmap .nilmap))) tr)) tr) (r1_ (r4_ (a_ (a_ (a_ (Eq.refl 8) (a_ (le_ 8 8 rfl) (Eq.refl 0))) tr) (r2_ tr)))))) (a_ (r2_ (m_ 9 49 rfl (a_ (a_ (a_ (BP_ok z6_ z0_ z1_ a.f_Key y6 E5 (sel [2]) sj_) (a_ (LO.Le.ofVarL (lel_set (cT_60 z6_ .nilmap z0_ .nilptr z1_ .nilmap .nilmap) 14 (.nilptr) .any rfl (le_any _))) tr)) tr) (r4_ (a_ (a_ (a_ (Eq.refl 13) (a_ (le_ 13 13 rfl) (Eq.refl 0))) tr) (r1_ tr)))))) (a_ (r2_ (m_ 9 49 rfl (a_ (a_ (a_ (BI_ok z6_ z0_ z1_ a.f_Key y8 E7 (sel [2]) sj_) (a_ (LO.Le.ofVarL (lel_set (cT_60 z6_ .nilmap z0_ .nilptr z1_ .nilmap .nilmap) 14 (.nilptr) .any rfl (le_any _))) tr)) tr) (r1_ (r4_ tr))))) (a_ (r1_ (r2_ (l_ 32 49 rfl (a_ (a_ (a_ (BX_ok z6_ z0_ z1_ a.f_Got.f_Node y10 E9 (sel [2]) sj_) (a_ (LO.Le.ofVarL (lel_set (cT_60 z6_ .nilmap z0_ .nilptr z1_ .nilmap .nilmap) 14 (.nilptr) .any rfl (le_any _))) tr)) tr) (r4_ (a_ (a_ (a_ (Eq.refl 2) (a_ (le_ 2 2 rfl) (Eq.refl 0))) tr) (r1_ tr))))))) (a_ (r1_ (a_ (a_ (a_ (BJ_ok z6_ z0_ z1_ y12 E11 (sel [2]) sj_) (a_ (LO.Le.ofVarL (lel_set (cT_60 z6_ .nilmap z0_ .nilptr z1_ .nilmap .nilmap) 14 (.nilptr) .any rfl (le_any _))) tr)) tr) (r1_ (r4_ tr)))) (a_ (r1_ (r2_ (r8_ (f_ C13 (r4_ (r8_ (a_ (a_ (a_ (BU_ok z6_ z0_ z1_ y15 E14 (sel [2]) sj_) (a_ (rl_ (.var (cT_60 z6_ .nilmap z0_ .nilptr z1_ .nilmap .nilmap))) tr)) tr) (r4_ (f_ C16 (r2_ (m_ 9 49 rfl (a_ (a_ (a_ (Bl_ok z6_ z0_ z1_ a.f_Key y18 E17 (sel [2]) sj_) (a_ (LO.Le.ofVarL (lel_set (cT_60 z6_ .nilmap z0_ .nilptr z1_ .nilmap .nilmap) 14 (.nilptr) .any rfl (le_any _))) tr)) tr) (r4_ (a_ (a_ (a_ (Bn_ok z6_ z0_ z1_ y20 E19 (sel [2]) sj_) (a_ (LO.Le.ofVarL (lel_set (cT_60 z6_ .nilmap z0_ .nilptr z1_ .nilmap .nilmap) 14 (.nilptr) .any rfl (le_any _))) tr)) tr) (a_ (a_ (Eq.refl true) tr) (a_ (a_ tr (a_ (leB (congrArg not (k_Cd y20 z6_))) tr)) (f_ C21 tr))))))))))))))))) (a_ (r2_ tr) tr)))))))))) (AH_l3000_ok hμ a big r h) (by kernel_rfl) (renH_some rfl (renH_some (ren_lrow [.nilptr, .ptr 2 0 0] [.nilptr, .ptr 2 0 0] rfl) (renH_some rfl renH_nil))) ⟨rfl, under_chunk rfl, rfl, trivial⟩
theorem AH_l1000_ok {w0 W μ0} (hμ : Lt_ μ0 0) (a : Ci) : ∀ (fuel : Nat) (r : (Bool)), AH_l1000 a fuel = some r → AH_K1000 w0 W μ0 a r := by
 intro fuel
 induction fuel with
 | zero => intro r h; rw [AH_l1000] at h; cases h
 | succ fuel ih =>
  intro r h
  rw [AH_l1000] at h
  obtain ⟨y2, E1, h⟩ := bs_ h
  obtain ⟨y4, E3, h⟩ := bs_ h
  obtain ⟨y6, E5, h⟩ := bs_ h
  obtain ⟨y8, E7, h⟩ := bs_ h
  obtain ⟨y10, E9, h⟩ := bs_ h
  obtain ⟨y12, E11, h⟩ := bs_ h
  rcases it_ h with ⟨C13, h⟩ | ⟨C13, h⟩
  ·obtain rfl := si_ h
   exact rr_ [] 46 [.go, .reg [], .reg [], .reg [(2, hC (Al_v y2))], .reg [(1, hC (Bt_v y4))], .reg [(3, hC (Br_v y6))], .reg [(3, hC (Bj_v y8))], .reg [(4, hC (CJ_v y10))], .reg [(1, hC (Bk_v y12))], .reg [(11, hT)], .reg []]
    (a_ (a_ (r1_ tr) (a_ (a_ (a_ (a_ (Eq.refl 1) (a_ (lei_ 0 0 rfl) (lti_ 0 2 rfl))) tr) (a_ (a_ (a_ (lt_ 0 2 rfl) (lt_ 0 1 rfl)) tr) (r1_ tr))) (a_ (r1_ (m_ 49 49 rfl (c_ (Al_tri a y2 E1) (r1_ (r4_ tr))))) (a_ (r1_ (c_ (Bt_tri y4 E3) (r1_ (r4_ (a_ (a_ (a_ (Eq.refl 8) (a_ (le_ 8 8 rfl) (Eq.refl 0))) tr) (r2_ tr)))))) (a_ (r2_ (m_ 9 49 rfl (c_ (Br_tri a.f_Key y6 E5) (r4_ (a_ (a_ (a_ (Eq.refl 13) (a_ (le_ 13 13 rfl) (Eq.refl 0))) tr) (r1_ tr)))))) (a_ (r2_ (m_ 9 49 rfl (c_ (Bj_tri a.f_Key y8 E7) (r1_ (r4_ tr))))) (a_ (r1_ (r2_ (l_ 32 49 rfl (c_ (CJ_tri a.f_Got.f_Node y10 E9) (r4_ (a_ (a_ (a_ (Eq.refl 2) (a_ (le_ 2 2 rfl) (Eq.refl 0))) tr) (r1_ tr))))))) (a_ (r1_ (c_ (Bk_tri y12 E11) (r1_ (r4_ tr)))) (a_ (r1_ (r2_ (r8_ (f_ C13 (a_ tr (r2_ (a_ tr (r2_ (t2_ (t8_ (r2_ (a_ tr (t4_ (r2_ (t4_ (r1_ tr)))))))))))))))) (a_ (r1_ tr) tr)))))))))) tr)
  ·obtain ⟨y15, E14, h⟩ := bs_ h
   rcases it_ h with ⟨C16, h⟩ | ⟨C16, h⟩
   ·obtain rfl := si_ h
    exact rr_ [] 46 [.go, .reg [], .reg [], .reg [(2, hC (Al_v y2))], .reg [(1, hC (Bt_v y4))], .reg [(3, hC (Br_v y6))], .reg [(3, hC (Bj_v y8))], .reg [(4, hC (CJ_v y10))], .reg [(1, hC (Bk_v y12))], .reg [(11, hF), (24, hC (CG_v y15)), (29, hT)], .reg []]
     (a_ (a_ (r1_ tr) (a_ (a_ (a_ (a_ (Eq.refl 1) (a_ (lei_ 0 0 rfl) (lti_ 0 2 rfl))) tr) (a_ (a_ (a_ (lt_ 0 2 rfl) (lt_ 0 1 rfl)) tr) (r1_ tr))) (a_ (r1_ (m_ 49 49 rfl (c_ (Al_tri a y2 E1) (r1_ (r4_ tr))))) (a_ (r1_ (c_ (Bt_tri y4 E3) (r1_ (r4_ (a_ (a_ (a_ (Eq.refl 8) (a_ (le_ 8 8 rfl) (Eq.refl 0))) tr) (r2_ tr)))))) (a_ (r2_ (m_ 9 49 rfl (c_ (Br_tri a.f_Key y6 E5) (r4_ (a_ (a_ (a_ (Eq.refl 13) (a_ (le_ 13 13 rfl) (Eq.refl 0))) tr) (r1_ tr)))))) (a_ (r2_ (m_ 9 49 rfl (c_ (Bj_tri a.f_Key y8 E7) (r1_ (r4_ tr))))) (a_ (r1_ (r2_ (l_ 32 49 rfl (c_ (CJ_tri a.f_Got.f_Node y10 E9) (r4_ (a_ (a_ (a_ (Eq.refl 2) (a_ (le_ 2 2 rfl) (Eq.refl 0))) tr) (r1_ tr))))))) (a_ (r1_ (c_ (Bk_tri y12 E11) (r1_ (r4_ tr)))) (a_ (r1_ (r2_ (r8_ (f_ C13 (r4_ (r8_ (c_ (CG_tri y15 E14) (r4_ (f_ C16 (a_ tr (t4_ (r2_ (t4_ (r1_ tr)))))))))))))) (a_ (r1_ tr) tr)))))))))) tr)
   ·obtain ⟨y18, E17, h⟩ := bs_ h
    obtain ⟨y20, E19, h⟩ := bs_ h
    rcases it_ h with ⟨C21, h⟩ | ⟨C21, h⟩
    ·obtain rfl := si_ h
     exact rr_ [] 46 [.go, .reg [], .reg [], .reg [(2, hC (Al_v y2))], .reg [(1, hC (Bt_v y4))], .reg [(3, hC (Br_v y6))], .reg [(3, hC (Bj_v y8))], .reg [(4, hC (CJ_v y10))], .reg [(1, hC (Bk_v y12))], .reg [(11, hF), (24, hC (CG_v y15)), (29, hF), (33, hC (Bz_v y18)), (38, hC (CM_v y20)), (40, hv_ (.bool (!decide (y20 = z6_)))), (41, hT)], .reg []]
      (a_ (a_ (r1_ tr) (a_ (a_ (a_ (a_ (Eq.refl 1) (a_ (lei_ 0 0 rfl) (lti_ 0 2 rfl))) tr) (a_ (a_ (a_ (lt_ 0 2 rfl) (lt_ 0 1 rfl)) tr) (r1_ tr))) (a_ (r1_ (m_ 49 49 rfl (c_ (Al_tri a y2 E1) (r1_ (r4_ tr))))) (a_ (r1_ (c_ (Bt_tri y4 E3) (r1_ (r4_ (a_ (a_ (a_ (Eq.refl 8) (a_ (le_ 8 8 rfl) (Eq.refl 0))) tr) (r2_ tr)))))) (a_ (r2_ (m_ 9 49 rfl (c_ (Br_tri a.f_Key y6 E5) (r4_ (a_ (a_ (a_ (Eq.refl 13) (a_ (le_ 13 13 rfl) (Eq.refl 0))) tr) (r1_ tr)))))) (a_ (r2_ (m_ 9 49 rfl (c_ (Bj_tri a.f_Key y8 E7) (r1_ (r4_ tr))))) (a_ (r1_ (r2_ (l_ 32 49 rfl (c_ (CJ_tri a.f_Got.f_Node y10 E9) (r4_ (a_ (a_ (a_ (Eq.refl 2) (a_ (le_ 2 2 rfl) (Eq.refl 0))) tr) (r1_ tr))))))) (a_ (r1_ (c_ (Bk_tri y12 E11) (r1_ (r4_ tr)))) (a_ (r1_ (r2_ (r8_ (f_ C13 (r4_ (r8_ (c_ (CG_tri y15 E14) (r4_ (f_ C16 (r2_ (m_ 9 49 rfl (c_ (Bz_tri a.f_Key y18 E17) (r4_ (c_ (CM_tri y20 E19) (a_ (a_ (Eq.refl true) tr) (a_ (a_ tr (a_ (leB (congrArg not (k_Cd y20 z6_))) tr)) (f_ C21 tr))))))))))))))))) (a_ (r1_ tr) tr)))))))))) tr)
    ·exact run_to_h mixed [some (.var (c_Ci a)), some (.row 1 2 (chunk 1 [.nilptr, .ptr 2 0 0]) true), some (.var (cT_60 z6_ .nilmap z0_ .nilptr z1_ .nilmap .nilmap))] hμ (L := [0, 1, 2]) (n := 47) (s := [.go, .reg [], .reg [], .reg [(2, hC (Al_v y2))], .reg [(1, hC (Bt_v y4))], .reg [(3, hC (Br_v y6))], .reg [(3, hC (Bj_v y8))], .reg [(4, hC (CJ_v y10))], .reg [(1, hC (Bk_v y12))], .reg [(11, hF), (24, hC (CG_v y15)), (29, hF), (33, hC (Bz_v y18)), (38, hC (CM_v y20)), (40, hv_ (.bool (!decide (y20 = z6_)))), (41, hF)], .reg []])
      (a_ (r1_ tr) (a_ (a_ (a_ (a_ (Eq.refl 1) (a_ (lei_ 0 0 rfl) (lti_ 0 2 rfl))) tr) (a_ (a_ (a_ (lt_ 0 2 rfl) (lt_ 0 1 rfl)) tr) (r1_ tr))) (a_ (r1_ (m_ 49 49 rfl (c_ (Al_tri a y2 E1) (r1_ (r4_ tr))))) (a_ (r1_ (c_ (Bt_tri y4 E3) (r1_ (r4_ (a_ (a_ (a_ (Eq.refl 8) (a_ (le_ 8 8 rfl) (Eq.refl 0))) tr) (r2_ tr)))))) (a_ (r2_ (m_ 9 49 rfl (c_ (Br_tri a.f_Key y6 E5) (r4_ (a_ (a_ (a_ (Eq.refl 13) (a_ (le_ 13 13 rfl) (Eq.refl 0))) tr) (r1_ tr)))))) (a_ (r2_ (m_ 9 49 rfl (c_ (Bj_tri a.f_Key y8 E7) (r1_ (r4_ tr))))) (a_ (r1_ (r2_ (l_ 32 49 rfl (c_ (CJ_tri a.f_Got.f_Node y10 E9) (r4_ (a_ (a_ (a_ (Eq.refl 2) (a_ (le_ 2 2 rfl) (Eq.refl 0))) tr) (r1_ tr))))))) (a_ (r1_ (c_ (Bk_tri y12 E11) (r1_ (r4_ tr)))) (a_ (r1_ (r2_ (r8_ (f_ C13 (r4_ (r8_ (c_ (CG_tri y15 E14) (r4_ (f_ C16 (r2_ (m_ 9 49 rfl (c_ (Bz_tri a.f_Key y18 E17) (r4_ (c_ (CM_tri y20 E19) (a_ (a_ (Eq.refl true) tr) (a_ (a_ tr (a_ (leB (congrArg not (k_Cd y20 z6_))) tr)) (f_ C21 tr))))))))))))))))) (a_ (r2_ tr) tr)))))))))) (AH_l2000_ok hμ a big r h) (by kernel_rfl) (renH_some rfl (renH_some (ren_lrow [.nilptr, .ptr 2 0 0] [.nilptr, .ptr 2 0 0] rfl) (renH_some rfl renH_nil))) ⟨rfl, under_chunk rfl, rfl, trivial⟩
theorem AH_ok (a : Ci) (r : (Bool)) (h : AH a = some r) : ∀ σ, Inj 0 σ → FnTri Tryz.prog 4 (renL σ [v_Ci a]) (preOf σ 0 []) ((AH_v r).ren σ) (upOf σ []) := by
 refine fo_ Tryz.func4 trivial trivial ?_
 intro w0 W μ0 hμ
 unfold AH at h
 obtain ⟨y2, e1, h⟩ := bs_ h
 rcases it_ h with ⟨c3, h⟩ | ⟨c3, h⟩
 ·obtain ⟨y5, e4, h⟩ := bs_ h
  obtain rfl := si_ h
  exact rr_ [] 20 [.reg [], .reg [(1, { os := [(1, .gr 49 (([a] : List (Ci))).length (rowF c_Ci default ([a] : List (Ci))))], v := some (.gs 1 (([a] : List (Ci))).length), fz := true }), (2, { call := some (Ar_v y2, [], []), v := some (.bool true) })], .reg [(0, hC (AD_v y5))]]
   (a_ (a_ (r2_ tr) (a_ (m_ 49 49 rfl (a_ (a_ (a_ (a_ (Eq.refl true) (a_ (Eq.refl 49) (a_ (lt_ 0 49 rfl) (le_ 49 16777216 rfl)))) (a_ (le_sl_gs 1 1 (some 1) rfl) (a_ (sub_lit c_Ci default 49 (fun _ => rfl) ([a] : List (Ci))) tr))) (a_ (Nat.le_refl (([a] : List (Ci))).length) (fz_row (enc := c_Ci) (d := default) (fun _ => rfl) ([a] : List (Ci))))) (a_ (a_ (a_ (Ar_tri ([a] : List (Ci)) y2 e1) tr) (a_ (leB c3) tr)) tr))) (a_ (c_ (AD_tri y5 e4) (r1_ tr)) tr))) tr)
 ·exact run_to_h mixed [some (.var (c_Ci a)), some (.row 1 2 (chunk 1 [.nilptr, .ptr 2 0 0]) true), some (.var (cT_60 z6_ .nilmap z0_ .nilptr z1_ .nilmap .nilmap))] hμ (L := [0, 3, 2]) (n := 24) (s := [.reg [], .reg [(1, { os := [(1, .gr 49 (([a] : List (Ci))).length (rowF c_Ci default ([a] : List (Ci))))], v := some (.gs 1 (([a] : List (Ci))).length), fz := true }), (2, { call := some (Ar_v y2, [], []), v := some (.bool false) })], .reg []])
   (a_ (r2_ tr) (a_ (m_ 49 49 rfl (a_ (a_ (a_ (a_ (Eq.refl true) (a_ (Eq.refl 49) (a_ (lt_ 0 49 rfl) (le_ 49 16777216 rfl)))) (a_ (le_sl_gs 1 1 (some 1) rfl) (a_ (sub_lit c_Ci default 49 (fun _ => rfl) ([a] : List (Ci))) tr))) (a_ (Nat.le_refl (([a] : List (Ci))).length) (fz_row (enc := c_Ci) (d := default) (fun _ => rfl) ([a] : List (Ci))))) (a_ (a_ (a_ (Ar_tri ([a] : List (Ci)) y2 e1) tr) (a_ (leB c3) tr)) tr))) (a_ (a_ (a_ (Eq.refl true) tr) (r1_ (a_ (a_ (a_ (Eq.refl true) (a_ (Eq.refl 1) (a_ (lt_ 0 1 rfl) (le_ 2 16777216 rfl)))) tr) (r2_ tr)))) tr))) (AH_l1000_ok hμ a big r h) (by kernel_rfl) (renH_some rfl (renH_some (ren_lrow [.nilptr, .ptr 2 0 0] [.nilptr, .ptr 2 0 0] rfl) (renH_some rfl renH_nil))) ⟨rfl, under_chunk rfl, rfl, trivial⟩
theorem AH_tri (a : Ci) (r : (Bool)) (h : AH a = some r) : FnTri Tryz.prog 4 [v_Ci a] [] (AH_v r) [] := FnTri.none (AH_ok a r h) rfl rfl
end
end Go.Proofs.YtljjdeanilgloaaGreatDoor.Wk
