import Derived.Test.YtljjdeanilgloaaGreatDoorTxWa
namespace Go.Proofs.YtljjdeanilgloaaGreatDoor.Wk
open Go Go.Cn Go.RowKit
set_option maxRecDepth 100000
set_option maxHeartbeats 4000000
set_option linter.unusedVariables false
set_option linter.unusedSimpArgs false
noncomputable section
def Ag_v (r : (Int) × (Bi) × (Bh) × D_) : LV := .int .i64 r.1
def Ag_up (slots : A_) (ga : E_) (pu : B_) (co : C_) (r : (Int) × (Bi) × (Bh) × D_) : Upd := [(0, some (.var (cT_60 r.2.1 (.map 1) r.2.2.1 (.op 2 (ga).isSome) r.2.2.2 (.map 3) (.map 4)))), (1, some (oP2 slots [])), (2, some (.vo (ga).isSome (c_Bf ((ga).getD default)))), (3, some (oM4 pu)), (4, some (oM5 co))]
def Ag_objs (ti : Bi) (slots : A_) (key : Bh) (ga : E_) (re : D_) (pu : B_) (co : C_) : List LO := [.var (cT_60 ti (.map 1) key (.op 2 (ga).isSome) re (.map 3) (.map 4)), oP2 slots [], .vo (ga).isSome (c_Bf ((ga).getD default)), oM4 pu, oM5 co]
def Ag_c5 (ti : Bi) (slots : A_) (key : Bh) (ga : E_) (re : D_) (pu : B_) (co : C_) (x : Bk) : Option ((Int) × (Bi) × (Bh) × D_) :=
 some (14, ti, key, re)
def Ag_c7 (ti : Bi) (slots : A_) (key : Bh) (ga : E_) (re : D_) (pu : B_) (co : C_) (x : Bk) : Option ((Int) × (Bi) × (Bh) × D_) :=
 some (0, ti, key, (A8.set re x.f_Reg (x.f_Node).toNat))
def Ag (ti : Bi) (slots : A_) (key : Bh) (ga : E_) (re : D_) (pu : B_) (co : C_) (x : Bk) : Option ((Int) × (Bi) × (Bh) × D_) :=
 if ((decide (8 ≤ x.f_Node)) : Bool) then
  some (1, ti, key, re)
 else
  (BF x.f_Reg).bind fun y3 =>
  if ((!y3) : Bool) then
   some (1, ti, key, re)
  else
   if 0 ≤ x.f_Node ∧ x.f_Node < 8 then
   if ((!decide ((A8.get re (x.f_Node).toNat) = (Bj.mk 0 0))) : Bool) then
    if ((!decide ((A8.get re (x.f_Node).toNat) = x.f_Reg)) : Bool) then
     Ag_c5 ti slots key ga re pu co x
    else
     Ag_c7 ti slots key ga re pu co x
   else
    Ag_c7 ti slots key ga re pu co x
   else none
abbrev Ag_K1000005 (w0 : World) (W : Nat → Prop) (μ0 : Emb) (ti : Bi) (slots : A_) (key : Bh) (ga : E_) (re : D_) (pu : B_) (co : C_) (r : (Int) × (Bi) × (Bh) × D_) : Prop := Kt_ w0 W μ0 Tryz.f51 5 5 (Ag_v r) (Ag_up slots ga pu co r) (kAtR (bodyOf Tryz.f51) 5) (n_ 38 []) [some (.var (cT_60 ti (.map 1) key (.op 2 (ga).isSome) re (.map 3) (.map 4))), some (oP2 slots []), some (.vo (ga).isSome (c_Bf ((ga).getD default))), some (oM4 pu), some (oM5 co)]
abbrev Ag_K1000007 (w0 : World) (W : Nat → Prop) (μ0 : Emb) (ti : Bi) (slots : A_) (key : Bh) (ga : E_) (re : D_) (pu : B_) (co : C_) (x : Bk) (r : (Int) × (Bi) × (Bh) × D_) : Prop := Kt_ w0 W μ0 Tryz.f51 5 5 (Ag_v r) (Ag_up slots ga pu co r) (kAtR (bodyOf Tryz.f51) 7) (n_ 38 []) [some (.var (cT_60 ti (.map 1) key (.op 2 (ga).isSome) (A8.set re x.f_Reg (x.f_Node).toNat) (.map 3) (.map 4))), some (oP2 slots []), some (.vo (ga).isSome (c_Bf ((ga).getD default))), some (oM4 pu), some (oM5 co)]
theorem Ag_c5_ok {w0 W μ0} (hμ : Lt_ μ0 5) (ti : Bi) (slots : A_) (key : Bh) (ga : E_) (re : D_) (pu : B_) (co : C_) (x : Bk) (r : (Int) × (Bi) × (Bh) × D_) (h : Ag_c5 ti slots key ga re pu co x = some r) : Ag_K1000005 w0 W μ0 ti slots key ga re pu co r := by
 unfold Ag_c5 at h
 obtain rfl := si_ h
 exact rr_ [] 11 [.reg []]
  (a_ (a_ (r1_ tr) tr) tr)
theorem Ag_c7_ok {w0 W μ0} (hμ : Lt_ μ0 5) (ti : Bi) (slots : A_) (key : Bh) (ga : E_) (re : D_) (pu : B_) (co : C_) (x : Bk) (r : (Int) × (Bi) × (Bh) × D_) (h : Ag_c7 ti slots key ga re pu co x = some r) : Ag_K1000007 w0 W μ0 ti slots key ga re pu co x r := by
 unfold Ag_c7 at h
 obtain rfl := si_ h
 exact rr_ [] 11 [.reg []]
  (a_ (a_ (r1_ tr) tr) tr)
theorem Ag_ok (ti : Bi) (slots : A_) (key : Bh) (ga : E_) (re : D_) (pu : B_) (co : C_) (x : Bk) (r : (Int) × (Bi) × (Bh) × D_) (h : Ag ti slots key ga re pu co x = some r) : ∀ σ, Inj 5 σ → FnTri Tryz.prog 51 (renL σ [.ptr 0 0 0, v_Bk x]) (preOf σ 0 (Ag_objs ti slots key ga re pu co)) ((Ag_v r).ren σ) (upOf σ (Ag_up slots ga pu co r)) := by
 refine fo_ Tryz.func51 ⟨rfl, uP, rfl, trivial, trivial, trivial⟩ ⟨rfl, uP, rfl, trivial, trivial, trivial⟩ ?_
 intro w0 W μ0 hμ
 unfold Ag at h
 rcases it_ h with ⟨c1, h⟩ | ⟨c1, h⟩
 ·obtain rfl := si_ h
  exact rr_ [] 20 [.reg [], .reg [(3, hT)], .reg []]
   (a_ (a_ (r2_ tr) (a_ (r1_ (l_ 0 16 rfl (r1_ (f_ c1 (t4_ (r1_ tr)))))) (a_ (r1_ tr) tr))) tr)
 ·obtain ⟨y3, e2, h⟩ := bs_ h
  rcases it_ h with ⟨c4, h⟩ | ⟨c4, h⟩
  ·obtain rfl := si_ h
   exact rr_ [] 20 [.reg [], .reg [(3, hF), (6, hC (BF_v y3)), (8, hT)], .reg []]
    (a_ (a_ (r2_ tr) (a_ (r1_ (l_ 0 16 rfl (r1_ (f_ c1 (r1_ (m_ 3 16 rfl (c_ (BF_tri x.f_Reg y3 e2) (r1_ (f_ c4 tr))))))))) (a_ (r1_ tr) tr))) tr)
  ·obtain ⟨g5, h⟩ := gs_ h
   rcases it_ h with ⟨c6, h⟩ | ⟨c6, h⟩
   ·rcases it_ h with ⟨c7, h⟩ | ⟨c7, h⟩
    ·exact rt_ hμ [] 27 [.reg [], .reg [(3, hF), (6, hC (BF_v y3)), (8, hF)], .reg [], .reg [(2, hv_ (v_Bj (A8.get re (x.f_Node).toNat))), (4, hv_ (.bool (!decide ((A8.get re (x.f_Node).toNat) = (Bj.mk 0 0))))), (5, hT), (8, hv_ (v_Bj (A8.get re (x.f_Node).toNat))), (11, hv_ (.bool (!decide ((A8.get re (x.f_Node).toNat) = x.f_Reg)))), (12, hT)]]
      (a_ (r2_ tr) (a_ (r1_ (l_ 0 16 rfl (r1_ (f_ c1 (r1_ (m_ 3 16 rfl (c_ (BF_tri x.f_Reg y3 e2) (r1_ (f_ c4 tr))))))))) (a_ (r2_ (l_ 0 16 rfl (r2_ (a_ (a_ g5 tr) (r1_ tr))))) (a_ (r2_ (a_ (a_ (a_ tr (arrLe (len := 8) g5 15 2 33 2 rfl rfl)) (a_ (ld8 c_Bj 2 (fun _ => rfl) re [.int .u32 ti.f_Time, .int .u8 ti.f_Tx.f_Node, .int .u32 ti.f_Tx.f_Boot, .int .u32 ti.f_Tx.f_Num, .map 1, .int .u8 key.f_key.a0, .int .u8 key.f_key.a1, .int .u8 key.f_key.a2, .int .u8 key.f_key.a3, .int .u8 key.f_key.a4, .int .u8 key.f_key.a5, .int .u8 key.f_key.a6, .int .u8 key.f_key.a7, .int .u8 key.f_mode, .op 2 (ga).isSome] [.map 3, .map 4] 15 rfl (x.f_Node).toNat 2 (lt8N g5) (le_ (0 + 2) 2 rfl)) tr)) (a_ (a_ (Eq.refl true) tr) (a_ (a_ tr (a_ (leB (congrArg not (k_Bj (A8.get re (x.f_Node).toNat) (Bj.mk 0 0)))) tr)) (f_ c6 (r2_ (a_ (a_ (a_ tr (arrLe (len := 8) g5 15 2 33 2 rfl rfl)) (a_ (ld8 c_Bj 2 (fun _ => rfl) re [.int .u32 ti.f_Time, .int .u8 ti.f_Tx.f_Node, .int .u32 ti.f_Tx.f_Boot, .int .u32 ti.f_Tx.f_Num, .map 1, .int .u8 key.f_key.a0, .int .u8 key.f_key.a1, .int .u8 key.f_key.a2, .int .u8 key.f_key.a3, .int .u8 key.f_key.a4, .int .u8 key.f_key.a5, .int .u8 key.f_key.a6, .int .u8 key.f_key.a7, .int .u8 key.f_mode, .op 2 (ga).isSome] [.map 3, .map 4] 15 rfl (x.f_Node).toNat 2 (lt8N g5) (le_ (0 + 2) 2 rfl)) tr)) (r1_ (m_ 3 16 rfl (a_ (a_ tr (a_ (leB (congrArg not (k_Bj (A8.get re (x.f_Node).toNat) x.f_Reg))) tr)) (f_ c7 tr))))))))))) tr)))) (Ag_c5_ok hμ ti slots key ga re pu co x r h) ⟨rfl, uP, rfl, trivial, trivial, trivial⟩
    ·exact rt_ hμ [] 31 [.reg [], .reg [(3, hF), (6, hC (BF_v y3)), (8, hF)], .reg [], .reg [(2, hv_ (v_Bj (A8.get re (x.f_Node).toNat))), (4, hv_ (.bool (!decide ((A8.get re (x.f_Node).toNat) = (Bj.mk 0 0))))), (5, hT), (8, hv_ (v_Bj (A8.get re (x.f_Node).toNat))), (11, hv_ (.bool (!decide ((A8.get re (x.f_Node).toNat) = x.f_Reg)))), (12, hF)], .reg [(4, { os := [(0, .var (cT_60 ti (.map 1) key (.op 2 (ga).isSome) (A8.set re x.f_Reg (x.f_Node).toNat) (.map 3) (.map 4)))] })]]
      (a_ (r2_ tr) (a_ (r1_ (l_ 0 16 rfl (r1_ (f_ c1 (r1_ (m_ 3 16 rfl (c_ (BF_tri x.f_Reg y3 e2) (r1_ (f_ c4 tr))))))))) (a_ (r2_ (l_ 0 16 rfl (r2_ (a_ (a_ g5 tr) (r1_ tr))))) (a_ (r2_ (a_ (a_ (a_ tr (arrLe (len := 8) g5 15 2 33 2 rfl rfl)) (a_ (ld8 c_Bj 2 (fun _ => rfl) re [.int .u32 ti.f_Time, .int .u8 ti.f_Tx.f_Node, .int .u32 ti.f_Tx.f_Boot, .int .u32 ti.f_Tx.f_Num, .map 1, .int .u8 key.f_key.a0, .int .u8 key.f_key.a1, .int .u8 key.f_key.a2, .int .u8 key.f_key.a3, .int .u8 key.f_key.a4, .int .u8 key.f_key.a5, .int .u8 key.f_key.a6, .int .u8 key.f_key.a7, .int .u8 key.f_mode, .op 2 (ga).isSome] [.map 3, .map 4] 15 rfl (x.f_Node).toNat 2 (lt8N g5) (le_ (0 + 2) 2 rfl)) tr)) (a_ (a_ (Eq.refl true) tr) (a_ (a_ tr (a_ (leB (congrArg not (k_Bj (A8.get re (x.f_Node).toNat) (Bj.mk 0 0)))) tr)) (f_ c6 (r2_ (a_ (a_ (a_ tr (arrLe (len := 8) g5 15 2 33 2 rfl rfl)) (a_ (ld8 c_Bj 2 (fun _ => rfl) re [.int .u32 ti.f_Time, .int .u8 ti.f_Tx.f_Node, .int .u32 ti.f_Tx.f_Boot, .int .u32 ti.f_Tx.f_Num, .map 1, .int .u8 key.f_key.a0, .int .u8 key.f_key.a1, .int .u8 key.f_key.a2, .int .u8 key.f_key.a3, .int .u8 key.f_key.a4, .int .u8 key.f_key.a5, .int .u8 key.f_key.a6, .int .u8 key.f_key.a7, .int .u8 key.f_mode, .op 2 (ga).isSome] [.map 3, .map 4] 15 rfl (x.f_Node).toNat 2 (lt8N g5) (le_ (0 + 2) 2 rfl)) tr)) (r1_ (m_ 3 16 rfl (a_ (a_ tr (a_ (leB (congrArg not (k_Bj (A8.get re (x.f_Node).toNat) x.f_Reg))) tr)) (f_ c7 tr))))))))))) (a_ (r2_ (m_ 3 16 rfl (r1_ (a_ (a_ (a_ (Eq.refl 2) (a_ (arrLe (len := 8) g5 15 2 33 2 rfl rfl) (Eq.refl 0))) (a_ (st8 c_Bj 2 (fun _ => rfl) re [.int .u32 ti.f_Time, .int .u8 ti.f_Tx.f_Node, .int .u32 ti.f_Tx.f_Boot, .int .u32 ti.f_Tx.f_Num, .map 1, .int .u8 key.f_key.a0, .int .u8 key.f_key.a1, .int .u8 key.f_key.a2, .int .u8 key.f_key.a3, .int .u8 key.f_key.a4, .int .u8 key.f_key.a5, .int .u8 key.f_key.a6, .int .u8 key.f_key.a7, .int .u8 key.f_mode, .op 2 (ga).isSome] [.map 3, .map 4] 15 rfl (x.f_Node).toNat (lt8N g5) x.f_Reg) tr)) tr)))) tr))))) (Ag_c7_ok hμ ti slots key ga re pu co x r h) ⟨rfl, uP, rfl, trivial, trivial, trivial⟩
   ·exact rt_ hμ [] 31 [.reg [], .reg [(3, hF), (6, hC (BF_v y3)), (8, hF)], .reg [], .reg [(2, hv_ (v_Bj (A8.get re (x.f_Node).toNat))), (4, hv_ (.bool (!decide ((A8.get re (x.f_Node).toNat) = (Bj.mk 0 0))))), (5, hF)], .reg [(4, { os := [(0, .var (cT_60 ti (.map 1) key (.op 2 (ga).isSome) (A8.set re x.f_Reg (x.f_Node).toNat) (.map 3) (.map 4)))] })]]
     (a_ (r2_ tr) (a_ (r1_ (l_ 0 16 rfl (r1_ (f_ c1 (r1_ (m_ 3 16 rfl (c_ (BF_tri x.f_Reg y3 e2) (r1_ (f_ c4 tr))))))))) (a_ (r2_ (l_ 0 16 rfl (r2_ (a_ (a_ g5 tr) (r1_ tr))))) (a_ (r2_ (a_ (a_ (a_ tr (arrLe (len := 8) g5 15 2 33 2 rfl rfl)) (a_ (ld8 c_Bj 2 (fun _ => rfl) re [.int .u32 ti.f_Time, .int .u8 ti.f_Tx.f_Node, .int .u32 ti.f_Tx.f_Boot, .int .u32 ti.f_Tx.f_Num, .map 1, .int .u8 key.f_key.a0, .int .u8 key.f_key.a1, .int .u8 key.f_key.a2, .int .u8 key.f_key.a3, .int .u8 key.f_key.a4, .int .u8 key.f_key.a5, .int .u8 key.f_key.a6, .int .u8 key.f_key.a7, .int .u8 key.f_mode, .op 2 (ga).isSome] [.map 3, .map 4] 15 rfl (x.f_Node).toNat 2 (lt8N g5) (le_ (0 + 2) 2 rfl)) tr)) (a_ (a_ (Eq.refl true) tr) (a_ (a_ tr (a_ (leB (congrArg not (k_Bj (A8.get re (x.f_Node).toNat) (Bj.mk 0 0)))) tr)) (f_ c6 (t2_ (t4_ (r1_ tr)))))))) (a_ (r2_ (m_ 3 16 rfl (r1_ (a_ (a_ (a_ (Eq.refl 2) (a_ (arrLe (len := 8) g5 15 2 33 2 rfl rfl) (Eq.refl 0))) (a_ (st8 c_Bj 2 (fun _ => rfl) re [.int .u32 ti.f_Time, .int .u8 ti.f_Tx.f_Node, .int .u32 ti.f_Tx.f_Boot, .int .u32 ti.f_Tx.f_Num, .map 1, .int .u8 key.f_key.a0, .int .u8 key.f_key.a1, .int .u8 key.f_key.a2, .int .u8 key.f_key.a3, .int .u8 key.f_key.a4, .int .u8 key.f_key.a5, .int .u8 key.f_key.a6, .int .u8 key.f_key.a7, .int .u8 key.f_mode, .op 2 (ga).isSome] [.map 3, .map 4] 15 rfl (x.f_Node).toNat (lt8N g5) x.f_Reg) tr)) tr)))) tr))))) (Ag_c7_ok hμ ti slots key ga re pu co x r h) ⟨rfl, uP, rfl, trivial, trivial, trivial⟩
def Aq_v (r : (Bn) × (Bool)) : LV := .tup [v_Bn r.1, .bool r.2]
def Aq_l0 (l : List (Bn)) : Nat → (Int) → (Int) → J_ → (Bg) → Option ((Bn) × (Bool))
 | 0, _, _, _, _ => none
 | fuel + 1, t17, Version, Value, Epoch =>
  if ((decide (t17 < (((l.drop 1)).length : Int))) : Bool) then
   if 0 ≤ t17 ∧ t17 < ((((l.drop 1)).length : Nat) : Int) then
   if ((decide (Version < ((l.drop 1).getD t17.toNat default).f_Version)) : Bool) then
    Aq_l0 l fuel (IntKind.wrap .i64 (t17 + 1)) ((l.drop 1).getD t17.toNat default).f_Version ((l.drop 1).getD t17.toNat default).f_Value ((l.drop 1).getD t17.toNat default).f_Conf
   else
    Aq_l0 l fuel (IntKind.wrap .i64 (t17 + 1)) Version Value Epoch
   else none
  else
   some ((Bn.mk Version Value Epoch), true)
def Aq (l : List (Bn)) : Option ((Bn) × (Bool)) :=
 if ((((l).length : Int) == 0) : Bool) then
  some ((Bn.mk 0 [] z2_), false)
 else
  if 0 ≤ (0 : Int) ∧ (0 : Int) < (((l).length : Nat) : Int) then
  if 0 ≤ (1 : Int) ∧ (1 : Int) ≤ (((l).length : Nat) : Int) ∧ (((l).length : Nat) : Int) ≤ (((l).length : Nat) : Int) then
  Aq_l0 l big 0 (l.getD 0 default).f_Version (l.getD 0 default).f_Value (l.getD 0 default).f_Conf
  else none
  else none
abbrev Aq_K0 (w0 : World) (W : Nat → Prop) (μ0 : Emb) (l : List (Bn)) (t17 Version : Int) (Value : J_) (Epoch : Bg) (r : (Bn) × (Bool)) : Prop := Kt_ w0 W μ0 Tryz.f59 0 0 (Aq_v r) [] (kAt (bodyOf Tryz.f59) 0) (.any :: .any :: (.ptr 0 0 0) :: .any :: (.ptr 1 0 0) :: n_ 10 ((.ds 13 ((l.drop 1)).length (rowF c_Bn default (l.drop 1))) :: (.int .i64 (((l.drop 1)).length : Int)) :: (.int .i64 t17) :: n_ 11 [])) [some (.var (c_Bn (Bn.mk 0 [] z2_))), some (.var (c_Bn (Bn.mk Version Value Epoch)))]
theorem Aq_l0_ok {w0 W μ0} (hμ : Lt_ μ0 0) (l : List (Bn)) : ∀ (fuel : Nat) (t17 Version : Int) (Value : J_) (Epoch : Bg) (r : (Bn) × (Bool)), Aq_l0 l fuel t17 Version Value Epoch = some r → Aq_K0 w0 W μ0 l t17 Version Value Epoch r := by
 intro fuel
 induction fuel with
 | zero => intro t17 Version Value Epoch r h; rw [Aq_l0] at h; cases h
 | succ fuel ih =>
  intro t17 Version Value Epoch r h
  rw [Aq_l0] at h
  rcases it_ h with ⟨C1, h⟩ | ⟨C1, h⟩
  ·obtain ⟨G2, h⟩ := gs_ h
   rcases it_ h with ⟨C3, h⟩ | ⟨C3, h⟩
   ·exact rt_ hμ [0, 1] 30 [.go, .reg [(0, hT)], .reg [], .reg [(4, hT)], .reg [], .reg []]
     (a_ (f_ C1 tr) (a_ (a_ (a_ (a_ (Eq.refl 13) G2) tr) (a_ (a_ (le_ 13 13 rfl) tr) (r1_ (a_ (a_ (a_ (Eq.refl 13) (a_ (le_ 13 13 rfl) (Eq.refl 0))) tr) tr)))) (a_ (r1_ (l_ 0 13 rfl (r1_ (l_ 0 13 rfl (f_ C3 tr))))) (a_ (m_ 13 13 rfl (a_ (a_ (a_ (Eq.refl 13) (a_ (le_ 13 13 rfl) (Eq.refl 0))) tr) tr)) (a_ (r2_ tr) tr))))) (ih _ _ _ _ r h) ⟨rfl, rfl, trivial⟩
   ·exact rt_ hμ [0, 1] 29 [.go, .reg [(0, hT)], .reg [], .reg [(4, hF)], .reg []]
     (a_ (f_ C1 tr) (a_ (a_ (a_ (a_ (Eq.refl 13) G2) tr) (a_ (a_ (le_ 13 13 rfl) tr) (r1_ (a_ (a_ (a_ (Eq.refl 13) (a_ (le_ 13 13 rfl) (Eq.refl 0))) tr) tr)))) (a_ (r1_ (l_ 0 13 rfl (r1_ (l_ 0 13 rfl (f_ C3 tr))))) (a_ (r2_ tr) tr)))) (ih _ _ _ _ r h) ⟨rfl, rfl, trivial⟩
  ·obtain rfl := si_ h
   exact rr_ [] 19 [.go, .reg [(0, hF)], .reg []]
    (a_ (a_ (f_ C1 tr) (a_ (m_ 13 13 rfl (a_ (a_ (a_ (Eq.refl 13) (a_ (le_ 13 13 rfl) (Eq.refl 0))) tr) (r1_ tr))) tr)) (a_ (a_ tr (le_ 13 13 rfl)) tr))
theorem Aq_ok (l : List (Bn)) (r : (Bn) × (Bool)) (h : Aq l = some r) : ∀ σ, Inj 0 σ → FnTri Tryz.prog 59 (renL σ [.ds 13 (l).length (rowF c_Bn default l)]) (preOf σ 0 []) ((Aq_v r).ren σ) (upOf σ []) := by
 refine fo_ Tryz.func59 trivial trivial ?_
 intro w0 W μ0 hμ
 unfold Aq at h
 rcases it_ h with ⟨c1, h⟩ | ⟨c1, h⟩
 ·obtain rfl := si_ h
  exact rr_ [] 20 [.reg [], .reg [(2, hT)], .reg []]
   (a_ (a_ (r2_ tr) (a_ (r2_ (f_ c1 tr)) (a_ (a_ (a_ (Eq.refl true) tr) (a_ (a_ (a_ (Eq.refl 13) (a_ (le_ 13 13 rfl) (Eq.refl 0))) tr) (r1_ tr))) tr))) (a_ (a_ tr (le_ 13 13 rfl)) tr))
 ·obtain ⟨g2, h⟩ := gs_ h
  obtain ⟨g3, h⟩ := gs_ h
  exact rt_ hμ [0, 1] 27 [.reg [], .reg [(2, hF)], .reg [], .reg [(1, hv_ (.ds 13 ((l.drop 1)).length (rowF c_Bn default (l.drop 1))))]]
   (a_ (r2_ tr) (a_ (r2_ (f_ c1 tr)) (a_ (r1_ (a_ (a_ (a_ (Eq.refl 13) g2) tr) (a_ (a_ (le_ 13 13 rfl) tr) (r1_ (a_ (a_ (a_ (Eq.refl 13) (a_ (le_ 13 13 rfl) (Eq.refl 0))) tr) tr))))) (a_ (r1_ (a_ (a_ (a_ (Eq.refl 13) g3) (a_ (le_drop c_Bn default 13 l 1 (toN_le g3.2.1)) tr)) (r2_ tr))) tr)))) (Aq_l0_ok hμ l big _ _ _ _ r h) ⟨rfl, rfl, trivial⟩
theorem Aq_tri (l : List (Bn)) (r : (Bn) × (Bool)) (h : Aq l = some r) : FnTri Tryz.prog 59 [.ds 13 (l).length (rowF c_Bn default l)] [] (Aq_v r) [] := FnTri.none (Aq_ok l r h) rfl rfl
def AE_v (r : (Bn) × (Bool)) : LV := .tup [v_Bn r.1, .bool r.2]
def AE_up (r : (Bn) × (Bool)) : Upd := []
def AE_objs (g : Bf) : List LO := [.row 142 1 (fun _ => c_Bf g) false]
def AE_l0 (g : Bf) (y2 : F_) : Nat → (Int) → (List (Bn)) → Option ((Bn) × (Bool))
 | 0, _, _ => none
 | fuel + 1, t10, l =>
  if ((decide (t10 < ((y2).length : Int))) : Bool) then
   if 0 ≤ t10 ∧ t10 < (((y2).length : Nat) : Int) then
   if ((l).length + (([(y2.getD t10.toNat default).f_Item] : List (Bn))).length) * 40 ≤ 140737488351232 then
   AE_l0 g y2 fuel (IntKind.wrap .i64 (t10 + 1)) (l ++ ([(y2.getD t10.toNat default).f_Item] : List (Bn)))
   else none
   else none
  else
   (Aq l).bind fun y3 =>
   some (y3.1, y3.2)
def AE (g : Bf) : Option ((Bn) × (Bool)) :=
 (AK g).bind fun y2 =>
 AE_l0 g y2 big 0 ([] : List (Bn))
abbrev AE_K0 (w0 : World) (W : Nat → Prop) (μ0 : Emb) (g : Bf) (y2 : F_) (t10 : Int) (l : List (Bn)) (r : (Bn) × (Bool)) : Prop := Kt_ w0 W μ0 Tryz.f29 1 1 (AE_v r) (AE_up r) (kAt (bodyOf Tryz.f29) 0) (.any :: .any :: (.ptr 1 0 0) :: .any :: (.gs 2 (l).length) :: .any :: .any :: .any :: (.ds 16 (y2).length (rowF c_Bk default y2)) :: (.int .i64 ((y2).length : Int)) :: (.int .i64 t10) :: n_ 13 []) [some (.row 142 1 (fun _ => c_Bf g) false), some (.var (c_Bn (Bn.mk 0 [] z2_))), some (.gr 13 (l).length (rowF c_Bn default l))]
theorem AE_l0_ok {w0 W μ0} (hμ : Lt_ μ0 1) (g : Bf) (y2 : F_) : ∀ (fuel : Nat) (t10 : Int) (l : List (Bn)) (r : (Bn) × (Bool)), AE_l0 g y2 fuel t10 l = some r → AE_K0 w0 W μ0 g y2 t10 l r := by
 intro fuel
 induction fuel with
 | zero => intro t10 l r h; rw [AE_l0] at h; cases h
 | succ fuel ih =>
  intro t10 l r h
  rw [AE_l0] at h
  rcases it_ h with ⟨C1, h⟩ | ⟨C1, h⟩
  ·obtain ⟨G2, h⟩ := gs_ h
   obtain ⟨G3, h⟩ := gs_ h
   exact rt_ hμ [1, 5] 26 [.go, .reg [(0, hT)], .reg [], .reg [(3, { os := [(4, .gr 13 (([(y2.getD t10.toNat default).f_Item] : List (Bn))).length (rowF c_Bn default ([(y2.getD t10.toNat default).f_Item] : List (Bn))))], v := some (.gs 4 (([(y2.getD t10.toNat default).f_Item] : List (Bn))).length) }), (4, { app := 3, os := [(5, .gr 13 ((l ++ ([(y2.getD t10.toNat default).f_Item] : List (Bn)))).length (rowF c_Bn default (l ++ ([(y2.getD t10.toNat default).f_Item] : List (Bn)))))], v := some (.gs 5 ((l ++ ([(y2.getD t10.toNat default).f_Item] : List (Bn)))).length) })], .reg []]
    (a_ (f_ C1 tr) (a_ (a_ (a_ (a_ (Eq.refl 16) G2) tr) (a_ (a_ (le_ 16 16 rfl) tr) (r1_ (a_ (a_ (a_ (Eq.refl 16) (a_ (le_ 16 16 rfl) (Eq.refl 0))) tr) tr)))) (a_ (r2_ (m_ 16 16 rfl (a_ (a_ (a_ (Eq.refl true) (a_ (Eq.refl 13) (a_ (lt_ 0 13 rfl) (le_ 13 16777216 rfl)))) (a_ (le_sl_gs 4 1 (some 1) rfl) (a_ (sub_lit c_Bn default 13 (fun _ => rfl) ([(y2.getD t10.toNat default).f_Item] : List (Bn))) tr))) (a_ (a_ (a_ (a_ (Eq.refl 13) (Nat.le_refl (([(y2.getD t10.toNat default).f_Item] : List (Bn))).length)) (a_ (a_ (lt_ 0 13 rfl) (a_ (lt_ 0 40 rfl) (a_ G3 (a_ (Eq.refl 13) (Eq.refl true))))) (a_ (Eq.refl 13) (Nat.le_refl (l).length)))) (a_ (le_gs_app 5 l ([(y2.getD t10.toNat default).f_Item] : List (Bn))) (a_ (sub_app c_Bn default 13 l ([(y2.getD t10.toNat default).f_Item] : List (Bn))) tr))) (r1_ tr))))) (a_ (r2_ tr) tr)))) (ih _ _ r h) ⟨fun _ _ => rfl, rfl, fun _ _ => rfl, trivial⟩
  ·obtain ⟨y3, E2, h⟩ := bs_ h
   obtain rfl := si_ h
   exact rr_ [] 20 [.go, .reg [(0, hF)], .frz 2, .reg [(1, hC (Aq_v y3))]]
    (a_ (a_ (f_ C1 tr) (a_ (a_ (fz_row (enc := c_Bn) (d := default) (fun _ => rfl) l) (a_ (Nat.le_refl (l).length) (a_ (ob_rov (c_Bf g) 2 13 (l).length (rowF c_Bn default l) rfl) tr))) (a_ (r1_ (c_ (Aq_tri l y3 E2) (r2_ (a_ (a_ (a_ (Eq.refl 13) (a_ (le_ 13 13 rfl) (Eq.refl 0))) tr) (r1_ tr))))) tr))) (a_ (a_ tr (le_ 13 13 rfl)) tr))
theorem AE_ok (g : Bf) (r : (Bn) × (Bool)) (h : AE g = some r) : ∀ σ, Inj 1 σ → FnTri Tryz.prog 29 (renL σ [.ptr 0 0 0]) (preOf σ 0 (AE_objs g)) ((AE_v r).ren σ) (upOf σ (AE_up r)) := by
 refine fo_ Tryz.func29 ⟨fun _ _ => rfl, trivial⟩ trivial ?_
 intro w0 W μ0 hμ
 unfold AE at h
 obtain ⟨y2, e1, h⟩ := bs_ h
 exact rt_ hμ [1, 2] 22 [.reg [], .void (.gr 13 (([] : List (Bn))).length (rowF c_Bn default ([] : List (Bn)))), .reg [(0, hv_ (.gs 2 (([] : List (Bn))).length))], .reg [(1, hk_ (hK_ [0] (AK_v y2) (AK_objs g) (AK_up y2)))]]
  (a_ (r2_ tr) (a_ (Eq.refl 0) (a_ (a_ (a_ tr (a_ (le_nil_gs 2) tr)) tr) (a_ (r1_ (a_ (a_ (a_ (AK_ok g y2 e1 (sel [0]) sj_) (a_ (rl_ (.row 142 1 (fun _ => c_Bf g) false)) tr)) tr) (r2_ tr))) tr)))) (AE_l0_ok hμ g y2 big _ _ r h) ⟨fun _ _ => rfl, rfl, fun _ _ => rfl, trivial⟩
def AP_v (r : (Bg)) : LV := v_Bg r
def AP_up (r : (Bg)) : Upd := []
def AP_objs (g : Bf) : List LO := [.row 142 1 (fun _ => c_Bf g) false]
def AP (g : Bf) : Option ((Bg)) :=
 (AC g).bind fun y2 =>
 if ((!y2) : Bool) then
  some z2_
 else
  some g.f_conf
theorem AP_ok (g : Bf) (r : (Bg)) (h : AP g = some r) : ∀ σ, Inj 1 σ → FnTri Tryz.prog 56 (renL σ [.ptr 0 0 0]) (preOf σ 0 (AP_objs g)) ((AP_v r).ren σ) (upOf σ (AP_up r)) := by
 refine fo_ Tryz.func56 ⟨fun _ _ => rfl, trivial⟩ trivial ?_
 intro w0 W μ0 hμ
 unfold AP at h
 obtain ⟨y2, e1, h⟩ := bs_ h
 rcases it_ h with ⟨c3, h⟩ | ⟨c3, h⟩
 ·obtain rfl := si_ h
  exact rr_ [] 20 [.reg [], .reg [(1, hk_ (hK_ [0] (AC_v y2) (AC_objs g) (AC_up y2))), (2, hT)], .reg []]
   (a_ (a_ (r1_ tr) (a_ (r1_ (a_ (a_ (a_ (AC_ok g y2 e1 (sel [0]) sj_) (a_ (rl_ (.row 142 1 (fun _ => c_Bf g) false)) tr)) tr) (f_ c3 tr))) (a_ (a_ (a_ (Eq.refl true) tr) (a_ (a_ (a_ (Eq.refl 11) (a_ (le_ 11 11 rfl) (Eq.refl 0))) tr) tr)) tr))) (a_ (a_ tr (le_ 11 11 rfl)) tr))
 ·obtain rfl := si_ h
  exact rr_ [] 21 [.reg [], .reg [(1, hk_ (hK_ [0] (AC_v y2) (AC_objs g) (AC_up y2))), (2, hF)], .reg []]
   (a_ (a_ (r1_ tr) (a_ (r1_ (a_ (a_ (a_ (AC_ok g y2 e1 (sel [0]) sj_) (a_ (rl_ (.row 142 1 (fun _ => c_Bf g) false)) tr)) tr) (f_ c3 tr))) (a_ (r1_ (r2_ (a_ (a_ (a_ (lt_ 0 1 rfl) (le_ 12 142 rfl)) tr) (a_ (a_ (a_ (Eq.refl 11) (a_ (le_ 11 11 rfl) (Eq.refl 0))) tr) tr)))) tr))) (a_ (a_ tr (le_ 11 11 rfl)) tr))
def Aw_v (r : (Int) × (Int) × (Bg) × H_ × G_ × (Int)) : LV := .int .i64 r.1
def Aw_up (r : (Int) × (Int) × (Bg) × H_ × G_ × (Int)) : Upd := [(0, some (.var (c_Bf (Bf.mk r.2.1 r.2.2.1 r.2.2.2.1 r.2.2.2.2.1 r.2.2.2.2.2))))]
def Aw_objs (g : Bf) : List LO := [.var (c_Bf g)]
def Aw_c5 (g : Bf) (x : Bk) : Option ((Int) × (Int) × (Bg) × H_ × G_ × (Int)) :=
 some (13, g.f_mode, g.f_conf, g.f_more, g.f_grants, g.f_nodes)
def Aw_c6 (g : Bf) (x : Bk) : Option ((Int) × (Int) × (Bg) × H_ × G_ × (Int)) :=
 (AA g x).bind fun y2 =>
 some (y2.1, y2.2.1, y2.2.2.1, y2.2.2.2.1, y2.2.2.2.2.1, y2.2.2.2.2.2)
def Aw (g : Bf) (x : Bk) : Option ((Int) × (Int) × (Bg) × H_ × G_ × (Int)) :=
 (AE g).bind fun y2 =>
 if ((decide (y2.1.f_Version < x.f_Item.f_Version)) : Bool) then
  some (13, g.f_mode, g.f_conf, g.f_more, g.f_grants, g.f_nodes)
 else
  (AP g).bind fun y5 =>
  if ((decide (y5.f_Epoch < x.f_Item.f_Conf.f_Epoch)) : Bool) then
   Aw_c5 g x
  else
   Aw_c6 g x
abbrev Aw_K1000005 (w0 : World) (W : Nat → Prop) (μ0 : Emb) (g : Bf) (r : (Int) × (Int) × (Bg) × H_ × G_ × (Int)) : Prop := Kt_ w0 W μ0 Tryz.f52 1 1 (Aw_v r) (Aw_up r) (kAtR (bodyOf Tryz.f52) 5) (n_ 33 []) [some (.var (c_Bf g))]
abbrev Aw_K1000006 (w0 : World) (W : Nat → Prop) (μ0 : Emb) (g : Bf) (x : Bk) (r : (Int) × (Int) × (Bg) × H_ × G_ × (Int)) : Prop := Kt_ w0 W μ0 Tryz.f52 1 1 (Aw_v r) (Aw_up r) (kAtR (bodyOf Tryz.f52) 6) ((.ptr 0 0 0) :: .any :: .any :: (.ptr 1 0 0) :: n_ 29 []) [some (.var (c_Bf g)), some (.var (c_Bk x))]
theorem Aw_c5_ok {w0 W μ0} (hμ : Lt_ μ0 1) (g : Bf) (x : Bk) (r : (Int) × (Int) × (Bg) × H_ × G_ × (Int)) (h : Aw_c5 g x = some r) : Aw_K1000005 w0 W μ0 g r := by
 unfold Aw_c5 at h
 obtain rfl := si_ h
 exact rr_ [] 11 [.reg []]
  (a_ (a_ (r1_ tr) tr) tr)
theorem Aw_c6_ok {w0 W μ0} (hμ : Lt_ μ0 1) (g : Bf) (x : Bk) (r : (Int) × (Int) × (Bg) × H_ × G_ × (Int)) (h : Aw_c6 g x = some r) : Aw_K1000006 w0 W μ0 g x r := by
 unfold Aw_c6 at h
 obtain ⟨y2, E1, h⟩ := bs_ h
 obtain rfl := si_ h
 exact rr_ [] 11 [.reg [(2, hk_ (hK_ [0] (AA_v y2) (AA_objs g) (AA_up y2)))]]
  (a_ (a_ (r1_ (m_ 16 16 rfl (a_ (a_ (a_ (AA_ok g x y2 E1 (sel [0]) sj_) (a_ (rl_ (.var (c_Bf g))) tr)) tr) (r1_ tr)))) tr) tr)
theorem Aw_ok (g : Bf) (x : Bk) (r : (Int) × (Int) × (Bg) × H_ × G_ × (Int)) (h : Aw g x = some r) : ∀ σ, Inj 1 σ → FnTri Tryz.prog 52 (renL σ [.ptr 0 0 0, v_Bk x]) (preOf σ 0 (Aw_objs g)) ((Aw_v r).ren σ) (upOf σ (Aw_up r)) := by
 refine fo_ Tryz.func52 ⟨rfl, trivial⟩ ⟨rfl, trivial⟩ ?_
 intro w0 W μ0 hμ
 unfold Aw at h
 obtain ⟨y2, e1, h⟩ := bs_ h
 rcases it_ h with ⟨c3, h⟩ | ⟨c3, h⟩
 ·obtain rfl := si_ h
  exact rr_ [] 29 [.reg [], .reg [], .reg [(1, hk_ (hK_ [0] (AE_v y2) (AE_objs g) (AE_up y2)))], .reg [(6, hT)], .reg []]
   (a_ (a_ (r2_ tr) (a_ (r2_ tr) (a_ (r1_ (a_ (a_ (a_ (AE_ok g y2 e1 (sel [0]) sj_) (a_ (LO.Le.ofVar (c_Bf g)) tr)) tr) (r4_ (a_ (a_ (a_ (Eq.refl 13) (a_ (le_ 13 13 rfl) (Eq.refl 0))) tr) (r1_ tr))))) (a_ (r2_ (l_ 3 16 rfl (r1_ (l_ 0 13 rfl (r1_ (f_ c3 (t8_ (r1_ tr)))))))) (a_ (r1_ tr) tr))))) tr)
 ·obtain ⟨y5, e4, h⟩ := bs_ h
  rcases it_ h with ⟨c6, h⟩ | ⟨c6, h⟩
  ·exact rt_ hμ [] 27 [.reg [], .reg [], .reg [(1, hk_ (hK_ [0] (AE_v y2) (AE_objs g) (AE_up y2)))], .reg [(6, hF), (12, hk_ (hK_ [0] (AP_v y5) (AP_objs g) (AP_up y5))), (15, hT)]]
    (a_ (r2_ tr) (a_ (r2_ tr) (a_ (r1_ (a_ (a_ (a_ (AE_ok g y2 e1 (sel [0]) sj_) (a_ (LO.Le.ofVar (c_Bf g)) tr)) tr) (r4_ (a_ (a_ (a_ (Eq.refl 13) (a_ (le_ 13 13 rfl) (Eq.refl 0))) tr) (r1_ tr))))) (a_ (r2_ (l_ 3 16 rfl (r1_ (l_ 0 13 rfl (r1_ (f_ c3 (r1_ (r2_ (l_ 5 16 rfl (r1_ (a_ (a_ (a_ (AP_ok g y5 e4 (sel [0]) sj_) (a_ (LO.Le.ofVar (c_Bf g)) tr)) tr) (a_ (a_ (lt_ 0 11 rfl) tr) (r1_ (f_ c6 tr)))))))))))))) tr)))) (Aw_c5_ok hμ g x r h) ⟨rfl, trivial⟩
  ·exact rt_ hμ [1] 28 [.reg [], .reg [], .reg [(1, hk_ (hK_ [0] (AE_v y2) (AE_objs g) (AE_up y2)))], .reg [(6, hF), (12, hk_ (hK_ [0] (AP_v y5) (AP_objs g) (AP_up y5))), (15, hF)]]
    (a_ (r2_ tr) (a_ (r2_ tr) (a_ (r1_ (a_ (a_ (a_ (AE_ok g y2 e1 (sel [0]) sj_) (a_ (LO.Le.ofVar (c_Bf g)) tr)) tr) (r4_ (a_ (a_ (a_ (Eq.refl 13) (a_ (le_ 13 13 rfl) (Eq.refl 0))) tr) (r1_ tr))))) (a_ (r2_ (l_ 3 16 rfl (r1_ (l_ 0 13 rfl (r1_ (f_ c3 (r1_ (r2_ (l_ 5 16 rfl (r1_ (a_ (a_ (a_ (AP_ok g y5 e4 (sel [0]) sj_) (a_ (LO.Le.ofVar (c_Bf g)) tr)) tr) (a_ (a_ (lt_ 0 11 rfl) tr) (r1_ (f_ c6 tr)))))))))))))) tr)))) (Aw_c6_ok hμ g x r h) ⟨rfl, rfl, trivial⟩
def BZ_v (r : Unit) : LV := .int .i64 6
def BZ (x : Bk) : Option (Unit) :=
 some ()
theorem BZ_ok (x : Bk) (r : Unit) (h : BZ x = some r) : ∀ σ, Inj 0 σ → FnTri Tryz.prog 52 (renL σ [.nilptr, v_Bk x]) (preOf σ 0 []) ((BZ_v r).ren σ) (upOf σ []) := by
 refine fo_ Tryz.func52 trivial trivial ?_
 intro w0 W μ0 hμ
 unfold BZ at h
 obtain rfl := si_ h
 exact rr_ [] 20 [.reg [], .reg [], .reg []]
  (a_ (a_ (r2_ tr) (a_ (r2_ tr) (a_ (r1_ tr) tr))) tr)
theorem BZ_tri (x : Bk) (r : Unit) (h : BZ x = some r) : FnTri Tryz.prog 52 [.nilptr, v_Bk x] [] (BZ_v r) [] := FnTri.none (BZ_ok x r h) rfl rfl
def AH_v (r : (Bool) × (Int) × (Bi) × (Bh) × D_ × A_ × E_) : LV := .tup [.bool r.1, .int .i64 r.2.1]
def AH_up (pu : B_) (co : C_) (r : (Bool) × (Int) × (Bi) × (Bh) × D_ × A_ × E_) : Upd := [(0, some (.var (cT_60 r.2.2.1 (.map 1) r.2.2.2.1 (.op 5 (r.2.2.2.2.2.2).isSome) r.2.2.2.2.1 (.map 3) (.map 4)))), (1, some (oP2 r.2.2.2.2.2.1 [])), (2, none), (3, some (oM4 pu)), (4, some (oM5 co)), (5, some (.vo (r.2.2.2.2.2.2).isSome (c_Bf ((r.2.2.2.2.2.2).getD default))))]
def AH_objs (ti : Bi) (slots : A_) (key : Bh) (ga : E_) (re : D_) (pu : B_) (co : C_) : List LO := [.var (cT_60 ti (.map 1) key (.op 2 (ga).isSome) re (.map 3) (.map 4)), oP2 slots [], .vo (ga).isSome (c_Bf ((ga).getD default)), oM4 pu, oM5 co]
def AH_c8 (ti : Bi) (slots : A_) (key : Bh) (ga : E_) (re : D_) (pu : B_) (co : C_) (x_k : I_) (mode : Int) (x : Bk) (y4 : (Int) × (Bi) × (Bh) × D_) (y7 : Bf) : Option ((Bool) × (Int) × (Bi) × (Bh) × D_ × A_ × E_) :=
 if (((mget slots (Bh.mk x_k mode)).isSome) : Bool) then
  (mget slots (Bh.mk x_k mode)).bind fun y2 =>
  (Aw y2 x).bind fun y5 =>
  some (false, y5.1, y4.2.1, y4.2.2.1, y4.2.2.2, (mset slots (Bh.mk x_k mode) (Bf.mk y5.2.1 y5.2.2.1 y5.2.2.2.1 y5.2.2.2.2.1 y5.2.2.2.2.2)), (some y7))
 else
  (BZ x).bind fun y3 =>
  some (false, 6, y4.2.1, y4.2.2.1, y4.2.2.2, slots, (some y7))
def AH_c9 (ti : Bi) (slots : A_) (key : Bh) (ga : E_) (re : D_) (pu : B_) (co : C_) (x_k : I_) (mode : Int) (x : Bk) (y4 : (Int) × (Bi) × (Bh) × D_) (y7 : Bf) : Option ((Bool) × (Int) × (Bi) × (Bh) × D_ × A_ × E_) :=
 (AA y7 x).bind fun y2 =>
 if ((y2.1 != 0) : Bool) then
  some (false, y2.1, y4.2.1, y4.2.2.1, y4.2.2.2, slots, (some (Bf.mk y2.2.1 y2.2.2.1 y2.2.2.2.1 y2.2.2.2.2.1 y2.2.2.2.2.2)))
 else
  (BJ y4.2.1 slots y4.2.2.1 (Bf.mk y2.2.1 y2.2.2.1 y2.2.2.2.1 y2.2.2.2.2.1 y2.2.2.2.2.2) y4.2.2.2 pu co).bind fun y5 =>
  some (y5.1, 0, y5.2.1, y5.2.2.1, y5.2.2.2.1, y5.2.2.2.2.1, y5.2.2.2.2.2)
def AH_c1008 (ti : Bi) (slots : A_) (key : Bh) (ga : E_) (re : D_) (pu : B_) (co : C_) (x_k : I_) (mode : Int) (x : Bk) (y4 : (Int) × (Bi) × (Bh) × D_) : Option ((Bool) × (Int) × (Bi) × (Bh) × D_ × A_ × E_) :=
 if (((mget slots (Bh.mk x_k mode)).isSome) : Bool) then
  (mget slots (Bh.mk x_k mode)).bind fun y2 =>
  (Aw y2 x).bind fun y5 =>
  some (false, y5.1, y4.2.1, y4.2.2.1, y4.2.2.2, (mset slots (Bh.mk x_k mode) (Bf.mk y5.2.1 y5.2.2.1 y5.2.2.2.1 y5.2.2.2.2.1 y5.2.2.2.2.2)), (none : E_))
 else
  (BZ x).bind fun y3 =>
  some (false, 6, y4.2.1, y4.2.2.1, y4.2.2.2, slots, (none : E_))
def AH (ti : Bi) (slots : A_) (key : Bh) (ga : E_) (re : D_) (pu : B_) (co : C_) (x_k : I_) (mode : Int) (x : Bk) : Option ((Bool) × (Int) × (Bi) × (Bh) × D_ × A_ × E_) :=
 (AT ti slots key re pu co).bind fun y2 =>
 (Ag ti slots key ga re pu co x).bind fun y4 =>
 if ((y4.1 != 0) : Bool) then
  some (false, y4.1, y4.2.1, y4.2.2.1, y4.2.2.2, slots, ga)
 else
  if (((ga).isSome) : Bool) then
   (ga).bind fun y7 =>
   if ((!decide (y4.2.2.1 = (Bh.mk x_k mode))) : Bool) then
    AH_c8 ti slots key ga re pu co x_k mode x y4 y7
   else
    AH_c9 ti slots key ga re pu co x_k mode x y4 y7
  else
   AH_c1008 ti slots key ga re pu co x_k mode x y4
abbrev AH_K1000008 (w0 : World) (W : Nat → Prop) (μ0 : Emb) (slots : A_) (pu : B_) (co : C_) (x_k : I_) (mode : Int) (x : Bk) (y4 : (Int) × (Bi) × (Bh) × D_) (y7 : Bf) (r : (Bool) × (Int) × (Bi) × (Bh) × D_ × A_ × E_) : Prop := Kt_ w0 W μ0 Tryz.f22 5 6 (AH_v r) (AH_up pu co r) (kAtR (bodyOf Tryz.f22) 8) ((.ptr 0 0 0) :: n_ 6 ((.ptr 5 0 0) :: .any :: .any :: .any :: (.ptr 6 0 0) :: n_ 45 [])) [some (.var (cT_60 y4.2.1 (.map 1) y4.2.2.1 (.ptr 2 0 0) y4.2.2.2 (.map 3) (.map 4))), some (oP2 slots []), some (.var (c_Bf y7)), some (oM4 pu), some (oM5 co), some (.var (c_Bk x)), some (.var (c_Bh (Bh.mk x_k mode)))]
abbrev AH_K1000009 (w0 : World) (W : Nat → Prop) (μ0 : Emb) (slots : A_) (pu : B_) (co : C_) (x : Bk) (y4 : (Int) × (Bi) × (Bh) × D_) (y7 : Bf) (r : (Bool) × (Int) × (Bi) × (Bh) × D_ × A_ × E_) : Prop := Kt_ w0 W μ0 Tryz.f22 5 6 (AH_v r) (AH_up pu co r) (kAtR (bodyOf Tryz.f22) 9) ((.ptr 0 0 0) :: n_ 6 ((.ptr 5 0 0) :: n_ 49 [])) [some (.var (cT_60 y4.2.1 (.map 1) y4.2.2.1 (.ptr 2 0 0) y4.2.2.2 (.map 3) (.map 4))), some (oP2 slots []), some (.var (c_Bf y7)), some (oM4 pu), some (oM5 co), some (.var (c_Bk x))]
abbrev AH_K1001008 (w0 : World) (W : Nat → Prop) (μ0 : Emb) (slots : A_) (ga : E_) (pu : B_) (co : C_) (x_k : I_) (mode : Int) (x : Bk) (y4 : (Int) × (Bi) × (Bh) × D_) (r : (Bool) × (Int) × (Bi) × (Bh) × D_ × A_ × E_) : Prop := Kt_ w0 W μ0 Tryz.f22 5 6 (AH_v r) (AH_up pu co r) (kAtR (bodyOf Tryz.f22) 8) ((.ptr 0 0 0) :: n_ 6 ((.ptr 5 0 0) :: .any :: .any :: .any :: (.ptr 6 0 0) :: n_ 45 [])) [some (.var (cT_60 y4.2.1 (.map 1) y4.2.2.1 .nilptr y4.2.2.2 (.map 3) (.map 4))), some (oP2 slots []), some (.vo (ga).isSome (c_Bf ((ga).getD default))), some (oM4 pu), some (oM5 co), some (.var (c_Bk x)), some (.var (c_Bh (Bh.mk x_k mode)))]
theorem AH_c8_ok {w0 W μ0} (hμ : Lt_ μ0 5) (ti : Bi) (slots : A_) (key : Bh) (ga : E_) (re : D_) (pu : B_) (co : C_) (x_k : I_) (mode : Int) (x : Bk) (y4 : (Int) × (Bi) × (Bh) × D_) (y7 : Bf) (r : (Bool) × (Int) × (Bi) × (Bh) × D_ × A_ × E_) (h : AH_c8 ti slots key ga re pu co x_k mode x y4 y7 = some r) : AH_K1000008 w0 W μ0 slots pu co x_k mode x y4 y7 r := by
 unfold AH_c8 at h
 rcases it_ h with ⟨C1, h⟩ | ⟨C1, h⟩
 ·obtain ⟨y2, E3, h⟩ := bs_ h
  obtain ⟨y5, E4, h⟩ := bs_ h
  obtain rfl := si_ h
  exact rr_ [8] 16 [.x (.p (.po 1 (v_Bh (Bh.mk x_k mode)) (c_Bf y2))), .reg [(5, { look := some (.ptr 7 0 0) }), (7, hk_ (hK_ [7] (Aw_v y5) (Aw_objs y2) (Aw_up y5)))], .x (.p (.pc 1)), .wk [] [(1, oP2 (mset slots (Bh.mk x_k mode) (Bf.mk y5.2.1 y5.2.2.1 y5.2.2.2.1 y5.2.2.2.2.1 y5.2.2.2.2.2)) [])], .wk [] [(0, .var (cT_60 y4.2.1 (.map 1) y4.2.2.1 (.op 2 ((some y7)).isSome) y4.2.2.2 (.map 3) (.map 4))), (2, .vo ((some y7)).isSome (c_Bf (((some y7)).getD default)))], .x (.mv 0 14)]
   (a_ (a_ (a_ (pmIn v_Bh c_Bf E3) (pmO0 v_Bh (Bh.mk x_k mode))) (a_ (r1_ (r2_ (l_ 4 33 rfl (m_ 9 9 rfl (a_ (a_ (a_ (Eq.refl true) (a_ (pmSi v_Bh c_Bf k_Bh slots (Bh.mk x_k mode) (isS E3)) (List.mem_cons_self (a := ((v_Bh (Bh.mk x_k mode), 7) : LV × Nat)) (l := [])))) tr) (m_ 16 16 rfl (a_ (a_ (a_ (Aw_ok y2 x y5 E4 (sel [7]) sj_) (a_ (rl_ (.var (c_Bf y2))) tr)) tr) (r2_ tr)))))))) (a_ (a_ (getP_enc v_Bh c_Bf k_Bh slots (Bh.mk x_k mode) E3) (a_ (Eq.refl true) (a_ (Eq.refl true) (show 1 ≠ 7 from by decide)))) (a_ (a_ tr (a_ (pm_upd v_Bh c_Bf k_Bh true ks1 [] slots (Bh.mk x_k mode) (Bf.mk y5.2.1 y5.2.2.1 y5.2.2.2.1 y5.2.2.2.2.1 y5.2.2.2.2.2)) tr)) (a_ (a_ tr (a_ (LO.Sub.var (lel_set (cT_60 y4.2.1 (.map 1) y4.2.2.1 (.ptr 2 0 0) y4.2.2.2 (.map 3) (.map 4)) 14 (.ptr 2 0 0) (.op 2 ((some y7)).isSome) rfl (le_ptr_op rfl))) (a_ (sub_var_vo (g := (some y7)) (y := y7) c_Bf rfl) tr))) (a_ (show 2 ≠ 0 from by decide) tr)))))) tr)
 ·obtain ⟨y3, E2, h⟩ := bs_ h
  obtain rfl := si_ h
  exact rr_ [7] 13 [.reg [(5, { look := none }), (7, hC (BZ_v y3))], .wk [] [(0, .var (cT_60 y4.2.1 (.map 1) y4.2.2.1 (.op 2 ((some y7)).isSome) y4.2.2.2 (.map 3) (.map 4))), (2, .vo ((some y7)).isSome (c_Bf (((some y7)).getD default)))], .x (.mv 0 14)]
   (a_ (a_ (r1_ (r2_ (l_ 4 33 rfl (m_ 9 9 rfl (a_ (a_ (a_ (Eq.refl true) (pmN v_Bh c_Bf k_Bh slots (Bh.mk x_k mode) C1)) tr) (m_ 16 16 rfl (c_ (BZ_tri x y3 E2) (r2_ tr)))))))) (a_ (a_ tr (a_ (LO.Sub.var (lel_set (cT_60 y4.2.1 (.map 1) y4.2.2.1 (.ptr 2 0 0) y4.2.2.2 (.map 3) (.map 4)) 14 (.ptr 2 0 0) (.op 2 ((some y7)).isSome) rfl (le_ptr_op rfl))) (a_ (sub_var_vo (g := (some y7)) (y := y7) c_Bf rfl) tr))) (a_ (show 2 ≠ 0 from by decide) tr))) tr)
theorem AH_c9_ok {w0 W μ0} (hμ : Lt_ μ0 5) (ti : Bi) (slots : A_) (key : Bh) (ga : E_) (re : D_) (pu : B_) (co : C_) (x_k : I_) (mode : Int) (x : Bk) (y4 : (Int) × (Bi) × (Bh) × D_) (y7 : Bf) (r : (Bool) × (Int) × (Bi) × (Bh) × D_ × A_ × E_) (h : AH_c9 ti slots key ga re pu co x_k mode x y4 y7 = some r) : AH_K1000009 w0 W μ0 slots pu co x y4 y7 r := by
 unfold AH_c9 at h
 obtain ⟨y2, E1, h⟩ := bs_ h
 rcases it_ h with ⟨C3, h⟩ | ⟨C3, h⟩
 ·obtain rfl := si_ h
  exact rr_ [6] 20 [.reg [(5, hk_ (hK_ [2] (AA_v y2) (AA_objs y7) (AA_up y2)))], .reg [(1, hT)], .reg [], .wk [] [(0, .var (cT_60 y4.2.1 (.map 1) y4.2.2.1 (.op 2 ((some (Bf.mk y2.2.1 y2.2.2.1 y2.2.2.2.1 y2.2.2.2.2.1 y2.2.2.2.2.2))).isSome) y4.2.2.2 (.map 3) (.map 4))), (2, .vo ((some (Bf.mk y2.2.1 y2.2.2.1 y2.2.2.2.1 y2.2.2.2.2.1 y2.2.2.2.2.2))).isSome (c_Bf (((some (Bf.mk y2.2.1 y2.2.2.1 y2.2.2.2.1 y2.2.2.2.2.1 y2.2.2.2.2.2))).getD default)))], .x (.mv 0 14)]
   (a_ (a_ (r1_ (r2_ (l_ 14 33 rfl (m_ 16 16 rfl (a_ (a_ (a_ (AA_ok y7 x y2 E1 (sel [2]) sj_) (a_ (rl_ (.var (c_Bf y7))) tr)) tr) (r1_ tr)))))) (a_ (r1_ (f_ C3 tr)) (a_ (r1_ (r2_ tr)) (a_ (a_ tr (a_ (LO.Sub.var (lel_set (cT_60 y4.2.1 (.map 1) y4.2.2.1 (.ptr 2 0 0) y4.2.2.2 (.map 3) (.map 4)) 14 (.ptr 2 0 0) (.op 2 ((some (Bf.mk y2.2.1 y2.2.2.1 y2.2.2.2.1 y2.2.2.2.2.1 y2.2.2.2.2.2))).isSome) rfl (le_ptr_op rfl))) (a_ (sub_var_vo (g := (some (Bf.mk y2.2.1 y2.2.2.1 y2.2.2.2.1 y2.2.2.2.2.1 y2.2.2.2.2.2))) (y := (Bf.mk y2.2.1 y2.2.2.1 y2.2.2.2.1 y2.2.2.2.2.1 y2.2.2.2.2.2)) c_Bf rfl) tr))) (a_ (show 2 ≠ 0 from by decide) tr))))) tr)
 ·obtain ⟨y5, E4, h⟩ := bs_ h
  obtain rfl := si_ h
  exact rr_ [7] 20 [.reg [(5, hk_ (hK_ [2] (AA_v y2) (AA_objs y7) (AA_up y2)))], .reg [(1, hF)], .reg [(1, hk_ (hK_ [0, 1, 2, 3, 4, 6] (BJ_v y5) (BJ_objs y4.2.1 slots y4.2.2.1 (Bf.mk y2.2.1 y2.2.2.1 y2.2.2.2.1 y2.2.2.2.2.1 y2.2.2.2.2.2) y4.2.2.2 pu co) (BJ_up pu co y5)))], .x (.mv 0 14)]
   (a_ (a_ (r1_ (r2_ (l_ 14 33 rfl (m_ 16 16 rfl (a_ (a_ (a_ (AA_ok y7 x y2 E1 (sel [2]) sj_) (a_ (rl_ (.var (c_Bf y7))) tr)) tr) (r1_ tr)))))) (a_ (r1_ (f_ C3 tr)) (a_ (r1_ (a_ (a_ (a_ (BJ_ok y4.2.1 slots y4.2.2.1 (Bf.mk y2.2.1 y2.2.2.1 y2.2.2.2.1 y2.2.2.2.2.1 y2.2.2.2.2.2) y4.2.2.2 pu co y5 E4 (sel [0, 1, 2, 3, 4, 6]) sj_) (a_ (rl_ (.var (cT_60 y4.2.1 (.map 1) y4.2.2.1 (.ptr 2 0 0) y4.2.2.2 (.map 3) (.map 4)))) (a_ (Eq.refl (oP2 slots [] : LO)) (a_ (rl_ (.var (c_Bf (Bf.mk y2.2.1 y2.2.2.1 y2.2.2.2.1 y2.2.2.2.2.1 y2.2.2.2.2.2)))) (a_ (rl_ (oM4 pu)) (a_ (rl_ (oM5 co)) tr)))))) tr) (r2_ tr))) (a_ (show 6 ≠ 0 from by decide) tr)))) tr)
theorem AH_c1008_ok {w0 W μ0} (hμ : Lt_ μ0 5) (ti : Bi) (slots : A_) (key : Bh) (ga : E_) (re : D_) (pu : B_) (co : C_) (x_k : I_) (mode : Int) (x : Bk) (y4 : (Int) × (Bi) × (Bh) × D_) (r : (Bool) × (Int) × (Bi) × (Bh) × D_ × A_ × E_) (h : AH_c1008 ti slots key ga re pu co x_k mode x y4 = some r) : AH_K1001008 w0 W μ0 slots ga pu co x_k mode x y4 r := by
 unfold AH_c1008 at h
 rcases it_ h with ⟨C1, h⟩ | ⟨C1, h⟩
 ·obtain ⟨y2, E3, h⟩ := bs_ h
  obtain ⟨y5, E4, h⟩ := bs_ h
  obtain rfl := si_ h
  exact rr_ [8] 17 [.x (.p (.po 1 (v_Bh (Bh.mk x_k mode)) (c_Bf y2))), .reg [(5, { look := some (.ptr 7 0 0) }), (7, hk_ (hK_ [7] (Aw_v y5) (Aw_objs y2) (Aw_up y5)))], .x (.p (.pc 1)), .wk [] [(1, oP2 (mset slots (Bh.mk x_k mode) (Bf.mk y5.2.1 y5.2.2.1 y5.2.2.2.1 y5.2.2.2.2.1 y5.2.2.2.2.2)) [])], .void (.vo ((none : E_)).isSome (c_Bf (((none : E_)).getD default))), .wk [] [(0, .var (cT_60 y4.2.1 (.map 1) y4.2.2.1 (.op 8 ((none : E_)).isSome) y4.2.2.2 (.map 3) (.map 4)))], .x (.dr 2)]
   (a_ (a_ (a_ (pmIn v_Bh c_Bf E3) (pmO0 v_Bh (Bh.mk x_k mode))) (a_ (r1_ (r2_ (l_ 4 33 rfl (m_ 9 9 rfl (a_ (a_ (a_ (Eq.refl true) (a_ (pmSi v_Bh c_Bf k_Bh slots (Bh.mk x_k mode) (isS E3)) (List.mem_cons_self (a := ((v_Bh (Bh.mk x_k mode), 7) : LV × Nat)) (l := [])))) tr) (m_ 16 16 rfl (a_ (a_ (a_ (Aw_ok y2 x y5 E4 (sel [7]) sj_) (a_ (rl_ (.var (c_Bf y2))) tr)) tr) (r2_ tr)))))))) (a_ (a_ (getP_enc v_Bh c_Bf k_Bh slots (Bh.mk x_k mode) E3) (a_ (Eq.refl true) (a_ (Eq.refl true) (show 1 ≠ 7 from by decide)))) (a_ (a_ tr (a_ (pm_upd v_Bh c_Bf k_Bh true ks1 [] slots (Bh.mk x_k mode) (Bf.mk y5.2.1 y5.2.2.1 y5.2.2.2.1 y5.2.2.2.2.1 y5.2.2.2.2.2)) tr)) (a_ (Eq.refl false) (a_ (a_ tr (a_ (LO.Sub.var (lel_set (cT_60 y4.2.1 (.map 1) y4.2.2.1 .nilptr y4.2.2.2 (.map 3) (.map 4)) 14 (.nilptr) (.op 8 ((none : E_)).isSome) rfl (le_nil_op rfl))) tr)) (a_ tr tr))))))) tr)
 ·obtain ⟨y3, E2, h⟩ := bs_ h
  obtain rfl := si_ h
  exact rr_ [7] 14 [.reg [(5, { look := none }), (7, hC (BZ_v y3))], .void (.vo ((none : E_)).isSome (c_Bf (((none : E_)).getD default))), .wk [] [(0, .var (cT_60 y4.2.1 (.map 1) y4.2.2.1 (.op 7 ((none : E_)).isSome) y4.2.2.2 (.map 3) (.map 4)))], .x (.dr 2)]
   (a_ (a_ (r1_ (r2_ (l_ 4 33 rfl (m_ 9 9 rfl (a_ (a_ (a_ (Eq.refl true) (pmN v_Bh c_Bf k_Bh slots (Bh.mk x_k mode) C1)) tr) (m_ 16 16 rfl (c_ (BZ_tri x y3 E2) (r2_ tr)))))))) (a_ (Eq.refl false) (a_ (a_ tr (a_ (LO.Sub.var (lel_set (cT_60 y4.2.1 (.map 1) y4.2.2.1 .nilptr y4.2.2.2 (.map 3) (.map 4)) 14 (.nilptr) (.op 7 ((none : E_)).isSome) rfl (le_nil_op rfl))) tr)) (a_ tr tr)))) tr)
theorem AH_ok (ti : Bi) (slots : A_) (key : Bh) (ga : E_) (re : D_) (pu : B_) (co : C_) (x_k : I_) (mode : Int) (x : Bk) (r : (Bool) × (Int) × (Bi) × (Bh) × D_ × A_ × E_) (h : AH ti slots key ga re pu co x_k mode x = some r) : ∀ σ, Inj 6 σ → FnTri Tryz.prog 22 (renL σ [.ptr 0 0 0, .agg [.int .u8 x_k.a0, .int .u8 x_k.a1, .int .u8 x_k.a2, .int .u8 x_k.a3, .int .u8 x_k.a4, .int .u8 x_k.a5, .int .u8 x_k.a6, .int .u8 x_k.a7], .int .u8 mode, v_Bk x]) (preOf σ 0 (AH_objs ti slots key ga re pu co)) ((AH_v r).ren σ) (upOf σ (AH_up pu co r)) := by
 refine fo_ Tryz.func22 ⟨rfl, uP, rfl, trivial, trivial, trivial⟩ ⟨rfl, uP, trivial, trivial, rfl, trivial⟩ ?_
 intro w0 W μ0 hμ
 unfold AH at h
 obtain ⟨y2, e1, h⟩ := bs_ h
 obtain ⟨y4, e3, h⟩ := bs_ h
 rcases it_ h with ⟨c5, h⟩ | ⟨c5, h⟩
 ·obtain rfl := si_ h
  exact rr_ [7] 30 [.reg [], .reg [(1, hk_ (hK_ [0, 1, 3, 4] (AT_v y2) (AT_objs ti slots key re pu co) (AT_up pu co y2)))], .reg [(2, hk_ (hK_ [0, 1, 2, 3, 4] (Ag_v y4) (Ag_objs ti slots key ga re pu co) (Ag_up slots ga pu co y4)))], .reg [(1, hT)], .reg [], .x (.mv 0 14)]
   (a_ (a_ (r4_ tr) (a_ (r1_ (a_ (a_ (a_ (AT_ok ti slots key re pu co y2 e1 (sel [0, 1, 3, 4]) sj_) (a_ (LO.Le.ofVarL (lel_set (cT_60 ti (.map 1) key (.op 2 (ga).isSome) re (.map 3) (.map 4)) 14 (.op 2 (ga).isSome) .any rfl (le_any _))) (a_ (le_pmR v_Bh c_Bf (ag := true) (ks := ks1) (m := slots) (opn := [])) (a_ (rl_ (oM4 pu)) (a_ (rl_ (oM5 co)) tr))))) tr) (r1_ tr))) (a_ (r1_ (m_ 16 16 rfl (a_ (a_ (a_ (Ag_ok ti slots key ga re pu co x y4 e3 (sel [0, 1, 2, 3, 4]) sj_) (a_ (rl_ (.var (cT_60 ti (.map 1) key (.op 2 (ga).isSome) re (.map 3) (.map 4)))) (a_ (Eq.refl (oP2 slots [] : LO)) (a_ (rl_ (.vo (ga).isSome (c_Bf ((ga).getD default)))) (a_ (rl_ (oM4 pu)) (a_ (rl_ (oM5 co)) tr)))))) tr) (r1_ tr)))) (a_ (r1_ (f_ c5 tr)) (a_ (r1_ (r2_ tr)) (a_ (show 2 ≠ 0 from by decide) tr)))))) tr)
 ·rcases it_ h with ⟨c6, h⟩ | ⟨c6, h⟩
  ·obtain ⟨y7, e8, h⟩ := bs_ h
   rcases it_ h with ⟨c9, h⟩ | ⟨c9, h⟩
   ·exact rt_ hμ [6, 7] 37 [.reg [], .reg [(1, hk_ (hK_ [0, 1, 3, 4] (AT_v y2) (AT_objs ti slots key re pu co) (AT_up pu co y2)))], .reg [(2, hk_ (hK_ [0, 1, 2, 3, 4] (Ag_v y4) (Ag_objs ti slots key ga re pu co) (Ag_up slots ga pu co y4)))], .reg [(1, hF)], .reg [], .wk [] [(0, .var (cT_60 y4.2.1 (.map 1) y4.2.2.1 (.ptr 2 0 0) y4.2.2.2 (.map 3) (.map 4))), (2, .var (c_Bf y7))], .reg [(11, hv_ (.bool (!decide (y4.2.2.1 = (Bh.mk x_k mode))))), (12, hT)]]
     (a_ (r4_ tr) (a_ (r1_ (a_ (a_ (a_ (AT_ok ti slots key re pu co y2 e1 (sel [0, 1, 3, 4]) sj_) (a_ (LO.Le.ofVarL (lel_set (cT_60 ti (.map 1) key (.op 2 (ga).isSome) re (.map 3) (.map 4)) 14 (.op 2 (ga).isSome) .any rfl (le_any _))) (a_ (le_pmR v_Bh c_Bf (ag := true) (ks := ks1) (m := slots) (opn := [])) (a_ (rl_ (oM4 pu)) (a_ (rl_ (oM5 co)) tr))))) tr) (r1_ tr))) (a_ (r1_ (m_ 16 16 rfl (a_ (a_ (a_ (Ag_ok ti slots key ga re pu co x y4 e3 (sel [0, 1, 2, 3, 4]) sj_) (a_ (rl_ (.var (cT_60 ti (.map 1) key (.op 2 (ga).isSome) re (.map 3) (.map 4)))) (a_ (Eq.refl (oP2 slots [] : LO)) (a_ (rl_ (.vo (ga).isSome (c_Bf ((ga).getD default)))) (a_ (rl_ (oM4 pu)) (a_ (rl_ (oM5 co)) tr)))))) tr) (r1_ tr)))) (a_ (r1_ (f_ c5 tr)) (a_ (m_ 8 8 rfl (r1_ (a_ (a_ (Eq.refl true) tr) (r1_ (a_ (a_ (a_ (Eq.refl 9) (a_ (le_ 9 9 rfl) (Eq.refl 0))) tr) tr))))) (a_ (a_ tr (a_ (LO.Sub.var (lel_set (cT_60 y4.2.1 (.map 1) y4.2.2.1 (.op 2 (ga).isSome) y4.2.2.2 (.map 3) (.map 4)) 14 (.op 2 (ga).isSome) (.ptr 2 0 0) rfl (le_op_ptr (isS_of e8)))) (a_ (sub_vo_var c_Bf e8) tr))) (a_ (r1_ (r2_ (l_ 14 33 rfl (r1_ (r4_ (m_ 14 33 rfl (m_ 9 9 rfl (a_ (a_ tr (a_ (leB (congrArg not (k_Bh y4.2.2.1 (Bh.mk x_k mode)))) tr)) (f_ c9 tr))))))))) tr))))))) (AH_c8_ok hμ ti slots key ga re pu co x_k mode x y4 y7 r h) ⟨rfl, uP, rfl, trivial, trivial, rfl, rfl, trivial⟩
   ·exact rt_ hμ [6] 39 [.reg [], .reg [(1, hk_ (hK_ [0, 1, 3, 4] (AT_v y2) (AT_objs ti slots key re pu co) (AT_up pu co y2)))], .reg [(2, hk_ (hK_ [0, 1, 2, 3, 4] (Ag_v y4) (Ag_objs ti slots key ga re pu co) (Ag_up slots ga pu co y4)))], .reg [(1, hF)], .reg [], .wk [] [(0, .var (cT_60 y4.2.1 (.map 1) y4.2.2.1 (.ptr 2 0 0) y4.2.2.2 (.map 3) (.map 4))), (2, .var (c_Bf y7))], .reg [(11, hv_ (.bool (!decide (y4.2.2.1 = (Bh.mk x_k mode))))), (12, hF)]]
     (a_ (r4_ tr) (a_ (r1_ (a_ (a_ (a_ (AT_ok ti slots key re pu co y2 e1 (sel [0, 1, 3, 4]) sj_) (a_ (LO.Le.ofVarL (lel_set (cT_60 ti (.map 1) key (.op 2 (ga).isSome) re (.map 3) (.map 4)) 14 (.op 2 (ga).isSome) .any rfl (le_any _))) (a_ (le_pmR v_Bh c_Bf (ag := true) (ks := ks1) (m := slots) (opn := [])) (a_ (rl_ (oM4 pu)) (a_ (rl_ (oM5 co)) tr))))) tr) (r1_ tr))) (a_ (r1_ (m_ 16 16 rfl (a_ (a_ (a_ (Ag_ok ti slots key ga re pu co x y4 e3 (sel [0, 1, 2, 3, 4]) sj_) (a_ (rl_ (.var (cT_60 ti (.map 1) key (.op 2 (ga).isSome) re (.map 3) (.map 4)))) (a_ (Eq.refl (oP2 slots [] : LO)) (a_ (rl_ (.vo (ga).isSome (c_Bf ((ga).getD default)))) (a_ (rl_ (oM4 pu)) (a_ (rl_ (oM5 co)) tr)))))) tr) (r1_ tr)))) (a_ (r1_ (f_ c5 tr)) (a_ (m_ 8 8 rfl (r1_ (a_ (a_ (Eq.refl true) tr) (r1_ (a_ (a_ (a_ (Eq.refl 9) (a_ (le_ 9 9 rfl) (Eq.refl 0))) tr) tr))))) (a_ (a_ tr (a_ (LO.Sub.var (lel_set (cT_60 y4.2.1 (.map 1) y4.2.2.1 (.op 2 (ga).isSome) y4.2.2.2 (.map 3) (.map 4)) 14 (.op 2 (ga).isSome) (.ptr 2 0 0) rfl (le_op_ptr (isS_of e8)))) (a_ (sub_vo_var c_Bf e8) tr))) (a_ (r1_ (r2_ (l_ 14 33 rfl (r1_ (r4_ (m_ 14 33 rfl (m_ 9 9 rfl (a_ (a_ tr (a_ (leB (congrArg not (k_Bh y4.2.2.1 (Bh.mk x_k mode)))) tr)) (f_ c9 tr))))))))) tr))))))) (AH_c9_ok hμ ti slots key ga re pu co x_k mode x y4 y7 r h) ⟨rfl, uP, rfl, trivial, trivial, rfl, trivial⟩
  ·exact rt_ hμ [6, 7] 37 [.reg [], .reg [(1, hk_ (hK_ [0, 1, 3, 4] (AT_v y2) (AT_objs ti slots key re pu co) (AT_up pu co y2)))], .reg [(2, hk_ (hK_ [0, 1, 2, 3, 4] (Ag_v y4) (Ag_objs ti slots key ga re pu co) (Ag_up slots ga pu co y4)))], .reg [(1, hF)], .reg [], .wk [] [(0, .var (cT_60 y4.2.1 (.map 1) y4.2.2.1 .nilptr y4.2.2.2 (.map 3) (.map 4)))], .reg []]
    (a_ (r4_ tr) (a_ (r1_ (a_ (a_ (a_ (AT_ok ti slots key re pu co y2 e1 (sel [0, 1, 3, 4]) sj_) (a_ (LO.Le.ofVarL (lel_set (cT_60 ti (.map 1) key (.op 2 (ga).isSome) re (.map 3) (.map 4)) 14 (.op 2 (ga).isSome) .any rfl (le_any _))) (a_ (le_pmR v_Bh c_Bf (ag := true) (ks := ks1) (m := slots) (opn := [])) (a_ (rl_ (oM4 pu)) (a_ (rl_ (oM5 co)) tr))))) tr) (r1_ tr))) (a_ (r1_ (m_ 16 16 rfl (a_ (a_ (a_ (Ag_ok ti slots key ga re pu co x y4 e3 (sel [0, 1, 2, 3, 4]) sj_) (a_ (rl_ (.var (cT_60 ti (.map 1) key (.op 2 (ga).isSome) re (.map 3) (.map 4)))) (a_ (Eq.refl (oP2 slots [] : LO)) (a_ (rl_ (.vo (ga).isSome (c_Bf ((ga).getD default)))) (a_ (rl_ (oM4 pu)) (a_ (rl_ (oM5 co)) tr)))))) tr) (r1_ tr)))) (a_ (r1_ (f_ c5 tr)) (a_ (m_ 8 8 rfl (r1_ (a_ (a_ (Eq.refl true) tr) (r1_ (a_ (a_ (a_ (Eq.refl 9) (a_ (le_ 9 9 rfl) (Eq.refl 0))) tr) tr))))) (a_ (a_ tr (a_ (LO.Sub.var (lel_set (cT_60 y4.2.1 (.map 1) y4.2.2.1 (.op 2 (ga).isSome) y4.2.2.2 (.map 3) (.map 4)) 14 (.op 2 (ga).isSome) (.nilptr) rfl (le_op_nil c6))) tr)) (a_ (r1_ (r2_ (l_ 14 33 rfl (r2_ (t2_ (t4_ (r1_ tr))))))) tr))))))) (AH_c1008_ok hμ ti slots key ga re pu co x_k mode x y4 r h) ⟨rfl, uP, rfl, trivial, trivial, rfl, rfl, trivial⟩
def Ai_v (r : (Int)) : LV := .int .i64 r
def Ai_up (pu : B_) (co : C_) (r : (Int)) : Upd := [(2, some (oM4 pu)), (3, some (oM5 co))]
def Ai_objs (ti : Bi) (slots : A_) (key : Bh) (re : D_) (pu : B_) (co : C_) : List LO := [.row 33 1 (fun _ => (cT_60 ti (.map 1) key .any re (.map 2) (.map 3))) false, .mapR true ks1 (encM v_Bh (fun _ => LV.pp) slots), oM4 pu, oM5 co]
def Ai (ti : Bi) (slots : A_) (key : Bh) (re : D_) (pu : B_) (co : C_) (x_k : I_) : Option ((Int)) :=
 (AT ti slots key re pu co).bind fun y2 =>
 (AM ti slots key re pu co x_k).bind fun y4 =>
 if ((y4 != 2) : Bool) then
  some 11
 else
  some 0
theorem Ai_ok (ti : Bi) (slots : A_) (key : Bh) (re : D_) (pu : B_) (co : C_) (x_k : I_) (r : (Int)) (h : Ai ti slots key re pu co x_k = some r) : ∀ σ, Inj 4 σ → FnTri Tryz.prog 53 (renL σ [.ptr 0 0 0, .agg [.int .u8 x_k.a0, .int .u8 x_k.a1, .int .u8 x_k.a2, .int .u8 x_k.a3, .int .u8 x_k.a4, .int .u8 x_k.a5, .int .u8 x_k.a6, .int .u8 x_k.a7]]) (preOf σ 0 (Ai_objs ti slots key re pu co)) ((Ai_v r).ren σ) (upOf σ (Ai_up pu co r)) := by
 refine fo_ Tryz.func53 ⟨fun _ _ => rfl, trivial, trivial, trivial, trivial⟩ ⟨trivial, trivial, trivial⟩ ?_
 intro w0 W μ0 hμ
 unfold Ai at h
 obtain ⟨y2, e1, h⟩ := bs_ h
 obtain ⟨y4, e3, h⟩ := bs_ h
 rcases it_ h with ⟨c5, h⟩ | ⟨c5, h⟩
 ·obtain rfl := si_ h
  exact rr_ [] 26 [.reg [], .reg [(1, hk_ (hK_ [0, 1, 2, 3] (AT_v y2) (AT_objs ti slots key re pu co) (AT_up pu co y2)))], .reg [(2, hk_ (hK_ [0, 1, 2, 3] (AM_v y4) (AM_objs ti slots key re pu co) (AM_up pu co y4))), (3, hT)], .reg []]
   (a_ (a_ (r2_ tr) (a_ (r1_ (a_ (a_ (a_ (AT_ok ti slots key re pu co y2 e1 (sel [0, 1, 2, 3]) sj_) (a_ (rl_ (.row 33 1 (fun _ => (cT_60 ti (.map 1) key .any re (.map 2) (.map 3))) false)) (a_ (le_ppR (ag := true) (ks := ks1) v_Bh slots) (a_ (rl_ (oM4 pu)) (a_ (rl_ (oM5 co)) tr))))) tr) (r1_ tr))) (a_ (r1_ (m_ 8 8 rfl (a_ (a_ (a_ (AM_ok ti slots key re pu co x_k y4 e3 (sel [0, 1, 2, 3]) sj_) (a_ (rl_ (.row 33 1 (fun _ => (cT_60 ti (.map 1) key .any re (.map 2) (.map 3))) false)) (a_ (rl_ (.mapR true ks1 (encM v_Bh (fun _ => LV.pp) slots))) (a_ (rl_ (oM4 pu)) (a_ (rl_ (oM5 co)) tr))))) tr) (f_ c5 tr)))) (a_ (r1_ tr) tr)))) tr)
 ·obtain rfl := si_ h
  exact rr_ [] 27 [.reg [], .reg [(1, hk_ (hK_ [0, 1, 2, 3] (AT_v y2) (AT_objs ti slots key re pu co) (AT_up pu co y2)))], .reg [(2, hk_ (hK_ [0, 1, 2, 3] (AM_v y4) (AM_objs ti slots key re pu co) (AM_up pu co y4))), (3, hF)], .reg []]
   (a_ (a_ (r2_ tr) (a_ (r1_ (a_ (a_ (a_ (AT_ok ti slots key re pu co y2 e1 (sel [0, 1, 2, 3]) sj_) (a_ (rl_ (.row 33 1 (fun _ => (cT_60 ti (.map 1) key .any re (.map 2) (.map 3))) false)) (a_ (le_ppR (ag := true) (ks := ks1) v_Bh slots) (a_ (rl_ (oM4 pu)) (a_ (rl_ (oM5 co)) tr))))) tr) (r1_ tr))) (a_ (r1_ (m_ 8 8 rfl (a_ (a_ (a_ (AM_ok ti slots key re pu co x_k y4 e3 (sel [0, 1, 2, 3]) sj_) (a_ (rl_ (.row 33 1 (fun _ => (cT_60 ti (.map 1) key .any re (.map 2) (.map 3))) false)) (a_ (rl_ (.mapR true ks1 (encM v_Bh (fun _ => LV.pp) slots))) (a_ (rl_ (oM4 pu)) (a_ (rl_ (oM5 co)) tr))))) tr) (f_ c5 tr)))) (a_ (r1_ tr) tr)))) tr)
def Ad_vA (r : (Bh) × (Int) × (Bg) × H_ × G_ × (Int)) : LV := .ptr 4 0 0
def Ad_upA (slots : A_) (pu : B_) (co : C_) (r : (Bh) × (Int) × (Bg) × H_ × G_ × (Int)) : Upd := [(1, some (oP2 slots [(v_Bh r.1, 4)])), (2, some (oM4 pu)), (3, some (oM5 co)), (4, some (.var (c_Bf (Bf.mk r.2.1 r.2.2.1 r.2.2.2.1 r.2.2.2.2.1 r.2.2.2.2.2))))]
def Ad_objs (ti : Bi) (slots : A_) (key : Bh) (re : D_) (pu : B_) (co : C_) : List LO := [.row 33 1 (fun _ => (cT_60 ti (.map 1) key .any re (.map 2) (.map 3))) false, oP2 slots [], oM4 pu, oM5 co]
def Ad (ti : Bi) (slots : A_) (key : Bh) (re : D_) (pu : B_) (co : C_) (x_k : I_) : Option (Bool × ((Bh) × (Int) × (Bg) × H_ × G_ × (Int)) × (Unit)) :=
 (AT ti slots key re pu co).bind fun y2 =>
 (AM ti slots key re pu co x_k).bind fun y4 =>
 if (((mget slots (Bh.mk x_k y4)).isSome) : Bool) then
  (mget slots (Bh.mk x_k y4)).bind fun y6 =>
  some (true, ((Bh.mk x_k y4), y6.f_mode, y6.f_conf, y6.f_more, y6.f_grants, y6.f_nodes), default)
 else
  some (false, default, ())
theorem Ad_okA (ti : Bi) (slots : A_) (key : Bh) (re : D_) (pu : B_) (co : C_) (x_k : I_) (r : (Bh) × (Int) × (Bg) × H_ × G_ × (Int)) (r_ : Unit) (h : Ad ti slots key re pu co x_k = some (true, r, r_)) : ∀ σ, Inj 5 σ → FnTri Tryz.prog 28 (renL σ [.ptr 0 0 0, .agg [.int .u8 x_k.a0, .int .u8 x_k.a1, .int .u8 x_k.a2, .int .u8 x_k.a3, .int .u8 x_k.a4, .int .u8 x_k.a5, .int .u8 x_k.a6, .int .u8 x_k.a7]]) (preOf σ 0 (Ad_objs ti slots key re pu co)) ((Ad_vA r).ren σ) (upOf σ (Ad_upA slots pu co r)) := by
 refine fo_ Tryz.func28 ⟨fun _ _ => rfl, uP, trivial, trivial, trivial⟩ ⟨under_opn (lt_ 4 5 rfl), trivial, trivial, rfl, trivial⟩ ?_
 intro w0 W μ0 hμ
 unfold Ad at h
 obtain ⟨y2, e1, h⟩ := bs_ h
 obtain ⟨y4, e3, h⟩ := bs_ h
 rcases it_ h with ⟨c5, h⟩ | ⟨c5, h⟩
 ·obtain ⟨y6, e7, h⟩ := bs_ h
  have h := congrArg (fun z => z.2.1) (si_ h)
  dsimp only at h
  subst h
  exact rr_ [5] 22 [.reg [], .reg [(1, hk_ (hK_ [0, 1, 2, 3] (AT_v y2) (AT_objs ti slots key re pu co) (AT_up pu co y2)))], .x (.p (.po 1 (v_Bh (Bh.mk x_k y4)) (c_Bf y6))), .reg [(7, hk_ (hK_ [0, 1, 2, 3] (AM_v y4) (AM_objs ti slots key re pu co) (AM_up pu co y4))), (9, { look := some (.ptr 5 0 0) })]]
   (a_ (a_ (r2_ tr) (a_ (r1_ (a_ (a_ (a_ (AT_ok ti slots key re pu co y2 e1 (sel [0, 1, 2, 3]) sj_) (a_ (rl_ (.row 33 1 (fun _ => (cT_60 ti (.map 1) key .any re (.map 2) (.map 3))) false)) (a_ (le_pmR v_Bh c_Bf (ag := true) (ks := ks1) (m := slots) (opn := [])) (a_ (rl_ (oM4 pu)) (a_ (rl_ (oM5 co)) tr))))) tr) (r1_ tr))) (a_ (a_ (pmIn v_Bh c_Bf e7) (pmO0 v_Bh (Bh.mk x_k y4))) (a_ (r1_ (r2_ (a_ (a_ (a_ (lt_ 0 1 rfl) (lt_ 4 33 rfl)) tr) (m_ 8 8 rfl (r1_ (m_ 8 8 rfl (a_ (a_ (a_ (AM_ok ti slots key re pu co x_k y4 e3 (sel [0, 1, 2, 3]) sj_) (a_ (rl_ (.row 33 1 (fun _ => (cT_60 ti (.map 1) key .any re (.map 2) (.map 3))) false)) (a_ (le_pmP v_Bh c_Bf (ag := true) (ks := ks1) (m := slots) (opn := [(v_Bh (Bh.mk x_k y4), 5)])) (a_ (rl_ (oM4 pu)) (a_ (rl_ (oM5 co)) tr))))) tr) (a_ (a_ (Eq.refl true) tr) (a_ (a_ (a_ (Eq.refl true) (a_ (pmSi v_Bh c_Bf k_Bh slots (Bh.mk x_k y4) (isS e7)) (List.mem_cons_self (a := ((v_Bh (Bh.mk x_k y4), 5) : LV × Nat)) (l := [])))) tr) (r1_ tr)))))))))) tr)))) tr)
 ·cases h
def BQ_v (r : (Bn) × (Bool)) : LV := .tup [v_Bn r.1, .bool r.2]
def BQ_up (slots : A_) (pu : B_) (co : C_) (r : (Bn) × (Bool)) : Upd := [(1, some (oP2 slots [])), (2, some (oM4 pu)), (3, some (oM5 co))]
def BQ_objs (ti : Bi) (slots : A_) (key : Bh) (re : D_) (pu : B_) (co : C_) : List LO := [.row 33 1 (fun _ => (cT_60 ti (.map 1) key .any re (.map 2) (.map 3))) false, oP2 slots [], oM4 pu, oM5 co]
def BQ (ti : Bi) (slots : A_) (key : Bh) (re : D_) (pu : B_) (co : C_) (x_k : I_) : Option ((Bn) × (Bool)) :=
 (Ad ti slots key re pu co x_k).bind fun y2 =>
 if (y2.1 : Bool) then
  if mget slots y2.2.1.1 = some (Bf.mk y2.2.1.2.1 y2.2.1.2.2.1 y2.2.1.2.2.2.1 y2.2.1.2.2.2.2.1 y2.2.1.2.2.2.2.2) then
  (AE (Bf.mk y2.2.1.2.1 y2.2.1.2.2.1 y2.2.1.2.2.2.1 y2.2.1.2.2.2.2.1 y2.2.1.2.2.2.2.2)).bind fun y6 =>
  some (y6.1, y6.2)
  else none
 else
  none
theorem BQ_ok (ti : Bi) (slots : A_) (key : Bh) (re : D_) (pu : B_) (co : C_) (x_k : I_) (r : (Bn) × (Bool)) (h : BQ ti slots key re pu co x_k = some r) : ∀ σ, Inj 4 σ → FnTri Tryz.prog 13 (renL σ [.ptr 0 0 0, .agg [.int .u8 x_k.a0, .int .u8 x_k.a1, .int .u8 x_k.a2, .int .u8 x_k.a3, .int .u8 x_k.a4, .int .u8 x_k.a5, .int .u8 x_k.a6, .int .u8 x_k.a7]]) (preOf σ 0 (BQ_objs ti slots key re pu co)) ((BQ_v r).ren σ) (upOf σ (BQ_up slots pu co r)) := by
 refine fo_ Tryz.func13 ⟨fun _ _ => rfl, uP, trivial, trivial, trivial⟩ ⟨uP, trivial, trivial, trivial⟩ ?_
 intro w0 W μ0 hμ
 unfold BQ at h
 obtain ⟨y2, e1, h⟩ := bs_ h
 rcases it_ h with ⟨c3, h⟩ | ⟨c3, h⟩
 ·obtain ⟨g4, h⟩ := gs_ h
  obtain ⟨y6, e5, h⟩ := bs_ h
  obtain rfl := si_ h
  exact rr_ [] 17 [.reg [], .reg [(2, hk_ (hK_ [0, 1, 2, 3, 6] (Ad_vA y2.2.1) (Ad_objs ti slots key re pu co) (Ad_upA slots pu co y2.2.1))), (3, hk_ (hK_ [6] (AE_v y6) (AE_objs (Bf.mk y2.2.1.2.1 y2.2.1.2.2.1 y2.2.1.2.2.2.1 y2.2.1.2.2.2.2.1 y2.2.1.2.2.2.2.2)) (AE_up y6)))], .x (.p (.pc 1)), .wk [] [(1, oP2 slots [])]]
   (a_ (a_ (r1_ (r2_ tr)) (a_ (r1_ (m_ 8 8 rfl (a_ (a_ (a_ (Ad_okA ti slots key re pu co x_k y2.2.1 y2.2.2 (altA e1 c3) (sel [0, 1, 2, 3, 6]) sj_) (a_ (rl_ (.row 33 1 (fun _ => (cT_60 ti (.map 1) key .any re (.map 2) (.map 3))) false)) (a_ (Eq.refl (oP2 slots [] : LO)) (a_ (rl_ (oM4 pu)) (a_ (rl_ (oM5 co)) tr))))) tr) (a_ (a_ (a_ (AE_ok (Bf.mk y2.2.1.2.1 y2.2.1.2.2.1 y2.2.1.2.2.2.1 y2.2.1.2.2.2.2.1 y2.2.1.2.2.2.2.2) y6 e5 (sel [6]) sj_) (a_ (LO.Le.ofVar (c_Bf (Bf.mk y2.2.1.2.1 y2.2.1.2.2.1 y2.2.1.2.2.2.1 y2.2.1.2.2.2.2.1 y2.2.1.2.2.2.2.2))) tr)) tr) (r2_ (a_ (a_ (a_ (Eq.refl 13) (a_ (le_ 13 13 rfl) (Eq.refl 0))) tr) (r1_ tr))))))) (a_ (a_ (getP_enc v_Bh c_Bf k_Bh slots y2.2.1.1 g4) (a_ (Eq.refl true) (a_ (Eq.refl true) (show 1 ≠ 6 from by decide)))) (a_ (a_ tr (a_ (pm_same v_Bh c_Bf k_Bh true ks1 [] (m := slots) (k := y2.2.1.1) g4) tr)) tr)))) (a_ (a_ tr (le_ 13 13 rfl)) tr))
 ·cases h
def BM_v (r : (Int) × (Int)) : LV := .tup [.int .u32 r.1, .int .i64 r.2]
def BM (x_n : Int) : Option ((Int) × (Int)) :=
 if ((decide (2147483647 ≤ x_n)) : Bool) then
  some (x_n, 17)
 else
  some ((IntKind.wrap .u32 (x_n + 1)), 0)
theorem BM_ok (x_n : Int) (r : (Int) × (Int)) (h : BM x_n = some r) : ∀ σ, Inj 0 σ → FnTri Tryz.prog 83 (renL σ [.int .u32 x_n]) (preOf σ 0 []) ((BM_v r).ren σ) (upOf σ []) := by
 refine fo_ Tryz.func83 trivial trivial ?_
 intro w0 W μ0 hμ
 unfold BM at h
 rcases it_ h with ⟨c1, h⟩ | ⟨c1, h⟩
 ·obtain rfl := si_ h
  exact rr_ [] 20 [.reg [], .reg [(1, hT)], .reg []]
   (a_ (a_ (r2_ tr) (a_ (r1_ (f_ c1 tr)) (a_ (r1_ (r2_ tr)) tr))) tr)
 ·obtain rfl := si_ h
  exact rr_ [] 21 [.reg [], .reg [(1, hF)], .reg []]
   (a_ (a_ (r2_ tr) (a_ (r1_ (f_ c1 tr)) (a_ (r4_ tr) tr))) tr)
theorem BM_tri (x_n : Int) (r : (Int) × (Int)) (h : BM x_n = some r) : FnTri Tryz.prog 83 [.int .u32 x_n] [] (BM_v r) [] := FnTri.none (BM_ok x_n r h) rfl rfl
def As_v (r : (Bool)) : LV := .bool r
def As_up (slots : A_) (pu : B_) (co : C_) (r : (Bool)) : Upd := [(1, some (oP2 slots [])), (2, some (oM4 pu)), (3, some (oM5 co))]
def As_objs (ti : Bi) (slots : A_) (key : Bh) (re : D_) (pu : B_) (co : C_) : List LO := [.row 33 1 (fun _ => (cT_60 ti (.map 1) key .any re (.map 2) (.map 3))) false, oP2 slots [], oM4 pu, oM5 co]
def As (ti : Bi) (slots : A_) (key : Bh) (re : D_) (pu : B_) (co : C_) (x_k : I_) : Option ((Bool)) :=
 (BQ ti slots key re pu co x_k).bind fun y2 =>
 (BM y2.1.f_Version).bind fun y4 =>
 some (y4.2 != 0)
theorem As_ok (ti : Bi) (slots : A_) (key : Bh) (re : D_) (pu : B_) (co : C_) (x_k : I_) (r : (Bool)) (h : As ti slots key re pu co x_k = some r) : ∀ σ, Inj 4 σ → FnTri Tryz.prog 54 (renL σ [.ptr 0 0 0, .agg [.int .u8 x_k.a0, .int .u8 x_k.a1, .int .u8 x_k.a2, .int .u8 x_k.a3, .int .u8 x_k.a4, .int .u8 x_k.a5, .int .u8 x_k.a6, .int .u8 x_k.a7]]) (preOf σ 0 (As_objs ti slots key re pu co)) ((As_v r).ren σ) (upOf σ (As_up slots pu co r)) := by
 refine fo_ Tryz.func54 ⟨fun _ _ => rfl, uP, trivial, trivial, trivial⟩ ⟨uP, trivial, trivial, trivial⟩ ?_
 intro w0 W μ0 hμ
 unfold As at h
 obtain ⟨y2, e1, h⟩ := bs_ h
 obtain ⟨y4, e3, h⟩ := bs_ h
 obtain rfl := si_ h
 exact rr_ [] 21 [.reg [], .reg [(2, hk_ (hK_ [0, 1, 2, 3] (BQ_v y2) (BQ_objs ti slots key re pu co) (BQ_up slots pu co y2)))], .reg [(2, hC (BM_v y4))], .reg []]
  (a_ (a_ (r2_ tr) (a_ (r1_ (m_ 8 8 rfl (a_ (a_ (a_ (BQ_ok ti slots key re pu co x_k y2 e1 (sel [0, 1, 2, 3]) sj_) (a_ (rl_ (.row 33 1 (fun _ => (cT_60 ti (.map 1) key .any re (.map 2) (.map 3))) false)) (a_ (Eq.refl (oP2 slots [] : LO)) (a_ (rl_ (oM4 pu)) (a_ (rl_ (oM5 co)) tr))))) tr) (r4_ (a_ (a_ (a_ (Eq.refl 13) (a_ (le_ 13 13 rfl) (Eq.refl 0))) tr) (r1_ tr)))))) (a_ (r1_ (l_ 0 13 rfl (c_ (BM_tri y2.1.f_Version y4 e3) (r1_ (r4_ tr))))) (a_ (r1_ (r2_ tr)) tr)))) tr)
def Al_v (r : (Int) × B_) : LV := .int .i64 r.1
def Al_up (slots : A_) (co : C_) (r : (Int) × B_) : Upd := [(1, some (oP2 slots [])), (2, some (oM4 r.2)), (3, some (oM5 co))]
def Al_objs (ti : Bi) (slots : A_) (key : Bh) (re : D_) (pu : B_) (co : C_) : List LO := [.row 33 1 (fun _ => (cT_60 ti (.map 1) key .any re (.map 2) (.map 3))) false, oP2 slots [], oM4 pu, oM5 co]
def Al_c5 (ti : Bi) (slots : A_) (key : Bh) (re : D_) (pu : B_) (co : C_) (x_k : I_) (s : J_) : Option ((Int) × B_) :=
 some (5, pu)
def Al_c6 (ti : Bi) (slots : A_) (key : Bh) (re : D_) (pu : B_) (co : C_) (x_k : I_) (s : J_) : Option ((Int) × B_) :=
 (As ti slots key re pu co x_k).bind fun y2 =>
 if (y2 : Bool) then
  some (17, pu)
 else
  some (0, (mset pu x_k s))
def Al (ti : Bi) (slots : A_) (key : Bh) (re : D_) (pu : B_) (co : C_) (x_k : I_) (s : J_) : Option ((Int) × B_) :=
 (Ai ti slots key re pu co x_k).bind fun y2 =>
 if ((y2 != 0) : Bool) then
  some (y2, pu)
 else
  if ((decide (64 < ((s).length : Int))) : Bool) then
   Al_c5 ti slots key re pu co x_k s
  else
   Al_c6 ti slots key re pu co x_k s
abbrev Al_K1000005 (w0 : World) (W : Nat → Prop) (μ0 : Emb) (ti : Bi) (slots : A_) (key : Bh) (re : D_) (pu : B_) (co : C_) (r : (Int) × B_) : Prop := Kt_ w0 W μ0 Tryz.f24 4 4 (Al_v r) (Al_up slots co r) (kAtR (bodyOf Tryz.f24) 5) (n_ 29 []) [some (.row 33 1 (fun _ => (cT_60 ti (.map 1) key .any re (.map 2) (.map 3))) false), some (oP2 slots []), some (oM4 pu), some (oM5 co)]
abbrev Al_K1000006 (w0 : World) (W : Nat → Prop) (μ0 : Emb) (ti : Bi) (slots : A_) (key : Bh) (re : D_) (pu : B_) (co : C_) (x_k : I_) (s : J_) (r : (Int) × B_) : Prop := Kt_ w0 W μ0 Tryz.f24 4 4 (Al_v r) (Al_up slots co r) (kAtR (bodyOf Tryz.f24) 6) ((.ptr 0 0 0) :: .any :: (.str s) :: .any :: (.ptr 4 0 0) :: n_ 24 []) [some (.row 33 1 (fun _ => (cT_60 ti (.map 1) key .any re (.map 2) (.map 3))) false), some (oP2 slots []), some (oM4 pu), some (oM5 co), some (.var [.int .u8 x_k.a0, .int .u8 x_k.a1, .int .u8 x_k.a2, .int .u8 x_k.a3, .int .u8 x_k.a4, .int .u8 x_k.a5, .int .u8 x_k.a6, .int .u8 x_k.a7])]
theorem Al_c5_ok {w0 W μ0} (hμ : Lt_ μ0 4) (ti : Bi) (slots : A_) (key : Bh) (re : D_) (pu : B_) (co : C_) (x_k : I_) (s : J_) (r : (Int) × B_) (h : Al_c5 ti slots key re pu co x_k s = some r) : Al_K1000005 w0 W μ0 ti slots key re pu co r := by
 unfold Al_c5 at h
 obtain rfl := si_ h
 exact rr_ [] 11 [.reg []]
  (a_ (a_ (r1_ tr) tr) tr)
theorem Al_c6_ok {w0 W μ0} (hμ : Lt_ μ0 4) (ti : Bi) (slots : A_) (key : Bh) (re : D_) (pu : B_) (co : C_) (x_k : I_) (s : J_) (r : (Int) × B_) (h : Al_c6 ti slots key re pu co x_k s = some r) : Al_K1000006 w0 W μ0 ti slots key re pu co x_k s r := by
 unfold Al_c6 at h
 obtain ⟨y2, E1, h⟩ := bs_ h
 rcases it_ h with ⟨C3, h⟩ | ⟨C3, h⟩
 ·obtain rfl := si_ h
  exact rr_ [] 15 [.reg [(2, hk_ (hK_ [0, 1, 2, 3] (As_v y2) (As_objs ti slots key re pu co) (As_up slots pu co y2))), (3, hT)], .reg []]
   (a_ (a_ (r1_ (m_ 8 8 rfl (a_ (a_ (a_ (As_ok ti slots key re pu co x_k y2 E1 (sel [0, 1, 2, 3]) sj_) (a_ (rl_ (.row 33 1 (fun _ => (cT_60 ti (.map 1) key .any re (.map 2) (.map 3))) false)) (a_ (Eq.refl (oP2 slots [] : LO)) (a_ (rl_ (oM4 pu)) (a_ (rl_ (oM5 co)) tr))))) tr) (f_ C3 tr)))) (a_ (r1_ tr) tr)) tr)
 ·obtain rfl := si_ h
  exact rr_ [] 20 [.reg [(2, hk_ (hK_ [0, 1, 2, 3] (As_v y2) (As_objs ti slots key re pu co) (As_up slots pu co y2))), (3, hF)], .reg [(6, { os := [(2, oM4 (mset pu x_k s))] })], .reg []]
   (a_ (a_ (r1_ (m_ 8 8 rfl (a_ (a_ (a_ (As_ok ti slots key re pu co x_k y2 E1 (sel [0, 1, 2, 3]) sj_) (a_ (rl_ (.row 33 1 (fun _ => (cT_60 ti (.map 1) key .any re (.map 2) (.map 3))) false)) (a_ (Eq.refl (oP2 slots [] : LO)) (a_ (rl_ (oM4 pu)) (a_ (rl_ (oM5 co)) tr))))) tr) (f_ C3 tr)))) (a_ (r1_ (r2_ (a_ (a_ (a_ (lt_ 0 1 rfl) (lt_ 31 33 rfl)) tr) (m_ 8 8 rfl (r1_ (a_ (a_ (a_ (Eq.refl true) (Eq.refl true)) (a_ (sub_upd (fun z_ : I_ => LV.agg [.int .u8 z_.a0, .int .u8 z_.a1, .int .u8 z_.a2, .int .u8 z_.a3, .int .u8 z_.a4, .int .u8 z_.a5, .int .u8 z_.a6, .int .u8 z_.a7]) LV.str (k_arr8 .u8) true ks3 pu x_k s) tr)) tr)))))) (a_ (r1_ tr) tr))) tr)
theorem Al_ok (ti : Bi) (slots : A_) (key : Bh) (re : D_) (pu : B_) (co : C_) (x_k : I_) (s : J_) (r : (Int) × B_) (h : Al ti slots key re pu co x_k s = some r) : ∀ σ, Inj 4 σ → FnTri Tryz.prog 24 (renL σ [.ptr 0 0 0, .agg [.int .u8 x_k.a0, .int .u8 x_k.a1, .int .u8 x_k.a2, .int .u8 x_k.a3, .int .u8 x_k.a4, .int .u8 x_k.a5, .int .u8 x_k.a6, .int .u8 x_k.a7], .str s]) (preOf σ 0 (Al_objs ti slots key re pu co)) ((Al_v r).ren σ) (upOf σ (Al_up slots co r)) := by
 refine fo_ Tryz.func24 ⟨fun _ _ => rfl, uP, trivial, trivial, trivial⟩ ⟨uP, trivial, trivial, trivial⟩ ?_
 intro w0 W μ0 hμ
 unfold Al at h
 obtain ⟨y2, e1, h⟩ := bs_ h
 rcases it_ h with ⟨c3, h⟩ | ⟨c3, h⟩
 ·obtain rfl := si_ h
  exact rr_ [] 24 [.reg [], .reg [(2, hk_ (hK_ [0, 1, 2, 3] (Ai_v y2) (Ai_objs ti slots key re pu co) (Ai_up pu co y2)))], .reg [(2, hT)], .reg []]
   (a_ (a_ (r2_ tr) (a_ (r1_ (m_ 8 8 rfl (a_ (a_ (a_ (Ai_ok ti slots key re pu co x_k y2 e1 (sel [0, 1, 2, 3]) sj_) (a_ (rl_ (.row 33 1 (fun _ => (cT_60 ti (.map 1) key .any re (.map 2) (.map 3))) false)) (a_ (le_pmP v_Bh c_Bf (ag := true) (ks := ks1) (m := slots) (opn := [])) (a_ (rl_ (oM4 pu)) (a_ (rl_ (oM5 co)) tr))))) tr) (r1_ tr)))) (a_ (r2_ (f_ c3 tr)) (a_ (r2_ tr) tr)))) tr)
 ·rcases it_ h with ⟨c4, h⟩ | ⟨c4, h⟩
  ·exact rt_ hμ [] 26 [.reg [], .reg [(2, hk_ (hK_ [0, 1, 2, 3] (Ai_v y2) (Ai_objs ti slots key re pu co) (Ai_up pu co y2)))], .reg [(2, hF)], .reg [(3, hT)]]
    (a_ (r2_ tr) (a_ (r1_ (m_ 8 8 rfl (a_ (a_ (a_ (Ai_ok ti slots key re pu co x_k y2 e1 (sel [0, 1, 2, 3]) sj_) (a_ (rl_ (.row 33 1 (fun _ => (cT_60 ti (.map 1) key .any re (.map 2) (.map 3))) false)) (a_ (le_pmP v_Bh c_Bf (ag := true) (ks := ks1) (m := slots) (opn := [])) (a_ (rl_ (oM4 pu)) (a_ (rl_ (oM5 co)) tr))))) tr) (r1_ tr)))) (a_ (r2_ (f_ c3 tr)) (a_ (r1_ (r2_ (f_ c4 tr))) tr)))) (Al_c5_ok hμ ti slots key re pu co x_k s r h) ⟨fun _ _ => rfl, uP, trivial, trivial, trivial⟩
  ·exact rt_ hμ [4] 26 [.reg [], .reg [(2, hk_ (hK_ [0, 1, 2, 3] (Ai_v y2) (Ai_objs ti slots key re pu co) (Ai_up pu co y2)))], .reg [(2, hF)], .reg [(3, hF)]]
    (a_ (r2_ tr) (a_ (r1_ (m_ 8 8 rfl (a_ (a_ (a_ (Ai_ok ti slots key re pu co x_k y2 e1 (sel [0, 1, 2, 3]) sj_) (a_ (rl_ (.row 33 1 (fun _ => (cT_60 ti (.map 1) key .any re (.map 2) (.map 3))) false)) (a_ (le_pmP v_Bh c_Bf (ag := true) (ks := ks1) (m := slots) (opn := [])) (a_ (rl_ (oM4 pu)) (a_ (rl_ (oM5 co)) tr))))) tr) (r1_ tr)))) (a_ (r2_ (f_ c3 tr)) (a_ (r1_ (r2_ (f_ c4 tr))) tr)))) (Al_c6_ok hμ ti slots key re pu co x_k s r h) ⟨fun _ _ => rfl, uP, trivial, trivial, rfl, trivial⟩
def AO_v (r : Unit) : LV := .fn 62 [] [.ptr 1 0 0]
def AO_up (m : A_) (r : Unit) : Upd := [(0, some (oP2 m [])), (1, some (.var [.map 0]))]
def AO_objs (m : A_) : List LO := [oP2 m []]
def AO (m : A_) : Option (Unit) :=
 some ()
theorem AO_ok (m : A_) (r : Unit) (h : AO m = some r) : ∀ σ, Inj 2 σ → FnTri Tryz.prog 31 (renL σ [.map 0]) (preOf σ 0 (AO_objs m)) ((AO_v r).ren σ) (upOf σ (AO_up m r)) := by
 refine fo_ Tryz.func31 ⟨uP, trivial⟩ ⟨uP, rfl, trivial⟩ ?_
 intro w0 W μ0 hμ
 unfold AO at h
 obtain rfl := si_ h
 exact rr_ [1] 15 [.reg [], .reg []]
  (a_ (a_ (r2_ tr) (a_ (r2_ tr) tr)) tr)
def so30_kc (x : (Bh)) : List Value := [.int .u8 x.f_key.a0, .int .u8 x.f_key.a1, .int .u8 x.f_key.a2, .int .u8 x.f_key.a3, .int .u8 x.f_key.a4, .int .u8 x.f_key.a5, .int .u8 x.f_key.a6, .int .u8 x.f_key.a7, .int .u8 x.f_mode]
def so30_kv (x : (Bh)) : Value := .agg #[.int .u8 x.f_key.a0, .int .u8 x.f_key.a1, .int .u8 x.f_key.a2, .int .u8 x.f_key.a3, .int .u8 x.f_key.a4, .int .u8 x.f_key.a5, .int .u8 x.f_key.a6, .int .u8 x.f_key.a7, .int .u8 x.f_mode]
def so30_kd (v : Value) : (Bh) :=
 match v with
 | .agg cs => match cs.toList with
  | [.int _ a0, .int _ a1, .int _ a2, .int _ a3, .int _ a4, .int _ a5, .int _ a6, .int _ a7, .int _ a8] => (Bh.mk (A8.mk a0 a1 a2 a3 a4 a5 a6 a7) a8)
  | _ => default
 | _ => default
theorem so30_kdv (x : (Bh)) : so30_kd (so30_kv x) = x := rfl
theorem so30_len (x : (Bh)) : (so30_kc x).length = 9 := rfl
theorem so30_one (x : (Bh)) : ∀ v ∈ so30_kc x, v.oneCell' = true := by
 intro u hu
 simp only [so30_kc, List.mem_cons, List.not_mem_nil, or_false] at hu
 rcases hu with rfl | rfl | rfl | rfl | rfl | rfl | rfl | rfl | rfl <;> rfl
theorem so30_enc (φ : Fro) (x : (Bh)) : RelFL φ (c_Bh x) (so30_kc x) := ⟨_, _, rfl, rfl, ⟨_, _, rfl, rfl, ⟨_, _, rfl, rfl, ⟨_, _, rfl, rfl, ⟨_, _, rfl, rfl, ⟨_, _, rfl, rfl, ⟨_, _, rfl, rfl, ⟨_, _, rfl, rfl, ⟨_, _, rfl, rfl, rfl⟩⟩⟩⟩⟩⟩⟩⟩⟩
theorem so30_det (φ : Fro) (x : (Bh)) (v : Value) (h : RelF φ (.agg (c_Bh x)) v) : v = so30_kv x := by
 obtain ⟨vs, rfl, h⟩ := h
 have key : ∀ (l : List Value), RelFL φ (c_Bh x) l → l = so30_kc x := by
  intro l h
  obtain ⟨r0, e0, h0⟩ := det_int h
  obtain ⟨r1, e1, h1⟩ := det_int h0
  obtain ⟨r2, e2, h2⟩ := det_int h1
  obtain ⟨r3, e3, h3⟩ := det_int h2
  obtain ⟨r4, e4, h4⟩ := det_int h3
  obtain ⟨r5, e5, h5⟩ := det_int h4
  obtain ⟨r6, e6, h6⟩ := det_int h5
  obtain ⟨r7, e7, h7⟩ := det_int h6
  obtain ⟨r8, e8, h8⟩ := det_int h7
  have e : _ = [] := h8
  subst e
  subst_vars
  rfl
 have := key _ h
 rw [← Array.toArray_toList (xs := vs), this]
 rfl
theorem so30_info : ∃ i, Tryz.prog.info? 54 = some i ∧ i.zero = some (.agg #[.int .u8 0, .int .u8 0, .int .u8 0, .int .u8 0, .int .u8 0, .int .u8 0, .int .u8 0, .int .u8 0, .int .u8 0]) ∧ i.size = 9 ∧ i.bytes = 9 := by
 have h : (Tryz.prog.info? 54).map (fun i => (i.zero, i.size, i.bytes)) = some (some (.agg #[.int .u8 0, .int .u8 0, .int .u8 0, .int .u8 0, .int .u8 0, .int .u8 0, .int .u8 0, .int .u8 0, .int .u8 0]), 9, 9) := by kernel_rfl
 obtain ⟨i, h1, h2⟩ := Option.map_eq_some_iff.1 h
 exact ⟨i, h1, congrArg (·.1) h2, congrArg (·.2.1) h2, congrArg (·.2.2) h2⟩
def so30_ApI (w : World) (pre : List (Bh)) (W : World) : Prop :=
 (∃ v, Boxed W w.heap.size 94 v ∧ W.ownsRow w.heap.size 54 9 v pre.length (pre.flatMap so30_kc) ∧ (v = .slice none 0 0 ↔ pre = [])) ∧ Below w.heap.size w W ∧ w.drawn ≤ W.drawn
theorem so30_ApI.own (w : World) (B : Nat) (hB : w.heap.size ≤ B) : OwnD B (so30_ApI w) :=
 OwnD.and (OwnFrom.d ((holdsRow_own w.heap.size w.heap.size 94 54 9 (fun (pre : List (Bh)) => pre.length) (fun pre => pre.flatMap so30_kc) (fun pre v => v = .slice none 0 0 ↔ pre = [])).from B)) (OwnD.and (OwnFrom.d (ownFrom_below (Nat.le_refl _) hB)) (ownD_drawn B _))
theorem so30_appendSeq (n : Nat) (hn : 2 ≤ n) (g : Nat) (lb : Array Value) (eg : ∀ args w, (callFunc g args).run Tryz.prog w = .ok (.enter g args) w) (S : List (Bh) → Prop) (N : Nat) (hN : N ≤ maxLen) (hNb : N * 9 ≤ 140737488355328)
  (w : World) (hseq : SeqD Fence.wide (n - 1) Tryz.prog g lb so30_kv S N w) :
  CallsIn Fence.wide n Tryz.prog 86 #[.slice none 0 0, .func (.func g) #[] lb] w fun e w' => ∃ (v : Value) (ss : List (Bh)), e = .returned v ∧ S ss ∧ w'.ownsRow w.heap.size 54 9 v ss.length (ss.flatMap so30_kc) ∧ (v = .slice none 0 0 ↔ ss = []) ∧ Below w.heap.size w w' ∧ w.drawn ≤ w'.drawn := by
 have h1 : 1 ≤ n := by omega
 refine callsIn_of_wp_marks Tryz.func86 rfl trivial ?_ rfl
 simp only [Tryz.ntmps86, List.size_toArray, List.length_cons, List.length_nil, Nat.reduceAdd, Nat.reduceSub, Array.replicate_succ, Array.replicate_zero, List.push_toArray, List.append_toArray, List.nil_append, List.cons_append]
 gi_wp2
 obtain ⟨W0, hW0⟩ : ∃ W0, w.alloc (.cells #[.slice none 0 0] 94) = W0 := ⟨_, rfl⟩
 have hs0 : W0.heap.size = w.heap.size + 1 := by rw [← hW0]; simp
 have hB0 : Boxed W0 w.heap.size 94 (.slice none 0 0) := by rw [← hW0]; exact Boxed.new w _ _
 have hb0 : Below w.heap.size w W0 := by rw [← hW0]; exact (Below.refl _ w).alloc (Nat.le_refl _) _
 rw [hW0]
 refine rangeFunc_box rfl h1 (gf := g) (lb := lb) rfl trivial eg hseq hb0 rfl (so30_ApI w) (so30_ApI.own w _ (by omega)) ⟨⟨_, hB0, World.ownsRow_nil _ _ _ _, by simp⟩, hb0, by rw [← hW0]; exact Nat.le_refl _⟩
  (fun pre x a1 W => so30_ApI w pre W ∧ ∃ bx, W.heap[bx]? = some (.cells #[.int .u8 x.f_key.a0, .int .u8 x.f_key.a1, .int .u8 x.f_key.a2, .int .u8 x.f_key.a3, .int .u8 x.f_key.a4, .int .u8 x.f_key.a5, .int .u8 x.f_key.a6, .int .u8 x.f_key.a7, .int .u8 x.f_mode] 54 (0, 0)) ∧
   a1 = { tmps := #[.slice none 0 0, .func (.func g) #[] lb, .pointer (some ⟨w.heap.size, 0, none⟩), undef, .slice none 0 0, .pointer (some ⟨bx, 0, none⟩), .func (.func g) #[] lb, so30_kv x, undef, undef, undef, undef, undef], defers := [] })
  (fun x a1 => OwnD.and (so30_ApI.own w _ (by omega)) (fun s X Y row hs hg _ hr => by
   obtain ⟨bx, hx, e⟩ := hs
   exact ⟨bx, (grownBy_keeps_cells hg (fun r e => (hr r e).2) hx rfl).trans hx, e⟩)) ?assign ?body ?done
 case assign =>
  intro l pre x W hI hlen
  unfold so30_kv
  gi_wp2_with (rw [Oper.semAt_eq _ _ _ (fun c h => by cases h)]; go_simp; try go_bits)
  exact ⟨⟨(so30_ApI.own w w.heap.size (Nat.le_refl _)).alloc _ hI, W.heap.size, World.alloc_heap_new W _, rfl⟩, KeepsOthers.alloc _ _⟩
 case body =>
  rintro l pre x a1 W ⟨⟨⟨v, hv, hrow, hnil⟩, hB, hD0⟩, bx, hbx, rfl⟩ hlen
  obtain ⟨i0, hi, hz0, hz1, hz2⟩ := so30_info
  have hc := hv.cell
  have hf := hv.frozen
  have hx0 : W.cell? ⟨bx, 0, none⟩ = some (.int .u8 x.f_key.a0) := by simp [World.cell?, hbx]
  have hx1 : W.cell? ⟨bx, 1, none⟩ = some (.int .u8 x.f_key.a1) := by simp [World.cell?, hbx]
  have hx2 : W.cell? ⟨bx, 2, none⟩ = some (.int .u8 x.f_key.a2) := by simp [World.cell?, hbx]
  have hx3 : W.cell? ⟨bx, 3, none⟩ = some (.int .u8 x.f_key.a3) := by simp [World.cell?, hbx]
  have hx4 : W.cell? ⟨bx, 4, none⟩ = some (.int .u8 x.f_key.a4) := by simp [World.cell?, hbx]
  have hx5 : W.cell? ⟨bx, 5, none⟩ = some (.int .u8 x.f_key.a5) := by simp [World.cell?, hbx]
  have hx6 : W.cell? ⟨bx, 6, none⟩ = some (.int .u8 x.f_key.a6) := by simp [World.cell?, hbx]
  have hx7 : W.cell? ⟨bx, 7, none⟩ = some (.int .u8 x.f_key.a7) := by simp [World.cell?, hbx]
  have hx8 : W.cell? ⟨bx, 8, none⟩ = some (.int .u8 x.f_mode) := by simp [World.cell?, hbx]
  have hbs := hB.size
  unfold so30_kv
  gi_wp2_with (first
   | (gi_at_builtin; refine wpListIn_append_d _ rfl _ _ 94 rfl w.heap.size 54 i0 _ 9 9 Tryz.underlying94 hi hz0 hz1 hz2 rfl (by decide) _ _ _ rfl (hrow.alloc _) ⟨W.heap.size, 0, none⟩ 1 1 (so30_kc x) rfl rfl ?_ ?_ (by omega) (by omega) (by simp; omega) ?_)
   | (rw [Oper.semAt_eq _ _ _ (fun c h => by cases h)]; go_simp; try go_bits))
  ·exact fun j u hj => cell_new W (so30_kc x) 54 j u hj
  ·intro u hu
   simp only [so30_kc, List.mem_cons, List.not_mem_nil, or_false] at hu
   rcases hu with rfl | rfl | rfl | rfl | rfl | rfl | rfl | rfl | rfl <;> rfl
  ·intro v' w3 hown' hg3 hd3 hnil3
   obtain ⟨hv3, hv4, hrow4, hko, hbe⟩ := hv.appended (by decide) hrow hbs (Nat.le_refl _) hown' hg3
   have hc3 := hv3.cell
   have hf3 := hv3.frozen
   obtain ⟨g', cap', hv'⟩ := ownsRow_succ hown'
   subst hv'
   gi_wp2_with (rw [Oper.semAt_eq _ _ _ (fun c h => by cases h)]; go_simp; try go_bits)
   refine ⟨⟨_, hv4, ?_, by simp⟩, hB.trans hbe, Nat.le_trans hD0 hd3⟩
   rw [List.length_append, List.flatMap_append]
   simpa using hrow4
 case done =>
  rintro D ss W hD hS ⟨⟨v, hv, hrow, hnil⟩, hB, hD0⟩ hK
  have hc := hv.cell
  have hf := hv.frozen
  gi_wp2
  refine ⟨by simp, .inl ⟨_, _, rfl, run_takeDeferred hK, ?_⟩⟩
  exact ⟨_, results_tmp rfl _ _ _, v, ss, rfl, hS, ownsRow_putObj hrow _ hK rfl, hnil, hB.grown (grownBy_putObj' _ _ _) hB.size (fun k e => by cases e; omega), hD0⟩
theorem so30_collect (n : Nat) (hn : 3 ≤ n) (g : Nat) (lb : Array Value) (eg : ∀ args w, (callFunc g args).run Tryz.prog w = .ok (.enter g args) w) (S : List (Bh) → Prop) (N : Nat) (hN : N ≤ maxLen) (hNb : N * 9 ≤ 140737488355328)
  (w : World) (hseq : SeqD Fence.wide (n - 1 - 1) Tryz.prog g lb so30_kv S N w) :
  CallsIn Fence.wide n Tryz.prog 60 #[.func (.func g) #[] lb] w fun e w' => ∃ (v : Value) (ss : List (Bh)), e = .returned v ∧ S ss ∧ w'.ownsRow w.heap.size 54 9 v ss.length (ss.flatMap so30_kc) ∧ (v = .slice none 0 0 ↔ ss = []) ∧ Below w.heap.size w w' ∧ w.drawn ≤ w'.drawn := by
 have h1 : 1 ≤ n := by omega
 have F78 : Fence.wide.fn 86 := trivial
 refine callsIn_of_wp Tryz.func60 rfl trivial ?_ rfl
 simp only [Tryz.ntmps60, List.size_toArray, List.length_cons, List.length_nil, Nat.reduceAdd, Nat.reduceSub, Array.replicate_succ, Array.replicate_zero, List.push_toArray, List.append_toArray, List.nil_append, List.cons_append]
 gi_wp2_with (gi_at_call 86; refine (so30_appendSeq (n - 1) (by omega) g lb eg S N hN hNb _ hseq).mono ?_; rintro e w' ⟨v, ss, rfl, hS, hrow, hnil, hb⟩)
 go_ret
 exact ⟨v, ss, rfl, hS, hrow, hnil, hb⟩
def so30_lay_ren : Go.Shelf.Ren := ⟨fun | 6 => 61 | 15 => 88 | 14 => 87 | 28 => 114 | 29 => 115 | 20 => 106 | 21 => 107 | 22 => 108 | 23 => 109 | 24 => 110 | 25 => 111 | 26 => 112 | 27 => 113 | 46 => 122 | 47 => 123 | 48 => 124 | 49 => 125 | 50 => 126 | 57 => 132 | n => n, fun | 22 => 94 | 24 => 54 | 25 => 99 | 3 => 3 | 39 => 163 | 0 => 0 | 53 => 27 | 55 => 111 | 4 => 4 | 46 => 178 | 45 => 177 | 50 => 182 | 5 => 5 | 9 => 9 | 66 => 191 | 70 => 194 | 76 => 205 | 77 => 206 | n => n, fun | n => n⟩
theorem so30_lay : Go.Proofs.SlLaysF0.n6 Tryz.prog so30_lay_ren where
 mixed := by kernel_rfl
 f6 := ⟨Tryz.f61.name, by decide, Tryz.func61.trans (congrArg some (by kernel_rfl))⟩
 f14 := ⟨Tryz.f87.name, by decide, Tryz.func87.trans (congrArg some (by kernel_rfl))⟩
 f15 := Tryz.func88.trans (congrArg some (by kernel_rfl))
 f20 := ⟨Tryz.f106.name, by decide, Tryz.func106.trans (congrArg some (by kernel_rfl))⟩
 f21 := ⟨Tryz.f107.name, by decide, Tryz.func107.trans (congrArg some (by kernel_rfl))⟩
 f22 := ⟨Tryz.f108.name, by decide, Tryz.func108.trans (congrArg some (by kernel_rfl))⟩
 f23 := ⟨Tryz.f109.name, by decide, Tryz.func109.trans (congrArg some (by kernel_rfl))⟩
 f24 := ⟨Tryz.f110.name, by decide, Tryz.func110.trans (congrArg some (by kernel_rfl))⟩
 f25 := ⟨Tryz.f111.name, by decide, Tryz.func111.trans (congrArg some (by kernel_rfl))⟩
 f26 := ⟨Tryz.f112.name, by decide, Tryz.func112.trans (congrArg some (by kernel_rfl))⟩
 f27 := ⟨Tryz.f113.name, by decide, Tryz.func113.trans (congrArg some (by kernel_rfl))⟩
 f28 := Tryz.func114.trans (congrArg some (by kernel_rfl))
 f29 := Tryz.func115.trans (congrArg some (by kernel_rfl))
 f46 := ⟨Tryz.f122.name, by decide, Tryz.func122.trans (congrArg some (by kernel_rfl))⟩
 f47 := Tryz.func123.trans (congrArg some (by kernel_rfl))
 f48 := Tryz.func124.trans (congrArg some (by kernel_rfl))
 f49 := ⟨Tryz.f125.name, by decide, Tryz.func125.trans (congrArg some (by kernel_rfl))⟩
 f50 := ⟨Tryz.f126.name, by decide, Tryz.func126.trans (congrArg some (by kernel_rfl))⟩
 f57 := ⟨Tryz.f132.name, by decide, Tryz.func132.trans (congrArg some (by kernel_rfl))⟩
 t0 := Tryz.underlying0
 a0 := Tryz.isAgg0
 z0 := Tryz.sizeOf0
 v0 := Tryz.zeroValue0
 t3 := Tryz.underlying3
 a3 := Tryz.isAgg3
 z3 := Tryz.sizeOf3
 v3 := Tryz.zeroValue3
 t4 := Tryz.underlying4
 a4 := Tryz.isAgg4
 z4 := Tryz.sizeOf4
 v4 := Tryz.zeroValue4
 t5 := Tryz.underlying5
 a5 := Tryz.isAgg5
 z5 := Tryz.sizeOf5
 v5 := Tryz.zeroValue5
 t9 := Tryz.underlying9
 a9 := Tryz.isAgg9
 z9 := Tryz.sizeOf9
 v9 := Tryz.zeroValue9
 t22 := Tryz.underlying94
 a22 := Tryz.isAgg94
 z22 := Tryz.sizeOf94
 v22 := Tryz.zeroValue94
 t25 := Tryz.underlying99
 a25 := Tryz.isAgg99
 z25 := Tryz.sizeOf99
 v25 := Tryz.zeroValue99
 t39 := Tryz.underlying163
 a39 := Tryz.isAgg163
 z39 := Tryz.sizeOf163
 v39 := Tryz.zeroValue163
 t45 := Tryz.underlying177
 a45 := Tryz.isAgg177
 z45 := Tryz.sizeOf177
 v45 := Tryz.zeroValue177
 t46 := Tryz.underlying178
 a46 := Tryz.isAgg178
 z46 := Tryz.sizeOf178
 v46 := Tryz.zeroValue178
 t50 := Tryz.underlying182
 a50 := Tryz.isAgg182
 z50 := Tryz.sizeOf182
 v50 := Tryz.zeroValue182
 t53 := Tryz.underlying27
 a53 := Tryz.isAgg27
 z53 := Tryz.sizeOf27
 v53 := Tryz.zeroValue27
 t55 := Tryz.underlying111
 a55 := Tryz.isAgg111
 z55 := Tryz.sizeOf111
 v55 := Tryz.zeroValue111
 t66 := Tryz.underlying191
 a66 := Tryz.isAgg191
 z66 := Tryz.sizeOf191
 v66 := Tryz.zeroValue191
 t70 := Tryz.underlying194
 a70 := Tryz.isAgg194
 z70 := Tryz.sizeOf194
 v70 := Tryz.zeroValue194
 t76 := Tryz.underlying205
 a76 := Tryz.isAgg205
 z76 := Tryz.sizeOf205
 v76 := Tryz.zeroValue205
 t77 := Tryz.underlying206
 a77 := Tryz.isAgg206
 z77 := Tryz.sizeOf206
 v77 := Tryz.zeroValue206
theorem so30_sortedF (k1 g : Nat) (lb lbg : Array Value) (e1 : ∀ args w, (callFunc k1 args).run Tryz.prog w = .ok (.enter k1 args) w) (eg : ∀ args w, (callFunc g args).run Tryz.prog w = .ok (.enter g args) w)
  (cf : (Bh) → (Bh) → Int) (hT : TotCmp cf)
  (ks : List (Bh)) (hN : ks.length ≤ maxLen) (hNb : ks.length * 9 ≤ 140737488355328) (w : World) (hcmp : ∀ w1 blk off size, Below w.heap.size w w1 → w.heap.size ≤ blk → Go.Proofs.CmpLays Tryz.prog g lbg so30_kc 9 cf blk off size w1) (hseq : SeqD Fence.wide 8 Tryz.prog k1 lb so30_kv (fun xs => xs.Perm ks) ks.length w) :
  Calls Tryz.prog 30 #[.func (.func k1) #[] lb, .func (.func g) #[] lbg] w fun e w' => ∃ v, e = .returned v ∧ Below w.heap.size w w' ∧ w.drawn ≤ w'.drawn ∧ SortedAt so30_kc 9 w w' v (sortL cf ks) := by
 have hc : Calls Tryz.prog 60 #[.func (.func k1) #[] lb] w _ := callsIn_wide.1 (so30_collect 10 (by omega) k1 lb e1 _ ks.length hN hNb w hseq)
 have hsort : ∀ (w1 : World) (v : Value) (ss : List (Bh)), ss.Perm ks → w1.ownsRow w.heap.size 54 9 v ss.length (ss.flatMap so30_kc) → (v = .slice none 0 0 ↔ ss = []) → Below w.heap.size w w1 →
   Calls Tryz.prog 61 #[v, .func (.func g) #[] lbg] w1 fun e w' => e = .returned (.tuple #[]) ∧ Below w.heap.size w1 w' ∧ w1.drawn ≤ w'.drawn ∧ SortedAt so30_kc 9 w w' v (sortL cf ks) := by
  intro w1 v ss hS hrow hnil hb
  by_cases hss : ss = []
  ·subst hss
   rw [hnil.2 rfl]
   have hks : ks = [] := List.length_eq_zero_iff.1 (by rw [← hS.length_eq]; rfl)
   have h := Go.Proofs.AnyF.slices_SortFunc_none so30_lay none 0 (.func (.func g) #[] lbg) w1
   change Calls Tryz.prog 61 _ _ _ at h
   refine h.mono ?_
   rintro e w' ⟨rfl, rfl⟩
   exact ⟨rfl, Below.refl _ _, Nat.le_refl _, .inl ⟨rfl, by subst hks; exact List.eq_nil_of_length_eq_zero (sortL_len cf [])⟩⟩
  ·obtain ⟨m, hm⟩ : ∃ m, ss.length = m + 1 := ⟨ss.length - 1, by have := List.length_pos_iff.2 hss; omega⟩
   obtain ⟨blk, cap, hv⟩ := ownsRow_succ (by rw [hm] at hrow; exact hrow)
   rw [← hm] at hv
   subst hv
   obtain ⟨h1, h2, h3, h4, _⟩ := holds_of_owns so30_len hrow
   have hsz : ss.toArray.size < 4611686018427387904 := by
    have := hS.length_eq
    simp only [List.size_toArray]
    omega
   have h := Go.Proofs.AnyQ.slices_SortFunc_total so30_lay 9 Tryz.isAgg54 Tryz.sizeOf54 so30_kc so30_len so30_one cf hT.swo g lbg blk 0 cap ss.toArray w1 eg (hcmp w1 blk 0 _ hb h2) h1 h3 hsz hT.tot
   change Calls Tryz.prog 61 _ _ _ at h
   rw [List.size_toArray] at h
   refine h.mono ?_
   rintro e w' ⟨rfl, n, os, rfl⟩
   have hbs := below_sort so30_kc 9 w1 blk 0 n (sortL cf ss).toArray os w.heap.size h2 hb.size
   refine ⟨rfl, hbs.1, hbs.2, ?_⟩
   rw [← sortL_of_perm hT hS]
   exact sortedAt_of so30_len (by decide) (Nat.le_refl _) hrow (sortL_len cf ss) hss rfl
 clear hseq hcmp
 go_enter Tryz.func30, Tryz.ntmps30
 go_wp2_with (first
  | (go_at_call 60; refine hc.mono ?_; rintro e w1 ⟨v, ss, rfl, hS, hrow, hnil, hb, hd⟩)
  | (go_at_call 61; refine (hsort w1 v ss hS hrow hnil hb).mono ?_; rintro e w2 ⟨rfl, hb2, hd2, hs2⟩))
 go_ret
 exact ⟨v, rfl, hb.trans hb2, Nat.le_trans hd hd2, hs2⟩
def Aa_v (r : (Bool)) : LV := .bool r
def Aa (x : Int) : Option ((Bool)) :=
 some (x != x)
theorem Aa_ok (x : Int) (r : (Bool)) (h : Aa x = some r) : ∀ σ, Inj 0 σ → FnTri Tryz.prog 90 (renL σ [.int .u8 x]) (preOf σ 0 []) ((Aa_v r).ren σ) (upOf σ []) := by
 refine fo_ Tryz.func90 trivial trivial ?_
 intro w0 W μ0 hμ
 unfold Aa at h
 obtain rfl := si_ h
 exact rr_ [] 15 [.reg [], .reg []]
  (a_ (a_ (r1_ tr) (a_ (r4_ tr) tr)) tr)
theorem Aa_tri (x : Int) (r : (Bool)) (h : Aa x = some r) : FnTri Tryz.prog 90 [.int .u8 x] [] (Aa_v r) [] := FnTri.none (Aa_ok x r h) rfl rfl
def Ar_v (r : (Int)) : LV := .int .i64 r
def Ar (x y : Int) : Option ((Int)) :=
 (Aa x).bind fun y2 =>
 (Aa y).bind fun y4 =>
 if (y2 : Bool) then
  if (y4 : Bool) then
   some 0
  else
   some (-1)
 else
  if (y4 : Bool) then
   some 1
  else
   if ((decide (x < y)) : Bool) then
    some (-1)
   else
    if ((decide (y < x)) : Bool) then
     some 1
    else
     some 0
theorem Ar_ok (x y : Int) (r : (Int)) (h : Ar x y = some r) : ∀ σ, Inj 0 σ → FnTri Tryz.prog 65 (renL σ [.int .u8 x, .int .u8 y]) (preOf σ 0 []) ((Ar_v r).ren σ) (upOf σ []) := by
 refine fo_ Tryz.func65 trivial trivial ?_
 intro w0 W μ0 hμ
 unfold Ar at h
 obtain ⟨y2, e1, h⟩ := bs_ h
 obtain ⟨y4, e3, h⟩ := bs_ h
 rcases it_ h with ⟨c5, h⟩ | ⟨c5, h⟩
 ·rcases it_ h with ⟨c6, h⟩ | ⟨c6, h⟩
  ·obtain rfl := si_ h
   exact rr_ [] 31 [.reg [], .reg [(1, hC (Aa_v y2))], .reg [(1, hC (Aa_v y4))], .reg [(0, hT)], .reg [(0, hT)], .reg []]
    (a_ (a_ (r1_ tr) (a_ (r1_ (c_ (Aa_tri x y2 e1) (r1_ tr))) (a_ (r1_ (c_ (Aa_tri y y4 e3) (r1_ tr))) (a_ (f_ c5 tr) (a_ (f_ c6 tr) (a_ (r1_ tr) tr)))))) tr)
  ·obtain rfl := si_ h
   exact rr_ [] 32 [.reg [], .reg [(1, hC (Aa_v y2))], .reg [(1, hC (Aa_v y4))], .reg [(0, hT)], .reg [(0, hF)], .reg []]
    (a_ (a_ (r1_ tr) (a_ (r1_ (c_ (Aa_tri x y2 e1) (r1_ tr))) (a_ (r1_ (c_ (Aa_tri y y4 e3) (r1_ tr))) (a_ (f_ c5 tr) (a_ (f_ c6 tr) (a_ (r1_ tr) tr)))))) tr)
 ·rcases it_ h with ⟨c6, h⟩ | ⟨c6, h⟩
  ·obtain rfl := si_ h
   exact rr_ [] 32 [.reg [], .reg [(1, hC (Aa_v y2))], .reg [(1, hC (Aa_v y4))], .reg [(0, hF)], .reg [(0, hT)], .reg []]
    (a_ (a_ (r1_ tr) (a_ (r1_ (c_ (Aa_tri x y2 e1) (r1_ tr))) (a_ (r1_ (c_ (Aa_tri y y4 e3) (r1_ tr))) (a_ (f_ c5 tr) (a_ (f_ c6 tr) (a_ (r1_ tr) tr)))))) tr)
  ·rcases it_ h with ⟨c7, h⟩ | ⟨c7, h⟩
   ·obtain rfl := si_ h
    exact rr_ [] 38 [.reg [], .reg [(1, hC (Aa_v y2))], .reg [(1, hC (Aa_v y4))], .reg [(0, hF)], .reg [(0, hF)], .reg [(2, hT)], .reg []]
     (a_ (a_ (r1_ tr) (a_ (r1_ (c_ (Aa_tri x y2 e1) (r1_ tr))) (a_ (r1_ (c_ (Aa_tri y y4 e3) (r1_ tr))) (a_ (f_ c5 tr) (a_ (f_ c6 tr) (a_ (r2_ (f_ c7 tr)) (a_ (r1_ tr) tr))))))) tr)
   ·rcases it_ h with ⟨c8, h⟩ | ⟨c8, h⟩
    ·obtain rfl := si_ h
     exact rr_ [] 44 [.reg [], .reg [(1, hC (Aa_v y2))], .reg [(1, hC (Aa_v y4))], .reg [(0, hF)], .reg [(0, hF)], .reg [(2, hF)], .reg [(2, hT)], .reg []]
      (a_ (a_ (r1_ tr) (a_ (r1_ (c_ (Aa_tri x y2 e1) (r1_ tr))) (a_ (r1_ (c_ (Aa_tri y y4 e3) (r1_ tr))) (a_ (f_ c5 tr) (a_ (f_ c6 tr) (a_ (r2_ (f_ c7 tr)) (a_ (r2_ (f_ c8 tr)) (a_ (r1_ tr) tr)))))))) tr)
    ·obtain rfl := si_ h
     exact rr_ [] 45 [.reg [], .reg [(1, hC (Aa_v y2))], .reg [(1, hC (Aa_v y4))], .reg [(0, hF)], .reg [(0, hF)], .reg [(2, hF)], .reg [(2, hF)], .reg []]
      (a_ (a_ (r1_ tr) (a_ (r1_ (c_ (Aa_tri x y2 e1) (r1_ tr))) (a_ (r1_ (c_ (Aa_tri y y4 e3) (r1_ tr))) (a_ (f_ c5 tr) (a_ (f_ c6 tr) (a_ (r2_ (f_ c7 tr)) (a_ (r2_ (f_ c8 tr)) (a_ (r1_ tr) tr)))))))) tr)
theorem Ar_tri (x y : Int) (r : (Int)) (h : Ar x y = some r) : FnTri Tryz.prog 65 [.int .u8 x, .int .u8 y] [] (Ar_v r) [] := FnTri.none (Ar_ok x y r h) rfl rfl
def AU_v (r : (Int)) : LV := .int .i64 r
def AU_up (s1 s2 : I_) (r : (Int)) : Upd := [(0, some (.var [.int .u8 s1.a0, .int .u8 s1.a1, .int .u8 s1.a2, .int .u8 s1.a3, .int .u8 s1.a4, .int .u8 s1.a5, .int .u8 s1.a6, .int .u8 s1.a7])), (1, some (.var [.int .u8 s2.a0, .int .u8 s2.a1, .int .u8 s2.a2, .int .u8 s2.a3, .int .u8 s2.a4, .int .u8 s2.a5, .int .u8 s2.a6, .int .u8 s2.a7]))]
def AU_objs (s1 s2 : I_) : List LO := [.var [.int .u8 s1.a0, .int .u8 s1.a1, .int .u8 s1.a2, .int .u8 s1.a3, .int .u8 s1.a4, .int .u8 s1.a5, .int .u8 s1.a6, .int .u8 s1.a7], .var [.int .u8 s2.a0, .int .u8 s2.a1, .int .u8 s2.a2, .int .u8 s2.a3, .int .u8 s2.a4, .int .u8 s2.a5, .int .u8 s2.a6, .int .u8 s2.a7]]
def AU_l0 (s1 s2 : I_) : Nat → (Int) → Option ((Int))
 | 0, _ => none
 | fuel + 1, t11 =>
  if ((decide (t11 < 8)) : Bool) then
   if 0 ≤ t11 ∧ t11 < 8 then
   if ((decide (8 ≤ t11)) : Bool) then
    some 1
   else
    (Ar (A8.get s1 t11.toNat) (A8.get s2 t11.toNat)).bind fun y5 =>
    if ((y5 != 0) : Bool) then
     some y5
    else
     AU_l0 s1 s2 fuel (IntKind.wrap .i64 (t11 + 1))
   else none
  else
   some 0
def AU (s1 s2 : I_) : Option ((Int)) :=
 AU_l0 s1 s2 big 0
abbrev AU_K0 (w0 : World) (W : Nat → Prop) (μ0 : Emb) (s1 s2 : I_) (t11 : Int) (r : (Int)) : Prop := Kt_ w0 W μ0 Tryz.f89 2 2 (AU_v r) (AU_up s1 s2 r) (kAt (bodyOf Tryz.f89) 0) ((.sl 0 0 0 true 8 (some 8)) :: (.sl 1 0 0 true 8 (some 8)) :: n_ 7 ((.sl 0 0 0 true 8 (some 8)) :: (.int .i64 8) :: (.int .i64 t11) :: n_ 24 [])) [some (.var [.int .u8 s1.a0, .int .u8 s1.a1, .int .u8 s1.a2, .int .u8 s1.a3, .int .u8 s1.a4, .int .u8 s1.a5, .int .u8 s1.a6, .int .u8 s1.a7]), some (.var [.int .u8 s2.a0, .int .u8 s2.a1, .int .u8 s2.a2, .int .u8 s2.a3, .int .u8 s2.a4, .int .u8 s2.a5, .int .u8 s2.a6, .int .u8 s2.a7])]
theorem AU_l0_ok {w0 W μ0} (hμ : Lt_ μ0 2) (s1 s2 : I_) : ∀ (fuel : Nat) (t11 : Int) (r : (Int)), AU_l0 s1 s2 fuel t11 = some r → AU_K0 w0 W μ0 s1 s2 t11 r := by
 intro fuel
 induction fuel with
 | zero => intro t11 r h; rw [AU_l0] at h; cases h
 | succ fuel ih =>
  intro t11 r h
  rw [AU_l0] at h
  rcases it_ h with ⟨C1, h⟩ | ⟨C1, h⟩
  ·obtain ⟨G2, h⟩ := gs_ h
   rcases it_ h with ⟨C3, h⟩ | ⟨C3, h⟩
   ·obtain rfl := si_ h
    exact rr_ [] 29 [.go, .reg [(0, hT)], .reg [(2, hv_ (.int .u8 (A8.get s1 t11.toNat)))], .reg [(3, hT)], .reg []]
     (a_ (a_ (f_ C1 tr) (a_ (r1_ (a_ (a_ G2 tr) (a_ (a_ (a_ tr (arrLt (len := 8) G2 0 1 8 rfl rfl)) (a_ (ld8s (cInt .u8) 1 (fun _ => rfl) s1 [] [] 0 rfl t11.toNat (lt8N G2) (le_ (0 + 1) 1 rfl)) tr)) (r2_ tr)))) (a_ (r1_ (r2_ (f_ C3 tr))) (a_ (r1_ tr) tr)))) tr)
   ·obtain ⟨y5, E4, h⟩ := bs_ h
    rcases it_ h with ⟨C6, h⟩ | ⟨C6, h⟩
    ·obtain rfl := si_ h
     exact rr_ [] 40 [.go, .reg [(0, hT)], .reg [(2, hv_ (.int .u8 (A8.get s1 t11.toNat)))], .reg [(3, hF)], .reg [(3, hv_ (.int .u8 (A8.get s2 t11.toNat)))], .reg [(2, hC (Ar_v y5))], .reg [(1, hT)], .reg []]
      (a_ (a_ (f_ C1 tr) (a_ (r1_ (a_ (a_ G2 tr) (a_ (a_ (a_ tr (arrLt (len := 8) G2 0 1 8 rfl rfl)) (a_ (ld8s (cInt .u8) 1 (fun _ => rfl) s1 [] [] 0 rfl t11.toNat (lt8N G2) (le_ (0 + 1) 1 rfl)) tr)) (r2_ tr)))) (a_ (r1_ (r2_ (f_ C3 tr))) (a_ (r2_ (a_ (a_ G2 tr) (a_ (a_ (a_ tr (arrLt (len := 8) G2 0 1 8 rfl rfl)) (a_ (ld8s (cInt .u8) 1 (fun _ => rfl) s2 [] [] 0 rfl t11.toNat (lt8N G2) (le_ (0 + 1) 1 rfl)) tr)) (r1_ tr)))) (a_ (r2_ (a_ (a_ (a_ (Ar_tri (A8.get s1 t11.toNat) (A8.get s2 t11.toNat) y5 E4) tr) tr) (r1_ tr))) (a_ (r1_ (f_ C6 tr)) (a_ (r2_ tr) tr))))))) tr)
    ·exact rt_ hμ [] 41 [.go, .reg [(0, hT)], .reg [(2, hv_ (.int .u8 (A8.get s1 t11.toNat)))], .reg [(3, hF)], .reg [(3, hv_ (.int .u8 (A8.get s2 t11.toNat)))], .reg [(2, hC (Ar_v y5))], .reg [(1, hF)], .reg []]
      (a_ (f_ C1 tr) (a_ (r1_ (a_ (a_ G2 tr) (a_ (a_ (a_ tr (arrLt (len := 8) G2 0 1 8 rfl rfl)) (a_ (ld8s (cInt .u8) 1 (fun _ => rfl) s1 [] [] 0 rfl t11.toNat (lt8N G2) (le_ (0 + 1) 1 rfl)) tr)) (r2_ tr)))) (a_ (r1_ (r2_ (f_ C3 tr))) (a_ (r2_ (a_ (a_ G2 tr) (a_ (a_ (a_ tr (arrLt (len := 8) G2 0 1 8 rfl rfl)) (a_ (ld8s (cInt .u8) 1 (fun _ => rfl) s2 [] [] 0 rfl t11.toNat (lt8N G2) (le_ (0 + 1) 1 rfl)) tr)) (r1_ tr)))) (a_ (r2_ (a_ (a_ (a_ (Ar_tri (A8.get s1 t11.toNat) (A8.get s2 t11.toNat) y5 E4) tr) tr) (r1_ tr))) (a_ (r1_ (f_ C6 tr)) (a_ (r2_ tr) tr))))))) (ih _ r h) ⟨rfl, rfl, trivial⟩
  ·obtain rfl := si_ h
   exact rr_ [] 25 [.go, .reg [(0, hF)], .reg [], .reg []]
    (a_ (a_ (f_ C1 tr) (a_ (r1_ (r4_ tr)) (a_ (r1_ tr) tr))) tr)
theorem AU_ok (s1 s2 : I_) (r : (Int)) (h : AU s1 s2 = some r) : ∀ σ, Inj 2 σ → FnTri Tryz.prog 89 (renL σ [.sl 0 0 0 true 8 (some 8), .sl 1 0 0 true 8 (some 8)]) (preOf σ 0 (AU_objs s1 s2)) ((AU_v r).ren σ) (upOf σ (AU_up s1 s2 r)) := by
 refine fo_ Tryz.func89 ⟨rfl, rfl, trivial⟩ ⟨rfl, rfl, trivial⟩ ?_
 intro w0 W μ0 hμ
 unfold AU at h
 exact rt_ hμ [] 18 [.reg [], .reg []]
  (a_ (r1_ tr) (a_ (r1_ (r2_ tr)) tr)) (AU_l0_ok hμ s1 s2 big _ r h) ⟨rfl, rfl, trivial⟩
def Bc_v (r : (Int)) : LV := .int .i64 r
def Bc (a b : I_) : Option ((Int)) :=
 (AU a b).bind fun y2 =>
 some y2
theorem Bc_ok (a b : I_) (r : (Int)) (h : Bc a b = some r) : ∀ σ, Inj 0 σ → FnTri Tryz.prog 64 (renL σ [.agg [.int .u8 a.a0, .int .u8 a.a1, .int .u8 a.a2, .int .u8 a.a3, .int .u8 a.a4, .int .u8 a.a5, .int .u8 a.a6, .int .u8 a.a7], .agg [.int .u8 b.a0, .int .u8 b.a1, .int .u8 b.a2, .int .u8 b.a3, .int .u8 b.a4, .int .u8 b.a5, .int .u8 b.a6, .int .u8 b.a7]]) (preOf σ 0 []) ((Bc_v r).ren σ) (upOf σ []) := by
 refine fo_ Tryz.func64 trivial trivial ?_
 intro w0 W μ0 hμ
 unfold Bc at h
 obtain ⟨y2, e1, h⟩ := bs_ h
 obtain rfl := si_ h
 exact rr_ [] 15 [.reg [], .reg [(2, hk_ (hK_ [0, 1] (AU_v y2) (AU_objs a b) (AU_up a b y2)))]]
  (a_ (a_ (r1_ (r2_ tr)) (a_ (a_ (a_ (a_ (lei_ 0 0 rfl) (a_ (lei_ 0 8 rfl) (lei_ 8 8 rfl))) tr) (a_ (a_ (a_ (lei_ 0 0 rfl) (a_ (lei_ 0 8 rfl) (lei_ 8 8 rfl))) tr) (a_ (a_ (a_ (AU_ok a b y2 e1 (sel [0, 1]) sj_) (a_ (rl_ (.var [.int .u8 a.a0, .int .u8 a.a1, .int .u8 a.a2, .int .u8 a.a3, .int .u8 a.a4, .int .u8 a.a5, .int .u8 a.a6, .int .u8 a.a7])) (a_ (rl_ (.var [.int .u8 b.a0, .int .u8 b.a1, .int .u8 b.a2, .int .u8 b.a3, .int .u8 b.a4, .int .u8 b.a5, .int .u8 b.a6, .int .u8 b.a7])) tr))) tr) (r1_ tr)))) tr)) tr)
theorem Bc_tri (a b : I_) (r : (Int)) (h : Bc a b = some r) : FnTri Tryz.prog 64 [.agg [.int .u8 a.a0, .int .u8 a.a1, .int .u8 a.a2, .int .u8 a.a3, .int .u8 a.a4, .int .u8 a.a5, .int .u8 a.a6, .int .u8 a.a7], .agg [.int .u8 b.a0, .int .u8 b.a1, .int .u8 b.a2, .int .u8 b.a3, .int .u8 b.a4, .int .u8 b.a5, .int .u8 b.a6, .int .u8 b.a7]] [] (Bc_v r) [] := FnTri.none (Bc_ok a b r h) rfl rfl
def BC_v (r : (Int)) : LV := .int .i64 r
def BC_l0 (vals : List (Int)) : Nat → (Int) → Option ((Int))
 | 0, _ => none
 | fuel + 1, t8 =>
  if ((decide (t8 < ((vals).length : Int))) : Bool) then
   if 0 ≤ t8 ∧ t8 < (((vals).length : Nat) : Int) then
   if (((vals.getD t8.toNat default) != 0) : Bool) then
    some (vals.getD t8.toNat default)
   else
    BC_l0 vals fuel (IntKind.wrap .i64 (t8 + 1))
   else none
  else
   some 0
def BC (vals : List (Int)) : Option ((Int)) :=
 BC_l0 vals big 0
abbrev BC_K0 (w0 : World) (W : Nat → Prop) (μ0 : Emb) (vals : List (Int)) (t8 : Int) (r : (Int)) : Prop := Kt_ w0 W μ0 Tryz.f63 0 0 (BC_v r) [] (kAt (bodyOf Tryz.f63) 0) (.any :: .any :: .any :: (.int .i64 0) :: .any :: .any :: (.ds 1 (vals).length (rowF (cInt .i64) default vals)) :: (.int .i64 ((vals).length : Int)) :: (.int .i64 t8) :: n_ 9 []) []
theorem BC_l0_ok {w0 W μ0} (hμ : Lt_ μ0 0) (vals : List (Int)) : ∀ (fuel : Nat) (t8 : Int) (r : (Int)), BC_l0 vals fuel t8 = some r → BC_K0 w0 W μ0 vals t8 r := by
 intro fuel
 induction fuel with
 | zero => intro t8 r h; rw [BC_l0] at h; cases h
 | succ fuel ih =>
  intro t8 r h
  rw [BC_l0] at h
  rcases it_ h with ⟨C1, h⟩ | ⟨C1, h⟩
  ·obtain ⟨G2, h⟩ := gs_ h
   rcases it_ h with ⟨C3, h⟩ | ⟨C3, h⟩
   ·obtain rfl := si_ h
    exact rr_ [] 28 [.go, .reg [(0, hT)], .reg [], .reg [(2, hT)], .reg []]
     (a_ (a_ (f_ C1 tr) (a_ (a_ (a_ (a_ (Eq.refl 1) G2) tr) (a_ (a_ (lt_ 0 1 rfl) tr) (r1_ tr))) (a_ (r2_ (f_ C3 tr)) (a_ (r2_ tr) tr)))) tr)
   ·exact rt_ hμ [] 29 [.go, .reg [(0, hT)], .reg [], .reg [(2, hF)], .reg []]
     (a_ (f_ C1 tr) (a_ (a_ (a_ (a_ (Eq.refl 1) G2) tr) (a_ (a_ (lt_ 0 1 rfl) tr) (r1_ tr))) (a_ (r2_ (f_ C3 tr)) (a_ (r2_ tr) tr)))) (ih _ r h) trivial
  ·obtain rfl := si_ h
   exact rr_ [] 19 [.go, .reg [(0, hF)], .reg []]
    (a_ (a_ (f_ C1 tr) (a_ (r2_ tr) tr)) tr)
theorem BC_ok (vals : List (Int)) (r : (Int)) (h : BC vals = some r) : ∀ σ, Inj 0 σ → FnTri Tryz.prog 63 (renL σ [.ds 1 (vals).length (rowF (cInt .i64) default vals)]) (preOf σ 0 []) ((BC_v r).ren σ) (upOf σ []) := by
 refine fo_ Tryz.func63 trivial trivial ?_
 intro w0 W μ0 hμ
 unfold BC at h
 exact rt_ hμ [] 21 [.reg [], .reg [], .reg []]
  (a_ (r1_ tr) (a_ (r1_ tr) (a_ (r1_ (r2_ tr)) tr))) (BC_l0_ok hμ vals big _ r h) trivial
theorem BC_tri (vals : List (Int)) (r : (Int)) (h : BC vals = some r) : FnTri Tryz.prog 63 [.ds 1 (vals).length (rowF (cInt .i64) default vals)] [] (BC_v r) [] := FnTri.none (BC_ok vals r h) rfl rfl
def Bd_v (r : (Int)) : LV := .int .i64 r
def Bd (a b : Bh) : Option ((Int)) :=
 (Bc a.f_key b.f_key).bind fun y2 =>
 (Ar a.f_mode b.f_mode).bind fun y4 =>
 (BC ([y2, y4] : List (Int))).bind fun y6 =>
 some y6
theorem Bd_ok (a b : Bh) (r : (Int)) (h : Bd a b = some r) : ∀ σ, Inj 0 σ → FnTri Tryz.prog 32 (renL σ [v_Bh a, v_Bh b]) (preOf σ 0 []) ((Bd_v r).ren σ) (upOf σ []) := by
 refine fo_ Tryz.func32 trivial trivial ?_
 intro w0 W μ0 hμ
 unfold Bd at h
 obtain ⟨y2, e1, h⟩ := bs_ h
 obtain ⟨y4, e3, h⟩ := bs_ h
 obtain ⟨y6, e5, h⟩ := bs_ h
 obtain rfl := si_ h
 exact rr_ [] 15 [.reg [], .reg [(4, hC (Bc_v y2)), (9, hC (Ar_v y4)), (10, { os := [(2, .gr 1 (([y2, y4] : List (Int))).length (rowF (cInt .i64) default ([y2, y4] : List (Int))))], v := some (.gs 2 (([y2, y4] : List (Int))).length), fz := true }), (11, hC (BC_v y6))]]
  (a_ (a_ (r1_ (r2_ tr)) (a_ (r1_ (m_ 8 9 rfl (r1_ (m_ 8 9 rfl (c_ (Bc_tri a.f_key b.f_key y2 e1) (r1_ (l_ 8 9 rfl (r1_ (l_ 8 9 rfl (c_ (Ar_tri a.f_mode b.f_mode y4 e3) (a_ (a_ (a_ (a_ (Eq.refl true) (a_ (Eq.refl 1) (a_ (lt_ 0 1 rfl) (le_ 2 16777216 rfl)))) (a_ (le_sl_gs 2 2 (some 2) rfl) (a_ (sub_lit (cInt .i64) default 1 (fun _ => rfl) ([y2, y4] : List (Int))) tr))) (a_ (Nat.le_refl (([y2, y4] : List (Int))).length) (fz_row (enc := (cInt .i64)) (d := default) (fun _ => rfl) ([y2, y4] : List (Int))))) (a_ (a_ (a_ (BC_tri ([y2, y4] : List (Int)) y6 e5) tr) tr) (r1_ tr))))))))))))) tr)) tr)
theorem Bd_tri (a b : Bh) (r : (Int)) (h : Bd a b = some r) : FnTri Tryz.prog 32 [v_Bh a, v_Bh b] [] (Bd_v r) [] := FnTri.none (Bd_ok a b r h) rfl rfl
theorem so30k62_keys (n : Nat) (Bm b : Nat) (es : Array MapEntry) (clock : Nat) (ks : List (Bh)) (w : World) (off : Nat) (hm : w.cell? ⟨Bm, off, none⟩ = some (.map (some b))) (hBm : Bm < w.heap.size) (hb : w.heap[b]? = some (.map es clock))
  (hold : ∀ x ∈ es.toList, x.born < clock) (hnd : (es.toList.map (·.born)).Nodup) (hk : es.toList.map (·.key) = ks.map so30_kv) :
  SeqD Fence.wide n Tryz.prog 62 #[.pointer (some ⟨Bm, off, none⟩)] so30_kv (fun xs => xs.Perm ks) es.size w := fun l J W hW hJ hY h0 => by
 have hbW : W.heap[b]? = some (.map es clock) := (hW.block b (Array.getElem?_eq_some_iff.1 hb).1).trans hb
 have hc : W.cell? ⟨Bm, off, none⟩ = some (.map (some b)) := (World.cell?_of_block (hW.block Bm hBm)).trans hm
 refine callsIn_of_wp Tryz.func62 rfl trivial ?_ rfl
 simp only [Tryz.ntmps62, List.size_toArray, List.length_cons, List.length_nil, Nat.reduceAdd, Nat.reduceSub, Array.replicate_succ, Array.replicate_zero, List.push_toArray, List.append_toArray, List.nil_append, List.cons_append]
 gi_wp2_with (first
  | (gi_at_range; refine wpListIn_range_raw _ rfl _ 52 rfl 54 55 Tryz.underlying52 b es clock rfl hbW ?_)
  | gi_in)
 go_frame
 have hrg0 : Rg (W.alloc (.mapIter (some b) clock #[] clock)) b W.heap.size es clock [] :=
  ⟨(Below.heap_alloc _ _ b (Array.getElem?_eq_some_iff.1 hbW).1).trans hbW, World.alloc_heap_new W _, (fun d hd => by cases hd), List.nodup_nil⟩
 have hJ0 : J [] (W.alloc (.mapIter (some b) clock #[] clock)) := hJ [] W _ none h0 (World.grownBy_alloc W _ none) (Nat.le_refl _) (fun r e => by cases e)
 gi_loopw [3] (fun _ wr => ∃ (ds : List MapEntry) (xs : List (Bh)), Rg wr b W.heap.size es clock ds ∧ ds.map (·.key) = xs.map so30_kv ∧ J xs wr)
  (fun _ wr => itLeft b W.heap.size wr)
 case atStart => exact ⟨[], [], hrg0, rfl, hJ0⟩
 case round =>
  obtain ⟨ds, xs, hrg, hdx, hJs⟩ := hrel
  gi_wp2_with (first
   | (gi_at_next; refine wpListIn_next_raw _ rfl _ rfl b W.heap.size es clock ds rfl hrg hold hnd ?_ ?_)
   | gi_in)
  ·intro hall
   gi_wp2
   go_end0
   refine ⟨⟨_, rfl⟩, xs, ?_, hJs⟩
   have hp := (hrg.perm hnd (fun x hx => hall x (by simpa using hx))).map (·.key)
   rw [hdx, hk] at hp
   exact perm_of_map so30_kv so30_kd so30_kdv hp
  ·intro e w2 he hrg2 hg2 hd2 hs2 hen
   obtain ⟨x, hx⟩ : ∃ x, e.key = so30_kv x := by
    have : e.key ∈ es.toList.map (·.key) := List.mem_map.2 ⟨e, by simpa using he, rfl⟩
    rw [hk] at this
    obtain ⟨x, _, hx⟩ := List.mem_map.1 this
    exact ⟨x, hx.symm⟩
   rw [hx] at hen ⊢
   have hJ2 : J xs w2 := hJ xs wr w2 _ hJs hg2 hd2 (fun r e => by cases e; exact ⟨Nat.le_refl _, _, hrg.it, rfl⟩)
   have hlt2 : xs.length < es.size := by
    have h1 := hrg2.len hnd
    have h2 := congrArg List.length hdx
    simp only [List.length_map, List.length_append, List.length_cons, List.length_nil] at h1 h2
    omega
   have hJ3 : J xs (w2.alloc (.cells #[.int .u8 x.f_key.a0, .int .u8 x.f_key.a1, .int .u8 x.f_key.a2, .int .u8 x.f_key.a3, .int .u8 x.f_key.a4, .int .u8 x.f_key.a5, .int .u8 x.f_key.a6, .int .u8 x.f_key.a7, .int .u8 x.f_mode] 54)) := hJ xs w2 _ none hJ2 (World.grownBy_alloc w2 _ none) (Nat.le_refl _) (fun r e => by cases e)
   obtain ⟨fn, tmps, assign, body, hy, hR⟩ := hY xs x _ hJ3 hlt2
   unfold so30_kv at hen hy ⊢
   clear hs2 hd2
   gi_wp2
   refine ⟨fun h => absurd h (by simp [Fence.wide]), hR.mono ?_⟩
   rintro e' W4 ⟨rfl, hJ4, hk4⟩
   gi_wp2
   have hrg4 := (hrg2.walks (KeepsWalks.alloc _ _)).walks hk4
   go_roundw
   case rel => exact ⟨ds ++ [e], xs ++ [x], hrg4, by rw [List.map_append, List.map_append, hdx, List.map_cons, hx]; rfl, hJ4⟩
   case measure =>
    rw [hrg4.left, hrg.left]
    have := hrg2.len hnd
    simp only [List.length_append, List.length_cons, List.length_nil] at this ⊢
    omega
theorem so30k62_det (φ : Fro) (x : (Bh)) (v : Value) (h : RelF φ (v_Bh x) v) : v = so30_kv x := so30_det φ x v h
theorem so30k62_rel (μ : Emb) (x : (Bh)) : Rel μ (v_Bh x) (.agg (so30_kc x).toArray) := ⟨_, rfl, RelFL.rel (so30_enc μ.fro x)⟩
theorem so30k62_tri (g : FuncId) (cmp : (Bh) → (Bh) → Option Int) (r : List (Bh)) (caps : List LV) (cpre full : Pre) (hcmp : ∀ x y r, cmp x y = some r → FnTri Tryz.prog g (v_Bh x :: v_Bh y :: caps) cpre (.int .i64 r) []) (hsub : ∀ z ∈ cpre, z ∈ full) (b c : Nat) (m : List ((Bh) × (Bf)))
  (hb1 : (b, LO.var [.map c]) ∈ full) (hc1 : (c, LO.mapR true ks1 (encM v_Bh (fun _ => LV.any) m)) ∈ full) (h : sortO cmp 9 (m.map (·.1)) = some r) : FnTri Tryz.prog 30 [.fn 62 [] [.ptr b 0 0], .fn g [] caps] full (.ds 9 r.length (rowF c_Bh default r)) [] := by
 obtain ⟨cf, hT, hcf, hL1, hL2, rfl⟩ := sortO_some h
 have eg := enters_tri (hcmp default default _ (hcf default default)).1
 refine ⟨⟨_, Tryz.func30, by kernel_rfl, by kernel_rfl⟩, fun μ w vals hr hp hf => ?_⟩
 obtain ⟨v0, r0, rfl, ⟨a0, b0, rfl, ha, hb⟩, v1, r1, rfl, ⟨a1, b1, rfl, ha1, hb1'⟩, rfl⟩ := hr
 obtain rfl := rel_nocap ha
 obtain rfl := rel_nocap ha1
 obtain ⟨p, hpb, rfl⟩ := rel_cap hb
 obtain ⟨p', hpb', hok⟩ := hp.obj b _ hb1
 obtain rfl := Option.some.inj (hpb.symm.trans hpb')
 obtain ⟨vm, hvm, hcell, hlt⟩ := var_cell hok
 obtain ⟨q, hq, rfl⟩ := hvm
 obtain ⟨q', hq', hok2⟩ := hp.obj c _ hc1
 obtain rfl := Option.some.inj (hq.symm.trans hq')
 obtain ⟨⟨es, clock, hes, hF2, hnd, hborn⟩, _⟩ := hok2
 have hlen : es.size = (m.map (·.1)).length := by
  have := ents_len _ _ hF2
  rw [List.length_map]; simpa using this
 have hseq := so30k62_keys 8 p.rb q.rb es clock (m.map (·.1)) w _ hcell hlt hes hborn hnd (ents_keys so30k62_det _ _ hF2)
 rw [hlen] at hseq
 have hcl : ∀ w1 blk off size, Below w.heap.size w w1 → w.heap.size ≤ blk → Go.Proofs.CmpLays Tryz.prog g b1 so30_kc 9 cf blk off size w1 := fun w1 blk off size hB hblk => by
  have := cmp_of_triX (ek := v_Bh) (fun x y => hcmp x y _ (hcf x y)) so30k62_rel (hp.sub hsub) hb1' hB hblk 9 off size
  simpa using this
 refine (so30_sortedF 62 g _ b1 (enters_of Tryz.func62 (by kernel_rfl) rfl) eg cf hT (m.map (·.1)) hL1 hL2 w hcl hseq).mono ?_
 rintro e w' ⟨v, rfl, hb', hd', hs'⟩
 obtain ⟨μ', h1, h2⟩ := sorted_fin so30_enc so30_len so30_one hp hb' hd' hs'
 exact ⟨v, μ', rfl, h1, h2⟩
def AW_v (r : (Bp) × (Bool)) : LV := .tup [v_Bp r.1, .bool r.2]
def AW_up (slots : A_) (pu : B_) (co : C_) (r : (Bp) × (Bool)) : Upd := [(1, some (oP2 slots [])), (2, some (oM4 pu)), (3, some (oM5 co))]
def AW_objs (ti : Bi) (slots : A_) (key : Bh) (re : D_) (pu : B_) (co : C_) : List LO := [.row 33 1 (fun _ => (cT_60 ti (.map 1) key .any re (.map 2) (.map 3))) false, oP2 slots [], oM4 pu, oM5 co]
def AW_c9 (ti : Bi) (slots : A_) (key : Bh) (re : D_) (pu : B_) (co : C_) (x_k : I_) (y6 : (Bn) × (Bool)) (y10 : (Bg)) : Option ((Bp) × (Bool)) :=
 if (((mget pu x_k).isSome) : Bool) then
  some ((Bp.mk x_k (Bn.mk (IntKind.wrap .u32 (y6.1.f_Version + 1)) y6.1.f_Value y10)), true)
 else
  some ((Bp.mk x_k (Bn.mk (IntKind.wrap .u32 (y6.1.f_Version + 1)) y6.1.f_Value y10)), ((mget co x_k).isSome))
def AW_c1009 (ti : Bi) (slots : A_) (key : Bh) (re : D_) (pu : B_) (co : C_) (x_k : I_) (y6 : (Bn) × (Bool)) : Option ((Bp) × (Bool)) :=
 if (((mget pu x_k).isSome) : Bool) then
  some ((Bp.mk x_k (Bn.mk (IntKind.wrap .u32 (y6.1.f_Version + 1)) y6.1.f_Value ((mget co x_k).getD default))), true)
 else
  some ((Bp.mk x_k (Bn.mk (IntKind.wrap .u32 (y6.1.f_Version + 1)) y6.1.f_Value ((mget co x_k).getD default))), ((mget co x_k).isSome))
def AW_c2009 (ti : Bi) (slots : A_) (key : Bh) (re : D_) (pu : B_) (co : C_) (x_k : I_) (y6 : (Bn) × (Bool)) (y10 : (Bg)) : Option ((Bp) × (Bool)) :=
 if (((mget pu x_k).isSome) : Bool) then
  some ((Bp.mk x_k (Bn.mk (IntKind.wrap .u32 (y6.1.f_Version + 1)) ((mget pu x_k).getD default) y10)), true)
 else
  some ((Bp.mk x_k (Bn.mk (IntKind.wrap .u32 (y6.1.f_Version + 1)) ((mget pu x_k).getD default) y10)), ((mget co x_k).isSome))
def AW_c3009 (ti : Bi) (slots : A_) (key : Bh) (re : D_) (pu : B_) (co : C_) (x_k : I_) (y6 : (Bn) × (Bool)) : Option ((Bp) × (Bool)) :=
 if (((mget pu x_k).isSome) : Bool) then
  some ((Bp.mk x_k (Bn.mk (IntKind.wrap .u32 (y6.1.f_Version + 1)) ((mget pu x_k).getD default) ((mget co x_k).getD default))), true)
 else
  some ((Bp.mk x_k (Bn.mk (IntKind.wrap .u32 (y6.1.f_Version + 1)) ((mget pu x_k).getD default) ((mget co x_k).getD default))), ((mget co x_k).isSome))
def AW (ti : Bi) (slots : A_) (key : Bh) (re : D_) (pu : B_) (co : C_) (x_k : I_) : Option ((Bp) × (Bool)) :=
 (Ad ti slots key re pu co x_k).bind fun y2 =>
 if (y2.1 : Bool) then
  if mget slots y2.2.1.1 = some (Bf.mk y2.2.1.2.1 y2.2.1.2.2.1 y2.2.1.2.2.2.1 y2.2.1.2.2.2.2.1 y2.2.1.2.2.2.2.2) then
  (AE (Bf.mk y2.2.1.2.1 y2.2.1.2.2.1 y2.2.1.2.2.2.1 y2.2.1.2.2.2.2.1 y2.2.1.2.2.2.2.2)).bind fun y6 =>
  if ((!((mget pu x_k).isSome)) : Bool) then
   if ((!((mget co x_k).isSome)) : Bool) then
    (AP (Bf.mk y2.2.1.2.1 y2.2.1.2.2.1 y2.2.1.2.2.2.1 y2.2.1.2.2.2.2.1 y2.2.1.2.2.2.2.2)).bind fun y10 =>
    AW_c9 ti slots key re pu co x_k y6 y10
   else
    AW_c1009 ti slots key re pu co x_k y6
  else
   if ((!((mget co x_k).isSome)) : Bool) then
    (AP (Bf.mk y2.2.1.2.1 y2.2.1.2.2.1 y2.2.1.2.2.2.1 y2.2.1.2.2.2.2.1 y2.2.1.2.2.2.2.2)).bind fun y10 =>
    AW_c2009 ti slots key re pu co x_k y6 y10
   else
    AW_c3009 ti slots key re pu co x_k y6
  else none
 else
  none
abbrev AW_K1000009 (w0 : World) (W : Nat → Prop) (μ0 : Emb) (ti : Bi) (slots : A_) (key : Bh) (re : D_) (pu : B_) (co : C_) (x_k : I_) (y6 : (Bn) × (Bool)) (y10 : (Bg)) (r : (Bp) × (Bool)) : Prop := Kt_ w0 W μ0 Tryz.f34 4 4 (AW_v r) (AW_up slots pu co r) (kAtR (bodyOf Tryz.f34) 9) (.any :: .any :: .any :: (.ptr 4 0 0) :: (.ptr 5 0 0) :: .any :: .any :: (.ptr 6 0 0) :: .any :: (.str y6.1.f_Value) :: (.bool ((mget pu x_k).isSome)) :: (.ptr 7 0 0) :: (.bool ((mget co x_k).isSome)) :: n_ 46 []) [some (.row 33 1 (fun _ => (cT_60 ti (.map 1) key .any re (.map 2) (.map 3))) false), some (oP2 slots []), some (oM4 pu), some (oM5 co), some (.var [.int .u8 x_k.a0, .int .u8 x_k.a1, .int .u8 x_k.a2, .int .u8 x_k.a3, .int .u8 x_k.a4, .int .u8 x_k.a5, .int .u8 x_k.a6, .int .u8 x_k.a7]), some (.var (c_Bp z5_)), some (.var (c_Bn y6.1)), some (.var (c_Bg y10))]
abbrev AW_K1001009 (w0 : World) (W : Nat → Prop) (μ0 : Emb) (ti : Bi) (slots : A_) (key : Bh) (re : D_) (pu : B_) (co : C_) (x_k : I_) (y6 : (Bn) × (Bool)) (r : (Bp) × (Bool)) : Prop := Kt_ w0 W μ0 Tryz.f34 4 4 (AW_v r) (AW_up slots pu co r) (kAtR (bodyOf Tryz.f34) 9) (.any :: .any :: .any :: (.ptr 4 0 0) :: (.ptr 5 0 0) :: .any :: .any :: (.ptr 6 0 0) :: .any :: (.str y6.1.f_Value) :: (.bool ((mget pu x_k).isSome)) :: (.ptr 7 0 0) :: (.bool ((mget co x_k).isSome)) :: n_ 46 []) [some (.row 33 1 (fun _ => (cT_60 ti (.map 1) key .any re (.map 2) (.map 3))) false), some (oP2 slots []), some (oM4 pu), some (oM5 co), some (.var [.int .u8 x_k.a0, .int .u8 x_k.a1, .int .u8 x_k.a2, .int .u8 x_k.a3, .int .u8 x_k.a4, .int .u8 x_k.a5, .int .u8 x_k.a6, .int .u8 x_k.a7]), some (.var (c_Bp z5_)), some (.var (c_Bn y6.1)), some (.var (c_Bg ((mget co x_k).getD default)))]
abbrev AW_K1002009 (w0 : World) (W : Nat → Prop) (μ0 : Emb) (ti : Bi) (slots : A_) (key : Bh) (re : D_) (pu : B_) (co : C_) (x_k : I_) (y6 : (Bn) × (Bool)) (y10 : (Bg)) (r : (Bp) × (Bool)) : Prop := Kt_ w0 W μ0 Tryz.f34 4 4 (AW_v r) (AW_up slots pu co r) (kAtR (bodyOf Tryz.f34) 9) (.any :: .any :: .any :: (.ptr 4 0 0) :: (.ptr 5 0 0) :: .any :: .any :: (.ptr 6 0 0) :: .any :: (.str ((mget pu x_k).getD default)) :: (.bool ((mget pu x_k).isSome)) :: (.ptr 7 0 0) :: (.bool ((mget co x_k).isSome)) :: n_ 46 []) [some (.row 33 1 (fun _ => (cT_60 ti (.map 1) key .any re (.map 2) (.map 3))) false), some (oP2 slots []), some (oM4 pu), some (oM5 co), some (.var [.int .u8 x_k.a0, .int .u8 x_k.a1, .int .u8 x_k.a2, .int .u8 x_k.a3, .int .u8 x_k.a4, .int .u8 x_k.a5, .int .u8 x_k.a6, .int .u8 x_k.a7]), some (.var (c_Bp z5_)), some (.var (c_Bn y6.1)), some (.var (c_Bg y10))]
abbrev AW_K1003009 (w0 : World) (W : Nat → Prop) (μ0 : Emb) (ti : Bi) (slots : A_) (key : Bh) (re : D_) (pu : B_) (co : C_) (x_k : I_) (y6 : (Bn) × (Bool)) (r : (Bp) × (Bool)) : Prop := Kt_ w0 W μ0 Tryz.f34 4 4 (AW_v r) (AW_up slots pu co r) (kAtR (bodyOf Tryz.f34) 9) (.any :: .any :: .any :: (.ptr 4 0 0) :: (.ptr 5 0 0) :: .any :: .any :: (.ptr 6 0 0) :: .any :: (.str ((mget pu x_k).getD default)) :: (.bool ((mget pu x_k).isSome)) :: (.ptr 7 0 0) :: (.bool ((mget co x_k).isSome)) :: n_ 46 []) [some (.row 33 1 (fun _ => (cT_60 ti (.map 1) key .any re (.map 2) (.map 3))) false), some (oP2 slots []), some (oM4 pu), some (oM5 co), some (.var [.int .u8 x_k.a0, .int .u8 x_k.a1, .int .u8 x_k.a2, .int .u8 x_k.a3, .int .u8 x_k.a4, .int .u8 x_k.a5, .int .u8 x_k.a6, .int .u8 x_k.a7]), some (.var (c_Bp z5_)), some (.var (c_Bn y6.1)), some (.var (c_Bg ((mget co x_k).getD default)))]
theorem AW_c9_ok {w0 W μ0} (hμ : Lt_ μ0 4) (ti : Bi) (slots : A_) (key : Bh) (re : D_) (pu : B_) (co : C_) (x_k : I_) (y6 : (Bn) × (Bool)) (y10 : (Bg)) (r : (Bp) × (Bool)) (h : AW_c9 ti slots key re pu co x_k y6 y10 = some r) : AW_K1000009 w0 W μ0 ti slots key re pu co x_k y6 y10 r := by
 unfold AW_c9 at h
 rcases it_ h with ⟨C1, h⟩ | ⟨C1, h⟩
 ·obtain rfl := si_ h
  exact rr_ [] 11 [.reg [(9, hT)]]
   (a_ (a_ (m_ 8 8 rfl (r1_ (l_ 0 13 rfl (r2_ (m_ 11 11 rfl (a_ (a_ (Eq.refl true) tr) (a_ (a_ (Eq.refl true) tr) (r1_ (f_ C1 (a_ tr (r1_ (a_ (a_ (a_ (Eq.refl 21) (a_ (le_ 21 21 rfl) (Eq.refl 0))) tr) (r1_ tr))))))))))))) tr) (a_ (a_ tr (le_ 21 21 rfl)) tr))
 ·obtain rfl := si_ h
  exact rr_ [] 11 [.reg [(9, hF)]]
   (a_ (a_ (m_ 8 8 rfl (r1_ (l_ 0 13 rfl (r2_ (m_ 11 11 rfl (a_ (a_ (Eq.refl true) tr) (a_ (a_ (Eq.refl true) tr) (r1_ (f_ C1 (r2_ (a_ (a_ (a_ (Eq.refl 21) (a_ (le_ 21 21 rfl) (Eq.refl 0))) tr) (r1_ tr)))))))))))) tr) (a_ (a_ tr (le_ 21 21 rfl)) tr))
theorem AW_c1009_ok {w0 W μ0} (hμ : Lt_ μ0 4) (ti : Bi) (slots : A_) (key : Bh) (re : D_) (pu : B_) (co : C_) (x_k : I_) (y6 : (Bn) × (Bool)) (r : (Bp) × (Bool)) (h : AW_c1009 ti slots key re pu co x_k y6 = some r) : AW_K1001009 w0 W μ0 ti slots key re pu co x_k y6 r := by
 unfold AW_c1009 at h
 rcases it_ h with ⟨C1, h⟩ | ⟨C1, h⟩
 ·obtain rfl := si_ h
  exact rr_ [] 11 [.reg [(9, hT)]]
   (a_ (a_ (m_ 8 8 rfl (r1_ (l_ 0 13 rfl (r2_ (m_ 11 11 rfl (a_ (a_ (Eq.refl true) tr) (a_ (a_ (Eq.refl true) tr) (r1_ (f_ C1 (a_ tr (r1_ (a_ (a_ (a_ (Eq.refl 21) (a_ (le_ 21 21 rfl) (Eq.refl 0))) tr) (r1_ tr))))))))))))) tr) (a_ (a_ tr (le_ 21 21 rfl)) tr))
 ·obtain rfl := si_ h
  exact rr_ [] 11 [.reg [(9, hF)]]
   (a_ (a_ (m_ 8 8 rfl (r1_ (l_ 0 13 rfl (r2_ (m_ 11 11 rfl (a_ (a_ (Eq.refl true) tr) (a_ (a_ (Eq.refl true) tr) (r1_ (f_ C1 (r2_ (a_ (a_ (a_ (Eq.refl 21) (a_ (le_ 21 21 rfl) (Eq.refl 0))) tr) (r1_ tr)))))))))))) tr) (a_ (a_ tr (le_ 21 21 rfl)) tr))
theorem AW_c2009_ok {w0 W μ0} (hμ : Lt_ μ0 4) (ti : Bi) (slots : A_) (key : Bh) (re : D_) (pu : B_) (co : C_) (x_k : I_) (y6 : (Bn) × (Bool)) (y10 : (Bg)) (r : (Bp) × (Bool)) (h : AW_c2009 ti slots key re pu co x_k y6 y10 = some r) : AW_K1002009 w0 W μ0 ti slots key re pu co x_k y6 y10 r := by
 unfold AW_c2009 at h
 rcases it_ h with ⟨C1, h⟩ | ⟨C1, h⟩
 ·obtain rfl := si_ h
  exact rr_ [] 11 [.reg [(9, hT)]]
   (a_ (a_ (m_ 8 8 rfl (r1_ (l_ 0 13 rfl (r2_ (m_ 11 11 rfl (a_ (a_ (Eq.refl true) tr) (a_ (a_ (Eq.refl true) tr) (r1_ (f_ C1 (a_ tr (r1_ (a_ (a_ (a_ (Eq.refl 21) (a_ (le_ 21 21 rfl) (Eq.refl 0))) tr) (r1_ tr))))))))))))) tr) (a_ (a_ tr (le_ 21 21 rfl)) tr))
 ·obtain rfl := si_ h
  exact rr_ [] 11 [.reg [(9, hF)]]
   (a_ (a_ (m_ 8 8 rfl (r1_ (l_ 0 13 rfl (r2_ (m_ 11 11 rfl (a_ (a_ (Eq.refl true) tr) (a_ (a_ (Eq.refl true) tr) (r1_ (f_ C1 (r2_ (a_ (a_ (a_ (Eq.refl 21) (a_ (le_ 21 21 rfl) (Eq.refl 0))) tr) (r1_ tr)))))))))))) tr) (a_ (a_ tr (le_ 21 21 rfl)) tr))
theorem AW_c3009_ok {w0 W μ0} (hμ : Lt_ μ0 4) (ti : Bi) (slots : A_) (key : Bh) (re : D_) (pu : B_) (co : C_) (x_k : I_) (y6 : (Bn) × (Bool)) (r : (Bp) × (Bool)) (h : AW_c3009 ti slots key re pu co x_k y6 = some r) : AW_K1003009 w0 W μ0 ti slots key re pu co x_k y6 r := by
 unfold AW_c3009 at h
 rcases it_ h with ⟨C1, h⟩ | ⟨C1, h⟩
 ·obtain rfl := si_ h
  exact rr_ [] 11 [.reg [(9, hT)]]
   (a_ (a_ (m_ 8 8 rfl (r1_ (l_ 0 13 rfl (r2_ (m_ 11 11 rfl (a_ (a_ (Eq.refl true) tr) (a_ (a_ (Eq.refl true) tr) (r1_ (f_ C1 (a_ tr (r1_ (a_ (a_ (a_ (Eq.refl 21) (a_ (le_ 21 21 rfl) (Eq.refl 0))) tr) (r1_ tr))))))))))))) tr) (a_ (a_ tr (le_ 21 21 rfl)) tr))
 ·obtain rfl := si_ h
  exact rr_ [] 11 [.reg [(9, hF)]]
   (a_ (a_ (m_ 8 8 rfl (r1_ (l_ 0 13 rfl (r2_ (m_ 11 11 rfl (a_ (a_ (Eq.refl true) tr) (a_ (a_ (Eq.refl true) tr) (r1_ (f_ C1 (r2_ (a_ (a_ (a_ (Eq.refl 21) (a_ (le_ 21 21 rfl) (Eq.refl 0))) tr) (r1_ tr)))))))))))) tr) (a_ (a_ tr (le_ 21 21 rfl)) tr))
theorem AW_ok (ti : Bi) (slots : A_) (key : Bh) (re : D_) (pu : B_) (co : C_) (x_k : I_) (r : (Bp) × (Bool)) (h : AW ti slots key re pu co x_k = some r) : ∀ σ, Inj 4 σ → FnTri Tryz.prog 34 (renL σ [.ptr 0 0 0, .agg [.int .u8 x_k.a0, .int .u8 x_k.a1, .int .u8 x_k.a2, .int .u8 x_k.a3, .int .u8 x_k.a4, .int .u8 x_k.a5, .int .u8 x_k.a6, .int .u8 x_k.a7]]) (preOf σ 0 (AW_objs ti slots key re pu co)) ((AW_v r).ren σ) (upOf σ (AW_up slots pu co r)) := by
 refine fo_ Tryz.func34 ⟨fun _ _ => rfl, uP, trivial, trivial, trivial⟩ ⟨uP, trivial, trivial, trivial⟩ ?_
 intro w0 W μ0 hμ
 unfold AW at h
 obtain ⟨y2, e1, h⟩ := bs_ h
 rcases it_ h with ⟨c3, h⟩ | ⟨c3, h⟩
 ·obtain ⟨g4, h⟩ := gs_ h
  obtain ⟨y6, e5, h⟩ := bs_ h
  rcases it_ h with ⟨c7, h⟩ | ⟨c7, h⟩
  ·rcases it_ h with ⟨c8, h⟩ | ⟨c8, h⟩
   ·obtain ⟨y10, e9, h⟩ := bs_ h
    exact rt_ hμ [4, 5, 7, 8] 41 [.reg [], .reg [(2, hk_ (hK_ [0, 1, 2, 3, 6] (Ad_vA y2.2.1) (Ad_objs ti slots key re pu co) (Ad_upA slots pu co y2.2.1)))], .reg [(1, hk_ (hK_ [6] (AE_v y6) (AE_objs (Bf.mk y2.2.1.2.1 y2.2.1.2.2.1 y2.2.1.2.2.2.1 y2.2.1.2.2.2.2.1 y2.2.1.2.2.2.2.2)) (AE_up y6)))], .reg [(5, { look := ((mget pu x_k).map LV.str), v := some (.tup [.str ((mget pu x_k).getD default), .bool ((mget pu x_k).isSome)]) })], .reg [(5, { look := ((mget co x_k).map v_Bg), v := some (.tup [v_Bg ((mget co x_k).getD default), .bool ((mget co x_k).isSome)]) })], .reg [(1, hT)], .reg [], .reg [(1, hT)], .reg [(1, hk_ (hK_ [6] (AP_v y10) (AP_objs (Bf.mk y2.2.1.2.1 y2.2.1.2.2.1 y2.2.1.2.2.2.1 y2.2.1.2.2.2.2.1 y2.2.1.2.2.2.2.2)) (AP_up y10)))], .x (.p (.pc 1)), .wk [] [(1, oP2 slots [])]]
     (a_ (r1_ (r2_ tr)) (a_ (r1_ (m_ 8 8 rfl (a_ (a_ (a_ (Ad_okA ti slots key re pu co x_k y2.2.1 y2.2.2 (altA e1 c3) (sel [0, 1, 2, 3, 6]) sj_) (a_ (rl_ (.row 33 1 (fun _ => (cT_60 ti (.map 1) key .any re (.map 2) (.map 3))) false)) (a_ (Eq.refl (oP2 slots [] : LO)) (a_ (rl_ (oM4 pu)) (a_ (rl_ (oM5 co)) tr))))) tr) (r1_ tr)))) (a_ (r1_ (a_ (a_ (a_ (AE_ok (Bf.mk y2.2.1.2.1 y2.2.1.2.2.1 y2.2.1.2.2.2.1 y2.2.1.2.2.2.2.1 y2.2.1.2.2.2.2.2) y6 e5 (sel [6]) sj_) (a_ (LO.Le.ofVar (c_Bf (Bf.mk y2.2.1.2.1 y2.2.1.2.2.1 y2.2.1.2.2.2.1 y2.2.1.2.2.2.2.1 y2.2.1.2.2.2.2.2))) tr)) tr) (r4_ (a_ (a_ (a_ (Eq.refl 13) (a_ (le_ 13 13 rfl) (Eq.refl 0))) tr) (r1_ tr))))) (a_ (r1_ (r2_ (a_ (a_ (a_ (lt_ 0 1 rfl) (lt_ 31 33 rfl)) tr) (m_ 8 8 rfl (a_ (a_ (a_ (Eq.refl true) (findE_enc (fun z_ : I_ => LV.agg [.int .u8 z_.a0, .int .u8 z_.a1, .int .u8 z_.a2, .int .u8 z_.a3, .int .u8 z_.a4, .int .u8 z_.a5, .int .u8 z_.a6, .int .u8 z_.a7]) LV.str (k_arr8 .u8) pu x_k)) (a_ (le_lookok LV.str (mget pu x_k) default) tr)) (r1_ (r4_ tr))))))) (a_ (r1_ (r2_ (a_ (a_ (a_ (lt_ 0 1 rfl) (lt_ 32 33 rfl)) tr) (m_ 8 8 rfl (a_ (a_ (a_ (Eq.refl true) (findE_enc (fun z_ : I_ => LV.agg [.int .u8 z_.a0, .int .u8 z_.a1, .int .u8 z_.a2, .int .u8 z_.a3, .int .u8 z_.a4, .int .u8 z_.a5, .int .u8 z_.a6, .int .u8 z_.a7]) v_Bg (k_arr8 .u8) co x_k)) (a_ (le_lookok v_Bg (mget co x_k) default) tr)) (r4_ (a_ (a_ (a_ (Eq.refl 11) (a_ (le_ 11 11 rfl) (Eq.refl 0))) tr) (r1_ tr)))))))) (a_ (r1_ (f_ c7 tr)) (a_ (r1_ (l_ 1 13 rfl (r1_ tr))) (a_ (r1_ (f_ c8 tr)) (a_ (r1_ (a_ (a_ (a_ (AP_ok (Bf.mk y2.2.1.2.1 y2.2.1.2.2.1 y2.2.1.2.2.2.1 y2.2.1.2.2.2.2.1 y2.2.1.2.2.2.2.2) y10 e9 (sel [6]) sj_) (a_ (LO.Le.ofVar (c_Bf (Bf.mk y2.2.1.2.1 y2.2.1.2.2.1 y2.2.1.2.2.2.1 y2.2.1.2.2.2.2.1 y2.2.1.2.2.2.2.2))) tr)) tr) (a_ (a_ (a_ (Eq.refl 11) (a_ (le_ 11 11 rfl) (Eq.refl 0))) tr) tr))) (a_ (a_ (getP_enc v_Bh c_Bf k_Bh slots y2.2.1.1 g4) (a_ (Eq.refl true) (a_ (Eq.refl true) (show 1 ≠ 6 from by decide)))) (a_ (a_ tr (a_ (pm_same v_Bh c_Bf k_Bh true ks1 [] (m := slots) (k := y2.2.1.1) g4) tr)) tr))))))))))) (AW_c9_ok hμ ti slots key re pu co x_k y6 y10 r h) ⟨fun _ _ => rfl, uP, trivial, trivial, rfl, rfl, rfl, rfl, trivial⟩
   ·exact rt_ hμ [4, 5, 7, 8] 40 [.reg [], .reg [(2, hk_ (hK_ [0, 1, 2, 3, 6] (Ad_vA y2.2.1) (Ad_objs ti slots key re pu co) (Ad_upA slots pu co y2.2.1)))], .reg [(1, hk_ (hK_ [6] (AE_v y6) (AE_objs (Bf.mk y2.2.1.2.1 y2.2.1.2.2.1 y2.2.1.2.2.2.1 y2.2.1.2.2.2.2.1 y2.2.1.2.2.2.2.2)) (AE_up y6)))], .reg [(5, { look := ((mget pu x_k).map LV.str), v := some (.tup [.str ((mget pu x_k).getD default), .bool ((mget pu x_k).isSome)]) })], .reg [(5, { look := ((mget co x_k).map v_Bg), v := some (.tup [v_Bg ((mget co x_k).getD default), .bool ((mget co x_k).isSome)]) })], .reg [(1, hT)], .reg [], .reg [(1, hF)], .x (.p (.pc 1)), .wk [] [(1, oP2 slots [])]]
     (a_ (r1_ (r2_ tr)) (a_ (r1_ (m_ 8 8 rfl (a_ (a_ (a_ (Ad_okA ti slots key re pu co x_k y2.2.1 y2.2.2 (altA e1 c3) (sel [0, 1, 2, 3, 6]) sj_) (a_ (rl_ (.row 33 1 (fun _ => (cT_60 ti (.map 1) key .any re (.map 2) (.map 3))) false)) (a_ (Eq.refl (oP2 slots [] : LO)) (a_ (rl_ (oM4 pu)) (a_ (rl_ (oM5 co)) tr))))) tr) (r1_ tr)))) (a_ (r1_ (a_ (a_ (a_ (AE_ok (Bf.mk y2.2.1.2.1 y2.2.1.2.2.1 y2.2.1.2.2.2.1 y2.2.1.2.2.2.2.1 y2.2.1.2.2.2.2.2) y6 e5 (sel [6]) sj_) (a_ (LO.Le.ofVar (c_Bf (Bf.mk y2.2.1.2.1 y2.2.1.2.2.1 y2.2.1.2.2.2.1 y2.2.1.2.2.2.2.1 y2.2.1.2.2.2.2.2))) tr)) tr) (r4_ (a_ (a_ (a_ (Eq.refl 13) (a_ (le_ 13 13 rfl) (Eq.refl 0))) tr) (r1_ tr))))) (a_ (r1_ (r2_ (a_ (a_ (a_ (lt_ 0 1 rfl) (lt_ 31 33 rfl)) tr) (m_ 8 8 rfl (a_ (a_ (a_ (Eq.refl true) (findE_enc (fun z_ : I_ => LV.agg [.int .u8 z_.a0, .int .u8 z_.a1, .int .u8 z_.a2, .int .u8 z_.a3, .int .u8 z_.a4, .int .u8 z_.a5, .int .u8 z_.a6, .int .u8 z_.a7]) LV.str (k_arr8 .u8) pu x_k)) (a_ (le_lookok LV.str (mget pu x_k) default) tr)) (r1_ (r4_ tr))))))) (a_ (r1_ (r2_ (a_ (a_ (a_ (lt_ 0 1 rfl) (lt_ 32 33 rfl)) tr) (m_ 8 8 rfl (a_ (a_ (a_ (Eq.refl true) (findE_enc (fun z_ : I_ => LV.agg [.int .u8 z_.a0, .int .u8 z_.a1, .int .u8 z_.a2, .int .u8 z_.a3, .int .u8 z_.a4, .int .u8 z_.a5, .int .u8 z_.a6, .int .u8 z_.a7]) v_Bg (k_arr8 .u8) co x_k)) (a_ (le_lookok v_Bg (mget co x_k) default) tr)) (r4_ (a_ (a_ (a_ (Eq.refl 11) (a_ (le_ 11 11 rfl) (Eq.refl 0))) tr) (r1_ tr)))))))) (a_ (r1_ (f_ c7 tr)) (a_ (r1_ (l_ 1 13 rfl (r1_ tr))) (a_ (r1_ (f_ c8 tr)) (a_ (a_ (getP_enc v_Bh c_Bf k_Bh slots y2.2.1.1 g4) (a_ (Eq.refl true) (a_ (Eq.refl true) (show 1 ≠ 6 from by decide)))) (a_ (a_ tr (a_ (pm_same v_Bh c_Bf k_Bh true ks1 [] (m := slots) (k := y2.2.1.1) g4) tr)) tr)))))))))) (AW_c1009_ok hμ ti slots key re pu co x_k y6 r h) ⟨fun _ _ => rfl, uP, trivial, trivial, rfl, rfl, rfl, rfl, trivial⟩
  ·rcases it_ h with ⟨c8, h⟩ | ⟨c8, h⟩
   ·obtain ⟨y10, e9, h⟩ := bs_ h
    exact rt_ hμ [4, 5, 7, 8] 40 [.reg [], .reg [(2, hk_ (hK_ [0, 1, 2, 3, 6] (Ad_vA y2.2.1) (Ad_objs ti slots key re pu co) (Ad_upA slots pu co y2.2.1)))], .reg [(1, hk_ (hK_ [6] (AE_v y6) (AE_objs (Bf.mk y2.2.1.2.1 y2.2.1.2.2.1 y2.2.1.2.2.2.1 y2.2.1.2.2.2.2.1 y2.2.1.2.2.2.2.2)) (AE_up y6)))], .reg [(5, { look := ((mget pu x_k).map LV.str), v := some (.tup [.str ((mget pu x_k).getD default), .bool ((mget pu x_k).isSome)]) })], .reg [(5, { look := ((mget co x_k).map v_Bg), v := some (.tup [v_Bg ((mget co x_k).getD default), .bool ((mget co x_k).isSome)]) })], .reg [(1, hF)], .reg [(1, hT)], .reg [(1, hk_ (hK_ [6] (AP_v y10) (AP_objs (Bf.mk y2.2.1.2.1 y2.2.1.2.2.1 y2.2.1.2.2.2.1 y2.2.1.2.2.2.2.1 y2.2.1.2.2.2.2.2)) (AP_up y10)))], .x (.p (.pc 1)), .wk [] [(1, oP2 slots [])]]
     (a_ (r1_ (r2_ tr)) (a_ (r1_ (m_ 8 8 rfl (a_ (a_ (a_ (Ad_okA ti slots key re pu co x_k y2.2.1 y2.2.2 (altA e1 c3) (sel [0, 1, 2, 3, 6]) sj_) (a_ (rl_ (.row 33 1 (fun _ => (cT_60 ti (.map 1) key .any re (.map 2) (.map 3))) false)) (a_ (Eq.refl (oP2 slots [] : LO)) (a_ (rl_ (oM4 pu)) (a_ (rl_ (oM5 co)) tr))))) tr) (r1_ tr)))) (a_ (r1_ (a_ (a_ (a_ (AE_ok (Bf.mk y2.2.1.2.1 y2.2.1.2.2.1 y2.2.1.2.2.2.1 y2.2.1.2.2.2.2.1 y2.2.1.2.2.2.2.2) y6 e5 (sel [6]) sj_) (a_ (LO.Le.ofVar (c_Bf (Bf.mk y2.2.1.2.1 y2.2.1.2.2.1 y2.2.1.2.2.2.1 y2.2.1.2.2.2.2.1 y2.2.1.2.2.2.2.2))) tr)) tr) (r4_ (a_ (a_ (a_ (Eq.refl 13) (a_ (le_ 13 13 rfl) (Eq.refl 0))) tr) (r1_ tr))))) (a_ (r1_ (r2_ (a_ (a_ (a_ (lt_ 0 1 rfl) (lt_ 31 33 rfl)) tr) (m_ 8 8 rfl (a_ (a_ (a_ (Eq.refl true) (findE_enc (fun z_ : I_ => LV.agg [.int .u8 z_.a0, .int .u8 z_.a1, .int .u8 z_.a2, .int .u8 z_.a3, .int .u8 z_.a4, .int .u8 z_.a5, .int .u8 z_.a6, .int .u8 z_.a7]) LV.str (k_arr8 .u8) pu x_k)) (a_ (le_lookok LV.str (mget pu x_k) default) tr)) (r1_ (r4_ tr))))))) (a_ (r1_ (r2_ (a_ (a_ (a_ (lt_ 0 1 rfl) (lt_ 32 33 rfl)) tr) (m_ 8 8 rfl (a_ (a_ (a_ (Eq.refl true) (findE_enc (fun z_ : I_ => LV.agg [.int .u8 z_.a0, .int .u8 z_.a1, .int .u8 z_.a2, .int .u8 z_.a3, .int .u8 z_.a4, .int .u8 z_.a5, .int .u8 z_.a6, .int .u8 z_.a7]) v_Bg (k_arr8 .u8) co x_k)) (a_ (le_lookok v_Bg (mget co x_k) default) tr)) (r4_ (a_ (a_ (a_ (Eq.refl 11) (a_ (le_ 11 11 rfl) (Eq.refl 0))) tr) (r1_ tr)))))))) (a_ (r1_ (f_ c7 tr)) (a_ (r1_ (f_ c8 tr)) (a_ (r1_ (a_ (a_ (a_ (AP_ok (Bf.mk y2.2.1.2.1 y2.2.1.2.2.1 y2.2.1.2.2.2.1 y2.2.1.2.2.2.2.1 y2.2.1.2.2.2.2.2) y10 e9 (sel [6]) sj_) (a_ (LO.Le.ofVar (c_Bf (Bf.mk y2.2.1.2.1 y2.2.1.2.2.1 y2.2.1.2.2.2.1 y2.2.1.2.2.2.2.1 y2.2.1.2.2.2.2.2))) tr)) tr) (a_ (a_ (a_ (Eq.refl 11) (a_ (le_ 11 11 rfl) (Eq.refl 0))) tr) tr))) (a_ (a_ (getP_enc v_Bh c_Bf k_Bh slots y2.2.1.1 g4) (a_ (Eq.refl true) (a_ (Eq.refl true) (show 1 ≠ 6 from by decide)))) (a_ (a_ tr (a_ (pm_same v_Bh c_Bf k_Bh true ks1 [] (m := slots) (k := y2.2.1.1) g4) tr)) tr)))))))))) (AW_c2009_ok hμ ti slots key re pu co x_k y6 y10 r h) ⟨fun _ _ => rfl, uP, trivial, trivial, rfl, rfl, rfl, rfl, trivial⟩
   ·exact rt_ hμ [4, 5, 7, 8] 39 [.reg [], .reg [(2, hk_ (hK_ [0, 1, 2, 3, 6] (Ad_vA y2.2.1) (Ad_objs ti slots key re pu co) (Ad_upA slots pu co y2.2.1)))], .reg [(1, hk_ (hK_ [6] (AE_v y6) (AE_objs (Bf.mk y2.2.1.2.1 y2.2.1.2.2.1 y2.2.1.2.2.2.1 y2.2.1.2.2.2.2.1 y2.2.1.2.2.2.2.2)) (AE_up y6)))], .reg [(5, { look := ((mget pu x_k).map LV.str), v := some (.tup [.str ((mget pu x_k).getD default), .bool ((mget pu x_k).isSome)]) })], .reg [(5, { look := ((mget co x_k).map v_Bg), v := some (.tup [v_Bg ((mget co x_k).getD default), .bool ((mget co x_k).isSome)]) })], .reg [(1, hF)], .reg [(1, hF)], .x (.p (.pc 1)), .wk [] [(1, oP2 slots [])]]
     (a_ (r1_ (r2_ tr)) (a_ (r1_ (m_ 8 8 rfl (a_ (a_ (a_ (Ad_okA ti slots key re pu co x_k y2.2.1 y2.2.2 (altA e1 c3) (sel [0, 1, 2, 3, 6]) sj_) (a_ (rl_ (.row 33 1 (fun _ => (cT_60 ti (.map 1) key .any re (.map 2) (.map 3))) false)) (a_ (Eq.refl (oP2 slots [] : LO)) (a_ (rl_ (oM4 pu)) (a_ (rl_ (oM5 co)) tr))))) tr) (r1_ tr)))) (a_ (r1_ (a_ (a_ (a_ (AE_ok (Bf.mk y2.2.1.2.1 y2.2.1.2.2.1 y2.2.1.2.2.2.1 y2.2.1.2.2.2.2.1 y2.2.1.2.2.2.2.2) y6 e5 (sel [6]) sj_) (a_ (LO.Le.ofVar (c_Bf (Bf.mk y2.2.1.2.1 y2.2.1.2.2.1 y2.2.1.2.2.2.1 y2.2.1.2.2.2.2.1 y2.2.1.2.2.2.2.2))) tr)) tr) (r4_ (a_ (a_ (a_ (Eq.refl 13) (a_ (le_ 13 13 rfl) (Eq.refl 0))) tr) (r1_ tr))))) (a_ (r1_ (r2_ (a_ (a_ (a_ (lt_ 0 1 rfl) (lt_ 31 33 rfl)) tr) (m_ 8 8 rfl (a_ (a_ (a_ (Eq.refl true) (findE_enc (fun z_ : I_ => LV.agg [.int .u8 z_.a0, .int .u8 z_.a1, .int .u8 z_.a2, .int .u8 z_.a3, .int .u8 z_.a4, .int .u8 z_.a5, .int .u8 z_.a6, .int .u8 z_.a7]) LV.str (k_arr8 .u8) pu x_k)) (a_ (le_lookok LV.str (mget pu x_k) default) tr)) (r1_ (r4_ tr))))))) (a_ (r1_ (r2_ (a_ (a_ (a_ (lt_ 0 1 rfl) (lt_ 32 33 rfl)) tr) (m_ 8 8 rfl (a_ (a_ (a_ (Eq.refl true) (findE_enc (fun z_ : I_ => LV.agg [.int .u8 z_.a0, .int .u8 z_.a1, .int .u8 z_.a2, .int .u8 z_.a3, .int .u8 z_.a4, .int .u8 z_.a5, .int .u8 z_.a6, .int .u8 z_.a7]) v_Bg (k_arr8 .u8) co x_k)) (a_ (le_lookok v_Bg (mget co x_k) default) tr)) (r4_ (a_ (a_ (a_ (Eq.refl 11) (a_ (le_ 11 11 rfl) (Eq.refl 0))) tr) (r1_ tr)))))))) (a_ (r1_ (f_ c7 tr)) (a_ (r1_ (f_ c8 tr)) (a_ (a_ (getP_enc v_Bh c_Bf k_Bh slots y2.2.1.1 g4) (a_ (Eq.refl true) (a_ (Eq.refl true) (show 1 ≠ 6 from by decide)))) (a_ (a_ tr (a_ (pm_same v_Bh c_Bf k_Bh true ks1 [] (m := slots) (k := y2.2.1.1) g4) tr)) tr))))))))) (AW_c3009_ok hμ ti slots key re pu co x_k y6 r h) ⟨fun _ _ => rfl, uP, trivial, trivial, rfl, rfl, rfl, rfl, trivial⟩
 ·cases h
def Ab_v (r : (List (Bo)) × (List (Bp))) : LV := .tup [.ds 10 (r.1).length (rowF c_Bo default r.1), .ds 21 (r.2).length (rowF c_Bp default r.2)]
def Ab_up (slots : A_) (pu : B_) (co : C_) (r : (List (Bo)) × (List (Bp))) : Upd := [(1, some (oP2 slots [])), (2, some (oM4 pu)), (3, some (oM5 co))]
def Ab_objs (ti : Bi) (slots : A_) (key : Bh) (re : D_) (pu : B_) (co : C_) : List LO := [.row 33 1 (fun _ => (cT_60 ti (.map 1) key .any re (.map 2) (.map 3))) false, oP2 slots [], oM4 pu, oM5 co]
def Ab_l0 (ti : Bi) (slots : A_) (key : Bh) (re : D_) (pu : B_) (co : C_) (y5 : List (Bh)) : Nat → (Int) → (List (Bo)) → (List (Bp)) → Option ((List (Bo)) × (List (Bp)))
 | 0, _, _, _ => none
 | fuel + 1, t20, l, l2 =>
  if ((decide (t20 < ((y5).length : Int))) : Bool) then
   if 0 ≤ t20 ∧ t20 < (((y5).length : Nat) : Int) then
   if (((mget slots (y5.getD t20.toNat default)).isSome) : Bool) then
    (mget slots (y5.getD t20.toNat default)).bind fun y4 =>
    (AK y4).bind fun y7 =>
    if ((l).length + (([(Bo.mk (y5.getD t20.toNat default).f_key (y5.getD t20.toNat default).f_mode y7)] : List (Bo))).length) * 40 ≤ 140737488351232 then
    if (((y5.getD t20.toNat default).f_mode != 2) : Bool) then
     Ab_l0 ti slots key re pu co y5 fuel (IntKind.wrap .i64 (t20 + 1)) (l ++ ([(Bo.mk (y5.getD t20.toNat default).f_key (y5.getD t20.toNat default).f_mode y7)] : List (Bo))) l2
    else
     (AW ti slots key re pu co (y5.getD t20.toNat default).f_key).bind fun y11 =>
     if (y11.2 : Bool) then
      if ((l2).length + (([y11.1] : List (Bp))).length) * 48 ≤ 140737488351232 then
      Ab_l0 ti slots key re pu co y5 fuel (IntKind.wrap .i64 (t20 + 1)) (l ++ ([(Bo.mk (y5.getD t20.toNat default).f_key (y5.getD t20.toNat default).f_mode y7)] : List (Bo))) (l2 ++ ([y11.1] : List (Bp)))
      else none
     else
      Ab_l0 ti slots key re pu co y5 fuel (IntKind.wrap .i64 (t20 + 1)) (l ++ ([(Bo.mk (y5.getD t20.toNat default).f_key (y5.getD t20.toNat default).f_mode y7)] : List (Bo))) l2
    else none
   else
    none
   else none
  else
   some (l, l2)
def Ab (ti : Bi) (slots : A_) (key : Bh) (re : D_) (pu : B_) (co : C_) : Option ((List (Bo)) × (List (Bp))) :=
 (AT ti slots key re pu co).bind fun y2 =>
 (AO slots).bind fun y4 =>
 (sortO Bd 9 (slots.map (·.1))).bind fun y5 =>
 Ab_l0 ti slots key re pu co y5 big 0 ([] : List (Bo)) ([] : List (Bp))
abbrev Ab_K0 (w0 : World) (W : Nat → Prop) (μ0 : Emb) (ti : Bi) (slots : A_) (key : Bh) (re : D_) (pu : B_) (co : C_) (y5 : List (Bh)) (t20 : Int) (l : List (Bo)) (l2 : List (Bp)) (r : (List (Bo)) × (List (Bp))) : Prop := Kt_ w0 W μ0 Tryz.f15 4 4 (Ab_v r) (Ab_up slots pu co r) (kAt (bodyOf Tryz.f15) 0) ((.ptr 0 0 0) :: .any :: .any :: .any :: (.gs 4 (l).length) :: (.gs 5 (l2).length) :: n_ 12 ((.ds 9 (y5).length (rowF c_Bh default y5)) :: (.int .i64 ((y5).length : Int)) :: (.int .i64 t20) :: n_ 36 [])) [some (.row 33 1 (fun _ => (cT_60 ti (.map 1) key .any re (.map 2) (.map 3))) false), some (oP2 slots []), some (oM4 pu), some (oM5 co), some (.gr 10 (l).length (rowF c_Bo default l)), some (.gr 21 (l2).length (rowF c_Bp default l2))]
theorem Ab_l0_ok {w0 W μ0} (hμ : Lt_ μ0 4) (ti : Bi) (slots : A_) (key : Bh) (re : D_) (pu : B_) (co : C_) (y5 : List (Bh)) : ∀ (fuel : Nat) (t20 : Int) (l : List (Bo)) (l2 : List (Bp)) (r : (List (Bo)) × (List (Bp))), Ab_l0 ti slots key re pu co y5 fuel t20 l l2 = some r → Ab_K0 w0 W μ0 ti slots key re pu co y5 t20 l l2 r := by
 intro fuel
 induction fuel with
 | zero => intro t20 l l2 r h; rw [Ab_l0] at h; cases h
 | succ fuel ih =>
  intro t20 l l2 r h
  rw [Ab_l0] at h
  rcases it_ h with ⟨C1, h⟩ | ⟨C1, h⟩
  ·obtain ⟨G2, h⟩ := gs_ h
   rcases it_ h with ⟨C3, h⟩ | ⟨C3, h⟩
   ·obtain ⟨y4, E5, h⟩ := bs_ h
    obtain ⟨y7, E6, h⟩ := bs_ h
    obtain ⟨G8, h⟩ := gs_ h
    rcases it_ h with ⟨C9, h⟩ | ⟨C9, h⟩
    ·exact rt_ hμ [9, 5] 35 [.go, .reg [(0, hT)], .reg [], .x (.p (.po 1 (v_Bh (y5.getD t20.toNat default)) (c_Bf y4))), .reg [(10, { look := some (.ptr 7 0 0) }), (11, hk_ (hK_ [7] (AK_v y7) (AK_objs y4) (AK_up y7))), (13, { os := [(8, .gr 10 (([(Bo.mk (y5.getD t20.toNat default).f_key (y5.getD t20.toNat default).f_mode y7)] : List (Bo))).length (rowF c_Bo default ([(Bo.mk (y5.getD t20.toNat default).f_key (y5.getD t20.toNat default).f_mode y7)] : List (Bo))))], v := some (.gs 8 (([(Bo.mk (y5.getD t20.toNat default).f_key (y5.getD t20.toNat default).f_mode y7)] : List (Bo))).length) }), (14, { app := 3, os := [(9, .gr 10 ((l ++ ([(Bo.mk (y5.getD t20.toNat default).f_key (y5.getD t20.toNat default).f_mode y7)] : List (Bo)))).length (rowF c_Bo default (l ++ ([(Bo.mk (y5.getD t20.toNat default).f_key (y5.getD t20.toNat default).f_mode y7)] : List (Bo)))))], v := some (.gs 9 ((l ++ ([(Bo.mk (y5.getD t20.toNat default).f_key (y5.getD t20.toNat default).f_mode y7)] : List (Bo)))).length) })], .x (.p (.pc 1)), .wk [] [(1, oP2 slots [])], .reg [(2, hT)], .reg []]
      (a_ (f_ C1 tr) (a_ (a_ (a_ (a_ (Eq.refl 9) G2) tr) (a_ (a_ (le_ 9 9 rfl) tr) (r1_ (a_ (a_ (a_ (Eq.refl 9) (a_ (le_ 9 9 rfl) (Eq.refl 0))) tr) tr)))) (a_ (a_ (pmIn v_Bh c_Bf E5) (pmO0 v_Bh (y5.getD t20.toNat default))) (a_ (r2_ (m_ 8 9 rfl (r1_ (l_ 8 9 rfl (r1_ (r2_ (a_ (a_ (a_ (lt_ 0 1 rfl) (lt_ 4 33 rfl)) tr) (m_ 9 9 rfl (a_ (a_ (a_ (Eq.refl true) (a_ (pmSi v_Bh c_Bf k_Bh slots (y5.getD t20.toNat default) (isS E5)) (List.mem_cons_self (a := ((v_Bh (y5.getD t20.toNat default), 7) : LV × Nat)) (l := [])))) tr) (a_ (a_ (a_ (AK_ok y4 y7 E6 (sel [7]) sj_) (a_ (LO.Le.ofVar (c_Bf y4)) tr)) tr) (a_ (a_ (Eq.refl true) tr) (a_ (a_ (a_ (Eq.refl true) (a_ (Eq.refl 10) (a_ (lt_ 0 10 rfl) (le_ 10 16777216 rfl)))) (a_ (le_sl_gs 8 1 (some 1) rfl) (a_ (sub_lit c_Bo default 10 (fun _ => rfl) ([(Bo.mk (y5.getD t20.toNat default).f_key (y5.getD t20.toNat default).f_mode y7)] : List (Bo))) tr))) (a_ (a_ (a_ (a_ (Eq.refl 10) (Nat.le_refl (([(Bo.mk (y5.getD t20.toNat default).f_key (y5.getD t20.toNat default).f_mode y7)] : List (Bo))).length)) (a_ (a_ (lt_ 0 10 rfl) (a_ (lt_ 0 40 rfl) (a_ G8 (a_ (Eq.refl 10) (Eq.refl true))))) (a_ (Eq.refl 10) (Nat.le_refl (l).length)))) (a_ (le_gs_app 9 l ([(Bo.mk (y5.getD t20.toNat default).f_key (y5.getD t20.toNat default).f_mode y7)] : List (Bo))) (a_ (sub_app c_Bo default 10 l ([(Bo.mk (y5.getD t20.toNat default).f_key (y5.getD t20.toNat default).f_mode y7)] : List (Bo))) tr))) (r1_ tr)))))))))))))) (a_ (a_ (getP_enc v_Bh c_Bf k_Bh slots (y5.getD t20.toNat default) E5) (a_ (Eq.refl true) (a_ (Eq.refl true) (show 1 ≠ 7 from by decide)))) (a_ (a_ tr (a_ (pm_same v_Bh c_Bf k_Bh true ks1 [] (m := slots) (k := (y5.getD t20.toNat default)) E5) tr)) (a_ (r1_ (l_ 8 9 rfl (f_ C9 tr))) (a_ (r2_ tr) tr)))))))) (ih _ _ _ r h) ⟨fun _ _ => rfl, uP, trivial, trivial, fun _ _ => rfl, fun _ _ => rfl, trivial⟩
    ·obtain ⟨y11, E10, h⟩ := bs_ h
     rcases it_ h with ⟨C12, h⟩ | ⟨C12, h⟩
     ·obtain ⟨G13, h⟩ := gs_ h
      exact rt_ hμ [9, 12] 45 [.go, .reg [(0, hT)], .reg [], .x (.p (.po 1 (v_Bh (y5.getD t20.toNat default)) (c_Bf y4))), .reg [(10, { look := some (.ptr 7 0 0) }), (11, hk_ (hK_ [7] (AK_v y7) (AK_objs y4) (AK_up y7))), (13, { os := [(8, .gr 10 (([(Bo.mk (y5.getD t20.toNat default).f_key (y5.getD t20.toNat default).f_mode y7)] : List (Bo))).length (rowF c_Bo default ([(Bo.mk (y5.getD t20.toNat default).f_key (y5.getD t20.toNat default).f_mode y7)] : List (Bo))))], v := some (.gs 8 (([(Bo.mk (y5.getD t20.toNat default).f_key (y5.getD t20.toNat default).f_mode y7)] : List (Bo))).length) }), (14, { app := 3, os := [(9, .gr 10 ((l ++ ([(Bo.mk (y5.getD t20.toNat default).f_key (y5.getD t20.toNat default).f_mode y7)] : List (Bo)))).length (rowF c_Bo default (l ++ ([(Bo.mk (y5.getD t20.toNat default).f_key (y5.getD t20.toNat default).f_mode y7)] : List (Bo)))))], v := some (.gs 9 ((l ++ ([(Bo.mk (y5.getD t20.toNat default).f_key (y5.getD t20.toNat default).f_mode y7)] : List (Bo)))).length) })], .x (.p (.pc 1)), .wk [] [(1, oP2 slots [])], .reg [(2, hF)], .reg [(3, hk_ (hK_ [0, 1, 2, 3] (AW_v y11) (AW_objs ti slots key re pu co) (AW_up slots pu co y11)))], .reg [(0, hT)], .reg [(2, { os := [(11, .gr 21 (([y11.1] : List (Bp))).length (rowF c_Bp default ([y11.1] : List (Bp))))], v := some (.gs 11 (([y11.1] : List (Bp))).length) }), (3, { app := 3, os := [(12, .gr 21 ((l2 ++ ([y11.1] : List (Bp)))).length (rowF c_Bp default (l2 ++ ([y11.1] : List (Bp)))))], v := some (.gs 12 ((l2 ++ ([y11.1] : List (Bp)))).length) })], .reg []]
       (a_ (f_ C1 tr) (a_ (a_ (a_ (a_ (Eq.refl 9) G2) tr) (a_ (a_ (le_ 9 9 rfl) tr) (r1_ (a_ (a_ (a_ (Eq.refl 9) (a_ (le_ 9 9 rfl) (Eq.refl 0))) tr) tr)))) (a_ (a_ (pmIn v_Bh c_Bf E5) (pmO0 v_Bh (y5.getD t20.toNat default))) (a_ (r2_ (m_ 8 9 rfl (r1_ (l_ 8 9 rfl (r1_ (r2_ (a_ (a_ (a_ (lt_ 0 1 rfl) (lt_ 4 33 rfl)) tr) (m_ 9 9 rfl (a_ (a_ (a_ (Eq.refl true) (a_ (pmSi v_Bh c_Bf k_Bh slots (y5.getD t20.toNat default) (isS E5)) (List.mem_cons_self (a := ((v_Bh (y5.getD t20.toNat default), 7) : LV × Nat)) (l := [])))) tr) (a_ (a_ (a_ (AK_ok y4 y7 E6 (sel [7]) sj_) (a_ (LO.Le.ofVar (c_Bf y4)) tr)) tr) (a_ (a_ (Eq.refl true) tr) (a_ (a_ (a_ (Eq.refl true) (a_ (Eq.refl 10) (a_ (lt_ 0 10 rfl) (le_ 10 16777216 rfl)))) (a_ (le_sl_gs 8 1 (some 1) rfl) (a_ (sub_lit c_Bo default 10 (fun _ => rfl) ([(Bo.mk (y5.getD t20.toNat default).f_key (y5.getD t20.toNat default).f_mode y7)] : List (Bo))) tr))) (a_ (a_ (a_ (a_ (Eq.refl 10) (Nat.le_refl (([(Bo.mk (y5.getD t20.toNat default).f_key (y5.getD t20.toNat default).f_mode y7)] : List (Bo))).length)) (a_ (a_ (lt_ 0 10 rfl) (a_ (lt_ 0 40 rfl) (a_ G8 (a_ (Eq.refl 10) (Eq.refl true))))) (a_ (Eq.refl 10) (Nat.le_refl (l).length)))) (a_ (le_gs_app 9 l ([(Bo.mk (y5.getD t20.toNat default).f_key (y5.getD t20.toNat default).f_mode y7)] : List (Bo))) (a_ (sub_app c_Bo default 10 l ([(Bo.mk (y5.getD t20.toNat default).f_key (y5.getD t20.toNat default).f_mode y7)] : List (Bo))) tr))) (r1_ tr)))))))))))))) (a_ (a_ (getP_enc v_Bh c_Bf k_Bh slots (y5.getD t20.toNat default) E5) (a_ (Eq.refl true) (a_ (Eq.refl true) (show 1 ≠ 7 from by decide)))) (a_ (a_ tr (a_ (pm_same v_Bh c_Bf k_Bh true ks1 [] (m := slots) (k := (y5.getD t20.toNat default)) E5) tr)) (a_ (r1_ (l_ 8 9 rfl (f_ C9 tr))) (a_ (r2_ (m_ 8 9 rfl (a_ (a_ (a_ (AW_ok ti slots key re pu co (y5.getD t20.toNat default).f_key y11 E10 (sel [0, 1, 2, 3]) sj_) (a_ (rl_ (.row 33 1 (fun _ => (cT_60 ti (.map 1) key .any re (.map 2) (.map 3))) false)) (a_ (Eq.refl (oP2 slots [] : LO)) (a_ (rl_ (oM4 pu)) (a_ (rl_ (oM5 co)) tr))))) tr) (r4_ (a_ (a_ (a_ (Eq.refl 21) (a_ (le_ 21 21 rfl) (Eq.refl 0))) tr) (r1_ tr)))))) (a_ (f_ C12 tr) (a_ (r1_ (m_ 21 21 rfl (a_ (a_ (a_ (Eq.refl true) (a_ (Eq.refl 21) (a_ (lt_ 0 21 rfl) (le_ 21 16777216 rfl)))) (a_ (le_sl_gs 11 1 (some 1) rfl) (a_ (sub_lit c_Bp default 21 (fun _ => rfl) ([y11.1] : List (Bp))) tr))) (a_ (a_ (a_ (a_ (Eq.refl 21) (Nat.le_refl (([y11.1] : List (Bp))).length)) (a_ (a_ (lt_ 0 21 rfl) (a_ (lt_ 0 48 rfl) (a_ G13 (a_ (Eq.refl 21) (Eq.refl true))))) (a_ (Eq.refl 21) (Nat.le_refl (l2).length)))) (a_ (le_gs_app 12 l2 ([y11.1] : List (Bp))) (a_ (sub_app c_Bp default 21 l2 ([y11.1] : List (Bp))) tr))) (r1_ tr))))) (a_ (r2_ tr) tr))))))))))) (ih _ _ _ r h) ⟨fun _ _ => rfl, uP, trivial, trivial, fun _ _ => rfl, fun _ _ => rfl, trivial⟩
     ·exact rt_ hμ [9, 5] 44 [.go, .reg [(0, hT)], .reg [], .x (.p (.po 1 (v_Bh (y5.getD t20.toNat default)) (c_Bf y4))), .reg [(10, { look := some (.ptr 7 0 0) }), (11, hk_ (hK_ [7] (AK_v y7) (AK_objs y4) (AK_up y7))), (13, { os := [(8, .gr 10 (([(Bo.mk (y5.getD t20.toNat default).f_key (y5.getD t20.toNat default).f_mode y7)] : List (Bo))).length (rowF c_Bo default ([(Bo.mk (y5.getD t20.toNat default).f_key (y5.getD t20.toNat default).f_mode y7)] : List (Bo))))], v := some (.gs 8 (([(Bo.mk (y5.getD t20.toNat default).f_key (y5.getD t20.toNat default).f_mode y7)] : List (Bo))).length) }), (14, { app := 3, os := [(9, .gr 10 ((l ++ ([(Bo.mk (y5.getD t20.toNat default).f_key (y5.getD t20.toNat default).f_mode y7)] : List (Bo)))).length (rowF c_Bo default (l ++ ([(Bo.mk (y5.getD t20.toNat default).f_key (y5.getD t20.toNat default).f_mode y7)] : List (Bo)))))], v := some (.gs 9 ((l ++ ([(Bo.mk (y5.getD t20.toNat default).f_key (y5.getD t20.toNat default).f_mode y7)] : List (Bo)))).length) })], .x (.p (.pc 1)), .wk [] [(1, oP2 slots [])], .reg [(2, hF)], .reg [(3, hk_ (hK_ [0, 1, 2, 3] (AW_v y11) (AW_objs ti slots key re pu co) (AW_up slots pu co y11)))], .reg [(0, hF)], .reg []]
       (a_ (f_ C1 tr) (a_ (a_ (a_ (a_ (Eq.refl 9) G2) tr) (a_ (a_ (le_ 9 9 rfl) tr) (r1_ (a_ (a_ (a_ (Eq.refl 9) (a_ (le_ 9 9 rfl) (Eq.refl 0))) tr) tr)))) (a_ (a_ (pmIn v_Bh c_Bf E5) (pmO0 v_Bh (y5.getD t20.toNat default))) (a_ (r2_ (m_ 8 9 rfl (r1_ (l_ 8 9 rfl (r1_ (r2_ (a_ (a_ (a_ (lt_ 0 1 rfl) (lt_ 4 33 rfl)) tr) (m_ 9 9 rfl (a_ (a_ (a_ (Eq.refl true) (a_ (pmSi v_Bh c_Bf k_Bh slots (y5.getD t20.toNat default) (isS E5)) (List.mem_cons_self (a := ((v_Bh (y5.getD t20.toNat default), 7) : LV × Nat)) (l := [])))) tr) (a_ (a_ (a_ (AK_ok y4 y7 E6 (sel [7]) sj_) (a_ (LO.Le.ofVar (c_Bf y4)) tr)) tr) (a_ (a_ (Eq.refl true) tr) (a_ (a_ (a_ (Eq.refl true) (a_ (Eq.refl 10) (a_ (lt_ 0 10 rfl) (le_ 10 16777216 rfl)))) (a_ (le_sl_gs 8 1 (some 1) rfl) (a_ (sub_lit c_Bo default 10 (fun _ => rfl) ([(Bo.mk (y5.getD t20.toNat default).f_key (y5.getD t20.toNat default).f_mode y7)] : List (Bo))) tr))) (a_ (a_ (a_ (a_ (Eq.refl 10) (Nat.le_refl (([(Bo.mk (y5.getD t20.toNat default).f_key (y5.getD t20.toNat default).f_mode y7)] : List (Bo))).length)) (a_ (a_ (lt_ 0 10 rfl) (a_ (lt_ 0 40 rfl) (a_ G8 (a_ (Eq.refl 10) (Eq.refl true))))) (a_ (Eq.refl 10) (Nat.le_refl (l).length)))) (a_ (le_gs_app 9 l ([(Bo.mk (y5.getD t20.toNat default).f_key (y5.getD t20.toNat default).f_mode y7)] : List (Bo))) (a_ (sub_app c_Bo default 10 l ([(Bo.mk (y5.getD t20.toNat default).f_key (y5.getD t20.toNat default).f_mode y7)] : List (Bo))) tr))) (r1_ tr)))))))))))))) (a_ (a_ (getP_enc v_Bh c_Bf k_Bh slots (y5.getD t20.toNat default) E5) (a_ (Eq.refl true) (a_ (Eq.refl true) (show 1 ≠ 7 from by decide)))) (a_ (a_ tr (a_ (pm_same v_Bh c_Bf k_Bh true ks1 [] (m := slots) (k := (y5.getD t20.toNat default)) E5) tr)) (a_ (r1_ (l_ 8 9 rfl (f_ C9 tr))) (a_ (r2_ (m_ 8 9 rfl (a_ (a_ (a_ (AW_ok ti slots key re pu co (y5.getD t20.toNat default).f_key y11 E10 (sel [0, 1, 2, 3]) sj_) (a_ (rl_ (.row 33 1 (fun _ => (cT_60 ti (.map 1) key .any re (.map 2) (.map 3))) false)) (a_ (Eq.refl (oP2 slots [] : LO)) (a_ (rl_ (oM4 pu)) (a_ (rl_ (oM5 co)) tr))))) tr) (r4_ (a_ (a_ (a_ (Eq.refl 21) (a_ (le_ 21 21 rfl) (Eq.refl 0))) tr) (r1_ tr)))))) (a_ (f_ C12 tr) (a_ (r2_ tr) tr)))))))))) (ih _ _ _ r h) ⟨fun _ _ => rfl, uP, trivial, trivial, fun _ _ => rfl, fun _ _ => rfl, trivial⟩
   ·cases h
  ·obtain rfl := si_ h
   exact rr_ [] 21 [.go, .reg [(0, hF)], .reg [], .frz 4, .frz 5]
    (a_ (a_ (f_ C1 tr) (a_ (r4_ tr) (a_ (a_ (fz_row (enc := c_Bo) (d := default) (fun _ => rfl) l) (a_ (Nat.le_refl (l).length) (a_ (Nat.le_refl (l).length) (a_ (Nat.le_refl (l).length) (a_ (ob_rov ((cT_60 ti (.map 1) key .any re (.map 2) (.map 3))) 4 10 (l).length (rowF c_Bo default l) rfl) tr))))) (a_ (a_ (fz_row (enc := c_Bp) (d := default) (fun _ => rfl) l2) (a_ (Nat.le_refl (l2).length) (a_ (Nat.le_refl (l2).length) (a_ (Nat.le_refl (l2).length) (a_ (ob_rov ((cT_60 ti (.map 1) key .any re (.map 2) (.map 3))) 5 21 (l2).length (rowF c_Bp default l2) rfl) tr))))) tr)))) tr)
theorem Ab_ok (ti : Bi) (slots : A_) (key : Bh) (re : D_) (pu : B_) (co : C_) (r : (List (Bo)) × (List (Bp))) (h : Ab ti slots key re pu co = some r) : ∀ σ, Inj 4 σ → FnTri Tryz.prog 15 (renL σ [.ptr 0 0 0]) (preOf σ 0 (Ab_objs ti slots key re pu co)) ((Ab_v r).ren σ) (upOf σ (Ab_up slots pu co r)) := by
 refine fo_ Tryz.func15 ⟨fun _ _ => rfl, uP, trivial, trivial, trivial⟩ ⟨uP, trivial, trivial, trivial⟩ ?_
 intro w0 W μ0 hμ
 unfold Ab at h
 obtain ⟨y2, e1, h⟩ := bs_ h
 obtain ⟨y4, e3, h⟩ := bs_ h
 obtain ⟨y5, e6, h⟩ := bs_ h
 exact rt_ hμ [4, 5] 32 [.reg [(0, hv_ (.ds 10 (([] : List (Bo))).length (rowF c_Bo default ([] : List (Bo))))), (1, hv_ (.ds 21 (([] : List (Bp))).length (rowF c_Bp default ([] : List (Bp)))))], .reg [(1, hk_ (hK_ [0, 1, 2, 3] (AT_v y2) (AT_objs ti slots key re pu co) (AT_up pu co y2)))], .void (.gr 10 (([] : List (Bo))).length (rowF c_Bo default ([] : List (Bo)))), .reg [(0, hv_ (.gs 4 (([] : List (Bo))).length))], .void (.gr 21 (([] : List (Bp))).length (rowF c_Bp default ([] : List (Bp)))), .reg [(0, hv_ (.gs 5 (([] : List (Bp))).length))], .reg [(4, hk_ (hK_ [1, 6] (AO_v y4) (AO_objs slots) (AO_up slots y4))), (5, { call := some (.ds 9 (y5).length (rowF c_Bh default y5), [(6, .var [.map 1]), (1, .mapR true ks1 (encM v_Bh (fun _ => LV.any) slots))], []) })]]
  (a_ (a_ (a_ tr (a_ (le_nil_ds 10 (rowF c_Bo default [])) tr)) (a_ (a_ tr (a_ (le_nil_ds 21 (rowF c_Bp default [])) tr)) tr)) (a_ (r1_ (a_ (a_ (a_ (AT_ok ti slots key re pu co y2 e1 (sel [0, 1, 2, 3]) sj_) (a_ (rl_ (.row 33 1 (fun _ => (cT_60 ti (.map 1) key .any re (.map 2) (.map 3))) false)) (a_ (le_pmR v_Bh c_Bf (ag := true) (ks := ks1) (m := slots) (opn := [])) (a_ (rl_ (oM4 pu)) (a_ (rl_ (oM5 co)) tr))))) tr) (r1_ tr))) (a_ (Eq.refl 0) (a_ (a_ (a_ tr (a_ (le_nil_gs 4) tr)) tr) (a_ (Eq.refl 0) (a_ (a_ (a_ tr (a_ (le_nil_gs 5) tr)) tr) (a_ (r1_ (r2_ (a_ (a_ (a_ (lt_ 0 1 rfl) (lt_ 4 33 rfl)) tr) (a_ (a_ (a_ (AO_ok slots y4 e3 (sel [1, 6]) sj_) (a_ (Eq.refl (oP2 slots [] : LO)) tr)) tr) (a_ (a_ (a_ (so30k62_tri 32 Bd y5 [] [] [(6, .var [.map 1]), (1, .mapR true ks1 (encM v_Bh (fun _ => LV.any) slots))] (fun x y r h => Bd_tri x y r h) (fun z hz => List.mem_cons_of_mem _ (List.mem_cons_of_mem _ hz)) 6 1 slots List.mem_cons_self (List.mem_cons_of_mem _ List.mem_cons_self) e6) (a_ (rl_ (.var [.map 1])) (a_ (le_pmR v_Bh c_Bf (ag := true) (ks := ks1) (m := slots) (opn := [])) tr))) tr) (r2_ tr)))))) tr))))))) (Ab_l0_ok hμ ti slots key re pu co y5 big _ _ _ r h) ⟨fun _ _ => rfl, uP, trivial, trivial, fun _ _ => rfl, fun _ _ => rfl, trivial⟩
def AY_v (r : J_ × (Bool)) : LV := .tup [.str r.1, .bool r.2]
def AY_up (slots : A_) (pu : B_) (co : C_) (r : J_ × (Bool)) : Upd := [(1, some (oP2 slots [])), (2, some (oM4 pu)), (3, some (oM5 co))]
def AY_objs (ti : Bi) (slots : A_) (key : Bh) (re : D_) (pu : B_) (co : C_) : List LO := [.row 33 1 (fun _ => (cT_60 ti (.map 1) key .any re (.map 2) (.map 3))) false, oP2 slots [], oM4 pu, oM5 co]
def AY (ti : Bi) (slots : A_) (key : Bh) (re : D_) (pu : B_) (co : C_) (x_k : I_) : Option (J_ × (Bool)) :=
 (AT ti slots key re pu co).bind fun y2 =>
 if (((mget pu x_k).isSome) : Bool) then
  some (((mget pu x_k).getD default), true)
 else
  (BQ ti slots key re pu co x_k).bind fun y5 =>
  some (y5.1.f_Value, y5.2)
theorem AY_ok (ti : Bi) (slots : A_) (key : Bh) (re : D_) (pu : B_) (co : C_) (x_k : I_) (r : J_ × (Bool)) (h : AY ti slots key re pu co x_k = some r) : ∀ σ, Inj 4 σ → FnTri Tryz.prog 10 (renL σ [.ptr 0 0 0, .agg [.int .u8 x_k.a0, .int .u8 x_k.a1, .int .u8 x_k.a2, .int .u8 x_k.a3, .int .u8 x_k.a4, .int .u8 x_k.a5, .int .u8 x_k.a6, .int .u8 x_k.a7]]) (preOf σ 0 (AY_objs ti slots key re pu co)) ((AY_v r).ren σ) (upOf σ (AY_up slots pu co r)) := by
 refine fo_ Tryz.func10 ⟨fun _ _ => rfl, uP, trivial, trivial, trivial⟩ ⟨uP, trivial, trivial, trivial⟩ ?_
 intro w0 W μ0 hμ
 unfold AY at h
 obtain ⟨y2, e1, h⟩ := bs_ h
 rcases it_ h with ⟨c3, h⟩ | ⟨c3, h⟩
 ·obtain rfl := si_ h
  exact rr_ [] 29 [.reg [], .reg [(1, hk_ (hK_ [0, 1, 2, 3] (AT_v y2) (AT_objs ti slots key re pu co) (AT_up pu co y2)))], .reg [(5, { look := ((mget pu x_k).map LV.str), v := some (.tup [.str ((mget pu x_k).getD default), .bool ((mget pu x_k).isSome)]) })], .reg [(0, hT)], .reg []]
   (a_ (a_ (r1_ (r2_ tr)) (a_ (r1_ (a_ (a_ (a_ (AT_ok ti slots key re pu co y2 e1 (sel [0, 1, 2, 3]) sj_) (a_ (rl_ (.row 33 1 (fun _ => (cT_60 ti (.map 1) key .any re (.map 2) (.map 3))) false)) (a_ (le_pmR v_Bh c_Bf (ag := true) (ks := ks1) (m := slots) (opn := [])) (a_ (rl_ (oM4 pu)) (a_ (rl_ (oM5 co)) tr))))) tr) (r1_ tr))) (a_ (r1_ (r2_ (a_ (a_ (a_ (lt_ 0 1 rfl) (lt_ 31 33 rfl)) tr) (m_ 8 8 rfl (a_ (a_ (a_ (Eq.refl true) (findE_enc (fun z_ : I_ => LV.agg [.int .u8 z_.a0, .int .u8 z_.a1, .int .u8 z_.a2, .int .u8 z_.a3, .int .u8 z_.a4, .int .u8 z_.a5, .int .u8 z_.a6, .int .u8 z_.a7]) LV.str (k_arr8 .u8) pu x_k)) (a_ (le_lookok LV.str (mget pu x_k) default) tr)) (r1_ (r4_ tr))))))) (a_ (f_ c3 tr) (a_ (r1_ (r2_ tr)) tr))))) tr)
 ·obtain ⟨y5, e4, h⟩ := bs_ h
  obtain rfl := si_ h
  exact rr_ [] 33 [.reg [], .reg [(1, hk_ (hK_ [0, 1, 2, 3] (AT_v y2) (AT_objs ti slots key re pu co) (AT_up pu co y2)))], .reg [(5, { look := ((mget pu x_k).map LV.str), v := some (.tup [.str ((mget pu x_k).getD default), .bool ((mget pu x_k).isSome)]) })], .reg [(0, hF)], .reg [(2, hk_ (hK_ [0, 1, 2, 3] (BQ_v y5) (BQ_objs ti slots key re pu co) (BQ_up slots pu co y5)))], .reg []]
   (a_ (a_ (r1_ (r2_ tr)) (a_ (r1_ (a_ (a_ (a_ (AT_ok ti slots key re pu co y2 e1 (sel [0, 1, 2, 3]) sj_) (a_ (rl_ (.row 33 1 (fun _ => (cT_60 ti (.map 1) key .any re (.map 2) (.map 3))) false)) (a_ (le_pmR v_Bh c_Bf (ag := true) (ks := ks1) (m := slots) (opn := [])) (a_ (rl_ (oM4 pu)) (a_ (rl_ (oM5 co)) tr))))) tr) (r1_ tr))) (a_ (r1_ (r2_ (a_ (a_ (a_ (lt_ 0 1 rfl) (lt_ 31 33 rfl)) tr) (m_ 8 8 rfl (a_ (a_ (a_ (Eq.refl true) (findE_enc (fun z_ : I_ => LV.agg [.int .u8 z_.a0, .int .u8 z_.a1, .int .u8 z_.a2, .int .u8 z_.a3, .int .u8 z_.a4, .int .u8 z_.a5, .int .u8 z_.a6, .int .u8 z_.a7]) LV.str (k_arr8 .u8) pu x_k)) (a_ (le_lookok LV.str (mget pu x_k) default) tr)) (r1_ (r4_ tr))))))) (a_ (f_ c3 tr) (a_ (r1_ (m_ 8 8 rfl (a_ (a_ (a_ (BQ_ok ti slots key re pu co x_k y5 e4 (sel [0, 1, 2, 3]) sj_) (a_ (rl_ (.row 33 1 (fun _ => (cT_60 ti (.map 1) key .any re (.map 2) (.map 3))) false)) (a_ (Eq.refl (oP2 slots [] : LO)) (a_ (rl_ (oM4 pu)) (a_ (rl_ (oM5 co)) tr))))) tr) (r4_ (a_ (a_ (a_ (Eq.refl 13) (a_ (le_ 13 13 rfl) (Eq.refl 0))) tr) (r1_ tr)))))) (a_ (r1_ (l_ 1 13 rfl (r1_ (r2_ tr)))) tr)))))) tr)
def AI_v (r : (Bool)) : LV := .bool r
def AI_c4 : Option ((Bool)) :=
 some false
def AI_c8 : Option ((Bool)) :=
 some false
def AI_c9 (y2 : Bool × (Unit) × ((Bi) × (Bh) × D_ × A_ × E_ × B_ × C_)) (y8 : (Bool) × (Int) × (Bi) × (Bh) × D_ × A_ × E_) (y17 : (Int) × B_) : Option ((Bool)) :=
 (Ab y8.2.2.1 y8.2.2.2.2.2.1 y8.2.2.2.1 y8.2.2.2.2.1 y17.2 y2.2.2.2.2.2.2.2.2).bind fun yC9_2 =>
 (AY y8.2.2.1 y8.2.2.2.2.2.1 y8.2.2.2.1 y8.2.2.2.2.1 y17.2 y2.2.2.2.2.2.2.2.2 (A8.mk 97 0 0 0 0 0 0 0)).bind fun y4 =>
 if ((((yC9_2.2).length : Int) == 1) : Bool) then
  if 0 ≤ (0 : Int) ∧ (0 : Int) < (((yC9_2.2).length : Nat) : Int) then
  if (((yC9_2.2.getD 0 default).f_Item.f_Version == 5) : Bool) then
   if (((yC9_2.2.getD 0 default).f_Item.f_Value == ([120] : J_)) : Bool) then
    if ((y4.1 == ([120] : J_)) : Bool) then
     some y4.2
    else
     some false
   else
    some false
  else
   some false
  else none
 else
  some false
def AI_c5 (y2 : Bool × (Unit) × ((Bi) × (Bh) × D_ × A_ × E_ × B_ × C_)) (y7 : (Int) × (Bi) × (Bh) × D_ × A_ × E_) : Option ((Bool)) :=
 (AV 0).bind fun yC5_2 =>
 (AH y7.2.1 y7.2.2.2.2.1 y7.2.2.1 y7.2.2.2.2.2 y7.2.2.2.1 y2.2.2.2.2.2.2.2.1 y2.2.2.2.2.2.2.2.2 (A8.mk 97 0 0 0 0 0 0 0) 2 yC5_2).bind fun y4 =>
 (AV 1).bind fun y6 =>
 (AH y4.2.2.1 y4.2.2.2.2.2.1 y4.2.2.2.1 y4.2.2.2.2.2.2 y4.2.2.2.2.1 y2.2.2.2.2.2.2.2.1 y2.2.2.2.2.2.2.2.2 (A8.mk 97 0 0 0 0 0 0 0) 2 y6).bind fun y8 =>
 if (y4.1 : Bool) then
  some false
 else
  if ((y4.2.1 != 0) : Bool) then
   AI_c8
  else
   if ((!y8.1) : Bool) then
    AI_c8
   else
    if ((y8.2.1 != 0) : Bool) then
     AI_c8
    else
     (AM y8.2.2.1 y8.2.2.2.2.2.1 y8.2.2.2.1 y8.2.2.2.2.1 y2.2.2.2.2.2.2.2.1 y2.2.2.2.2.2.2.2.2 (A8.mk 97 0 0 0 0 0 0 0)).bind fun y14 =>
     if ((y14 != 2) : Bool) then
      AI_c8
     else
      (Al y8.2.2.1 y8.2.2.2.2.2.1 y8.2.2.2.1 y8.2.2.2.2.1 y2.2.2.2.2.2.2.2.1 y2.2.2.2.2.2.2.2.2 (A8.mk 97 0 0 0 0 0 0 0) ([120] : J_)).bind fun y17 =>
      if ((y17.1 != 0) : Bool) then
       AI_c8
      else
       AI_c9 y2 y8 y17
def AI : Option ((Bool)) :=
 (BL (Bi.mk 0 (Br.mk 0 1 1))).bind fun y2 =>
 if (y2.1 : Bool) then
  some false
 else
  (Au).bind fun y5 =>
  (AF y2.2.2.1 y2.2.2.2.2.2.1 y2.2.2.2.1 y2.2.2.2.2.2.2.1 y2.2.2.2.2.1 y2.2.2.2.2.2.2.2.1 y2.2.2.2.2.2.2.2.2 (A8.mk 97 0 0 0 0 0 0 0) 2 y5 ([] : H_)).bind fun y7 =>
  if ((y7.1 != 0) : Bool) then
   AI_c4
  else
   AI_c5 y2 y7
abbrev AI_K1000004 (w0 : World) (W : Nat → Prop) (μ0 : Emb) (r : (Bool)) : Prop := Kt_ w0 W μ0 Tryz.f7 0 0 (AI_v r) [] (kAtR (bodyOf Tryz.f7) 4) (n_ 108 []) []
abbrev AI_K1000008 (w0 : World) (W : Nat → Prop) (μ0 : Emb) (r : (Bool)) : Prop := Kt_ w0 W μ0 Tryz.f7 0 0 (AI_v r) [] (kAtR (bodyOf Tryz.f7) 8) (n_ 108 []) []
abbrev AI_K1000009 (w0 : World) (W : Nat → Prop) (μ0 : Emb) (y2 : Bool × (Unit) × ((Bi) × (Bh) × D_ × A_ × E_ × B_ × C_)) (y8 : (Bool) × (Int) × (Bi) × (Bh) × D_ × A_ × E_) (y17 : (Int) × B_) (r : (Bool)) : Prop := Kt_ w0 W μ0 Tryz.f7 0 0 (AI_v r) [] (kAtR (bodyOf Tryz.f7) 9) (.any :: (.ptr 0 0 0) :: .any :: (.ptr 1 0 0) :: n_ 104 []) [some (.var (cT_60 y8.2.2.1 (.map 2) y8.2.2.2.1 (.op 3 (y8.2.2.2.2.2.2).isSome) y8.2.2.2.2.1 (.map 4) (.map 5))), some (.var [.int .u8 97, .int .u8 0, .int .u8 0, .int .u8 0, .int .u8 0, .int .u8 0, .int .u8 0, .int .u8 0]), some (oP2 y8.2.2.2.2.2.1 []), some (.vo (y8.2.2.2.2.2.2).isSome (c_Bf ((y8.2.2.2.2.2.2).getD default))), some (oM4 y17.2), some (oM5 y2.2.2.2.2.2.2.2.2)]
abbrev AI_K1000005 (w0 : World) (W : Nat → Prop) (μ0 : Emb) (y2 : Bool × (Unit) × ((Bi) × (Bh) × D_ × A_ × E_ × B_ × C_)) (y7 : (Int) × (Bi) × (Bh) × D_ × A_ × E_) (r : (Bool)) : Prop := Kt_ w0 W μ0 Tryz.f7 0 0 (AI_v r) [] (kAtR (bodyOf Tryz.f7) 5) (.any :: (.ptr 0 0 0) :: .any :: (.ptr 1 0 0) :: n_ 104 []) [some (.var (cT_60 y7.2.1 (.map 2) y7.2.2.1 (.op 3 (y7.2.2.2.2.2).isSome) y7.2.2.2.1 (.map 4) (.map 5))), some (.var [.int .u8 97, .int .u8 0, .int .u8 0, .int .u8 0, .int .u8 0, .int .u8 0, .int .u8 0, .int .u8 0]), some (oP2 y7.2.2.2.2.1 []), some (.vo (y7.2.2.2.2.2).isSome (c_Bf ((y7.2.2.2.2.2).getD default))), some (oM4 y2.2.2.2.2.2.2.2.1), some (oM5 y2.2.2.2.2.2.2.2.2)]
theorem AI_c4_ok {w0 W μ0} (hμ : Lt_ μ0 0) (r : (Bool)) (h : AI_c4 = some r) : AI_K1000004 w0 W μ0 r := by
 unfold AI_c4 at h
 obtain rfl := si_ h
 exact rr_ [] 11 [.reg []]
  (a_ (a_ (r1_ tr) tr) tr)
theorem AI_c8_ok {w0 W μ0} (hμ : Lt_ μ0 0) (r : (Bool)) (h : AI_c8 = some r) : AI_K1000008 w0 W μ0 r := by
 unfold AI_c8 at h
 obtain rfl := si_ h
 exact rr_ [] 11 [.reg []]
  (a_ (a_ (r1_ tr) tr) tr)
theorem AI_c9_ok {w0 W μ0} (hμ : Lt_ μ0 0) (y2 : Bool × (Unit) × ((Bi) × (Bh) × D_ × A_ × E_ × B_ × C_)) (y8 : (Bool) × (Int) × (Bi) × (Bh) × D_ × A_ × E_) (y17 : (Int) × B_) (r : (Bool)) (h : AI_c9 y2 y8 y17 = some r) : AI_K1000009 w0 W μ0 y2 y8 y17 r := by
 unfold AI_c9 at h
 obtain ⟨yC9_2, E1, h⟩ := bs_ h
 obtain ⟨y4, E3, h⟩ := bs_ h
 rcases it_ h with ⟨C5, h⟩ | ⟨C5, h⟩
 ·obtain ⟨G6, h⟩ := gs_ h
  rcases it_ h with ⟨C7, h⟩ | ⟨C7, h⟩
  ·rcases it_ h with ⟨C8, h⟩ | ⟨C8, h⟩
   ·rcases it_ h with ⟨C9, h⟩ | ⟨C9, h⟩
    ·obtain rfl := si_ h
     exact rr_ [] 17 [.reg [(1, hk_ (hK_ [0, 2, 4, 5] (Ab_v yC9_2) (Ab_objs y8.2.2.1 y8.2.2.2.2.2.1 y8.2.2.2.1 y8.2.2.2.2.1 y17.2 y2.2.2.2.2.2.2.2.2) (Ab_up y8.2.2.2.2.2.1 y17.2 y2.2.2.2.2.2.2.2.2 yC9_2)))], .reg [(2, hk_ (hK_ [0, 2, 4, 5] (AY_v y4) (AY_objs y8.2.2.1 y8.2.2.2.2.2.1 y8.2.2.2.1 y8.2.2.2.2.1 y17.2 y2.2.2.2.2.2.2.2.2) (AY_up y8.2.2.2.2.2.1 y17.2 y2.2.2.2.2.2.2.2.2 y4)))], .reg [(3, hT), (11, hT), (19, hT), (23, hT)]]
      (a_ (a_ (r1_ (a_ (a_ (a_ (Ab_ok y8.2.2.1 y8.2.2.2.2.2.1 y8.2.2.2.1 y8.2.2.2.2.1 y17.2 y2.2.2.2.2.2.2.2.2 yC9_2 E1 (sel [0, 2, 4, 5]) sj_) (a_ (LO.Le.ofVarL (lel_set (cT_60 y8.2.2.1 (.map 2) y8.2.2.2.1 (.op 3 (y8.2.2.2.2.2.2).isSome) y8.2.2.2.2.1 (.map 4) (.map 5)) 14 (.op 3 (y8.2.2.2.2.2.2).isSome) .any rfl (le_any _))) (a_ (Eq.refl (oP2 y8.2.2.2.2.2.1 [] : LO)) (a_ (rl_ (oM4 y17.2)) (a_ (rl_ (oM5 y2.2.2.2.2.2.2.2.2)) tr))))) tr) (r1_ (r4_ tr)))) (a_ (r1_ (m_ 8 8 rfl (a_ (a_ (a_ (AY_ok y8.2.2.1 y8.2.2.2.2.2.1 y8.2.2.2.1 y8.2.2.2.2.1 y17.2 y2.2.2.2.2.2.2.2.2 (A8.mk 97 0 0 0 0 0 0 0) y4 E3 (sel [0, 2, 4, 5]) sj_) (a_ (LO.Le.ofVarL (lel_set (cT_60 y8.2.2.1 (.map 2) y8.2.2.2.1 (.op 3 (y8.2.2.2.2.2.2).isSome) y8.2.2.2.2.1 (.map 4) (.map 5)) 14 (.op 3 (y8.2.2.2.2.2.2).isSome) .any rfl (le_any _))) (a_ (Eq.refl (oP2 y8.2.2.2.2.2.1 [] : LO)) (a_ (rl_ (oM4 y17.2)) (a_ (rl_ (oM5 y2.2.2.2.2.2.2.2.2)) tr))))) tr) (r1_ (r4_ tr))))) (a_ (r1_ (r2_ (f_ C5 (r1_ (a_ (a_ (a_ (Eq.refl 21) G6) tr) (r2_ (a_ (a_ (lt_ 0 13 rfl) tr) (r2_ (f_ C7 (r1_ (a_ (a_ (a_ (Eq.refl 21) G6) tr) (r2_ (a_ (a_ (lt_ 0 12 rfl) tr) (r2_ (f_ C8 (r1_ (r2_ (f_ C9 (r1_ (r2_ tr)))))))))))))))))))) tr))) tr)
    ·obtain rfl := si_ h
     exact rr_ [] 17 [.reg [(1, hk_ (hK_ [0, 2, 4, 5] (Ab_v yC9_2) (Ab_objs y8.2.2.1 y8.2.2.2.2.2.1 y8.2.2.2.1 y8.2.2.2.2.1 y17.2 y2.2.2.2.2.2.2.2.2) (Ab_up y8.2.2.2.2.2.1 y17.2 y2.2.2.2.2.2.2.2.2 yC9_2)))], .reg [(2, hk_ (hK_ [0, 2, 4, 5] (AY_v y4) (AY_objs y8.2.2.1 y8.2.2.2.2.2.1 y8.2.2.2.1 y8.2.2.2.2.1 y17.2 y2.2.2.2.2.2.2.2.2) (AY_up y8.2.2.2.2.2.1 y17.2 y2.2.2.2.2.2.2.2.2 y4)))], .reg [(3, hT), (11, hT), (19, hT), (23, hF)]]
      (a_ (a_ (r1_ (a_ (a_ (a_ (Ab_ok y8.2.2.1 y8.2.2.2.2.2.1 y8.2.2.2.1 y8.2.2.2.2.1 y17.2 y2.2.2.2.2.2.2.2.2 yC9_2 E1 (sel [0, 2, 4, 5]) sj_) (a_ (LO.Le.ofVarL (lel_set (cT_60 y8.2.2.1 (.map 2) y8.2.2.2.1 (.op 3 (y8.2.2.2.2.2.2).isSome) y8.2.2.2.2.1 (.map 4) (.map 5)) 14 (.op 3 (y8.2.2.2.2.2.2).isSome) .any rfl (le_any _))) (a_ (Eq.refl (oP2 y8.2.2.2.2.2.1 [] : LO)) (a_ (rl_ (oM4 y17.2)) (a_ (rl_ (oM5 y2.2.2.2.2.2.2.2.2)) tr))))) tr) (r1_ (r4_ tr)))) (a_ (r1_ (m_ 8 8 rfl (a_ (a_ (a_ (AY_ok y8.2.2.1 y8.2.2.2.2.2.1 y8.2.2.2.1 y8.2.2.2.2.1 y17.2 y2.2.2.2.2.2.2.2.2 (A8.mk 97 0 0 0 0 0 0 0) y4 E3 (sel [0, 2, 4, 5]) sj_) (a_ (LO.Le.ofVarL (lel_set (cT_60 y8.2.2.1 (.map 2) y8.2.2.2.1 (.op 3 (y8.2.2.2.2.2.2).isSome) y8.2.2.2.2.1 (.map 4) (.map 5)) 14 (.op 3 (y8.2.2.2.2.2.2).isSome) .any rfl (le_any _))) (a_ (Eq.refl (oP2 y8.2.2.2.2.2.1 [] : LO)) (a_ (rl_ (oM4 y17.2)) (a_ (rl_ (oM5 y2.2.2.2.2.2.2.2.2)) tr))))) tr) (r1_ (r4_ tr))))) (a_ (r1_ (r2_ (f_ C5 (r1_ (a_ (a_ (a_ (Eq.refl 21) G6) tr) (r2_ (a_ (a_ (lt_ 0 13 rfl) tr) (r2_ (f_ C7 (r1_ (a_ (a_ (a_ (Eq.refl 21) G6) tr) (r2_ (a_ (a_ (lt_ 0 12 rfl) tr) (r2_ (f_ C8 (r1_ (r2_ (f_ C9 (a_ tr (r2_ tr)))))))))))))))))))) tr))) tr)
   ·obtain rfl := si_ h
    exact rr_ [] 17 [.reg [(1, hk_ (hK_ [0, 2, 4, 5] (Ab_v yC9_2) (Ab_objs y8.2.2.1 y8.2.2.2.2.2.1 y8.2.2.2.1 y8.2.2.2.2.1 y17.2 y2.2.2.2.2.2.2.2.2) (Ab_up y8.2.2.2.2.2.1 y17.2 y2.2.2.2.2.2.2.2.2 yC9_2)))], .reg [(2, hk_ (hK_ [0, 2, 4, 5] (AY_v y4) (AY_objs y8.2.2.1 y8.2.2.2.2.2.1 y8.2.2.2.1 y8.2.2.2.2.1 y17.2 y2.2.2.2.2.2.2.2.2) (AY_up y8.2.2.2.2.2.1 y17.2 y2.2.2.2.2.2.2.2.2 y4)))], .reg [(3, hT), (11, hT), (19, hF)]]
     (a_ (a_ (r1_ (a_ (a_ (a_ (Ab_ok y8.2.2.1 y8.2.2.2.2.2.1 y8.2.2.2.1 y8.2.2.2.2.1 y17.2 y2.2.2.2.2.2.2.2.2 yC9_2 E1 (sel [0, 2, 4, 5]) sj_) (a_ (LO.Le.ofVarL (lel_set (cT_60 y8.2.2.1 (.map 2) y8.2.2.2.1 (.op 3 (y8.2.2.2.2.2.2).isSome) y8.2.2.2.2.1 (.map 4) (.map 5)) 14 (.op 3 (y8.2.2.2.2.2.2).isSome) .any rfl (le_any _))) (a_ (Eq.refl (oP2 y8.2.2.2.2.2.1 [] : LO)) (a_ (rl_ (oM4 y17.2)) (a_ (rl_ (oM5 y2.2.2.2.2.2.2.2.2)) tr))))) tr) (r1_ (r4_ tr)))) (a_ (r1_ (m_ 8 8 rfl (a_ (a_ (a_ (AY_ok y8.2.2.1 y8.2.2.2.2.2.1 y8.2.2.2.1 y8.2.2.2.2.1 y17.2 y2.2.2.2.2.2.2.2.2 (A8.mk 97 0 0 0 0 0 0 0) y4 E3 (sel [0, 2, 4, 5]) sj_) (a_ (LO.Le.ofVarL (lel_set (cT_60 y8.2.2.1 (.map 2) y8.2.2.2.1 (.op 3 (y8.2.2.2.2.2.2).isSome) y8.2.2.2.2.1 (.map 4) (.map 5)) 14 (.op 3 (y8.2.2.2.2.2.2).isSome) .any rfl (le_any _))) (a_ (Eq.refl (oP2 y8.2.2.2.2.2.1 [] : LO)) (a_ (rl_ (oM4 y17.2)) (a_ (rl_ (oM5 y2.2.2.2.2.2.2.2.2)) tr))))) tr) (r1_ (r4_ tr))))) (a_ (r1_ (r2_ (f_ C5 (r1_ (a_ (a_ (a_ (Eq.refl 21) G6) tr) (r2_ (a_ (a_ (lt_ 0 13 rfl) tr) (r2_ (f_ C7 (r1_ (a_ (a_ (a_ (Eq.refl 21) G6) tr) (r2_ (a_ (a_ (lt_ 0 12 rfl) tr) (r2_ (f_ C8 (t2_ (r2_ (a_ tr (r2_ tr))))))))))))))))))) tr))) tr)
  ·obtain rfl := si_ h
   exact rr_ [] 17 [.reg [(1, hk_ (hK_ [0, 2, 4, 5] (Ab_v yC9_2) (Ab_objs y8.2.2.1 y8.2.2.2.2.2.1 y8.2.2.2.1 y8.2.2.2.2.1 y17.2 y2.2.2.2.2.2.2.2.2) (Ab_up y8.2.2.2.2.2.1 y17.2 y2.2.2.2.2.2.2.2.2 yC9_2)))], .reg [(2, hk_ (hK_ [0, 2, 4, 5] (AY_v y4) (AY_objs y8.2.2.1 y8.2.2.2.2.2.1 y8.2.2.2.1 y8.2.2.2.2.1 y17.2 y2.2.2.2.2.2.2.2.2) (AY_up y8.2.2.2.2.2.1 y17.2 y2.2.2.2.2.2.2.2.2 y4)))], .reg [(3, hT), (11, hF)]]
    (a_ (a_ (r1_ (a_ (a_ (a_ (Ab_ok y8.2.2.1 y8.2.2.2.2.2.1 y8.2.2.2.1 y8.2.2.2.2.1 y17.2 y2.2.2.2.2.2.2.2.2 yC9_2 E1 (sel [0, 2, 4, 5]) sj_) (a_ (LO.Le.ofVarL (lel_set (cT_60 y8.2.2.1 (.map 2) y8.2.2.2.1 (.op 3 (y8.2.2.2.2.2.2).isSome) y8.2.2.2.2.1 (.map 4) (.map 5)) 14 (.op 3 (y8.2.2.2.2.2.2).isSome) .any rfl (le_any _))) (a_ (Eq.refl (oP2 y8.2.2.2.2.2.1 [] : LO)) (a_ (rl_ (oM4 y17.2)) (a_ (rl_ (oM5 y2.2.2.2.2.2.2.2.2)) tr))))) tr) (r1_ (r4_ tr)))) (a_ (r1_ (m_ 8 8 rfl (a_ (a_ (a_ (AY_ok y8.2.2.1 y8.2.2.2.2.2.1 y8.2.2.2.1 y8.2.2.2.2.1 y17.2 y2.2.2.2.2.2.2.2.2 (A8.mk 97 0 0 0 0 0 0 0) y4 E3 (sel [0, 2, 4, 5]) sj_) (a_ (LO.Le.ofVarL (lel_set (cT_60 y8.2.2.1 (.map 2) y8.2.2.2.1 (.op 3 (y8.2.2.2.2.2.2).isSome) y8.2.2.2.2.1 (.map 4) (.map 5)) 14 (.op 3 (y8.2.2.2.2.2.2).isSome) .any rfl (le_any _))) (a_ (Eq.refl (oP2 y8.2.2.2.2.2.1 [] : LO)) (a_ (rl_ (oM4 y17.2)) (a_ (rl_ (oM5 y2.2.2.2.2.2.2.2.2)) tr))))) tr) (r1_ (r4_ tr))))) (a_ (r1_ (r2_ (f_ C5 (r1_ (a_ (a_ (a_ (Eq.refl 21) G6) tr) (r2_ (a_ (a_ (lt_ 0 13 rfl) tr) (r2_ (f_ C7 (t2_ (t4_ (r2_ (t2_ (r2_ (a_ tr (r2_ tr)))))))))))))))) tr))) tr)
 ·obtain rfl := si_ h
  exact rr_ [] 17 [.reg [(1, hk_ (hK_ [0, 2, 4, 5] (Ab_v yC9_2) (Ab_objs y8.2.2.1 y8.2.2.2.2.2.1 y8.2.2.2.1 y8.2.2.2.2.1 y17.2 y2.2.2.2.2.2.2.2.2) (Ab_up y8.2.2.2.2.2.1 y17.2 y2.2.2.2.2.2.2.2.2 yC9_2)))], .reg [(2, hk_ (hK_ [0, 2, 4, 5] (AY_v y4) (AY_objs y8.2.2.1 y8.2.2.2.2.2.1 y8.2.2.2.1 y8.2.2.2.2.1 y17.2 y2.2.2.2.2.2.2.2.2) (AY_up y8.2.2.2.2.2.1 y17.2 y2.2.2.2.2.2.2.2.2 y4)))], .reg [(3, hF)]]
   (a_ (a_ (r1_ (a_ (a_ (a_ (Ab_ok y8.2.2.1 y8.2.2.2.2.2.1 y8.2.2.2.1 y8.2.2.2.2.1 y17.2 y2.2.2.2.2.2.2.2.2 yC9_2 E1 (sel [0, 2, 4, 5]) sj_) (a_ (LO.Le.ofVarL (lel_set (cT_60 y8.2.2.1 (.map 2) y8.2.2.2.1 (.op 3 (y8.2.2.2.2.2.2).isSome) y8.2.2.2.2.1 (.map 4) (.map 5)) 14 (.op 3 (y8.2.2.2.2.2.2).isSome) .any rfl (le_any _))) (a_ (Eq.refl (oP2 y8.2.2.2.2.2.1 [] : LO)) (a_ (rl_ (oM4 y17.2)) (a_ (rl_ (oM5 y2.2.2.2.2.2.2.2.2)) tr))))) tr) (r1_ (r4_ tr)))) (a_ (r1_ (m_ 8 8 rfl (a_ (a_ (a_ (AY_ok y8.2.2.1 y8.2.2.2.2.2.1 y8.2.2.2.1 y8.2.2.2.2.1 y17.2 y2.2.2.2.2.2.2.2.2 (A8.mk 97 0 0 0 0 0 0 0) y4 E3 (sel [0, 2, 4, 5]) sj_) (a_ (LO.Le.ofVarL (lel_set (cT_60 y8.2.2.1 (.map 2) y8.2.2.2.1 (.op 3 (y8.2.2.2.2.2.2).isSome) y8.2.2.2.2.1 (.map 4) (.map 5)) 14 (.op 3 (y8.2.2.2.2.2.2).isSome) .any rfl (le_any _))) (a_ (Eq.refl (oP2 y8.2.2.2.2.2.1 [] : LO)) (a_ (rl_ (oM4 y17.2)) (a_ (rl_ (oM5 y2.2.2.2.2.2.2.2.2)) tr))))) tr) (r1_ (r4_ tr))))) (a_ (r1_ (r2_ (f_ C5 (t2_ (t4_ (r2_ (t2_ (t4_ (r2_ (t2_ (r2_ (a_ tr (r2_ tr))))))))))))) tr))) tr)
theorem AI_c5_ok {w0 W μ0} (hμ : Lt_ μ0 0) (y2 : Bool × (Unit) × ((Bi) × (Bh) × D_ × A_ × E_ × B_ × C_)) (y7 : (Int) × (Bi) × (Bh) × D_ × A_ × E_) (r : (Bool)) (h : AI_c5 y2 y7 = some r) : AI_K1000005 w0 W μ0 y2 y7 r := by
 unfold AI_c5 at h
 obtain ⟨yC5_2, E1, h⟩ := bs_ h
 obtain ⟨y4, E3, h⟩ := bs_ h
 obtain ⟨y6, E5, h⟩ := bs_ h
 obtain ⟨y8, E7, h⟩ := bs_ h
 rcases it_ h with ⟨C9, h⟩ | ⟨C9, h⟩
 ·obtain rfl := si_ h
  exact rr_ [] 22 [.reg [(2, hC (AV_v yC5_2)), (3, hk_ (hK_ [0, 2, 3, 4, 5, 6] (AH_v y4) (AH_objs y7.2.1 y7.2.2.2.2.1 y7.2.2.1 y7.2.2.2.2.2 y7.2.2.2.1 y2.2.2.2.2.2.2.2.1 y2.2.2.2.2.2.2.2.2) (AH_up y2.2.2.2.2.2.2.2.1 y2.2.2.2.2.2.2.2.2 y4)))], .reg [(2, hC (AV_v y6)), (3, hk_ (hK_ [0, 2, 6, 4, 5, 7] (AH_v y8) (AH_objs y4.2.2.1 y4.2.2.2.2.2.1 y4.2.2.2.1 y4.2.2.2.2.2.2 y4.2.2.2.2.1 y2.2.2.2.2.2.2.2.1 y2.2.2.2.2.2.2.2.2) (AH_up y2.2.2.2.2.2.2.2.1 y2.2.2.2.2.2.2.2.2 y8)))], .reg [(1, hT)], .reg []]
   (a_ (a_ (r1_ (m_ 8 8 rfl (c_ (AV_tri 0 yC5_2 E1) (a_ (a_ (a_ (AH_ok y7.2.1 y7.2.2.2.2.1 y7.2.2.1 y7.2.2.2.2.2 y7.2.2.2.1 y2.2.2.2.2.2.2.2.1 y2.2.2.2.2.2.2.2.2 (A8.mk 97 0 0 0 0 0 0 0) 2 yC5_2 y4 E3 (sel [0, 2, 3, 4, 5, 6]) sj_) (a_ (rl_ (.var (cT_60 y7.2.1 (.map 2) y7.2.2.1 (.op 3 (y7.2.2.2.2.2).isSome) y7.2.2.2.1 (.map 4) (.map 5)))) (a_ (Eq.refl (oP2 y7.2.2.2.2.1 [] : LO)) (a_ (rl_ (.vo (y7.2.2.2.2.2).isSome (c_Bf ((y7.2.2.2.2.2).getD default)))) (a_ (rl_ (oM4 y2.2.2.2.2.2.2.2.1)) (a_ (rl_ (oM5 y2.2.2.2.2.2.2.2.2)) tr)))))) tr) (r1_ (r4_ tr)))))) (a_ (r1_ (m_ 8 8 rfl (c_ (AV_tri 1 y6 E5) (a_ (a_ (a_ (AH_ok y4.2.2.1 y4.2.2.2.2.2.1 y4.2.2.2.1 y4.2.2.2.2.2.2 y4.2.2.2.2.1 y2.2.2.2.2.2.2.2.1 y2.2.2.2.2.2.2.2.2 (A8.mk 97 0 0 0 0 0 0 0) 2 y6 y8 E7 (sel [0, 2, 6, 4, 5, 7]) sj_) (a_ (rl_ (.var (cT_60 y4.2.2.1 (.map 2) y4.2.2.2.1 (.op 6 (y4.2.2.2.2.2.2).isSome) y4.2.2.2.2.1 (.map 4) (.map 5)))) (a_ (Eq.refl (oP2 y4.2.2.2.2.2.1 [] : LO)) (a_ (rl_ (.vo (y4.2.2.2.2.2.2).isSome (c_Bf ((y4.2.2.2.2.2.2).getD default)))) (a_ (rl_ (oM4 y2.2.2.2.2.2.2.2.1)) (a_ (rl_ (oM5 y2.2.2.2.2.2.2.2.2)) tr)))))) tr) (r1_ (r4_ tr)))))) (a_ (r1_ (f_ C9 (t2_ (r2_ (t2_ (r2_ (t2_ (r2_ (t4_ (r2_ (t4_ (r1_ tr)))))))))))) (a_ (r1_ tr) tr)))) tr)
 ·rcases it_ h with ⟨C10, h⟩ | ⟨C10, h⟩
  ·exact rt_ hμ [] 20 [.reg [(2, hC (AV_v yC5_2)), (3, hk_ (hK_ [0, 2, 3, 4, 5, 6] (AH_v y4) (AH_objs y7.2.1 y7.2.2.2.2.1 y7.2.2.1 y7.2.2.2.2.2 y7.2.2.2.1 y2.2.2.2.2.2.2.2.1 y2.2.2.2.2.2.2.2.2) (AH_up y2.2.2.2.2.2.2.2.1 y2.2.2.2.2.2.2.2.2 y4)))], .reg [(2, hC (AV_v y6)), (3, hk_ (hK_ [0, 2, 6, 4, 5, 7] (AH_v y8) (AH_objs y4.2.2.1 y4.2.2.2.2.2.1 y4.2.2.2.1 y4.2.2.2.2.2.2 y4.2.2.2.2.1 y2.2.2.2.2.2.2.2.1 y2.2.2.2.2.2.2.2.2) (AH_up y2.2.2.2.2.2.2.2.1 y2.2.2.2.2.2.2.2.2 y8)))], .reg [(1, hF), (5, hT)]]
    (a_ (r1_ (m_ 8 8 rfl (c_ (AV_tri 0 yC5_2 E1) (a_ (a_ (a_ (AH_ok y7.2.1 y7.2.2.2.2.1 y7.2.2.1 y7.2.2.2.2.2 y7.2.2.2.1 y2.2.2.2.2.2.2.2.1 y2.2.2.2.2.2.2.2.2 (A8.mk 97 0 0 0 0 0 0 0) 2 yC5_2 y4 E3 (sel [0, 2, 3, 4, 5, 6]) sj_) (a_ (rl_ (.var (cT_60 y7.2.1 (.map 2) y7.2.2.1 (.op 3 (y7.2.2.2.2.2).isSome) y7.2.2.2.1 (.map 4) (.map 5)))) (a_ (Eq.refl (oP2 y7.2.2.2.2.1 [] : LO)) (a_ (rl_ (.vo (y7.2.2.2.2.2).isSome (c_Bf ((y7.2.2.2.2.2).getD default)))) (a_ (rl_ (oM4 y2.2.2.2.2.2.2.2.1)) (a_ (rl_ (oM5 y2.2.2.2.2.2.2.2.2)) tr)))))) tr) (r1_ (r4_ tr)))))) (a_ (r1_ (m_ 8 8 rfl (c_ (AV_tri 1 y6 E5) (a_ (a_ (a_ (AH_ok y4.2.2.1 y4.2.2.2.2.2.1 y4.2.2.2.1 y4.2.2.2.2.2.2 y4.2.2.2.2.1 y2.2.2.2.2.2.2.2.1 y2.2.2.2.2.2.2.2.2 (A8.mk 97 0 0 0 0 0 0 0) 2 y6 y8 E7 (sel [0, 2, 6, 4, 5, 7]) sj_) (a_ (rl_ (.var (cT_60 y4.2.2.1 (.map 2) y4.2.2.2.1 (.op 6 (y4.2.2.2.2.2.2).isSome) y4.2.2.2.2.1 (.map 4) (.map 5)))) (a_ (Eq.refl (oP2 y4.2.2.2.2.2.1 [] : LO)) (a_ (rl_ (.vo (y4.2.2.2.2.2.2).isSome (c_Bf ((y4.2.2.2.2.2.2).getD default)))) (a_ (rl_ (oM4 y2.2.2.2.2.2.2.2.1)) (a_ (rl_ (oM5 y2.2.2.2.2.2.2.2.2)) tr)))))) tr) (r1_ (r4_ tr)))))) (a_ (r1_ (f_ C9 (r1_ (r2_ (f_ C10 (t2_ (r2_ (t2_ (r2_ (t4_ (r2_ (t4_ (r1_ tr))))))))))))) tr))) (AI_c8_ok hμ r h) trivial
  ·rcases it_ h with ⟨C11, h⟩ | ⟨C11, h⟩
   ·exact rt_ hμ [] 20 [.reg [(2, hC (AV_v yC5_2)), (3, hk_ (hK_ [0, 2, 3, 4, 5, 6] (AH_v y4) (AH_objs y7.2.1 y7.2.2.2.2.1 y7.2.2.1 y7.2.2.2.2.2 y7.2.2.2.1 y2.2.2.2.2.2.2.2.1 y2.2.2.2.2.2.2.2.2) (AH_up y2.2.2.2.2.2.2.2.1 y2.2.2.2.2.2.2.2.2 y4)))], .reg [(2, hC (AV_v y6)), (3, hk_ (hK_ [0, 2, 6, 4, 5, 7] (AH_v y8) (AH_objs y4.2.2.1 y4.2.2.2.2.2.1 y4.2.2.2.1 y4.2.2.2.2.2.2 y4.2.2.2.2.1 y2.2.2.2.2.2.2.2.1 y2.2.2.2.2.2.2.2.2) (AH_up y2.2.2.2.2.2.2.2.1 y2.2.2.2.2.2.2.2.2 y8)))], .reg [(1, hF), (5, hF), (9, hT)]]
     (a_ (r1_ (m_ 8 8 rfl (c_ (AV_tri 0 yC5_2 E1) (a_ (a_ (a_ (AH_ok y7.2.1 y7.2.2.2.2.1 y7.2.2.1 y7.2.2.2.2.2 y7.2.2.2.1 y2.2.2.2.2.2.2.2.1 y2.2.2.2.2.2.2.2.2 (A8.mk 97 0 0 0 0 0 0 0) 2 yC5_2 y4 E3 (sel [0, 2, 3, 4, 5, 6]) sj_) (a_ (rl_ (.var (cT_60 y7.2.1 (.map 2) y7.2.2.1 (.op 3 (y7.2.2.2.2.2).isSome) y7.2.2.2.1 (.map 4) (.map 5)))) (a_ (Eq.refl (oP2 y7.2.2.2.2.1 [] : LO)) (a_ (rl_ (.vo (y7.2.2.2.2.2).isSome (c_Bf ((y7.2.2.2.2.2).getD default)))) (a_ (rl_ (oM4 y2.2.2.2.2.2.2.2.1)) (a_ (rl_ (oM5 y2.2.2.2.2.2.2.2.2)) tr)))))) tr) (r1_ (r4_ tr)))))) (a_ (r1_ (m_ 8 8 rfl (c_ (AV_tri 1 y6 E5) (a_ (a_ (a_ (AH_ok y4.2.2.1 y4.2.2.2.2.2.1 y4.2.2.2.1 y4.2.2.2.2.2.2 y4.2.2.2.2.1 y2.2.2.2.2.2.2.2.1 y2.2.2.2.2.2.2.2.2 (A8.mk 97 0 0 0 0 0 0 0) 2 y6 y8 E7 (sel [0, 2, 6, 4, 5, 7]) sj_) (a_ (rl_ (.var (cT_60 y4.2.2.1 (.map 2) y4.2.2.2.1 (.op 6 (y4.2.2.2.2.2.2).isSome) y4.2.2.2.2.1 (.map 4) (.map 5)))) (a_ (Eq.refl (oP2 y4.2.2.2.2.2.1 [] : LO)) (a_ (rl_ (.vo (y4.2.2.2.2.2.2).isSome (c_Bf ((y4.2.2.2.2.2.2).getD default)))) (a_ (rl_ (oM4 y2.2.2.2.2.2.2.2.1)) (a_ (rl_ (oM5 y2.2.2.2.2.2.2.2.2)) tr)))))) tr) (r1_ (r4_ tr)))))) (a_ (r1_ (f_ C9 (r1_ (r2_ (f_ C10 (r1_ (r2_ (f_ C11 (t2_ (r2_ (t4_ (r2_ (t4_ (r1_ tr)))))))))))))) tr))) (AI_c8_ok hμ r h) trivial
   ·rcases it_ h with ⟨C12, h⟩ | ⟨C12, h⟩
    ·exact rt_ hμ [] 20 [.reg [(2, hC (AV_v yC5_2)), (3, hk_ (hK_ [0, 2, 3, 4, 5, 6] (AH_v y4) (AH_objs y7.2.1 y7.2.2.2.2.1 y7.2.2.1 y7.2.2.2.2.2 y7.2.2.2.1 y2.2.2.2.2.2.2.2.1 y2.2.2.2.2.2.2.2.2) (AH_up y2.2.2.2.2.2.2.2.1 y2.2.2.2.2.2.2.2.2 y4)))], .reg [(2, hC (AV_v y6)), (3, hk_ (hK_ [0, 2, 6, 4, 5, 7] (AH_v y8) (AH_objs y4.2.2.1 y4.2.2.2.2.2.1 y4.2.2.2.1 y4.2.2.2.2.2.2 y4.2.2.2.2.1 y2.2.2.2.2.2.2.2.1 y2.2.2.2.2.2.2.2.2) (AH_up y2.2.2.2.2.2.2.2.1 y2.2.2.2.2.2.2.2.2 y8)))], .reg [(1, hF), (5, hF), (9, hF), (13, hT)]]
      (a_ (r1_ (m_ 8 8 rfl (c_ (AV_tri 0 yC5_2 E1) (a_ (a_ (a_ (AH_ok y7.2.1 y7.2.2.2.2.1 y7.2.2.1 y7.2.2.2.2.2 y7.2.2.2.1 y2.2.2.2.2.2.2.2.1 y2.2.2.2.2.2.2.2.2 (A8.mk 97 0 0 0 0 0 0 0) 2 yC5_2 y4 E3 (sel [0, 2, 3, 4, 5, 6]) sj_) (a_ (rl_ (.var (cT_60 y7.2.1 (.map 2) y7.2.2.1 (.op 3 (y7.2.2.2.2.2).isSome) y7.2.2.2.1 (.map 4) (.map 5)))) (a_ (Eq.refl (oP2 y7.2.2.2.2.1 [] : LO)) (a_ (rl_ (.vo (y7.2.2.2.2.2).isSome (c_Bf ((y7.2.2.2.2.2).getD default)))) (a_ (rl_ (oM4 y2.2.2.2.2.2.2.2.1)) (a_ (rl_ (oM5 y2.2.2.2.2.2.2.2.2)) tr)))))) tr) (r1_ (r4_ tr)))))) (a_ (r1_ (m_ 8 8 rfl (c_ (AV_tri 1 y6 E5) (a_ (a_ (a_ (AH_ok y4.2.2.1 y4.2.2.2.2.2.1 y4.2.2.2.1 y4.2.2.2.2.2.2 y4.2.2.2.2.1 y2.2.2.2.2.2.2.2.1 y2.2.2.2.2.2.2.2.2 (A8.mk 97 0 0 0 0 0 0 0) 2 y6 y8 E7 (sel [0, 2, 6, 4, 5, 7]) sj_) (a_ (rl_ (.var (cT_60 y4.2.2.1 (.map 2) y4.2.2.2.1 (.op 6 (y4.2.2.2.2.2.2).isSome) y4.2.2.2.2.1 (.map 4) (.map 5)))) (a_ (Eq.refl (oP2 y4.2.2.2.2.2.1 [] : LO)) (a_ (rl_ (.vo (y4.2.2.2.2.2.2).isSome (c_Bf ((y4.2.2.2.2.2.2).getD default)))) (a_ (rl_ (oM4 y2.2.2.2.2.2.2.2.1)) (a_ (rl_ (oM5 y2.2.2.2.2.2.2.2.2)) tr)))))) tr) (r1_ (r4_ tr)))))) (a_ (r1_ (f_ C9 (r1_ (r2_ (f_ C10 (r1_ (r2_ (f_ C11 (r1_ (r2_ (f_ C12 (t4_ (r2_ (t4_ (r1_ tr))))))))))))))) tr))) (AI_c8_ok hμ r h) trivial
    ·obtain ⟨y14, E13, h⟩ := bs_ h
     rcases it_ h with ⟨C15, h⟩ | ⟨C15, h⟩
     ·exact rt_ hμ [] 20 [.reg [(2, hC (AV_v yC5_2)), (3, hk_ (hK_ [0, 2, 3, 4, 5, 6] (AH_v y4) (AH_objs y7.2.1 y7.2.2.2.2.1 y7.2.2.1 y7.2.2.2.2.2 y7.2.2.2.1 y2.2.2.2.2.2.2.2.1 y2.2.2.2.2.2.2.2.2) (AH_up y2.2.2.2.2.2.2.2.1 y2.2.2.2.2.2.2.2.2 y4)))], .reg [(2, hC (AV_v y6)), (3, hk_ (hK_ [0, 2, 6, 4, 5, 7] (AH_v y8) (AH_objs y4.2.2.1 y4.2.2.2.2.2.1 y4.2.2.2.1 y4.2.2.2.2.2.2 y4.2.2.2.2.1 y2.2.2.2.2.2.2.2.1 y2.2.2.2.2.2.2.2.2) (AH_up y2.2.2.2.2.2.2.2.1 y2.2.2.2.2.2.2.2.2 y8)))], .reg [(1, hF), (5, hF), (9, hF), (13, hF), (16, hk_ (hK_ [0, 2, 4, 5] (AM_v y14) (AM_objs y8.2.2.1 y8.2.2.2.2.2.1 y8.2.2.2.1 y8.2.2.2.2.1 y2.2.2.2.2.2.2.2.1 y2.2.2.2.2.2.2.2.2) (AM_up y2.2.2.2.2.2.2.2.1 y2.2.2.2.2.2.2.2.2 y14))), (19, hT)]]
       (a_ (r1_ (m_ 8 8 rfl (c_ (AV_tri 0 yC5_2 E1) (a_ (a_ (a_ (AH_ok y7.2.1 y7.2.2.2.2.1 y7.2.2.1 y7.2.2.2.2.2 y7.2.2.2.1 y2.2.2.2.2.2.2.2.1 y2.2.2.2.2.2.2.2.2 (A8.mk 97 0 0 0 0 0 0 0) 2 yC5_2 y4 E3 (sel [0, 2, 3, 4, 5, 6]) sj_) (a_ (rl_ (.var (cT_60 y7.2.1 (.map 2) y7.2.2.1 (.op 3 (y7.2.2.2.2.2).isSome) y7.2.2.2.1 (.map 4) (.map 5)))) (a_ (Eq.refl (oP2 y7.2.2.2.2.1 [] : LO)) (a_ (rl_ (.vo (y7.2.2.2.2.2).isSome (c_Bf ((y7.2.2.2.2.2).getD default)))) (a_ (rl_ (oM4 y2.2.2.2.2.2.2.2.1)) (a_ (rl_ (oM5 y2.2.2.2.2.2.2.2.2)) tr)))))) tr) (r1_ (r4_ tr)))))) (a_ (r1_ (m_ 8 8 rfl (c_ (AV_tri 1 y6 E5) (a_ (a_ (a_ (AH_ok y4.2.2.1 y4.2.2.2.2.2.1 y4.2.2.2.1 y4.2.2.2.2.2.2 y4.2.2.2.2.1 y2.2.2.2.2.2.2.2.1 y2.2.2.2.2.2.2.2.2 (A8.mk 97 0 0 0 0 0 0 0) 2 y6 y8 E7 (sel [0, 2, 6, 4, 5, 7]) sj_) (a_ (rl_ (.var (cT_60 y4.2.2.1 (.map 2) y4.2.2.2.1 (.op 6 (y4.2.2.2.2.2.2).isSome) y4.2.2.2.2.1 (.map 4) (.map 5)))) (a_ (Eq.refl (oP2 y4.2.2.2.2.2.1 [] : LO)) (a_ (rl_ (.vo (y4.2.2.2.2.2.2).isSome (c_Bf ((y4.2.2.2.2.2.2).getD default)))) (a_ (rl_ (oM4 y2.2.2.2.2.2.2.2.1)) (a_ (rl_ (oM5 y2.2.2.2.2.2.2.2.2)) tr)))))) tr) (r1_ (r4_ tr)))))) (a_ (r1_ (f_ C9 (r1_ (r2_ (f_ C10 (r1_ (r2_ (f_ C11 (r1_ (r2_ (f_ C12 (r1_ (m_ 8 8 rfl (a_ (a_ (a_ (AM_ok y8.2.2.1 y8.2.2.2.2.2.1 y8.2.2.2.1 y8.2.2.2.2.1 y2.2.2.2.2.2.2.2.1 y2.2.2.2.2.2.2.2.2 (A8.mk 97 0 0 0 0 0 0 0) y14 E13 (sel [0, 2, 4, 5]) sj_) (a_ (LO.Le.ofVarL (lel_set (cT_60 y8.2.2.1 (.map 2) y8.2.2.2.1 (.op 7 (y8.2.2.2.2.2.2).isSome) y8.2.2.2.2.1 (.map 4) (.map 5)) 14 (.op 7 (y8.2.2.2.2.2.2).isSome) .any rfl (le_any _))) (a_ (le_pmP v_Bh c_Bf (ag := true) (ks := ks1) (m := y8.2.2.2.2.2.1) (opn := [])) (a_ (rl_ (oM4 y2.2.2.2.2.2.2.2.1)) (a_ (rl_ (oM5 y2.2.2.2.2.2.2.2.2)) tr))))) tr) (r2_ (f_ C15 (t4_ (r1_ tr)))))))))))))))))) tr))) (AI_c8_ok hμ r h) trivial
     ·obtain ⟨y17, E16, h⟩ := bs_ h
      rcases it_ h with ⟨C18, h⟩ | ⟨C18, h⟩
      ·exact rt_ hμ [] 20 [.reg [(2, hC (AV_v yC5_2)), (3, hk_ (hK_ [0, 2, 3, 4, 5, 6] (AH_v y4) (AH_objs y7.2.1 y7.2.2.2.2.1 y7.2.2.1 y7.2.2.2.2.2 y7.2.2.2.1 y2.2.2.2.2.2.2.2.1 y2.2.2.2.2.2.2.2.2) (AH_up y2.2.2.2.2.2.2.2.1 y2.2.2.2.2.2.2.2.2 y4)))], .reg [(2, hC (AV_v y6)), (3, hk_ (hK_ [0, 2, 6, 4, 5, 7] (AH_v y8) (AH_objs y4.2.2.1 y4.2.2.2.2.2.1 y4.2.2.2.1 y4.2.2.2.2.2.2 y4.2.2.2.2.1 y2.2.2.2.2.2.2.2.1 y2.2.2.2.2.2.2.2.2) (AH_up y2.2.2.2.2.2.2.2.1 y2.2.2.2.2.2.2.2.2 y8)))], .reg [(1, hF), (5, hF), (9, hF), (13, hF), (16, hk_ (hK_ [0, 2, 4, 5] (AM_v y14) (AM_objs y8.2.2.1 y8.2.2.2.2.2.1 y8.2.2.2.1 y8.2.2.2.2.1 y2.2.2.2.2.2.2.2.1 y2.2.2.2.2.2.2.2.2) (AM_up y2.2.2.2.2.2.2.2.1 y2.2.2.2.2.2.2.2.2 y14))), (19, hF), (22, hk_ (hK_ [0, 2, 4, 5] (Al_v y17) (Al_objs y8.2.2.1 y8.2.2.2.2.2.1 y8.2.2.2.1 y8.2.2.2.2.1 y2.2.2.2.2.2.2.2.1 y2.2.2.2.2.2.2.2.2) (Al_up y8.2.2.2.2.2.1 y2.2.2.2.2.2.2.2.2 y17))), (24, hT)]]
        (a_ (r1_ (m_ 8 8 rfl (c_ (AV_tri 0 yC5_2 E1) (a_ (a_ (a_ (AH_ok y7.2.1 y7.2.2.2.2.1 y7.2.2.1 y7.2.2.2.2.2 y7.2.2.2.1 y2.2.2.2.2.2.2.2.1 y2.2.2.2.2.2.2.2.2 (A8.mk 97 0 0 0 0 0 0 0) 2 yC5_2 y4 E3 (sel [0, 2, 3, 4, 5, 6]) sj_) (a_ (rl_ (.var (cT_60 y7.2.1 (.map 2) y7.2.2.1 (.op 3 (y7.2.2.2.2.2).isSome) y7.2.2.2.1 (.map 4) (.map 5)))) (a_ (Eq.refl (oP2 y7.2.2.2.2.1 [] : LO)) (a_ (rl_ (.vo (y7.2.2.2.2.2).isSome (c_Bf ((y7.2.2.2.2.2).getD default)))) (a_ (rl_ (oM4 y2.2.2.2.2.2.2.2.1)) (a_ (rl_ (oM5 y2.2.2.2.2.2.2.2.2)) tr)))))) tr) (r1_ (r4_ tr)))))) (a_ (r1_ (m_ 8 8 rfl (c_ (AV_tri 1 y6 E5) (a_ (a_ (a_ (AH_ok y4.2.2.1 y4.2.2.2.2.2.1 y4.2.2.2.1 y4.2.2.2.2.2.2 y4.2.2.2.2.1 y2.2.2.2.2.2.2.2.1 y2.2.2.2.2.2.2.2.2 (A8.mk 97 0 0 0 0 0 0 0) 2 y6 y8 E7 (sel [0, 2, 6, 4, 5, 7]) sj_) (a_ (rl_ (.var (cT_60 y4.2.2.1 (.map 2) y4.2.2.2.1 (.op 6 (y4.2.2.2.2.2.2).isSome) y4.2.2.2.2.1 (.map 4) (.map 5)))) (a_ (Eq.refl (oP2 y4.2.2.2.2.2.1 [] : LO)) (a_ (rl_ (.vo (y4.2.2.2.2.2.2).isSome (c_Bf ((y4.2.2.2.2.2.2).getD default)))) (a_ (rl_ (oM4 y2.2.2.2.2.2.2.2.1)) (a_ (rl_ (oM5 y2.2.2.2.2.2.2.2.2)) tr)))))) tr) (r1_ (r4_ tr)))))) (a_ (r1_ (f_ C9 (r1_ (r2_ (f_ C10 (r1_ (r2_ (f_ C11 (r1_ (r2_ (f_ C12 (r1_ (m_ 8 8 rfl (a_ (a_ (a_ (AM_ok y8.2.2.1 y8.2.2.2.2.2.1 y8.2.2.2.1 y8.2.2.2.2.1 y2.2.2.2.2.2.2.2.1 y2.2.2.2.2.2.2.2.2 (A8.mk 97 0 0 0 0 0 0 0) y14 E13 (sel [0, 2, 4, 5]) sj_) (a_ (LO.Le.ofVarL (lel_set (cT_60 y8.2.2.1 (.map 2) y8.2.2.2.1 (.op 7 (y8.2.2.2.2.2.2).isSome) y8.2.2.2.2.1 (.map 4) (.map 5)) 14 (.op 7 (y8.2.2.2.2.2.2).isSome) .any rfl (le_any _))) (a_ (le_pmP v_Bh c_Bf (ag := true) (ks := ks1) (m := y8.2.2.2.2.2.1) (opn := [])) (a_ (rl_ (oM4 y2.2.2.2.2.2.2.2.1)) (a_ (rl_ (oM5 y2.2.2.2.2.2.2.2.2)) tr))))) tr) (r2_ (f_ C15 (r1_ (m_ 8 8 rfl (a_ (a_ (a_ (Al_ok y8.2.2.1 y8.2.2.2.2.2.1 y8.2.2.2.1 y8.2.2.2.2.1 y2.2.2.2.2.2.2.2.1 y2.2.2.2.2.2.2.2.2 (A8.mk 97 0 0 0 0 0 0 0) ([120] : J_) y17 E16 (sel [0, 2, 4, 5]) sj_) (a_ (LO.Le.ofVarL (lel_set (cT_60 y8.2.2.1 (.map 2) y8.2.2.2.1 (.op 7 (y8.2.2.2.2.2.2).isSome) y8.2.2.2.2.1 (.map 4) (.map 5)) 14 (.op 7 (y8.2.2.2.2.2.2).isSome) .any rfl (le_any _))) (a_ (Eq.refl (oP2 y8.2.2.2.2.2.1 [] : LO)) (a_ (rl_ (oM4 y2.2.2.2.2.2.2.2.1)) (a_ (rl_ (oM5 y2.2.2.2.2.2.2.2.2)) tr))))) tr) (r1_ (f_ C18 tr))))))))))))))))))))) tr))) (AI_c8_ok hμ r h) trivial
      ·exact rt_ hμ [0, 1, 2, 7, 4, 5] 21 [.reg [(2, hC (AV_v yC5_2)), (3, hk_ (hK_ [0, 2, 3, 4, 5, 6] (AH_v y4) (AH_objs y7.2.1 y7.2.2.2.2.1 y7.2.2.1 y7.2.2.2.2.2 y7.2.2.2.1 y2.2.2.2.2.2.2.2.1 y2.2.2.2.2.2.2.2.2) (AH_up y2.2.2.2.2.2.2.2.1 y2.2.2.2.2.2.2.2.2 y4)))], .reg [(2, hC (AV_v y6)), (3, hk_ (hK_ [0, 2, 6, 4, 5, 7] (AH_v y8) (AH_objs y4.2.2.1 y4.2.2.2.2.2.1 y4.2.2.2.1 y4.2.2.2.2.2.2 y4.2.2.2.2.1 y2.2.2.2.2.2.2.2.1 y2.2.2.2.2.2.2.2.2) (AH_up y2.2.2.2.2.2.2.2.1 y2.2.2.2.2.2.2.2.2 y8)))], .reg [(1, hF), (5, hF), (9, hF), (13, hF), (16, hk_ (hK_ [0, 2, 4, 5] (AM_v y14) (AM_objs y8.2.2.1 y8.2.2.2.2.2.1 y8.2.2.2.1 y8.2.2.2.2.1 y2.2.2.2.2.2.2.2.1 y2.2.2.2.2.2.2.2.2) (AM_up y2.2.2.2.2.2.2.2.1 y2.2.2.2.2.2.2.2.2 y14))), (19, hF), (22, hk_ (hK_ [0, 2, 4, 5] (Al_v y17) (Al_objs y8.2.2.1 y8.2.2.2.2.2.1 y8.2.2.2.1 y8.2.2.2.2.1 y2.2.2.2.2.2.2.2.1 y2.2.2.2.2.2.2.2.2) (Al_up y8.2.2.2.2.2.1 y2.2.2.2.2.2.2.2.2 y17))), (24, hF)]]
        (a_ (r1_ (m_ 8 8 rfl (c_ (AV_tri 0 yC5_2 E1) (a_ (a_ (a_ (AH_ok y7.2.1 y7.2.2.2.2.1 y7.2.2.1 y7.2.2.2.2.2 y7.2.2.2.1 y2.2.2.2.2.2.2.2.1 y2.2.2.2.2.2.2.2.2 (A8.mk 97 0 0 0 0 0 0 0) 2 yC5_2 y4 E3 (sel [0, 2, 3, 4, 5, 6]) sj_) (a_ (rl_ (.var (cT_60 y7.2.1 (.map 2) y7.2.2.1 (.op 3 (y7.2.2.2.2.2).isSome) y7.2.2.2.1 (.map 4) (.map 5)))) (a_ (Eq.refl (oP2 y7.2.2.2.2.1 [] : LO)) (a_ (rl_ (.vo (y7.2.2.2.2.2).isSome (c_Bf ((y7.2.2.2.2.2).getD default)))) (a_ (rl_ (oM4 y2.2.2.2.2.2.2.2.1)) (a_ (rl_ (oM5 y2.2.2.2.2.2.2.2.2)) tr)))))) tr) (r1_ (r4_ tr)))))) (a_ (r1_ (m_ 8 8 rfl (c_ (AV_tri 1 y6 E5) (a_ (a_ (a_ (AH_ok y4.2.2.1 y4.2.2.2.2.2.1 y4.2.2.2.1 y4.2.2.2.2.2.2 y4.2.2.2.2.1 y2.2.2.2.2.2.2.2.1 y2.2.2.2.2.2.2.2.2 (A8.mk 97 0 0 0 0 0 0 0) 2 y6 y8 E7 (sel [0, 2, 6, 4, 5, 7]) sj_) (a_ (rl_ (.var (cT_60 y4.2.2.1 (.map 2) y4.2.2.2.1 (.op 6 (y4.2.2.2.2.2.2).isSome) y4.2.2.2.2.1 (.map 4) (.map 5)))) (a_ (Eq.refl (oP2 y4.2.2.2.2.2.1 [] : LO)) (a_ (rl_ (.vo (y4.2.2.2.2.2.2).isSome (c_Bf ((y4.2.2.2.2.2.2).getD default)))) (a_ (rl_ (oM4 y2.2.2.2.2.2.2.2.1)) (a_ (rl_ (oM5 y2.2.2.2.2.2.2.2.2)) tr)))))) tr) (r1_ (r4_ tr)))))) (a_ (r1_ (f_ C9 (r1_ (r2_ (f_ C10 (r1_ (r2_ (f_ C11 (r1_ (r2_ (f_ C12 (r1_ (m_ 8 8 rfl (a_ (a_ (a_ (AM_ok y8.2.2.1 y8.2.2.2.2.2.1 y8.2.2.2.1 y8.2.2.2.2.1 y2.2.2.2.2.2.2.2.1 y2.2.2.2.2.2.2.2.2 (A8.mk 97 0 0 0 0 0 0 0) y14 E13 (sel [0, 2, 4, 5]) sj_) (a_ (LO.Le.ofVarL (lel_set (cT_60 y8.2.2.1 (.map 2) y8.2.2.2.1 (.op 7 (y8.2.2.2.2.2.2).isSome) y8.2.2.2.2.1 (.map 4) (.map 5)) 14 (.op 7 (y8.2.2.2.2.2.2).isSome) .any rfl (le_any _))) (a_ (le_pmP v_Bh c_Bf (ag := true) (ks := ks1) (m := y8.2.2.2.2.2.1) (opn := [])) (a_ (rl_ (oM4 y2.2.2.2.2.2.2.2.1)) (a_ (rl_ (oM5 y2.2.2.2.2.2.2.2.2)) tr))))) tr) (r2_ (f_ C15 (r1_ (m_ 8 8 rfl (a_ (a_ (a_ (Al_ok y8.2.2.1 y8.2.2.2.2.2.1 y8.2.2.2.1 y8.2.2.2.2.1 y2.2.2.2.2.2.2.2.1 y2.2.2.2.2.2.2.2.2 (A8.mk 97 0 0 0 0 0 0 0) ([120] : J_) y17 E16 (sel [0, 2, 4, 5]) sj_) (a_ (LO.Le.ofVarL (lel_set (cT_60 y8.2.2.1 (.map 2) y8.2.2.2.1 (.op 7 (y8.2.2.2.2.2.2).isSome) y8.2.2.2.2.1 (.map 4) (.map 5)) 14 (.op 7 (y8.2.2.2.2.2.2).isSome) .any rfl (le_any _))) (a_ (Eq.refl (oP2 y8.2.2.2.2.2.1 [] : LO)) (a_ (rl_ (oM4 y2.2.2.2.2.2.2.2.1)) (a_ (rl_ (oM5 y2.2.2.2.2.2.2.2.2)) tr))))) tr) (r1_ (f_ C18 tr))))))))))))))))))))) tr))) (AI_c9_ok hμ y2 y8 y17 r h) ⟨rfl, rfl, uP, rfl, trivial, trivial, trivial⟩
theorem AI_ok (r : (Bool)) (h : AI = some r) : ∀ σ, Inj 0 σ → FnTri Tryz.prog 7 (renL σ []) (preOf σ 0 []) ((AI_v r).ren σ) (upOf σ []) := by
 refine fo_ Tryz.func7 trivial trivial ?_
 intro w0 W μ0 hμ
 unfold AI at h
 obtain ⟨y2, e1, h⟩ := bs_ h
 rcases it_ h with ⟨c3, h⟩ | ⟨c3, h⟩
 ·obtain rfl := si_ h
  exact rr_ [] 26 [.reg [], .reg [(2, hC (BL_vA y2.2.1))], .reg [], .reg [], .reg []]
   (a_ (a_ (r1_ tr) (a_ (a_ (a_ (Eq.refl true) tr) (a_ (a_ (Eq.refl true) tr) (a_ (a_ (a_ (BL_triA (Bi.mk 0 (Br.mk 0 1 1)) y2.2.1 y2.2.2 (altA e1 c3)) tr) tr) (r1_ (r4_ tr))))) (a_ (a_ (a_ (Eq.refl true) tr) (r1_ (a_ (a_ (a_ (Eq.refl 8) (a_ (le_ 8 8 rfl) (Eq.refl 0))) tr) tr))) (a_ (r1_ (r2_ (t2_ (r2_ (a_ tr (t4_ (r1_ tr))))))) (a_ (r1_ tr) tr))))) tr)
 ·obtain ⟨y5, e4, h⟩ := bs_ h
  obtain ⟨y7, e6, h⟩ := bs_ h
  rcases it_ h with ⟨c8, h⟩ | ⟨c8, h⟩
  ·exact rt_ hμ [] 24 [.reg [], .reg [(2, hk_ (hK_ [0, 1, 2, 3, 4] (BL_vB y2.2.2) [] (BL_upB y2.2.2)))], .reg [], .reg [(9, hC (Au_v y5)), (10, { call := some (hK_ [0, 1, 2, 3, 4, 6] (AF_v y7) (AF_objs y2.2.2.1 y2.2.2.2.2.2.1 y2.2.2.2.1 y2.2.2.2.2.2.2.1 y2.2.2.2.2.1 y2.2.2.2.2.2.2.2.1 y2.2.2.2.2.2.2.2.2) (AF_up y2.2.2.2.2.2.2.2.1 y2.2.2.2.2.2.2.2.2 y7)), cargs := some [.ptr 0 0 0, .agg [.int .u8 (A8.mk 97 0 0 0 0 0 0 0).a0, .int .u8 (A8.mk 97 0 0 0 0 0 0 0).a1, .int .u8 (A8.mk 97 0 0 0 0 0 0 0).a2, .int .u8 (A8.mk 97 0 0 0 0 0 0 0).a3, .int .u8 (A8.mk 97 0 0 0 0 0 0 0).a4, .int .u8 (A8.mk 97 0 0 0 0 0 0 0).a5, .int .u8 (A8.mk 97 0 0 0 0 0 0 0).a6, .int .u8 (A8.mk 97 0 0 0 0 0 0 0).a7], .int .u8 2, v_Bg y5, .ds 11 (([] : H_)).length (rowF c_Bg default ([] : H_))] }), (12, hT)]]
    (a_ (r1_ tr) (a_ (a_ (a_ (Eq.refl true) tr) (a_ (a_ (Eq.refl true) tr) (a_ (a_ (a_ (BL_okB (Bi.mk 0 (Br.mk 0 1 1)) y2.2.2 y2.2.1 (altB e1 c3) (sel [0, 1, 2, 3, 4]) sj_) tr) tr) (r1_ (r4_ tr))))) (a_ (a_ (a_ (Eq.refl true) tr) (r1_ (a_ (a_ (a_ (Eq.refl 8) (a_ (le_ 8 8 rfl) (Eq.refl 0))) tr) tr))) (a_ (r8_ (m_ 8 8 rfl (c_ (Au_tri y5 e4) (a_ (a_ (a_ (AF_ok y2.2.2.1 y2.2.2.2.2.2.1 y2.2.2.2.1 y2.2.2.2.2.2.2.1 y2.2.2.2.2.1 y2.2.2.2.2.2.2.2.1 y2.2.2.2.2.2.2.2.2 (A8.mk 97 0 0 0 0 0 0 0) 2 y5 ([] : H_) y7 e6 (sel [0, 1, 2, 3, 4, 6]) sj_) (a_ (a_ (vl_ (.ptr 0 0 0)) (a_ (vl_ (.agg [.int .u8 97, .int .u8 0, .int .u8 0, .int .u8 0, .int .u8 0, .int .u8 0, .int .u8 0, .int .u8 0])) (a_ (vl_ (.int .u8 2)) (a_ (vl_ (v_Bg y5)) (a_ (le_nil_ds 11 (rowF c_Bg default [])) tr))))) (a_ (rl_ (.var (cT_60 y2.2.2.1 (.map 1) y2.2.2.2.1 (.op 2 (y2.2.2.2.2.2.2.1).isSome) y2.2.2.2.2.1 (.map 3) (.map 4)))) (a_ (Eq.refl (oP2 y2.2.2.2.2.2.1 [] : LO)) (a_ (rl_ (.vo (y2.2.2.2.2.2.2.1).isSome (c_Bf ((y2.2.2.2.2.2.2.1).getD default)))) (a_ (rl_ (oM4 y2.2.2.2.2.2.2.2.1)) (a_ (rl_ (oM5 y2.2.2.2.2.2.2.2.2)) tr))))))) tr) (r1_ (f_ c8 tr)))))) tr)))) (AI_c4_ok hμ r h) trivial
  ·exact rt_ hμ [0, 5, 1, 6, 3, 4] 25 [.reg [], .reg [(2, hk_ (hK_ [0, 1, 2, 3, 4] (BL_vB y2.2.2) [] (BL_upB y2.2.2)))], .reg [], .reg [(9, hC (Au_v y5)), (10, { call := some (hK_ [0, 1, 2, 3, 4, 6] (AF_v y7) (AF_objs y2.2.2.1 y2.2.2.2.2.2.1 y2.2.2.2.1 y2.2.2.2.2.2.2.1 y2.2.2.2.2.1 y2.2.2.2.2.2.2.2.1 y2.2.2.2.2.2.2.2.2) (AF_up y2.2.2.2.2.2.2.2.1 y2.2.2.2.2.2.2.2.2 y7)), cargs := some [.ptr 0 0 0, .agg [.int .u8 (A8.mk 97 0 0 0 0 0 0 0).a0, .int .u8 (A8.mk 97 0 0 0 0 0 0 0).a1, .int .u8 (A8.mk 97 0 0 0 0 0 0 0).a2, .int .u8 (A8.mk 97 0 0 0 0 0 0 0).a3, .int .u8 (A8.mk 97 0 0 0 0 0 0 0).a4, .int .u8 (A8.mk 97 0 0 0 0 0 0 0).a5, .int .u8 (A8.mk 97 0 0 0 0 0 0 0).a6, .int .u8 (A8.mk 97 0 0 0 0 0 0 0).a7], .int .u8 2, v_Bg y5, .ds 11 (([] : H_)).length (rowF c_Bg default ([] : H_))] }), (12, hF)]]
    (a_ (r1_ tr) (a_ (a_ (a_ (Eq.refl true) tr) (a_ (a_ (Eq.refl true) tr) (a_ (a_ (a_ (BL_okB (Bi.mk 0 (Br.mk 0 1 1)) y2.2.2 y2.2.1 (altB e1 c3) (sel [0, 1, 2, 3, 4]) sj_) tr) tr) (r1_ (r4_ tr))))) (a_ (a_ (a_ (Eq.refl true) tr) (r1_ (a_ (a_ (a_ (Eq.refl 8) (a_ (le_ 8 8 rfl) (Eq.refl 0))) tr) tr))) (a_ (r8_ (m_ 8 8 rfl (c_ (Au_tri y5 e4) (a_ (a_ (a_ (AF_ok y2.2.2.1 y2.2.2.2.2.2.1 y2.2.2.2.1 y2.2.2.2.2.2.2.1 y2.2.2.2.2.1 y2.2.2.2.2.2.2.2.1 y2.2.2.2.2.2.2.2.2 (A8.mk 97 0 0 0 0 0 0 0) 2 y5 ([] : H_) y7 e6 (sel [0, 1, 2, 3, 4, 6]) sj_) (a_ (a_ (vl_ (.ptr 0 0 0)) (a_ (vl_ (.agg [.int .u8 97, .int .u8 0, .int .u8 0, .int .u8 0, .int .u8 0, .int .u8 0, .int .u8 0, .int .u8 0])) (a_ (vl_ (.int .u8 2)) (a_ (vl_ (v_Bg y5)) (a_ (le_nil_ds 11 (rowF c_Bg default [])) tr))))) (a_ (rl_ (.var (cT_60 y2.2.2.1 (.map 1) y2.2.2.2.1 (.op 2 (y2.2.2.2.2.2.2.1).isSome) y2.2.2.2.2.1 (.map 3) (.map 4)))) (a_ (Eq.refl (oP2 y2.2.2.2.2.2.1 [] : LO)) (a_ (rl_ (.vo (y2.2.2.2.2.2.2.1).isSome (c_Bf ((y2.2.2.2.2.2.2.1).getD default)))) (a_ (rl_ (oM4 y2.2.2.2.2.2.2.2.1)) (a_ (rl_ (oM5 y2.2.2.2.2.2.2.2.2)) tr))))))) tr) (r1_ (f_ c8 tr)))))) tr)))) (AI_c5_ok hμ y2 y7 r h) ⟨rfl, rfl, uP, rfl, trivial, trivial, trivial⟩
theorem AI_tri (r : (Bool)) (h : AI = some r) : FnTri Tryz.prog 7 [] [] (AI_v r) [] := FnTri.none (AI_ok r h) rfl rfl
def BN_v (r : (Int)) : LV := .int .i64 r
def BN (old young : Bg) : Option ((Int)) :=
 (BM old.f_Epoch).bind fun y2 =>
 if ((y2.2 != 0) : Bool) then
  some y2.2
 else
  if ((young.f_Epoch != y2.1) : Bool) then
   some 13
  else
   (BP young).bind fun y6 =>
   if ((!y6) : Bool) then
    some 16
   else
    some 0
theorem BN_ok (old young : Bg) (r : (Int)) (h : BN old young = some r) : ∀ σ, Inj 0 σ → FnTri Tryz.prog 55 (renL σ [v_Bg old, v_Bg young]) (preOf σ 0 []) ((BN_v r).ren σ) (upOf σ []) := by
 refine fo_ Tryz.func55 trivial trivial ?_
 intro w0 W μ0 hμ
 unfold BN at h
 obtain ⟨y2, e1, h⟩ := bs_ h
 rcases it_ h with ⟨c3, h⟩ | ⟨c3, h⟩
 ·obtain rfl := si_ h
  exact rr_ [] 24 [.reg [], .reg [(2, hC (BM_v y2))], .reg [(2, hT)], .reg []]
   (a_ (a_ (r1_ (r2_ tr)) (a_ (r1_ (l_ 0 11 rfl (c_ (BM_tri old.f_Epoch y2 e1) (r1_ (r4_ tr))))) (a_ (r2_ (f_ c3 tr)) (a_ (r2_ tr) tr)))) tr)
 ·rcases it_ h with ⟨c4, h⟩ | ⟨c4, h⟩
  ·obtain rfl := si_ h
   exact rr_ [] 28 [.reg [], .reg [(2, hC (BM_v y2))], .reg [(2, hF)], .reg [(4, hT)], .reg []]
    (a_ (a_ (r1_ (r2_ tr)) (a_ (r1_ (l_ 0 11 rfl (c_ (BM_tri old.f_Epoch y2 e1) (r1_ (r4_ tr))))) (a_ (r2_ (f_ c3 tr)) (a_ (r1_ (l_ 0 11 rfl (r2_ (f_ c4 tr)))) (a_ (r1_ tr) tr))))) tr)
  ·obtain ⟨y6, e5, h⟩ := bs_ h
   rcases it_ h with ⟨c7, h⟩ | ⟨c7, h⟩
   ·obtain rfl := si_ h
    exact rr_ [] 32 [.reg [], .reg [(2, hC (BM_v y2))], .reg [(2, hF)], .reg [(4, hF)], .reg [(1, hC (BP_v y6)), (3, hT)], .reg []]
     (a_ (a_ (r1_ (r2_ tr)) (a_ (r1_ (l_ 0 11 rfl (c_ (BM_tri old.f_Epoch y2 e1) (r1_ (r4_ tr))))) (a_ (r2_ (f_ c3 tr)) (a_ (r1_ (l_ 0 11 rfl (r2_ (f_ c4 tr)))) (a_ (m_ 11 11 rfl (c_ (BP_tri young y6 e5) (r1_ (f_ c7 tr)))) (a_ (r1_ tr) tr)))))) tr)
   ·obtain rfl := si_ h
    exact rr_ [] 34 [.reg [], .reg [(2, hC (BM_v y2))], .reg [(2, hF)], .reg [(4, hF)], .reg [(1, hC (BP_v y6)), (3, hF)], .reg []]
     (a_ (a_ (r1_ (r2_ tr)) (a_ (r1_ (l_ 0 11 rfl (c_ (BM_tri old.f_Epoch y2 e1) (r1_ (r4_ tr))))) (a_ (r2_ (f_ c3 tr)) (a_ (r1_ (l_ 0 11 rfl (r2_ (f_ c4 tr)))) (a_ (m_ 11 11 rfl (c_ (BP_tri young y6 e5) (r1_ (f_ c7 tr)))) (a_ (r1_ tr) tr)))))) tr)
theorem BN_tri (old young : Bg) (r : (Int)) (h : BN old young = some r) : FnTri Tryz.prog 55 [v_Bg old, v_Bg young] [] (BN_v r) [] := FnTri.none (BN_ok old young r h) rfl rfl
def Aj_v (r : (Int)) : LV := .int .u64 r
def Aj_up (r : (Int)) : Upd := []
def Aj_objs (g : Bf) : List LO := [.row 142 1 (fun _ => c_Bf g) false]
def Aj (g : Bf) : Option ((Int)) :=
 (AC g).bind fun y2 =>
 if ((!y2) : Bool) then
  some 0
 else
  some g.f_nodes
theorem Aj_ok (g : Bf) (r : (Int)) (h : Aj g = some r) : ∀ σ, Inj 1 σ → FnTri Tryz.prog 58 (renL σ [.ptr 0 0 0]) (preOf σ 0 (Aj_objs g)) ((Aj_v r).ren σ) (upOf σ (Aj_up r)) := by
 refine fo_ Tryz.func58 ⟨fun _ _ => rfl, trivial⟩ trivial ?_
 intro w0 W μ0 hμ
 unfold Aj at h
 obtain ⟨y2, e1, h⟩ := bs_ h
 rcases it_ h with ⟨c3, h⟩ | ⟨c3, h⟩
 ·obtain rfl := si_ h
  exact rr_ [] 20 [.reg [], .reg [(1, hk_ (hK_ [0] (AC_v y2) (AC_objs g) (AC_up y2))), (2, hT)], .reg []]
   (a_ (a_ (r1_ tr) (a_ (r1_ (a_ (a_ (a_ (AC_ok g y2 e1 (sel [0]) sj_) (a_ (rl_ (.row 142 1 (fun _ => c_Bf g) false)) tr)) tr) (f_ c3 tr))) (a_ (r1_ tr) tr))) tr)
 ·obtain rfl := si_ h
  exact rr_ [] 21 [.reg [], .reg [(1, hk_ (hK_ [0] (AC_v y2) (AC_objs g) (AC_up y2))), (2, hF)], .reg []]
   (a_ (a_ (r1_ tr) (a_ (r1_ (a_ (a_ (a_ (AC_ok g y2 e1 (sel [0]) sj_) (a_ (rl_ (.row 142 1 (fun _ => c_Bf g) false)) tr)) tr) (f_ c3 tr))) (a_ (r1_ (r2_ (a_ (a_ (a_ (lt_ 0 1 rfl) (lt_ 141 142 rfl)) tr) (r1_ tr)))) tr))) tr)
end
end Go.Proofs.YtljjdeanilgloaaGreatDoor.Wk
