import Derived.Test.YtddgjfclpknkcaaGreatDoorLckWc
namespace Go.Proofs.YtddgjfclpknkcaaGreatDoor.Wk
open Go Go.Cn Go.RowKit
set_option maxRecDepth 100000
set_option maxHeartbeats 4000000
set_option linter.unusedVariables false
set_option linter.unusedSimpArgs false
noncomputable section
variable (w0 : World) (W : Nat → Prop) (μ0 : Emb)
abbrev pl_stamps_K0 (uu : UT) (hh ww : PT) (was : List (TX × TS)) (a : TA) (y2 : (List (TX))) (t16 : Int) (m : List (TX × TS)) (r : (List (TX × TS))) : Prop := Kt_ w0 W μ0 Tryz.f20 5 6 (pl_stamps_v r) (pl_stamps_up uu hh ww was r) (kAt (bodyOf Tryz.f20) 0) (.any :: (.map 4) :: .any :: .any :: .any :: (.ptr 5 0 0) :: .any :: (.map 6) :: n_ 6 ((.ds 3 (y2).length (rowF c_TX default y2)) :: (.int .i64 ((y2).length : Int)) :: (.int .i64 t16) :: n_ 29 [])) [some (.var [.map 1, .map 2, .map 3]), some (oP1 uu []), some (oM3 hh), some (oM3 ww), some (oM6 was), some (.var (c_TA a)), some (oM6 m)]
theorem pl_stamps_l0_ok {w0 W μ0} (hμ : Lt_ μ0 5) (uu : UT) (hh ww : PT) (was : List (TX × TS)) (a : TA) (y2 : (List (TX))) : ∀ (fuel : Nat) (t16 : Int) (m : List (TX × TS)) (r : (List (TX × TS))), pl_stamps_l0 uu hh ww was a y2 fuel t16 m = some r → pl_stamps_K0 w0 W μ0 uu hh ww was a y2 t16 m r := by
 intro fuel
 induction fuel with
 | zero => intro t16 m r h; rw [pl_stamps_l0] at h; cases h
 | succ fuel ih =>
  intro t16 m r h
  rw [pl_stamps_l0] at h
  rcases it_ h with ⟨C1, h⟩ | ⟨C1, h⟩
  ·obtain ⟨G2, h⟩ := gs_ h
   obtain ⟨y3, E4, h⟩ := bs_ h
   rcases it_ h with ⟨C5, h⟩ | ⟨C5, h⟩
   ·exact rt_ hμ [5, 6] 35 [.go, .reg [(0, hT)], .reg [], .reg [(2, { look := ((mget was (y2.getD t16.toNat default)).map v_TS), v := some (.tup [v_TS ((mget was (y2.getD t16.toNat default)).getD default), .bool ((mget was (y2.getD t16.toNat default)).isSome)]) }), (4, hv_ (v_TS y3))], .reg [(1, hT)], .reg [(3, { os := [(6, oM6 (mset m (y2.getD t16.toNat default) y3))] })], .reg []]
     (q13 (f_ C1 tr) (q15 (Eq.refl 3) G2 (le_ 3 3 rfl) (Eq.refl 3) (le_ 3 3 rfl) (Eq.refl 0)) (m_ 3 3 rfl (a_ (a_ (a_ (Eq.refl true) (findE_enc v_TX v_TS k_TX was (y2.getD t16.toNat default))) (a_ (le_lookok v_TS (mget was (y2.getD t16.toNat default)) default) tr)) (r1_ (a_ (a_ tr (a_ (le_nm v_TS E4) tr)) (r2_ (a_ (a_ (a_ (Eq.refl 4) (a_ (le_ 4 4 rfl) (Eq.refl 0))) tr) (r1_ tr))))))) (q26 (f_ C5 tr) (m_ 3 3 rfl (m_ 4 4 rfl (a_ (a_ (a_ (Eq.refl true) (Eq.refl true)) (a_ (sub_upd v_TX v_TS k_TX true ks0 m (y2.getD t16.toNat default) y3) tr)) tr))) (r2_ tr) tr)) (ih _ _ r h) ⟨rfl, uP, trivial, trivial, trivial, rfl, trivial, trivial⟩
   ·rcases it_ h with ⟨C6, h⟩ | ⟨C6, h⟩
    ·obtain ⟨y7, E8, h⟩ := bs_ h
     exact rt_ hμ [5, 6] 39 [.go, .reg [(0, hT)], .reg [], .reg [(2, { look := ((mget was (y2.getD t16.toNat default)).map v_TS), v := some (.tup [v_TS ((mget was (y2.getD t16.toNat default)).getD default), .bool ((mget was (y2.getD t16.toNat default)).isSome)]) }), (4, hv_ (v_TS y3))], .reg [(1, hF)], .reg [(4, hT)], .reg [(4, { os := [(6, oM6 y7)] })], .reg []]
      (q13 (f_ C1 tr) (q15 (Eq.refl 3) G2 (le_ 3 3 rfl) (Eq.refl 3) (le_ 3 3 rfl) (Eq.refl 0)) (m_ 3 3 rfl (a_ (a_ (a_ (Eq.refl true) (findE_enc v_TX v_TS k_TX was (y2.getD t16.toNat default))) (a_ (le_lookok v_TS (mget was (y2.getD t16.toNat default)) default) tr)) (r1_ (a_ (a_ tr (a_ (le_nm v_TS E4) tr)) (r2_ (a_ (a_ (a_ (Eq.refl 4) (a_ (le_ 4 4 rfl) (Eq.refl 0))) tr) (r1_ tr))))))) (q26 (f_ C5 tr) (l_ 0 15 rfl (a_ (a_ (ne0 5 rfl) tr) (r1_ (f_ C6 tr)))) (r1_ (m_ 3 3 rfl (m_ 3 3 rfl (a_ (a_ (Eq.refl true) tr) (a_ (a_ (a_ (Eq.refl true) (Eq.refl true)) (a_ (LO.Sub.trans (sub_upd v_TX v_TS k_TX true ks0 m (y2.getD t16.toNat default) (TS.mk 0 (y2.getD t16.toNat default))) (LO.Sub.of_eq (nm_eq (fun l_ => oM6 l_) E8))) tr)) tr))))) (q17 tr))) (ih _ _ r h) ⟨rfl, uP, trivial, trivial, trivial, rfl, trivial, trivial⟩
    ·exact rt_ hμ [5, 6] 39 [.go, .reg [(0, hT)], .reg [], .reg [(2, { look := ((mget was (y2.getD t16.toNat default)).map v_TS), v := some (.tup [v_TS ((mget was (y2.getD t16.toNat default)).getD default), .bool ((mget was (y2.getD t16.toNat default)).isSome)]) }), (4, hv_ (v_TS y3))], .reg [(1, hF)], .reg [(4, hF)], .reg [(4, { os := [(6, oM6 (mset m (y2.getD t16.toNat default) a.f_Stamp))] })], .reg []]
      (q13 (f_ C1 tr) (q15 (Eq.refl 3) G2 (le_ 3 3 rfl) (Eq.refl 3) (le_ 3 3 rfl) (Eq.refl 0)) (m_ 3 3 rfl (a_ (a_ (a_ (Eq.refl true) (findE_enc v_TX v_TS k_TX was (y2.getD t16.toNat default))) (a_ (le_lookok v_TS (mget was (y2.getD t16.toNat default)) default) tr)) (r1_ (a_ (a_ tr (a_ (le_nm v_TS E4) tr)) (r2_ (a_ (a_ (a_ (Eq.refl 4) (a_ (le_ 4 4 rfl) (Eq.refl 0))) tr) (r1_ tr))))))) (q26 (f_ C5 tr) (l_ 0 15 rfl (a_ (a_ (ne0 5 rfl) tr) (r1_ (f_ C6 tr)))) (r1_ (m_ 3 3 rfl (r1_ (m_ 5 15 rfl (a_ (a_ (a_ (Eq.refl true) (Eq.refl true)) (a_ (sub_upd v_TX v_TS k_TX true ks0 m (y2.getD t16.toNat default) a.f_Stamp) tr)) tr))))) (q17 tr))) (ih _ _ r h) ⟨rfl, uP, trivial, trivial, trivial, rfl, trivial, trivial⟩
  ·obtain rfl := si_ h
   exact rr_ [6] 19 [.go, .reg [(0, hF)], .reg []]
    (q6 (f_ C1 tr) (r2_ tr))
theorem pl_stamps_ok (uu : UT) (hh ww : PT) (was : List (TX × TS)) (a : TA) (r : (List (TX × TS))) (h : pl_stamps uu hh ww was a = some r) : ∀ σ, Inj 6 σ → FnTri Tryz.prog 20 (renL σ [.ptr 0 0 0, .map 4, v_TA a]) (preOf σ 0 (pl_stamps_objs uu hh ww was)) ((pl_stamps_v r).ren σ) (upOf σ (pl_stamps_up uu hh ww was r)) := by
 refine fo_ Tryz.func20 ⟨rfl, uP, trivial, trivial, trivial, trivial⟩ ⟨rfl, uP, trivial, trivial, trivial, trivial, trivial⟩ ?_
 intro w0 W μ0 hμ
 unfold pl_stamps at h
 obtain ⟨y2, e1, h⟩ := bs_ h
 exact rt_ hμ [5, 6] 21 [.reg [], .reg [], .reg [(1, hk_ (hK_ [0, 1, 2, 3] (lT_Users_v y2) (lT_Users_objs uu hh ww) (lT_Users_up uu hh ww y2)))]]
  (q13 (r2_ tr) (r2_ tr) (q27 (a_ (lT_Users_ok uu hh ww y2 e1 (sel [0, 1, 2, 3]) sj_) (o4_ [.map 1, .map 2, .map 3] uu hh ww))) tr) (pl_stamps_l0_ok hμ uu hh ww was a y2 big _ _ r h) ⟨rfl, uP, trivial, trivial, trivial, rfl, trivial, trivial⟩
def lT_Prepared_v (r : (Bool)) : LV := .bool r
def lT_Prepared_up (uu : UT) (hh ww : PT) (r : (Bool)) : Upd := [(0, some (.var [.map 1, .map 2, .map 3])), (1, some (oP1 uu [])), (2, some (oM3 hh)), (3, some (oM3 ww))]
def lT_Prepared_objs (uu : UT) (hh ww : PT) : List LO := [.var [.map 1, .map 2, .map 3], oP1 uu [], oM3 hh, oM3 ww]
def lT_Prepared (uu : UT) (hh ww : PT) (x : TX) : Option ((Bool)) :=
 (lT_ok uu hh ww).bind fun y2 =>
 if (((mget uu x).isSome) : Bool) then
  (mget uu x).bind fun y4 =>
  some y4.f_prepared
 else
  some false
theorem lT_Prepared_ok (uu : UT) (hh ww : PT) (x : TX) (r : (Bool)) (h : lT_Prepared uu hh ww x = some r) : ∀ σ, Inj 4 σ → FnTri Tryz.prog 17 (renL σ [.ptr 0 0 0, v_TX x]) (preOf σ 0 (lT_Prepared_objs uu hh ww)) ((lT_Prepared_v r).ren σ) (upOf σ (lT_Prepared_up uu hh ww r)) := by
 refine fo_ Tryz.func17 ⟨rfl, uP, trivial, trivial, trivial⟩ ⟨rfl, uP, trivial, trivial, trivial⟩ ?_
 intro w0 W μ0 hμ
 unfold lT_Prepared at h
 obtain ⟨y2, e1, h⟩ := bs_ h
 rcases it_ h with ⟨c3, h⟩ | ⟨c3, h⟩
 ·obtain ⟨y4, e5, h⟩ := bs_ h
  obtain rfl := si_ h
  exact rr_ [] 18 [.reg [], .x (.p (.po 1 (v_TX x) (c_TU y4))), .reg [(1, hk_ (hK_ [0, 1, 2, 3] (lT_ok_v y2) (lT_ok_objs uu hh ww) (lT_ok_up hh ww y2))), (8, { look := some (.ptr 5 0 0) }), (17, { look := some (.ptr 5 0 0) })], .x (.p (.pc 1)), .wk [] [(1, oP1 uu [])]]
   (q3 (q13 (r2_ tr) (a_ (pmIn v_TX c_TU e5) (pmO0 v_TX x)) (q9 (q0 (lT_ok_ok uu hh ww y2 e1 (sel [0, 1, 2, 3]) sj_) (rl_ (.var [.map 1, .map 2, .map 3])) (le_pmR v_TX c_TU (ag := true) (ks := ks0) (m := uu) (opn := [(v_TX x, 5)])) (q8 (rl_ (oM3 hh)) (rl_ (oM3 ww)))) (r4_ (l_ 0 3 rfl (m_ 3 3 rfl (a_ (a_ (a_ (Eq.refl true) (a_ (pmSi v_TX c_TU k_TX uu x (isS e5)) (List.mem_cons_self (a := ((v_TX x, 5) : LV × Nat)) (l := [])))) tr) (r2_ (r4_ (l_ 0 3 rfl (m_ 3 3 rfl (a_ (a_ (a_ (Eq.refl true) (a_ (pmSi v_TX c_TU k_TX uu x (isS e5)) (List.mem_cons_self (a := ((v_TX x, 5) : LV × Nat)) (l := [])))) tr) (r2_ (l_ 4 5 rfl (r2_ tr))))))))))))) (a_ (q0 (getP_enc v_TX c_TU k_TX uu x e5) (Eq.refl true) (Eq.refl true) (show 1 ≠ 5 from by decide)) (q6 tr (pm_same v_TX c_TU k_TX true ks0 [] (m := uu) (k := x) e5)))))
 ·obtain rfl := si_ h
  exact rr_ [] 15 [.reg [], .reg [(1, hk_ (hK_ [0, 1, 2, 3] (lT_ok_v y2) (lT_ok_objs uu hh ww) (lT_ok_up hh ww y2))), (8, { look := none })]]
   (q23 (q9 (q0 (lT_ok_ok uu hh ww y2 e1 (sel [0, 1, 2, 3]) sj_) (rl_ (.var [.map 1, .map 2, .map 3])) (le_pmR v_TX c_TU (ag := true) (ks := ks0) (m := uu) (opn := [])) (q8 (rl_ (oM3 hh)) (rl_ (oM3 ww)))) (r4_ (l_ 0 3 rfl (m_ 3 3 rfl (a_ (a_ (a_ (Eq.refl true) (pmN v_TX c_TU k_TX uu x c3)) tr) (r1_ (r2_ (a_ tr (t8_ (r2_ tr)))))))))))
def parrelref05_numbers_v (r : (List (Int))) : LV := .ds 1 (r).length (rowF (cInt .u32) default r)
def parrelref05_numbers (t : TX) : Option ((List (Int))) :=
 some ([(IntKind.wrap .u32 t.f_Node), t.f_Boot, t.f_Num] : List (Int))
theorem parrelref05_numbers_ok (t : TX) (r : (List (Int))) (h : parrelref05_numbers t = some r) : ∀ σ, Inj 0 σ → FnTri Tryz.prog 46 (renL σ [v_TX t]) (preOf σ 0 []) ((parrelref05_numbers_v r).ren σ) (upOf σ []) := by
 refine fo_ Tryz.func46 trivial trivial ?_
 intro w0 W μ0 hμ
 unfold parrelref05_numbers at h
 obtain rfl := si_ h
 exact rr_ [] 16 [.reg [(1, hv_ (.ds 1 (([] : List (Int))).length (rowF (cInt .u32) default ([] : List (Int)))))], .reg [(7, { os := [(1, .gr 1 (([(IntKind.wrap .u32 t.f_Node), t.f_Boot, t.f_Num] : List (Int))).length (rowF (cInt .u32) default ([(IntKind.wrap .u32 t.f_Node), t.f_Boot, t.f_Num] : List (Int))))], v := some (.gs 1 (([(IntKind.wrap .u32 t.f_Node), t.f_Boot, t.f_Num] : List (Int))).length) })], .frz 1]
  (q3 (q26 (q6 tr (le_nil_ds 1 (rowF (cInt .u32) default []))) (l_ 0 3 rfl (r2_ (l_ 1 3 rfl (r1_ (l_ 2 3 rfl (a_ (a_ (a_ (Eq.refl true) (a_ (Eq.refl 1) (a_ (lt_ 0 1 rfl) (le_ 3 16777216 rfl)))) (a_ (le_sl_gs 1 3 (some 3) rfl) (a_ (sub_lit (cInt .u32) default 1 (fun _ => rfl) ([(IntKind.wrap .u32 t.f_Node), t.f_Boot, t.f_Num] : List (Int))) tr))) (r1_ tr))))))) (q0 (fz_row (enc := (cInt .u32)) (d := default) (fun _ => rfl) ([(IntKind.wrap .u32 t.f_Node), t.f_Boot, t.f_Num] : List (Int))) (Nat.le_refl (([(IntKind.wrap .u32 t.f_Node), t.f_Boot, t.f_Num] : List (Int))).length) (Nat.le_refl (([(IntKind.wrap .u32 t.f_Node), t.f_Boot, t.f_Num] : List (Int))).length) tr) tr))
theorem parrelref05_numbers_tri (t : TX) (r : (List (Int))) (h : parrelref05_numbers t = some r) : FnTri Tryz.prog 46 [v_TX t] [] (parrelref05_numbers_v r) [] := FnTri.none (parrelref05_numbers_ok t r h) rfl rfl
def parrelref05_first_v (r : (Int)) : LV := .int .i64 r
def parrelref05_first_l0 (a b : List (Int)) : Nat → (Int) → Option ((Int))
 | 0, _ => none
 | fuel + 1, i =>
  if ((decide (i < ((a).length : Int))) : Bool) then
   if 0 ≤ i ∧ i < (((a).length : Nat) : Int) then
   if 0 ≤ i ∧ i < (((b).length : Nat) : Int) then
   if ((decide ((a.getD i.toNat default) < (b.getD i.toNat default))) : Bool) then
    some (-1)
   else
    if ((decide ((b.getD i.toNat default) < (a.getD i.toNat default))) : Bool) then
     some 1
    else
     parrelref05_first_l0 a b fuel (IntKind.wrap .i64 (i + 1))
   else none
   else none
  else
   some 0
def parrelref05_first (a b : List (Int)) : Option ((Int)) :=
 parrelref05_first_l0 a b big 0
abbrev parrelref05_first_K0 (a b : List (Int)) (i : Int) (r : (Int)) : Prop := Kt_ w0 W μ0 Tryz.f45 0 0 (parrelref05_first_v r) [] (kAt (bodyOf Tryz.f45) 0) ((.ds 1 (a).length (rowF (cInt .u32) default a)) :: (.ds 1 (b).length (rowF (cInt .u32) default b)) :: .any :: .any :: .any :: (.int .i64 i) :: n_ 24 []) []
theorem parrelref05_first_l0_ok {w0 W μ0} (hμ : Lt_ μ0 0) (a b : List (Int)) : ∀ (fuel : Nat) (i : Int) (r : (Int)), parrelref05_first_l0 a b fuel i = some r → parrelref05_first_K0 w0 W μ0 a b i r := by
 intro fuel
 induction fuel with
 | zero => intro i r h; rw [parrelref05_first_l0] at h; cases h
 | succ fuel ih =>
  intro i r h
  rw [parrelref05_first_l0] at h
  rcases it_ h with ⟨C1, h⟩ | ⟨C1, h⟩
  ·obtain ⟨G2, h⟩ := gs_ h
   obtain ⟨G3, h⟩ := gs_ h
   rcases it_ h with ⟨C4, h⟩ | ⟨C4, h⟩
   ·obtain rfl := si_ h
    exact rr_ [] 26 [.go, .reg [(3, hT)], .reg [(8, hT)], .reg []]
     (q3 (q13 (q2 (f_ C1 tr)) (r2_ (q9 (a_ (Eq.refl 1) G2) (q9 (lt_ 0 1 rfl) (r2_ (q9 (a_ (Eq.refl 1) G3) (q9 (lt_ 0 1 rfl) (f_ C4 tr))))))) tr tr))
   ·rcases it_ h with ⟨C5, h⟩ | ⟨C5, h⟩
    ·obtain rfl := si_ h
     exact rr_ [] 31 [.go, .reg [(3, hT)], .reg [(8, hF)], .reg [(8, hT)], .reg []]
      (q3 (q20 (q2 (f_ C1 tr)) (q9 (a_ (Eq.refl 1) G2) (q9 (lt_ 0 1 rfl) (r2_ (q9 (a_ (Eq.refl 1) G3) (q9 (lt_ 0 1 rfl) (f_ C4 tr)))))) (r2_ (q9 (a_ (Eq.refl 1) G2) (q9 (lt_ 0 1 rfl) (r2_ (q9 (a_ (Eq.refl 1) G3) (q9 (lt_ 0 1 rfl) (f_ C5 tr))))))) (q25 tr)))
    ·exact rt_ hμ [] 32 [.go, .reg [(3, hT)], .reg [(8, hF)], .reg [(8, hF)], .reg []]
      (q20 (q2 (f_ C1 tr)) (q9 (a_ (Eq.refl 1) G2) (q9 (lt_ 0 1 rfl) (r2_ (q9 (a_ (Eq.refl 1) G3) (q9 (lt_ 0 1 rfl) (f_ C4 tr)))))) (r2_ (q9 (a_ (Eq.refl 1) G2) (q9 (lt_ 0 1 rfl) (r2_ (q9 (a_ (Eq.refl 1) G3) (q9 (lt_ 0 1 rfl) (f_ C5 tr))))))) (q21 tr)) (ih _ r h) trivial
  ·obtain rfl := si_ h
   exact rr_ [] 19 [.go, .reg [(3, hF)], .reg []]
    (q6 (q2 (f_ C1 tr)) (r1_ tr))
theorem parrelref05_first_ok (a b : List (Int)) (r : (Int)) (h : parrelref05_first a b = some r) : ∀ σ, Inj 0 σ → FnTri Tryz.prog 45 (renL σ [.ds 1 (a).length (rowF (cInt .u32) default a), .ds 1 (b).length (rowF (cInt .u32) default b)]) (preOf σ 0 []) ((parrelref05_first_v r).ren σ) (upOf σ []) := by
 refine fo_ Tryz.func45 trivial trivial ?_
 intro w0 W μ0 hμ
 unfold parrelref05_first at h
 exact rt_ hμ [] 18 [.reg [], .reg []]
  (q8 (r1_ tr) (r1_ tr)) (parrelref05_first_l0_ok hμ a b big _ r h) trivial
theorem parrelref05_first_tri (a b : List (Int)) (r : (Int)) (h : parrelref05_first a b = some r) : FnTri Tryz.prog 45 [.ds 1 (a).length (rowF (cInt .u32) default a), .ds 1 (b).length (rowF (cInt .u32) default b)] [] (parrelref05_first_v r) [] := FnTri.none (parrelref05_first_ok a b r h) rfl rfl
def parrelref05_Stamps_v (r : (Int)) : LV := .int .i64 r
def parrelref05_Stamps (a b : TS) : Option ((Int)) :=
 (parrelref05_numbers a.f_Tx).bind fun y2 =>
 if ((([a.f_Time] : List (Int))).length + (y2).length) * 4 ≤ 140737488351232 then
 (parrelref05_numbers b.f_Tx).bind fun y5 =>
 if ((([b.f_Time] : List (Int))).length + (y5).length) * 4 ≤ 140737488351232 then
 (parrelref05_first (([a.f_Time] : List (Int)) ++ y2) (([b.f_Time] : List (Int)) ++ y5)).bind fun y8 =>
 some y8
 else none
 else none
theorem parrelref05_Stamps_ok (a b : TS) (r : (Int)) (h : parrelref05_Stamps a b = some r) : ∀ σ, Inj 0 σ → FnTri Tryz.prog 22 (renL σ [v_TS a, v_TS b]) (preOf σ 0 []) ((parrelref05_Stamps_v r).ren σ) (upOf σ []) := by
 refine fo_ Tryz.func22 trivial trivial ?_
 intro w0 W μ0 hμ
 unfold parrelref05_Stamps at h
 obtain ⟨y2, e1, h⟩ := bs_ h
 obtain ⟨g3, h⟩ := gs_ h
 obtain ⟨y5, e4, h⟩ := bs_ h
 obtain ⟨g6, h⟩ := gs_ h
 obtain ⟨y8, e7, h⟩ := bs_ h
 obtain rfl := si_ h
 exact rr_ [] 15 [.reg [], .reg [(2, { os := [(2, .gr 1 (([a.f_Time] : List (Int))).length (rowF (cInt .u32) default ([a.f_Time] : List (Int))))], v := some (.gs 2 (([a.f_Time] : List (Int))).length) }), (5, hC (parrelref05_numbers_v y2)), (6, { app := 3, os := [(3, .gr 1 ((([a.f_Time] : List (Int)) ++ y2)).length (rowF (cInt .u32) default (([a.f_Time] : List (Int)) ++ y2)))], v := some (.gs 3 ((([a.f_Time] : List (Int)) ++ y2)).length), fz := true }), (9, { os := [(4, .gr 1 (([b.f_Time] : List (Int))).length (rowF (cInt .u32) default ([b.f_Time] : List (Int))))], v := some (.gs 4 (([b.f_Time] : List (Int))).length) }), (12, hC (parrelref05_numbers_v y5)), (13, { app := 3, os := [(5, .gr 1 ((([b.f_Time] : List (Int)) ++ y5)).length (rowF (cInt .u32) default (([b.f_Time] : List (Int)) ++ y5)))], v := some (.gs 5 ((([b.f_Time] : List (Int)) ++ y5)).length), fz := true }), (14, hC (parrelref05_first_v y8))]]
  (q6 (q2 tr) (r1_ (l_ 0 4 rfl (a_ (a_ (a_ (Eq.refl true) (a_ (Eq.refl 1) (a_ (lt_ 0 1 rfl) (le_ 1 16777216 rfl)))) (a_ (le_sl_gs 2 1 (some 1) rfl) (a_ (sub_lit (cInt .u32) default 1 (fun _ => rfl) ([a.f_Time] : List (Int))) tr))) (r1_ (m_ 4 4 rfl (c_ (parrelref05_numbers_tri a.f_Tx y2 e1) (a_ (a_ (a_ (a_ (Eq.refl 1) (a_ (a_ (lt_ 0 1 rfl) (a_ (lt_ 0 4 rfl) (a_ g3 (a_ (Eq.refl 1) (Eq.refl true))))) (a_ (Eq.refl 1) (Nat.le_refl (([a.f_Time] : List (Int))).length)))) (a_ (le_gs_app 3 ([a.f_Time] : List (Int)) y2) (a_ (sub_app (cInt .u32) default 1 ([a.f_Time] : List (Int)) y2) tr))) (a_ (Nat.le_refl ((([a.f_Time] : List (Int)) ++ y2)).length) (fz_row (enc := (cInt .u32)) (d := default) (fun _ => rfl) (([a.f_Time] : List (Int)) ++ y2)))) (r1_ (l_ 0 4 rfl (a_ (a_ (a_ (Eq.refl true) (a_ (Eq.refl 1) (a_ (lt_ 0 1 rfl) (le_ 1 16777216 rfl)))) (a_ (le_sl_gs 4 1 (some 1) rfl) (a_ (sub_lit (cInt .u32) default 1 (fun _ => rfl) ([b.f_Time] : List (Int))) tr))) (r1_ (m_ 4 4 rfl (c_ (parrelref05_numbers_tri b.f_Tx y5 e4) (a_ (a_ (a_ (a_ (Eq.refl 1) (a_ (a_ (lt_ 0 1 rfl) (a_ (lt_ 0 4 rfl) (a_ g6 (a_ (Eq.refl 1) (Eq.refl true))))) (a_ (Eq.refl 1) (Nat.le_refl (([b.f_Time] : List (Int))).length)))) (a_ (le_gs_app 5 ([b.f_Time] : List (Int)) y5) (a_ (sub_app (cInt .u32) default 1 ([b.f_Time] : List (Int)) y5) tr))) (a_ (Nat.le_refl ((([b.f_Time] : List (Int)) ++ y5)).length) (fz_row (enc := (cInt .u32)) (d := default) (fun _ => rfl) (([b.f_Time] : List (Int)) ++ y5)))) (a_ (a_ (a_ (parrelref05_first_tri (([a.f_Time] : List (Int)) ++ y2) (([b.f_Time] : List (Int)) ++ y5) y8 e7) tr) tr) (r1_ tr)))))))))))))))))
theorem parrelref05_Stamps_tri (a b : TS) (r : (Int)) (h : parrelref05_Stamps a b = some r) : FnTri Tryz.prog 22 [v_TS a, v_TS b] [] (parrelref05_Stamps_v r) [] := FnTri.none (parrelref05_Stamps_ok a b r h) rfl rfl
def pl_LockFree_v (r : (Bool)) : LV := .bool r
def pl_LockFree_c9 (t31 : Int) (m : List (TX × TS)) (y8 : (List (TA))) (y4 : (TO) × (Int) × (UT) × (Bag (TL × Int)) × (Bag (TL × Int))) (k0 : (Int) → (List (TX × TS)) → (UT) → (PT) → (PT) → Option ((Bool))) (q q2 : Bag (TL × Int)) : Option ((Bool)) :=
 agreeB q fun l1 =>
 agreeB q2 fun l3 =>
 (pl_stamps y4.2.2.1 l1 l3 m (y8.getD t31.toNat default)).bind fun y6 =>
 k0 (IntKind.wrap .i64 (t31 + 1)) y6 y4.2.2.1 l1 l3
def pl_LockFree_l3 (m : List (TX × TS)) (t62 : Int) (us3 : UT) (m6 m7 : PT) (yL2_3 : (List (TX))) (k2 : (Int) → (UT) → (PT) → (PT) → Option ((Bool))) : Nat → (Int) → (Int) → (Int) → (Int) → Option ((Bool))
 | 0, _, _, _, _ => none
 | fuel + 1, t75, Node, Boot, Num =>
  if ((decide (t75 < ((yL2_3).length : Int))) : Bool) then
   if 0 ≤ t75 ∧ t75 < (((yL2_3).length : Nat) : Int) then
   (some ((mget m (yL2_3.getD t75.toNat default)).getD default)).bind fun yL3_3 =>
   (some ((mget m (TX.mk Node Boot Num)).getD default)).bind fun y5 =>
   (parrelref05_Stamps yL3_3 y5).bind fun y8 =>
   if ((decide (y8 < 0)) : Bool) then
    pl_LockFree_l3 m t62 us3 m6 m7 yL2_3 k2 fuel (IntKind.wrap .i64 (t75 + 1)) (yL2_3.getD t75.toNat default).f_Node (yL2_3.getD t75.toNat default).f_Boot (yL2_3.getD t75.toNat default).f_Num
   else
    pl_LockFree_l3 m t62 us3 m6 m7 yL2_3 k2 fuel (IntKind.wrap .i64 (t75 + 1)) Node Boot Num
   else none
  else
   (lT_Waits us3 m6 m7 (TX.mk Node Boot Num)).bind fun y4 =>
   if (y4 : Bool) then
    some false
   else
    (lT_Release us3 m6 m7 (TX.mk Node Boot Num)).bind fun y7 =>
    k2 (IntKind.wrap .i64 (t62 + 1)) y7.2.2.1 y7.2.2.2.1 y7.2.2.2.2
def pl_LockFree_l2 (m : List (TX × TS)) : Nat → (Int) → (UT) → (PT) → (PT) → Option ((Bool))
 | 0, _, _, _, _ => none
 | fuel + 1, t62, us3, m6, m7 =>
  if ((decide (t62 < 65)) : Bool) then
   (lT_Users us3 m6 m7).bind fun y3 =>
   if ((((y3).length : Int) == 0) : Bool) then
    (pl_alive).bind fun y6 =>
    some y6
   else
    if 0 ≤ (0 : Int) ∧ (0 : Int) < (((y3).length : Nat) : Int) then
    pl_LockFree_l3 m t62 us3 m6 m7 y3 (pl_LockFree_l2 m fuel) big 0 (y3.getD 0 default).f_Node (y3.getD 0 default).f_Boot (y3.getD 0 default).f_Num
    else none
  else
   (lT_Users us3 m6 m7).bind fun y3 =>
   if ((((y3).length : Int) == 0) : Bool) then
    (pl_alive).bind fun y6 =>
    some y6
   else
    some false
def pl_LockFree_l1 (m : List (TX × TS)) (y3 : (List (TX))) : Nat → (Int) → (UT) → (PT) → (PT) → Option ((Bool))
 | 0, _, _, _, _ => none
 | fuel + 1, t46, us2, m4, m5 =>
  if ((decide (t46 < ((y3).length : Int))) : Bool) then
   if 0 ≤ t46 ∧ t46 < (((y3).length : Nat) : Int) then
   (lT_Prepared us2 m4 m5 (y3.getD t46.toNat default)).bind fun y4 =>
   if (y4 : Bool) then
    (lT_Release us2 m4 m5 (y3.getD t46.toNat default)).bind fun y7 =>
    if ((y7.2.1 != 0) : Bool) then
     some false
    else
     pl_LockFree_l1 m y3 fuel (IntKind.wrap .i64 (t46 + 1)) y7.2.2.1 y7.2.2.2.1 y7.2.2.2.2
   else
    pl_LockFree_l1 m y3 fuel (IntKind.wrap .i64 (t46 + 1)) us2 m4 m5
   else none
  else
   pl_LockFree_l2 m big 0 us2 m4 m5
def pl_LockFree_l0 (y8 : (List (TA))) : Nat → (Int) → (List (TX × TS)) → (UT) → (PT) → (PT) → Option ((Bool))
 | 0, _, _, _, _, _ => none
 | fuel + 1, t31, m, us, m2, m3 =>
  if ((decide (t31 < ((y8).length : Int))) : Bool) then
   if 0 ≤ t31 ∧ t31 < (((y8).length : Nat) : Int) then
   (pl_does us m2 m3 (y8.getD t31.toNat default)).bind fun y4 =>
   pl_LockFree_c9 t31 m y8 y4 (pl_LockFree_l0 y8 fuel) y4.2.2.2.1 y4.2.2.2.2
   else none
  else
   (lT_Users us m2 m3).bind fun y3 =>
   pl_LockFree_l1 m y3 big 0 us m2 m3
def pl_LockFree (script : List (TA)) : Option ((Bool)) :=
 (lock_New).bind fun y2 =>
 (pl_far script).bind fun y4 =>
 if (y4 : Bool) then
  (pl_alive).bind fun y7 =>
  some y7
 else
  (pl_short script).bind fun y8 =>
  pl_LockFree_l0 y8 big 0 ([] : List (TX × TS)) y2.1 y2.2.1 y2.2.2
abbrev pl_LockFree_K1000009 (t31 : Int) (m : List (TX × TS)) (y8 : (List (TA))) (y4 : (TO) × (Int) × (UT) × (Bag (TL × Int)) × (Bag (TL × Int))) (q q2 : Bag (TL × Int)) (r : (Bool)) : Prop := Kt_ w0 W μ0 Tryz.f5 0 0 (pl_LockFree_v r) [] (kAtR (bodyOf Tryz.f5) 9) (.any :: .any :: .any :: (.ptr 0 0 0) :: (.map 1) :: .any :: (.ptr 2 0 0) :: n_ 22 ((.ds 15 (y8).length (rowF c_TA default y8)) :: (.int .i64 ((y8).length : Int)) :: (.int .i64 t31) :: n_ 71 [])) [some (.var [.map 3, .map 4, .map 5]), some (oM6 m), some (.var (c_TA (y8.getD t31.toNat default))), some (oP1 y4.2.2.1 []), some (.mapq true ks2 (Bag.map (fun e_ => (v_TL e_.1, (LV.int .u8) e_.2)) q)), some (.mapq true ks2 (Bag.map (fun e_ => (v_TL e_.1, (LV.int .u8) e_.2)) q2))]
abbrev pl_LockFree_K3 (m : List (TX × TS)) (t62 : Int) (us3 : UT) (m6 m7 : PT) (y3 : (List (TX))) (t75 Node : Int) (Boot Num : Int) (r : (Bool)) : Prop := Kt_ w0 W μ0 Tryz.f5 0 0 (pl_LockFree_v r) [] (kAt (bodyOf Tryz.f5) 3) (.any :: .any :: .any :: (.ptr 0 0 0) :: (.map 1) :: n_ 7 ((.ptr 2 0 0) :: n_ 49 ((.int .i64 t62) :: n_ 10 ((.ds 3 (y3).length (rowF c_TX default y3)) :: (.int .i64 ((y3).length : Int)) :: (.int .i64 t75) :: n_ 27 [])))) [some (.var [.map 3, .map 4, .map 5]), some (oM6 m), some (.var (c_TX (TX.mk Node Boot Num))), some (oP1 us3 []), some (oM3 m6), some (oM3 m7)]
abbrev pl_LockFree_K2 (m : List (TX × TS)) (t62 : Int) (us3 : UT) (m6 m7 : PT) (r : (Bool)) : Prop := Kt_ w0 W μ0 Tryz.f5 0 0 (pl_LockFree_v r) [] (kAt (bodyOf Tryz.f5) 2) (.any :: .any :: .any :: (.ptr 0 0 0) :: (.map 1) :: n_ 57 ((.int .i64 t62) :: n_ 40 [])) [some (.var [.map 2, .map 3, .map 4]), some (oM6 m), some (oP1 us3 []), some (oM3 m6), some (oM3 m7)]
abbrev pl_LockFree_K1 (m : List (TX × TS)) (y3 : (List (TX))) (t46 : Int) (us2 : UT) (m4 m5 : PT) (r : (Bool)) : Prop := Kt_ w0 W μ0 Tryz.f5 0 0 (pl_LockFree_v r) [] (kAt (bodyOf Tryz.f5) 1) (.any :: .any :: .any :: (.ptr 0 0 0) :: (.map 1) :: n_ 39 ((.ds 3 (y3).length (rowF c_TX default y3)) :: (.int .i64 ((y3).length : Int)) :: (.int .i64 t46) :: n_ 56 [])) [some (.var [.map 2, .map 3, .map 4]), some (oM6 m), some (oP1 us2 []), some (oM3 m4), some (oM3 m5)]
abbrev pl_LockFree_K0 (y8 : (List (TA))) (t31 : Int) (m : List (TX × TS)) (us : UT) (m2 m3 : PT) (r : (Bool)) : Prop := Kt_ w0 W μ0 Tryz.f5 0 0 (pl_LockFree_v r) [] (kAt (bodyOf Tryz.f5) 0) (.any :: .any :: .any :: (.ptr 0 0 0) :: (.map 1) :: n_ 24 ((.ds 15 (y8).length (rowF c_TA default y8)) :: (.int .i64 ((y8).length : Int)) :: (.int .i64 t31) :: n_ 71 [])) [some (.var [.map 2, .map 3, .map 4]), some (oM6 m), some (oP1 us []), some (oM3 m2), some (oM3 m3)]
theorem pl_LockFree_c9_ok {w0 W μ0} (hμ : Lt_ μ0 0) (t31 : Int) (m : List (TX × TS)) (y8 : (List (TA))) (y4 : (TO) × (Int) × (UT) × (Bag (TL × Int)) × (Bag (TL × Int))) (k0 : (Int) → (List (TX × TS)) → (UT) → (PT) → (PT) → Option ((Bool))) (hk0 : ∀ (t31 : Int) (m : List (TX × TS)) (us : UT) (m2 m3 : PT) (r : (Bool)), k0 t31 m us m2 m3 = some r → pl_LockFree_K0 w0 W μ0 y8 t31 m us m2 m3 r) (q q2 : Bag (TL × Int)) (r : (Bool)) (h : pl_LockFree_c9 t31 m y8 y4 k0 q q2 = some r) : pl_LockFree_K1000009 w0 W μ0 t31 m y8 y4 q q2 r := by
 unfold pl_LockFree_c9 at h
 refine k_bagM v_TL (LV.int .u8) (ag := true) (ks := ks2) (c := 4) (q := q) (by kernel_rfl) (by kernel_rfl) (fun l1 hC9_2 => ?_)
 replace h := agreeB_some h hC9_2
 subst hC9_2
 refine k_bagM v_TL (LV.int .u8) (ag := true) (ks := ks2) (c := 5) (q := q2) (by kernel_rfl) (by kernel_rfl) (fun l3 hC9_4 => ?_)
 replace h := agreeB_some h hC9_4
 subst hC9_4
 obtain ⟨y6, E5, h⟩ := bs_ h
 exact rt_ hμ [0, 6, 3, 4, 5] 14 [.reg [(3, hk_ (hK_ [0, 3, 4, 5, 1, 6] (pl_stamps_v y6) (pl_stamps_objs y4.2.2.1 l1 l3 m) (pl_stamps_up y4.2.2.1 l1 l3 m y6)))], .reg []]
  (q8 (r2_ (m_ 15 15 rfl (a_ (a_ (a_ (pl_stamps_ok y4.2.2.1 l1 l3 m (y8.getD t31.toNat default) y6 E5 (sel [0, 3, 4, 5, 1, 6]) sj_) (a_ (rl_ (.var [.map 3, .map 4, .map 5])) (a_ (Eq.refl (oP1 y4.2.2.1 [] : LO)) (a_ (rl_ (oM3 l1)) (a_ (rl_ (oM3 l3)) (a_ (rl_ (oM6 m)) tr)))))) tr) (r1_ tr)))) (r2_ tr)) (hk0 _ _ _ _ _ r h) ⟨rfl, trivial, uP, trivial, trivial, trivial⟩
theorem pl_LockFree_l3_ok {w0 W μ0} (hμ : Lt_ μ0 0) (m : List (TX × TS)) (t62 : Int) (us3 : UT) (m6 m7 : PT) (yL2_3 : (List (TX))) (k2 : (Int) → (UT) → (PT) → (PT) → Option ((Bool))) (hk2 : ∀ (t62 : Int) (us3 : UT) (m6 m7 : PT) (r : (Bool)), k2 t62 us3 m6 m7 = some r → pl_LockFree_K2 w0 W μ0 m t62 us3 m6 m7 r) : ∀ (fuel : Nat) (t75 Node : Int) (Boot Num : Int) (r : (Bool)), pl_LockFree_l3 m t62 us3 m6 m7 yL2_3 k2 fuel t75 Node Boot Num = some r → pl_LockFree_K3 w0 W μ0 m t62 us3 m6 m7 yL2_3 t75 Node Boot Num r := by
 intro fuel
 induction fuel with
 | zero => intro t75 Node Boot Num r h; rw [pl_LockFree_l3] at h; cases h
 | succ fuel ih =>
  intro t75 Node Boot Num r h
  rw [pl_LockFree_l3] at h
  rcases it_ h with ⟨C1, h⟩ | ⟨C1, h⟩
  ·obtain ⟨G2, h⟩ := gs_ h
   obtain ⟨yL3_3, E4, h⟩ := bs_ h
   obtain ⟨y5, E6, h⟩ := bs_ h
   obtain ⟨y8, E7, h⟩ := bs_ h
   rcases it_ h with ⟨C9, h⟩ | ⟨C9, h⟩
   ·exact rt_ hμ [0, 1, 2, 3, 4, 5] 30 [.go, .reg [(0, hT)], .reg [], .reg [(2, { look := ((mget m (yL2_3.getD t75.toNat default)).map v_TS), v := some (v_TS yL3_3) }), (5, { look := ((mget m (TX.mk Node Boot Num)).map v_TS), v := some (v_TS y5) }), (6, hC (parrelref05_Stamps_v y8)), (7, hT)], .reg [], .reg []]
     (q13 (f_ C1 tr) (q15 (Eq.refl 3) G2 (le_ 3 3 rfl) (Eq.refl 3) (le_ 3 3 rfl) (Eq.refl 0)) (m_ 3 3 rfl (a_ (a_ (a_ (Eq.refl true) (findE_enc v_TX v_TS k_TX m (yL2_3.getD t75.toNat default))) (a_ (LV.Le.trans (le_look v_TS (mget m (yL2_3.getD t75.toNat default)) default) (le_nm v_TS E4)) tr)) (r1_ (m_ 3 3 rfl (a_ (a_ (a_ (Eq.refl true) (findE_enc v_TX v_TS k_TX m (TX.mk Node Boot Num))) (a_ (LV.Le.trans (le_look v_TS (mget m (TX.mk Node Boot Num)) default) (le_nm v_TS E6)) tr)) (c_ (parrelref05_Stamps_tri yL3_3 y5 y8 E7) (f_ C9 tr))))))) (q8 (m_ 3 3 rfl (a_ (a_ (a_ (Eq.refl 3) (a_ (le_ 3 3 rfl) (Eq.refl 0))) tr) tr)) (r2_ tr))) (ih _ _ _ _ r h) ⟨rfl, trivial, rfl, uP, trivial, trivial, trivial⟩
   ·exact rt_ hμ [0, 1, 2, 3, 4, 5] 29 [.go, .reg [(0, hT)], .reg [], .reg [(2, { look := ((mget m (yL2_3.getD t75.toNat default)).map v_TS), v := some (v_TS yL3_3) }), (5, { look := ((mget m (TX.mk Node Boot Num)).map v_TS), v := some (v_TS y5) }), (6, hC (parrelref05_Stamps_v y8)), (7, hF)], .reg []]
     (q13 (f_ C1 tr) (q15 (Eq.refl 3) G2 (le_ 3 3 rfl) (Eq.refl 3) (le_ 3 3 rfl) (Eq.refl 0)) (m_ 3 3 rfl (a_ (a_ (a_ (Eq.refl true) (findE_enc v_TX v_TS k_TX m (yL2_3.getD t75.toNat default))) (a_ (LV.Le.trans (le_look v_TS (mget m (yL2_3.getD t75.toNat default)) default) (le_nm v_TS E4)) tr)) (r1_ (m_ 3 3 rfl (a_ (a_ (a_ (Eq.refl true) (findE_enc v_TX v_TS k_TX m (TX.mk Node Boot Num))) (a_ (LV.Le.trans (le_look v_TS (mget m (TX.mk Node Boot Num)) default) (le_nm v_TS E6)) tr)) (c_ (parrelref05_Stamps_tri yL3_3 y5 y8 E7) (f_ C9 tr))))))) (q17 tr)) (ih _ _ _ _ r h) ⟨rfl, trivial, rfl, uP, trivial, trivial, trivial⟩
  ·obtain ⟨y4, E2, h⟩ := bs_ h
   rcases it_ h with ⟨C5, h⟩ | ⟨C5, h⟩
   ·obtain rfl := si_ h
    exact rr_ [] 24 [.go, .reg [(0, hF)], .reg [(2, { call := some (hK_ [0, 3, 4, 5] (lT_Waits_v y4) (lT_Waits_objs us3 m6 m7) (lT_Waits_up us3 m6 m7 y4)), v := some (.bool true) })], .reg []]
     (q3 (q7 (f_ C1 tr) (m_ 3 3 rfl (a_ (a_ (a_ (lT_Waits_ok us3 m6 m7 (TX.mk Node Boot Num) y4 E2 (sel [0, 3, 4, 5]) sj_) (o4_ [.map 3, .map 4, .map 5] us3 m6 m7)) (a_ (leB C5) tr)) tr)) (r1_ tr) tr))
   ·obtain ⟨y7, E6, h⟩ := bs_ h
    exact rt_ hμ [0, 1, 3, 4, 5] 27 [.go, .reg [(0, hF)], .reg [(2, { call := some (hK_ [0, 3, 4, 5] (lT_Waits_v y4) (lT_Waits_objs us3 m6 m7) (lT_Waits_up us3 m6 m7 y4)), v := some (.bool false) })], .reg [(2, hk_ (hK_ [0, 3, 4, 5] (lT_Release_v y7) (lT_Release_objs us3 m6 m7) (lT_Release_up y7)))], .reg []]
     (q7 (f_ C1 tr) (m_ 3 3 rfl (a_ (a_ (a_ (lT_Waits_ok us3 m6 m7 (TX.mk Node Boot Num) y4 E2 (sel [0, 3, 4, 5]) sj_) (o4_ [.map 3, .map 4, .map 5] us3 m6 m7)) (a_ (leB C5) tr)) tr)) (r1_ (m_ 3 3 rfl (a_ (a_ (a_ (lT_Release_ok us3 m6 m7 (TX.mk Node Boot Num) y7 E6 (sel [0, 3, 4, 5]) sj_) (o4_ [.map 3, .map 4, .map 5] us3 m6 m7)) tr) tr))) (q17 tr)) (hk2 _ _ _ _ r h) ⟨rfl, trivial, uP, trivial, trivial, trivial⟩
theorem pl_LockFree_l2_ok {w0 W μ0} (hμ : Lt_ μ0 0) (m : List (TX × TS)) : ∀ (fuel : Nat) (t62 : Int) (us3 : UT) (m6 m7 : PT) (r : (Bool)), pl_LockFree_l2 m fuel t62 us3 m6 m7 = some r → pl_LockFree_K2 w0 W μ0 m t62 us3 m6 m7 r := by
 intro fuel
 induction fuel with
 | zero => intro t62 us3 m6 m7 r h; rw [pl_LockFree_l2] at h; cases h
 | succ fuel ih =>
  intro t62 us3 m6 m7 r h
  rw [pl_LockFree_l2] at h
  rcases it_ h with ⟨C1, h⟩ | ⟨C1, h⟩
  ·obtain ⟨y3, E2, h⟩ := bs_ h
   rcases it_ h with ⟨C4, h⟩ | ⟨C4, h⟩
   ·obtain ⟨y6, E5, h⟩ := bs_ h
    obtain rfl := si_ h
    exact rr_ [] 29 [.go, .reg [(0, hT)], .reg [(1, hk_ (hK_ [0, 2, 3, 4] (lT_Users_v y3) (lT_Users_objs us3 m6 m7) (lT_Users_up us3 m6 m7 y3)))], .reg [(2, hT)], .reg [(0, hC (pl_alive_v y6))]]
     (q3 (q7 (f_ C1 tr) (q14 (a_ (lT_Users_ok us3 m6 m7 y3 E2 (sel [0, 2, 3, 4]) sj_) (o4_ [.map 2, .map 3, .map 4] us3 m6 m7))) (r2_ (f_ C4 tr)) (q3 (c_ (pl_alive_tri y6 E5) (r1_ tr)))))
   ·obtain ⟨G5, h⟩ := gs_ h
    exact rt_ hμ [0, 1, 5, 2, 3, 4] 36 [.go, .reg [(0, hT)], .reg [(1, hk_ (hK_ [0, 2, 3, 4] (lT_Users_v y3) (lT_Users_objs us3 m6 m7) (lT_Users_up us3 m6 m7 y3)))], .reg [(2, hF)], .reg [], .reg []]
     (q7 (f_ C1 tr) (q14 (a_ (lT_Users_ok us3 m6 m7 y3 E2 (sel [0, 2, 3, 4]) sj_) (o4_ [.map 2, .map 3, .map 4] us3 m6 m7))) (r2_ (f_ C4 tr)) (q8 (r1_ (q15 (Eq.refl 3) G5 (le_ 3 3 rfl) (Eq.refl 3) (le_ 3 3 rfl) (Eq.refl 0))) (q2 tr))) (pl_LockFree_l3_ok hμ m t62 us3 m6 m7 y3 (pl_LockFree_l2 m fuel) ih big _ _ _ _ r h) ⟨rfl, trivial, rfl, uP, trivial, trivial, trivial⟩
  ·obtain ⟨y3, E2, h⟩ := bs_ h
   rcases it_ h with ⟨C4, h⟩ | ⟨C4, h⟩
   ·obtain ⟨y6, E5, h⟩ := bs_ h
    obtain rfl := si_ h
    exact rr_ [] 19 [.go, .reg [(0, hF)], .reg [(1, hk_ (hK_ [0, 2, 3, 4] (lT_Users_v y3) (lT_Users_objs us3 m6 m7) (lT_Users_up us3 m6 m7 y3))), (4, hT), (5, hC (pl_alive_v y6))]]
     (q6 (f_ C1 tr) (r1_ (q9 (a_ (lT_Users_ok us3 m6 m7 y3 E2 (sel [0, 2, 3, 4]) sj_) (o4_ [.map 2, .map 3, .map 4] us3 m6 m7)) (r2_ (f_ C4 (c_ (pl_alive_tri y6 E5) (r2_ tr)))))))
   ·obtain rfl := si_ h
    exact rr_ [] 19 [.go, .reg [(0, hF)], .reg [(1, hk_ (hK_ [0, 2, 3, 4] (lT_Users_v y3) (lT_Users_objs us3 m6 m7) (lT_Users_up us3 m6 m7 y3))), (4, hF)]]
     (q6 (f_ C1 tr) (r1_ (q9 (a_ (lT_Users_ok us3 m6 m7 y3 E2 (sel [0, 2, 3, 4]) sj_) (o4_ [.map 2, .map 3, .map 4] us3 m6 m7)) (r2_ (f_ C4 (a_ tr (r2_ tr)))))))
theorem pl_LockFree_l1_ok {w0 W μ0} (hμ : Lt_ μ0 0) (m : List (TX × TS)) (y3 : (List (TX))) : ∀ (fuel : Nat) (t46 : Int) (us2 : UT) (m4 m5 : PT) (r : (Bool)), pl_LockFree_l1 m y3 fuel t46 us2 m4 m5 = some r → pl_LockFree_K1 w0 W μ0 m y3 t46 us2 m4 m5 r := by
 intro fuel
 induction fuel with
 | zero => intro t46 us2 m4 m5 r h; rw [pl_LockFree_l1] at h; cases h
 | succ fuel ih =>
  intro t46 us2 m4 m5 r h
  rw [pl_LockFree_l1] at h
  rcases it_ h with ⟨C1, h⟩ | ⟨C1, h⟩
  ·obtain ⟨G2, h⟩ := gs_ h
   obtain ⟨y4, E3, h⟩ := bs_ h
   rcases it_ h with ⟨C5, h⟩ | ⟨C5, h⟩
   ·obtain ⟨y7, E6, h⟩ := bs_ h
    rcases it_ h with ⟨C8, h⟩ | ⟨C8, h⟩
    ·obtain rfl := si_ h
     exact rr_ [] 35 [.go, .reg [(0, hT)], .reg [], .reg [(2, { call := some (hK_ [0, 2, 3, 4] (lT_Prepared_v y4) (lT_Prepared_objs us2 m4 m5) (lT_Prepared_up us2 m4 m5 y4)), v := some (.bool true) })], .reg [(2, hk_ (hK_ [0, 2, 3, 4] (lT_Release_v y7) (lT_Release_objs us2 m4 m5) (lT_Release_up y7)))], .reg [(1, hT)], .reg []]
      (q3 (q13 (f_ C1 tr) (q15 (Eq.refl 3) G2 (le_ 3 3 rfl) (Eq.refl 3) (le_ 3 3 rfl) (Eq.refl 0)) (m_ 3 3 rfl (a_ (a_ (a_ (lT_Prepared_ok us2 m4 m5 (y3.getD t46.toNat default) y4 E3 (sel [0, 2, 3, 4]) sj_) (o4_ [.map 2, .map 3, .map 4] us2 m4 m5)) (a_ (leB C5) tr)) tr)) (q26 (m_ 3 3 rfl (a_ (a_ (a_ (lT_Release_ok us2 m4 m5 (y3.getD t46.toNat default) y7 E6 (sel [0, 2, 3, 4]) sj_) (o4_ [.map 2, .map 3, .map 4] us2 m4 m5)) tr) (r4_ (a_ (a_ (a_ (Eq.refl 2) (a_ (le_ 2 2 rfl) (Eq.refl 0))) tr) (r1_ tr))))) (f_ C8 tr) (r1_ tr) tr)))
    ·exact rt_ hμ [0, 1, 2, 3, 4] 36 [.go, .reg [(0, hT)], .reg [], .reg [(2, { call := some (hK_ [0, 2, 3, 4] (lT_Prepared_v y4) (lT_Prepared_objs us2 m4 m5) (lT_Prepared_up us2 m4 m5 y4)), v := some (.bool true) })], .reg [(2, hk_ (hK_ [0, 2, 3, 4] (lT_Release_v y7) (lT_Release_objs us2 m4 m5) (lT_Release_up y7)))], .reg [(1, hF)], .reg []]
      (q13 (f_ C1 tr) (q15 (Eq.refl 3) G2 (le_ 3 3 rfl) (Eq.refl 3) (le_ 3 3 rfl) (Eq.refl 0)) (m_ 3 3 rfl (a_ (a_ (a_ (lT_Prepared_ok us2 m4 m5 (y3.getD t46.toNat default) y4 E3 (sel [0, 2, 3, 4]) sj_) (o4_ [.map 2, .map 3, .map 4] us2 m4 m5)) (a_ (leB C5) tr)) tr)) (q26 (m_ 3 3 rfl (a_ (a_ (a_ (lT_Release_ok us2 m4 m5 (y3.getD t46.toNat default) y7 E6 (sel [0, 2, 3, 4]) sj_) (o4_ [.map 2, .map 3, .map 4] us2 m4 m5)) tr) (r4_ (a_ (a_ (a_ (Eq.refl 2) (a_ (le_ 2 2 rfl) (Eq.refl 0))) tr) (r1_ tr))))) (f_ C8 tr) (r2_ tr) tr)) (ih _ _ _ _ r h) ⟨rfl, trivial, uP, trivial, trivial, trivial⟩
   ·exact rt_ hμ [0, 1, 2, 3, 4] 29 [.go, .reg [(0, hT)], .reg [], .reg [(2, { call := some (hK_ [0, 2, 3, 4] (lT_Prepared_v y4) (lT_Prepared_objs us2 m4 m5) (lT_Prepared_up us2 m4 m5 y4)), v := some (.bool false) })], .reg []]
     (q13 (f_ C1 tr) (q15 (Eq.refl 3) G2 (le_ 3 3 rfl) (Eq.refl 3) (le_ 3 3 rfl) (Eq.refl 0)) (m_ 3 3 rfl (a_ (a_ (a_ (lT_Prepared_ok us2 m4 m5 (y3.getD t46.toNat default) y4 E3 (sel [0, 2, 3, 4]) sj_) (o4_ [.map 2, .map 3, .map 4] us2 m4 m5)) (a_ (leB C5) tr)) tr)) (q17 tr)) (ih _ _ _ _ r h) ⟨rfl, trivial, uP, trivial, trivial, trivial⟩
  ·exact rt_ hμ [0, 1, 2, 3, 4] 22 [.go, .reg [(0, hF)], .reg []]
    (q8 (f_ C1 tr) (r1_ tr)) (pl_LockFree_l2_ok hμ m big _ _ _ _ r h) ⟨rfl, trivial, uP, trivial, trivial, trivial⟩
theorem pl_LockFree_l0_ok {w0 W μ0} (hμ : Lt_ μ0 0) (y8 : (List (TA))) : ∀ (fuel : Nat) (t31 : Int) (m : List (TX × TS)) (us : UT) (m2 m3 : PT) (r : (Bool)), pl_LockFree_l0 y8 fuel t31 m us m2 m3 = some r → pl_LockFree_K0 w0 W μ0 y8 t31 m us m2 m3 r := by
 intro fuel
 induction fuel with
 | zero => intro t31 m us m2 m3 r h; rw [pl_LockFree_l0] at h; cases h
 | succ fuel ih =>
  intro t31 m us m2 m3 r h
  rw [pl_LockFree_l0] at h
  rcases it_ h with ⟨C1, h⟩ | ⟨C1, h⟩
  ·obtain ⟨G2, h⟩ := gs_ h
   obtain ⟨y4, E3, h⟩ := bs_ h
   exact rt_ hμ [0, 1, 5, 2, 3, 4] 24 [.go, .reg [(0, hT)], .reg [], .reg [(2, hk_ (hK_ [0, 2, 3, 4] (pl_does_v y4) (pl_does_objs us m2 m3) (pl_does_up y4)))]]
    (q13 (f_ C1 tr) (q15 (Eq.refl 15) G2 (le_ 15 15 rfl) (Eq.refl 15) (le_ 15 15 rfl) (Eq.refl 0)) (m_ 15 15 rfl (a_ (a_ (a_ (pl_does_ok us m2 m3 (y8.getD t31.toNat default) y4 E3 (sel [0, 2, 3, 4]) sj_) (o4_ [.map 2, .map 3, .map 4] us m2 m3)) tr) tr)) tr) (pl_LockFree_c9_ok hμ t31 m y8 y4 (pl_LockFree_l0 y8 fuel) ih _ _ r h) ⟨rfl, trivial, rfl, uP, trivial, trivial, trivial⟩
  ·obtain ⟨y3, E2, h⟩ := bs_ h
   exact rt_ hμ [0, 1, 2, 3, 4] 22 [.go, .reg [(0, hF)], .reg [(1, hk_ (hK_ [0, 2, 3, 4] (lT_Users_v y3) (lT_Users_objs us m2 m3) (lT_Users_up us m2 m3 y3)))]]
    (q8 (f_ C1 tr) (r1_ (q27 (a_ (lT_Users_ok us m2 m3 y3 E2 (sel [0, 2, 3, 4]) sj_) (o4_ [.map 2, .map 3, .map 4] us m2 m3))))) (pl_LockFree_l1_ok hμ m y3 big _ _ _ _ r h) ⟨rfl, trivial, uP, trivial, trivial, trivial⟩
theorem pl_LockFree_ok (script : List (TA)) (r : (Bool)) (h : pl_LockFree script = some r) : ∀ σ, Inj 0 σ → FnTri Tryz.prog 5 (renL σ [.ds 15 (script).length (rowF c_TA default script)]) (preOf σ 0 []) ((pl_LockFree_v r).ren σ) (upOf σ []) := by
 refine fo_ Tryz.func5 trivial trivial ?_
 intro w0 W μ0 hμ
 unfold pl_LockFree at h
 obtain ⟨y2, e1, h⟩ := bs_ h
 obtain ⟨y4, e3, h⟩ := bs_ h
 rcases it_ h with ⟨c5, h⟩ | ⟨c5, h⟩
 ·obtain ⟨y7, e6, h⟩ := bs_ h
  obtain rfl := si_ h
  exact rr_ [] 23 [.reg [], .reg [(0, hk_ (hK_ [0, 1, 2, 3] (lock_New_v y2) [] (lock_New_up y2)))], .reg [(4, hC (pl_far_v y4)), (5, hT)], .reg [(3, hC (pl_alive_v y7))]]
   (q3 (q24 (lock_New_ok y2 e1 (sel [0, 1, 2, 3]) sj_) (r4_ (c_ (pl_far_tri script y4 e3) (f_ c5 tr))) (q21 (c_ (pl_alive_tri y7 e6) (r2_ tr)))))
 ·obtain ⟨y8, e6, h⟩ := bs_ h
  exact rt_ hμ [0, 4, 1, 2, 3] 30 [.reg [], .reg [(0, hk_ (hK_ [0, 1, 2, 3] (lock_New_v y2) [] (lock_New_up y2)))], .reg [(4, hC (pl_far_v y4)), (5, hF)], .reg [], .reg [(1, hC (pl_short_v y8))]]
   (q24 (lock_New_ok y2 e1 (sel [0, 1, 2, 3]) sj_) (r4_ (c_ (pl_far_tri script y4 e3) (f_ c5 tr))) (q8 (r2_ tr) (r1_ (c_ (pl_short_tri script y8 e6) (r2_ tr))))) (pl_LockFree_l0_ok hμ y8 big _ _ _ _ _ r h) ⟨rfl, trivial, uP, trivial, trivial, trivial⟩
theorem pl_LockFree_tri (script : List (TA)) (r : (Bool)) (h : pl_LockFree script = some r) : FnTri Tryz.prog 5 [.ds 15 (script).length (rowF c_TA default script)] [] (pl_LockFree_v r) [] := FnTri.none (pl_LockFree_ok script r h) rfl rfl
end
end Go.Proofs.YtddgjfclpknkcaaGreatDoor.Wk
