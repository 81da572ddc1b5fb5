import Derived.Test.YtddgjfclpknkcaaGreatDoorLckWc
namespace Go.Proofs.YtddgjfclpknkcaaGreatDoor.Wk
open Go Go.Cn Go.RowKit
set_option maxRecDepth 100000
set_option maxHeartbeats 4000000
set_option linter.unusedVariables false
set_option linter.unusedSimpArgs false
noncomputable section
variable (w0 : World) (W : Nat → Prop) (μ0 : Emb)
abbrev pl_stamps_K0 (uu : UT) (hh ww : PT) (was : List (TX × TS)) (a : TA) (y2 : (List (TX))) (t16 : Int) (m : List (TX × TS)) (r : (List (TX × TS))) : Prop := Kt_ w0 W μ0 Tryz.f20 5 6 (pl_stamps_v r) (pl_stamps_up uu hh ww was r) (kAt (bodyOf Tryz.f20) 0) (.any :: (.map 4) :: .any :: .any :: .any :: (.ptr 5 0 0) :: .any :: (.map 6) :: n_ 6 ((.ds 3 (y2).length (rowF c_TX default y2)) :: (.int .i64 ((y2).length : Int)) :: (.int .i64 t16) :: n_ 29 [])) [sT_, some (oP1 uu []), some (oM3 hh), some (oM3 ww), some (oM6 was), some (.var (c_TA a)), some (oM6 m)]
theorem pl_stamps_l0_ok {w0 W μ0} (hμ : Lt_ μ0 5) (uu : UT) (hh ww : PT) (was : List (TX × TS)) (a : TA) (y2 : (List (TX))) : ∀ (fuel : Nat) (t16 : Int) (m : List (TX × TS)) (r : (List (TX × TS))), pl_stamps_l0 uu hh ww was a y2 fuel t16 m = some r → pl_stamps_K0 w0 W μ0 uu hh ww was a y2 t16 m r := by
 intro fuel
 induction fuel with
 | zero => intro t16 m r h; rw [pl_stamps_l0] at h; cases h
 | succ fuel ih =>
  intro t16 m r h
  rw [pl_stamps_l0] at h
  rcases it_ h with ⟨C1, h⟩ | ⟨C1, h⟩
  ·obtain ⟨G2, h⟩ := gs_ h
   obtain ⟨y3, E4, h⟩ := bs_ h
   rcases it_ h with ⟨C5, h⟩ | ⟨C5, h⟩
   ·exact rt_ hμ [5, 6] 35 [.go, .reg [(0, hT)], .reg [], .reg [(2, { look := ((mget was (y2.getD t16.toNat default)).map v_TS), v := some (.tup [v_TS ((mget was (y2.getD t16.toNat default)).getD default), .bool ((mget was (y2.getD t16.toNat default)).isSome)]) }), (4, hv_ (v_TS y3))], .reg [(1, hT)], .reg [(3, { os := [(6, oM6 (mset m (y2.getD t16.toNat default) y3))] })], .reg []]
     (q6 (f_ C1 tr) (q27 (Eq.refl 3) G2 (q12 (le_ 3 3 rfl) (Eq.refl 3) (le_ 3 3 rfl) (Eq.refl 0))) (m_ 3 3 rfl (a_ (a_ (a_ (Eq.refl true) (findE_enc v_TX v_TS k_TX was (y2.getD t16.toNat default))) (a_ (le_lookok v_TS (mget was (y2.getD t16.toNat default)) default) tr)) (r1_ (a_ (a_ tr (a_ (le_nm v_TS E4) tr)) (r2_ (a_ (a_ (a_ (Eq.refl 4) (a_ (le_ 4 4 rfl) (Eq.refl 0))) tr) (r1_ tr))))))) (q14 (q9 (f_ C5 tr)) (q9 (m_ 3 3 rfl (m_ 4 4 rfl (a_ (a_ (a_ (Eq.refl true) (Eq.refl true)) (a_ (sub_upd v_TX v_TS k_TX true ks0 m (y2.getD t16.toNat default) y3) tr)) tr)))) tr tr)) (ih _ _ r h) ⟨rfl, uP, trivial, trivial, trivial, rfl, trivial, trivial⟩
   ·rcases it_ h with ⟨C6, h⟩ | ⟨C6, h⟩
    ·obtain ⟨y7, E8, h⟩ := bs_ h
     exact rt_ hμ [5, 6] 39 [.go, .reg [(0, hT)], .reg [], .reg [(2, { look := ((mget was (y2.getD t16.toNat default)).map v_TS), v := some (.tup [v_TS ((mget was (y2.getD t16.toNat default)).getD default), .bool ((mget was (y2.getD t16.toNat default)).isSome)]) }), (4, hv_ (v_TS y3))], .reg [(1, hF)], .reg [(4, hT)], .reg [(4, { os := [(6, oM6 y7)] })], .reg []]
      (q6 (f_ C1 tr) (q27 (Eq.refl 3) G2 (q12 (le_ 3 3 rfl) (Eq.refl 3) (le_ 3 3 rfl) (Eq.refl 0))) (m_ 3 3 rfl (a_ (a_ (a_ (Eq.refl true) (findE_enc v_TX v_TS k_TX was (y2.getD t16.toNat default))) (a_ (le_lookok v_TS (mget was (y2.getD t16.toNat default)) default) tr)) (r1_ (a_ (a_ tr (a_ (le_nm v_TS E4) tr)) (r2_ (a_ (a_ (a_ (Eq.refl 4) (a_ (le_ 4 4 rfl) (Eq.refl 0))) tr) (r1_ tr))))))) (q6 (q9 (f_ C5 tr)) (q9 (l_ 0 15 rfl (a_ (a_ (ne0 5 rfl) tr) (r1_ (f_ C6 tr))))) (m_ 3 3 rfl (m_ 3 3 rfl (a_ (a_ (Eq.refl true) tr) (a_ (a_ (a_ (Eq.refl true) (Eq.refl true)) (a_ (LO.Sub.trans (sub_upd v_TX v_TS k_TX true ks0 m (y2.getD t16.toNat default) (TS.mk 0 (y2.getD t16.toNat default))) (LO.Sub.of_eq (nm_eq (fun l_ => oM6 l_) E8))) tr)) tr)))) (q16 tr))) (ih _ _ r h) ⟨rfl, uP, trivial, trivial, trivial, rfl, trivial, trivial⟩
    ·exact rt_ hμ [5, 6] 39 [.go, .reg [(0, hT)], .reg [], .reg [(2, { look := ((mget was (y2.getD t16.toNat default)).map v_TS), v := some (.tup [v_TS ((mget was (y2.getD t16.toNat default)).getD default), .bool ((mget was (y2.getD t16.toNat default)).isSome)]) }), (4, hv_ (v_TS y3))], .reg [(1, hF)], .reg [(4, hF)], .reg [(4, { os := [(6, oM6 (mset m (y2.getD t16.toNat default) a.f_Stamp))] })], .reg []]
      (q6 (f_ C1 tr) (q27 (Eq.refl 3) G2 (q12 (le_ 3 3 rfl) (Eq.refl 3) (le_ 3 3 rfl) (Eq.refl 0))) (m_ 3 3 rfl (a_ (a_ (a_ (Eq.refl true) (findE_enc v_TX v_TS k_TX was (y2.getD t16.toNat default))) (a_ (le_lookok v_TS (mget was (y2.getD t16.toNat default)) default) tr)) (r1_ (a_ (a_ tr (a_ (le_nm v_TS E4) tr)) (r2_ (a_ (a_ (a_ (Eq.refl 4) (a_ (le_ 4 4 rfl) (Eq.refl 0))) tr) (r1_ tr))))))) (q6 (q9 (f_ C5 tr)) (q9 (l_ 0 15 rfl (a_ (a_ (ne0 5 rfl) tr) (r1_ (f_ C6 tr))))) (m_ 3 3 rfl (r1_ (m_ 5 15 rfl (a_ (a_ (a_ (Eq.refl true) (Eq.refl true)) (a_ (sub_upd v_TX v_TS k_TX true ks0 m (y2.getD t16.toNat default) a.f_Stamp) tr)) tr)))) (q16 tr))) (ih _ _ r h) ⟨rfl, uP, trivial, trivial, trivial, rfl, trivial, trivial⟩
  ·obtain rfl := si_ h
   exact rr_ [6] 19 [.go, .reg [(0, hF)], .reg []]
    (q24 (f_ C1 tr) (r2_ tr))
theorem pl_stamps_ok (uu : UT) (hh ww : PT) (was : List (TX × TS)) (a : TA) (r : (List (TX × TS))) (h : pl_stamps uu hh ww was a = some r) : ∀ σ, Inj 6 σ → FnTri Tryz.prog 20 (renL σ [.ptr 0 0 0, .map 4, v_TA a]) (preOf σ 0 (pl_stamps_objs uu hh ww was)) ((pl_stamps_v r).ren σ) (upOf σ (pl_stamps_up uu hh ww was r)) := by
 refine fo_ Tryz.func20 ⟨rfl, uP, trivial, trivial, trivial, trivial⟩ ⟨rfl, uP, trivial, trivial, trivial, trivial, trivial⟩ ?_
 intro w0 W μ0 hμ
 unfold pl_stamps at h
 obtain ⟨y2, e1, h⟩ := bs_ h
 exact rt_ hμ [5, 6] 21 [.reg [], .reg [], .reg [(1, hk_ (hK_ [0, 1, 2, 3] (lT_Users_v y2) (lT_Users_objs uu hh ww) (lT_Users_up uu hh ww y2)))]]
  (q6 (r2_ tr) (r2_ tr) (q27 (lT_Users_ok uu hh ww y2 e1 (sel [0, 1, 2, 3]) sj_) (o4_ [.map 1, .map 2, .map 3] uu hh ww) (r2_ tr)) tr) (pl_stamps_l0_ok hμ uu hh ww was a y2 big _ _ r h) ⟨rfl, uP, trivial, trivial, trivial, rfl, trivial, trivial⟩
def lT_Queue_v (r : (List (TX))) : LV := .ds 3 (r).length (rowF c_TX default r)
def lT_Queue_up (uu : UT) (hh ww : PT) (r : (List (TX))) : Upd := [(0, sT_), (1, some (oP1 uu [])), (2, some (oM3 hh)), (3, some (oM3 ww))]
def lT_Queue_objs (uu : UT) (hh ww : PT) : List LO := [.var [.map 1, .map 2, .map 3], oP1 uu [], oM3 hh, oM3 ww]
def lT_Queue_c4 (uu : UT) (hh ww : PT) (x_k : A8 (Int)) (q : Bag (TX)) : Option ((List (TX))) :=
 agreeB q fun l1 =>
 (sFA l1 uu hh ww).bind fun y4 =>
 if (l1).length = (y4).length then
 some y4
 else none
def lT_Queue (uu : UT) (hh ww : PT) (x_k : A8 (Int)) : Option ((List (TX))) :=
 (lT_ok uu hh ww).bind fun y2 =>
 (lP_at ww x_k).bind fun y4 =>
 lT_Queue_c4 uu hh ww x_k y4
abbrev lT_Queue_K1000004 (uu : UT) (hh ww : PT) (q : Bag (TX)) (r : (List (TX))) : Prop := Kt_ w0 W μ0 Tryz.f28 4 4 (lT_Queue_v r) (lT_Queue_up uu hh ww r) (kAtR (bodyOf Tryz.f28) 4) ((.ptr 0 0 0) :: n_ 4 ((.gs 4 (q).length) :: n_ 14 [])) [sT_, some (oP1 uu []), some (oM3 hh), some (oM3 ww), some (.bag 3 (Bag.map c_TX q))]
theorem lT_Queue_c4_ok {w0 W μ0} (hμ : Lt_ μ0 4) (uu : UT) (hh ww : PT) (x_k : A8 (Int)) (q : Bag (TX)) (r : (List (TX))) (h : lT_Queue_c4 uu hh ww x_k q = some r) : lT_Queue_K1000004 w0 W μ0 uu hh ww q r := by
 unfold lT_Queue_c4 at h
 refine k_bag c_TX default (sz := 3) (c := 4) (q := q) (by kernel_rfl) (by kernel_rfl) (fun l1 hC4_2 => ?_)
 replace h := agreeB_some h hC4_2
 subst hC4_2
 obtain ⟨y4, E3, h⟩ := bs_ h
 obtain ⟨G5, h⟩ := gs_ h
 obtain rfl := si_ h
 exact rr_ [] 16 [.reg [(3, hk_ (hK_ [4, 0, 1, 2, 3] (sFA_v y4) (sFA_objs l1 uu hh ww) (sFA_up uu hh ww y4)))], .reg [], .wk [(4, .gs 4 (y4).length), (5, .gs 4 (y4).length), (15, .gs 4 (y4).length), (19, .gs 4 (y4).length)] [], .frz 4]
  (q3 (q0 (q2 (q4 (sFA_ok l1 uu hh ww y4 E3 (sel [4, 0, 1, 2, 3]) sj_) (rl_ (.gr 3 (l1).length (rowF c_TX default l1))) (o4_ [.map 1, .map 2, .map 3] uu hh ww) tr)) (r2_ tr) (q3 (q0 (le_gs 4 G5) (le_gs 4 G5) (le_gs 4 G5) (q3 (le_gs 4 G5)))) (q3 (q0 (fz_row (enc := c_TX) (d := default) (fun _ => rfl) y4) (Nat.le_refl (y4).length) (Nat.le_refl (y4).length) (q8 (Nat.le_refl (y4).length) (Nat.le_refl (y4).length))))))
theorem lT_Queue_ok (uu : UT) (hh ww : PT) (x_k : A8 (Int)) (r : (List (TX))) (h : lT_Queue uu hh ww x_k = some r) : ∀ σ, Inj 4 σ → FnTri Tryz.prog 28 (renL σ [.ptr 0 0 0, .agg [.int .u8 x_k.a0, .int .u8 x_k.a1, .int .u8 x_k.a2, .int .u8 x_k.a3, .int .u8 x_k.a4, .int .u8 x_k.a5, .int .u8 x_k.a6, .int .u8 x_k.a7]]) (preOf σ 0 (lT_Queue_objs uu hh ww)) ((lT_Queue_v r).ren σ) (upOf σ (lT_Queue_up uu hh ww r)) := by
 refine fo_ Tryz.func28 ⟨rfl, uP, trivial, trivial, trivial⟩ ⟨rfl, uP, trivial, trivial, trivial⟩ ?_
 intro w0 W μ0 hμ
 unfold lT_Queue at h
 obtain ⟨y2, e1, h⟩ := bs_ h
 obtain ⟨y4, e3, h⟩ := bs_ h
 exact rt_ hμ [5] 22 [.reg [(1, hv_ (.ds 3 (([] : List (TX))).length (rowF c_TX default ([] : List (TX)))))], .reg [(1, hk_ (hK_ [0, 1, 2, 3] (lT_ok_v y2) (lT_ok_objs uu hh ww) (lT_ok_up hh ww y2)))], .reg [(5, hk_ (hK_ [3, 5] (lP_at_v y4) (lP_at_objs ww) (lP_at_up ww y4)))]]
  (q20 (q9 (q24 tr (le_nil_ds 3 (rowF c_TX default [])))) (q9 (q13 (q0 (lT_ok_ok uu hh ww y2 e1 (sel [0, 1, 2, 3]) sj_) (rl_ (.var [.map 1, .map 2, .map 3])) (le_pmR v_TX c_TU (ag := true) (ks := ks0) (m := uu) (opn := [])) (q8 (rl_ (oM3 hh)) (rl_ (oM3 ww)))))) (l_ 2 3 rfl (m_ 8 8 rfl (a_ (a_ (a_ (lP_at_ok ww x_k y4 e3 (sel [3, 5]) sj_) (a_ (rl_ (oM3 ww)) tr)) tr) (r1_ tr)))) tr) (lT_Queue_c4_ok hμ uu hh ww x_k _ r h) ⟨rfl, uP, trivial, trivial, trivial, trivial⟩
def parrelref05_numbers_v (r : (List (Int))) : LV := .ds 1 (r).length (rowF (cInt .u32) default r)
def parrelref05_numbers (t : TX) : Option ((List (Int))) :=
 some ([(IntKind.wrap .u32 t.f_Node), t.f_Boot, t.f_Num] : List (Int))
theorem parrelref05_numbers_ok (t : TX) (r : (List (Int))) (h : parrelref05_numbers t = some r) : ∀ σ, Inj 0 σ → FnTri Tryz.prog 46 (renL σ [v_TX t]) (preOf σ 0 []) ((parrelref05_numbers_v r).ren σ) (upOf σ []) := by
 refine fo_ Tryz.func46 trivial trivial ?_
 intro w0 W μ0 hμ
 unfold parrelref05_numbers at h
 obtain rfl := si_ h
 exact rr_ [] 16 [.reg [(1, hv_ (.ds 1 (([] : List (Int))).length (rowF (cInt .u32) default ([] : List (Int)))))], .reg [(7, { os := [(1, .gr 1 (([(IntKind.wrap .u32 t.f_Node), t.f_Boot, t.f_Num] : List (Int))).length (rowF (cInt .u32) default ([(IntKind.wrap .u32 t.f_Node), t.f_Boot, t.f_Num] : List (Int))))], v := some (.gs 1 (([(IntKind.wrap .u32 t.f_Node), t.f_Boot, t.f_Num] : List (Int))).length) })], .frz 1]
  (q3 (q0 (q9 (q24 tr (le_nil_ds 1 (rowF (cInt .u32) default [])))) (q9 (l_ 0 3 rfl (r2_ (l_ 1 3 rfl (r1_ (l_ 2 3 rfl (a_ (a_ (a_ (Eq.refl true) (a_ (Eq.refl 1) (a_ (lt_ 0 1 rfl) (le_ 3 16777216 rfl)))) (a_ (le_sl_gs 1 3 (some 3) rfl) (a_ (sub_lit (cInt .u32) default 1 (fun _ => rfl) ([(IntKind.wrap .u32 t.f_Node), t.f_Boot, t.f_Num] : List (Int))) tr))) (r1_ tr)))))))) (q0 (fz_row (enc := (cInt .u32)) (d := default) (fun _ => rfl) ([(IntKind.wrap .u32 t.f_Node), t.f_Boot, t.f_Num] : List (Int))) (Nat.le_refl (([(IntKind.wrap .u32 t.f_Node), t.f_Boot, t.f_Num] : List (Int))).length) (Nat.le_refl (([(IntKind.wrap .u32 t.f_Node), t.f_Boot, t.f_Num] : List (Int))).length) tr) tr))
theorem parrelref05_numbers_tri (t : TX) (r : (List (Int))) (h : parrelref05_numbers t = some r) : FnTri Tryz.prog 46 [v_TX t] [] (parrelref05_numbers_v r) [] := FnTri.none (parrelref05_numbers_ok t r h) rfl rfl
def parrelref05_first_v (r : (Int)) : LV := .int .i64 r
def parrelref05_first_l0 (a b : List (Int)) : Nat → (Int) → Option ((Int))
 | 0, _ => none
 | fuel + 1, i =>
  if ((decide (i < ((a).length : Int))) : Bool) then
   if 0 ≤ i ∧ i < (((a).length : Nat) : Int) then
   if 0 ≤ i ∧ i < (((b).length : Nat) : Int) then
   if ((decide ((a.getD i.toNat default) < (b.getD i.toNat default))) : Bool) then
    some (-1)
   else
    if ((decide ((b.getD i.toNat default) < (a.getD i.toNat default))) : Bool) then
     some 1
    else
     parrelref05_first_l0 a b fuel (IntKind.wrap .i64 (i + 1))
   else none
   else none
  else
   some 0
def parrelref05_first (a b : List (Int)) : Option ((Int)) :=
 parrelref05_first_l0 a b big 0
abbrev parrelref05_first_K0 (a b : List (Int)) (i : Int) (r : (Int)) : Prop := Kt_ w0 W μ0 Tryz.f45 0 0 (parrelref05_first_v r) [] (kAt (bodyOf Tryz.f45) 0) ((.ds 1 (a).length (rowF (cInt .u32) default a)) :: (.ds 1 (b).length (rowF (cInt .u32) default b)) :: .any :: .any :: .any :: (.int .i64 i) :: n_ 24 []) []
theorem parrelref05_first_l0_ok {w0 W μ0} (hμ : Lt_ μ0 0) (a b : List (Int)) : ∀ (fuel : Nat) (i : Int) (r : (Int)), parrelref05_first_l0 a b fuel i = some r → parrelref05_first_K0 w0 W μ0 a b i r := by
 intro fuel
 induction fuel with
 | zero => intro i r h; rw [parrelref05_first_l0] at h; cases h
 | succ fuel ih =>
  intro i r h
  rw [parrelref05_first_l0] at h
  rcases it_ h with ⟨C1, h⟩ | ⟨C1, h⟩
  ·obtain ⟨G2, h⟩ := gs_ h
   obtain ⟨G3, h⟩ := gs_ h
   rcases it_ h with ⟨C4, h⟩ | ⟨C4, h⟩
   ·obtain rfl := si_ h
    exact rr_ [] 26 [.go, .reg [(3, hT)], .reg [(8, hT)], .reg []]
     (q3 (q6 (q2 (f_ C1 tr)) (r2_ (q27 (Eq.refl 1) G2 (q7 (lt_ 0 1 rfl) (r2_ (q27 (Eq.refl 1) G3 (q7 (lt_ 0 1 rfl) (f_ C4 tr))))))) tr tr))
   ·rcases it_ h with ⟨C5, h⟩ | ⟨C5, h⟩
    ·obtain rfl := si_ h
     exact rr_ [] 31 [.go, .reg [(3, hT)], .reg [(8, hF)], .reg [(8, hT)], .reg []]
      (q3 (q14 (q2 (f_ C1 tr)) (r2_ (q27 (Eq.refl 1) G2 (q7 (lt_ 0 1 rfl) (r2_ (q27 (Eq.refl 1) G3 (q7 (lt_ 0 1 rfl) (f_ C4 tr))))))) (q27 (Eq.refl 1) G2 (q7 (lt_ 0 1 rfl) (r2_ (q27 (Eq.refl 1) G3 (q7 (lt_ 0 1 rfl) (f_ C5 tr)))))) (q30 tr)))
    ·exact rt_ hμ [] 32 [.go, .reg [(3, hT)], .reg [(8, hF)], .reg [(8, hF)], .reg []]
      (q14 (q2 (f_ C1 tr)) (r2_ (q27 (Eq.refl 1) G2 (q7 (lt_ 0 1 rfl) (r2_ (q27 (Eq.refl 1) G3 (q7 (lt_ 0 1 rfl) (f_ C4 tr))))))) (q27 (Eq.refl 1) G2 (q7 (lt_ 0 1 rfl) (r2_ (q27 (Eq.refl 1) G3 (q7 (lt_ 0 1 rfl) (f_ C5 tr)))))) (q22 tr)) (ih _ r h) trivial
  ·obtain rfl := si_ h
   exact rr_ [] 19 [.go, .reg [(3, hF)], .reg []]
    (q24 (q2 (f_ C1 tr)) (q9 tr))
theorem parrelref05_first_ok (a b : List (Int)) (r : (Int)) (h : parrelref05_first a b = some r) : ∀ σ, Inj 0 σ → FnTri Tryz.prog 45 (renL σ [.ds 1 (a).length (rowF (cInt .u32) default a), .ds 1 (b).length (rowF (cInt .u32) default b)]) (preOf σ 0 []) ((parrelref05_first_v r).ren σ) (upOf σ []) := by
 refine fo_ Tryz.func45 trivial trivial ?_
 intro w0 W μ0 hμ
 unfold parrelref05_first at h
 exact rt_ hμ [] 18 [.reg [], .reg []]
  (q8 (q9 tr) (q9 tr)) (parrelref05_first_l0_ok hμ a b big _ r h) trivial
theorem parrelref05_first_tri (a b : List (Int)) (r : (Int)) (h : parrelref05_first a b = some r) : FnTri Tryz.prog 45 [.ds 1 (a).length (rowF (cInt .u32) default a), .ds 1 (b).length (rowF (cInt .u32) default b)] [] (parrelref05_first_v r) [] := FnTri.none (parrelref05_first_ok a b r h) rfl rfl
def parrelref05_Stamps_v (r : (Int)) : LV := .int .i64 r
def parrelref05_Stamps (a b : TS) : Option ((Int)) :=
 (parrelref05_numbers a.f_Tx).bind fun y2 =>
 if ((([a.f_Time] : List (Int))).length + (y2).length) * 4 ≤ 140737488351232 then
 (parrelref05_numbers b.f_Tx).bind fun y5 =>
 if ((([b.f_Time] : List (Int))).length + (y5).length) * 4 ≤ 140737488351232 then
 (parrelref05_first (([a.f_Time] : List (Int)) ++ y2) (([b.f_Time] : List (Int)) ++ y5)).bind fun y8 =>
 some y8
 else none
 else none
theorem parrelref05_Stamps_ok (a b : TS) (r : (Int)) (h : parrelref05_Stamps a b = some r) : ∀ σ, Inj 0 σ → FnTri Tryz.prog 22 (renL σ [v_TS a, v_TS b]) (preOf σ 0 []) ((parrelref05_Stamps_v r).ren σ) (upOf σ []) := by
 refine fo_ Tryz.func22 trivial trivial ?_
 intro w0 W μ0 hμ
 unfold parrelref05_Stamps at h
 obtain ⟨y2, e1, h⟩ := bs_ h
 obtain ⟨g3, h⟩ := gs_ h
 obtain ⟨y5, e4, h⟩ := bs_ h
 obtain ⟨g6, h⟩ := gs_ h
 obtain ⟨y8, e7, h⟩ := bs_ h
 obtain rfl := si_ h
 exact rr_ [] 15 [.reg [], .reg [(2, { os := [(2, .gr 1 (([a.f_Time] : List (Int))).length (rowF (cInt .u32) default ([a.f_Time] : List (Int))))], v := some (.gs 2 (([a.f_Time] : List (Int))).length) }), (5, hC (parrelref05_numbers_v y2)), (6, { app := 3, os := [(3, .gr 1 ((([a.f_Time] : List (Int)) ++ y2)).length (rowF (cInt .u32) default (([a.f_Time] : List (Int)) ++ y2)))], v := some (.gs 3 ((([a.f_Time] : List (Int)) ++ y2)).length), fz := true }), (9, { os := [(4, .gr 1 (([b.f_Time] : List (Int))).length (rowF (cInt .u32) default ([b.f_Time] : List (Int))))], v := some (.gs 4 (([b.f_Time] : List (Int))).length) }), (12, hC (parrelref05_numbers_v y5)), (13, { app := 3, os := [(5, .gr 1 ((([b.f_Time] : List (Int)) ++ y5)).length (rowF (cInt .u32) default (([b.f_Time] : List (Int)) ++ y5)))], v := some (.gs 5 ((([b.f_Time] : List (Int)) ++ y5)).length), fz := true }), (14, hC (parrelref05_first_v y8))]]
  (q24 (q2 tr) (q9 (l_ 0 4 rfl (a_ (a_ (a_ (Eq.refl true) (a_ (Eq.refl 1) (a_ (lt_ 0 1 rfl) (le_ 1 16777216 rfl)))) (a_ (le_sl_gs 2 1 (some 1) rfl) (a_ (sub_lit (cInt .u32) default 1 (fun _ => rfl) ([a.f_Time] : List (Int))) tr))) (r1_ (m_ 4 4 rfl (c_ (parrelref05_numbers_tri a.f_Tx y2 e1) (a_ (a_ (a_ (a_ (Eq.refl 1) (a_ (a_ (lt_ 0 1 rfl) (a_ (lt_ 0 4 rfl) (a_ g3 (a_ (Eq.refl 1) (Eq.refl true))))) (a_ (Eq.refl 1) (Nat.le_refl (([a.f_Time] : List (Int))).length)))) (a_ (le_gs_app 3 ([a.f_Time] : List (Int)) y2) (a_ (sub_app (cInt .u32) default 1 ([a.f_Time] : List (Int)) y2) tr))) (a_ (Nat.le_refl ((([a.f_Time] : List (Int)) ++ y2)).length) (fz_row (enc := (cInt .u32)) (d := default) (fun _ => rfl) (([a.f_Time] : List (Int)) ++ y2)))) (r1_ (l_ 0 4 rfl (a_ (a_ (a_ (Eq.refl true) (a_ (Eq.refl 1) (a_ (lt_ 0 1 rfl) (le_ 1 16777216 rfl)))) (a_ (le_sl_gs 4 1 (some 1) rfl) (a_ (sub_lit (cInt .u32) default 1 (fun _ => rfl) ([b.f_Time] : List (Int))) tr))) (r1_ (m_ 4 4 rfl (c_ (parrelref05_numbers_tri b.f_Tx y5 e4) (a_ (a_ (a_ (a_ (Eq.refl 1) (a_ (a_ (lt_ 0 1 rfl) (a_ (lt_ 0 4 rfl) (a_ g6 (a_ (Eq.refl 1) (Eq.refl true))))) (a_ (Eq.refl 1) (Nat.le_refl (([b.f_Time] : List (Int))).length)))) (a_ (le_gs_app 5 ([b.f_Time] : List (Int)) y5) (a_ (sub_app (cInt .u32) default 1 ([b.f_Time] : List (Int)) y5) tr))) (a_ (Nat.le_refl ((([b.f_Time] : List (Int)) ++ y5)).length) (fz_row (enc := (cInt .u32)) (d := default) (fun _ => rfl) (([b.f_Time] : List (Int)) ++ y5)))) (a_ (a_ (a_ (parrelref05_first_tri (([a.f_Time] : List (Int)) ++ y2) (([b.f_Time] : List (Int)) ++ y5) y8 e7) tr) tr) (r1_ tr)))))))))))))))))
theorem parrelref05_Stamps_tri (a b : TS) (r : (Int)) (h : parrelref05_Stamps a b = some r) : FnTri Tryz.prog 22 [v_TS a, v_TS b] [] (parrelref05_Stamps_v r) [] := FnTri.none (parrelref05_Stamps_ok a b r h) rfl rfl
def lT_Prepared_v (r : (Bool)) : LV := .bool r
def lT_Prepared_up (uu : UT) (hh ww : PT) (r : (Bool)) : Upd := [(0, sT_), (1, some (oP1 uu [])), (2, some (oM3 hh)), (3, some (oM3 ww))]
def lT_Prepared_objs (uu : UT) (hh ww : PT) : List LO := [.var [.map 1, .map 2, .map 3], oP1 uu [], oM3 hh, oM3 ww]
def lT_Prepared (uu : UT) (hh ww : PT) (x : TX) : Option ((Bool)) :=
 (lT_ok uu hh ww).bind fun y2 =>
 if (((mget uu x).isSome) : Bool) then
  (mget uu x).bind fun y4 =>
  some y4.f_prepared
 else
  some false
theorem lT_Prepared_ok (uu : UT) (hh ww : PT) (x : TX) (r : (Bool)) (h : lT_Prepared uu hh ww x = some r) : ∀ σ, Inj 4 σ → FnTri Tryz.prog 17 (renL σ [.ptr 0 0 0, v_TX x]) (preOf σ 0 (lT_Prepared_objs uu hh ww)) ((lT_Prepared_v r).ren σ) (upOf σ (lT_Prepared_up uu hh ww r)) := by
 refine fo_ Tryz.func17 ⟨rfl, uP, trivial, trivial, trivial⟩ ⟨rfl, uP, trivial, trivial, trivial⟩ ?_
 intro w0 W μ0 hμ
 unfold lT_Prepared at h
 obtain ⟨y2, e1, h⟩ := bs_ h
 rcases it_ h with ⟨c3, h⟩ | ⟨c3, h⟩
 ·obtain ⟨y4, e5, h⟩ := bs_ h
  obtain rfl := si_ h
  exact rr_ [] 18 [.reg [], .x (.p (.po 1 (v_TX x) (c_TU y4))), .reg [(1, hk_ (hK_ [0, 1, 2, 3] (lT_ok_v y2) (lT_ok_objs uu hh ww) (lT_ok_up hh ww y2))), (8, { look := some (.ptr 5 0 0) }), (17, { look := some (.ptr 5 0 0) })], .x (.p (.pc 1)), .wk [] [(1, oP1 uu [])]]
   (q3 (q6 (r2_ tr) (a_ (pmIn v_TX c_TU e5) (pmO0 v_TX x)) (q7 (q0 (lT_ok_ok uu hh ww y2 e1 (sel [0, 1, 2, 3]) sj_) (rl_ (.var [.map 1, .map 2, .map 3])) (le_pmR v_TX c_TU (ag := true) (ks := ks0) (m := uu) (opn := [(v_TX x, 5)])) (q8 (rl_ (oM3 hh)) (rl_ (oM3 ww)))) (r4_ (l_ 0 3 rfl (m_ 3 3 rfl (a_ (a_ (a_ (Eq.refl true) (a_ (pmSi v_TX c_TU k_TX uu x (isS e5)) (List.mem_cons_self (a := ((v_TX x, 5) : LV × Nat)) (l := [])))) tr) (r2_ (r4_ (l_ 0 3 rfl (m_ 3 3 rfl (a_ (a_ (a_ (Eq.refl true) (a_ (pmSi v_TX c_TU k_TX uu x (isS e5)) (List.mem_cons_self (a := ((v_TX x, 5) : LV × Nat)) (l := [])))) tr) (r2_ (l_ 4 5 rfl (r2_ tr))))))))))))) (a_ (q0 (getP_enc v_TX c_TU k_TX uu x e5) (Eq.refl true) (Eq.refl true) (show 1 ≠ 5 from by decide)) (q24 tr (pm_same v_TX c_TU k_TX true ks0 [] (m := uu) (k := x) e5)))))
 ·obtain rfl := si_ h
  exact rr_ [] 15 [.reg [], .reg [(1, hk_ (hK_ [0, 1, 2, 3] (lT_ok_v y2) (lT_ok_objs uu hh ww) (lT_ok_up hh ww y2))), (8, { look := none })]]
   (q21 (q7 (q0 (lT_ok_ok uu hh ww y2 e1 (sel [0, 1, 2, 3]) sj_) (rl_ (.var [.map 1, .map 2, .map 3])) (le_pmR v_TX c_TU (ag := true) (ks := ks0) (m := uu) (opn := [])) (q8 (rl_ (oM3 hh)) (rl_ (oM3 ww)))) (r4_ (l_ 0 3 rfl (m_ 3 3 rfl (a_ (a_ (a_ (Eq.refl true) (pmN v_TX c_TU k_TX uu x c3)) tr) (r1_ (r2_ (a_ tr (t8_ (r2_ tr)))))))))))
def pl_LockAges_v (r : (Bool)) : LV := .bool r
def pl_LockAges_l2 (t30 : Int) (y8 : (List (TA))) (yL0_4 : (TO) × (Int) × (UT) × (Bag (TL × Int)) × (Bag (TL × Int))) (l1 l3 : PT) (y6 : (List (TX × TS))) (yC9_8 : (List (TX))) (y5 : (List (TX))) (k0 : (Int) → (List (TX × TS)) → (UT) → (PT) → (PT) → Option ((Bool))) : Nat → (Bool) → (Int) → Option ((Bool))
 | 0, _, _ => none
 | fuel + 1, blocked, t81 =>
  if ((decide (t81 < ((y5).length : Int))) : Bool) then
   if 0 ≤ t81 ∧ t81 < (((y5).length : Nat) : Int) then
   (lT_Mode yL0_4.2.2.1 l1 l3 (y5.getD t81.toNat default) (y8.getD t30.toNat default).f_Key).bind fun yL2_4 =>
   if ((yL2_4 == 0) : Bool) then
    pl_LockAges_l2 t30 y8 yL0_4 l1 l3 y6 yC9_8 y5 k0 fuel blocked (IntKind.wrap .i64 (t81 + 1))
   else
    if 0 ≤ (0 : Int) ∧ (0 : Int) < (((yC9_8).length : Nat) : Int) then
    if ((decide ((y5.getD t81.toNat default) = (yC9_8.getD 0 default))) : Bool) then
     pl_LockAges_l2 t30 y8 yL0_4 l1 l3 y6 yC9_8 y5 k0 fuel blocked (IntKind.wrap .i64 (t81 + 1))
    else
     if ((yL2_4 == 2) : Bool) then
      (lT_Prepared yL0_4.2.2.1 l1 l3 (y5.getD t81.toNat default)).bind fun y10 =>
      if ((!y10) : Bool) then
       (some ((mget y6 (y5.getD t81.toNat default)).getD default)).bind fun y12 =>
       (some ((mget y6 (yC9_8.getD 0 default)).getD default)).bind fun y14 =>
       (parrelref05_Stamps y12 y14).bind fun y17 =>
       if ((decide (0 < y17)) : Bool) then
        some false
       else
        pl_LockAges_l2 t30 y8 yL0_4 l1 l3 y6 yC9_8 y5 k0 fuel true (IntKind.wrap .i64 (t81 + 1))
      else
       pl_LockAges_l2 t30 y8 yL0_4 l1 l3 y6 yC9_8 y5 k0 fuel true (IntKind.wrap .i64 (t81 + 1))
     else
      pl_LockAges_l2 t30 y8 yL0_4 l1 l3 y6 yC9_8 y5 k0 fuel true (IntKind.wrap .i64 (t81 + 1))
    else none
   else none
  else
   if ((!blocked) : Bool) then
    some false
   else
    k0 (IntKind.wrap .i64 (t30 + 1)) y6 yL0_4.2.2.1 l1 l3
def pl_LockAges_l1 (t30 : Int) (y8 : (List (TA))) (yL0_4 : (TO) × (Int) × (UT) × (Bag (TL × Int)) × (Bag (TL × Int))) (l1 l3 : PT) (y6 : (List (TX × TS))) (yC9_8 : (List (TX))) (k0 : (Int) → (List (TX × TS)) → (UT) → (PT) → (PT) → Option ((Bool))) : Nat → (Int) → Option ((Bool))
 | 0, _ => none
 | fuel + 1, t47 =>
  if ((decide (t47 < ((yC9_8).length : Int))) : Bool) then
   if 0 ≤ t47 ∧ t47 < (((yC9_8).length : Nat) : Int) then
   (lT_Waits yL0_4.2.2.1 l1 l3 (yC9_8.getD t47.toNat default)).bind fun yL1_4 =>
   if ((!yL1_4) : Bool) then
    some false
   else
    if ((decide (0 < t47)) : Bool) then
     if 0 ≤ (IntKind.wrap .i64 (t47 - 1)) ∧ (IntKind.wrap .i64 (t47 - 1)) < (((yC9_8).length : Nat) : Int) then
     (some (yC9_8.getD ((IntKind.wrap .i64 (t47 - 1))).toNat default)).bind fun yL1_8 =>
     (some ((mget y6 (yC9_8.getD t47.toNat default)).getD default)).bind fun y10 =>
     (parrelref05_Stamps ((mget y6 yL1_8).getD default) y10).bind fun y13 =>
     if ((decide (0 ≤ y13)) : Bool) then
      some false
     else
      pl_LockAges_l1 t30 y8 yL0_4 l1 l3 y6 yC9_8 k0 fuel (IntKind.wrap .i64 (t47 + 1))
     else none
    else
     pl_LockAges_l1 t30 y8 yL0_4 l1 l3 y6 yC9_8 k0 fuel (IntKind.wrap .i64 (t47 + 1))
   else none
  else
   if ((((yC9_8).length : Int) == 0) : Bool) then
    k0 (IntKind.wrap .i64 (t30 + 1)) y6 yL0_4.2.2.1 l1 l3
   else
    (lT_Users yL0_4.2.2.1 l1 l3).bind fun y5 =>
    pl_LockAges_l2 t30 y8 yL0_4 l1 l3 y6 yC9_8 y5 k0 big false 0
def pl_LockAges_c9 (t30 : Int) (m : List (TX × TS)) (y8 : (List (TA))) (y4 : (TO) × (Int) × (UT) × (Bag (TL × Int)) × (Bag (TL × Int))) (k0 : (Int) → (List (TX × TS)) → (UT) → (PT) → (PT) → Option ((Bool))) (q q2 : Bag (TL × Int)) : Option ((Bool)) :=
 agreeB q fun l1 =>
 agreeB q2 fun l3 =>
 (pl_stamps y4.2.2.1 l1 l3 m (y8.getD t30.toNat default)).bind fun y6 =>
 (lT_Queue y4.2.2.1 l1 l3 (y8.getD t30.toNat default).f_Key).bind fun yC9_8 =>
 pl_LockAges_l1 t30 y8 y4 l1 l3 y6 yC9_8 k0 big 0
def pl_LockAges_l0 (y8 : (List (TA))) : Nat → (Int) → (List (TX × TS)) → (UT) → (PT) → (PT) → Option ((Bool))
 | 0, _, _, _, _, _ => none
 | fuel + 1, t30, m, us, m2, m3 =>
  if ((decide (t30 < ((y8).length : Int))) : Bool) then
   if 0 ≤ t30 ∧ t30 < (((y8).length : Nat) : Int) then
   (pl_does us m2 m3 (y8.getD t30.toNat default)).bind fun y4 =>
   pl_LockAges_c9 t30 m y8 y4 (pl_LockAges_l0 y8 fuel) y4.2.2.2.1 y4.2.2.2.2
   else none
  else
   (pl_alive).bind fun y3 =>
   some y3
def pl_LockAges (script : List (TA)) : Option ((Bool)) :=
 (lock_New).bind fun y2 =>
 (pl_far script).bind fun y4 =>
 if (y4 : Bool) then
  (pl_alive).bind fun y7 =>
  some y7
 else
  (pl_short script).bind fun y8 =>
  pl_LockAges_l0 y8 big 0 ([] : List (TX × TS)) y2.1 y2.2.1 y2.2.2
abbrev pl_LockAges_K2 (t30 : Int) (y8 : (List (TA))) (y4 : (TO) × (Int) × (UT) × (Bag (TL × Int)) × (Bag (TL × Int))) (l1 l3 : PT) (y6 : (List (TX × TS))) (yC9_8 : (List (TX))) (y5 : (List (TX))) (blocked : Bool) (t81 : Int) (r : (Bool)) : Prop := Kt_ w0 W μ0 Tryz.f7 0 0 (pl_LockAges_v r) [] (kAt (bodyOf Tryz.f7) 2) (.any :: .any :: .any :: (.ptr 0 0 0) :: (.map 1) :: .any :: (.ptr 2 0 0) :: (.ds 3 (yC9_8).length (rowF c_TX default yC9_8)) :: .any :: .any :: (.bool blocked) :: n_ 17 ((.ds 15 (y8).length (rowF c_TA default y8)) :: (.int .i64 ((y8).length : Int)) :: (.int .i64 t30) :: n_ 48 ((.ds 3 (y5).length (rowF c_TX default y5)) :: (.int .i64 ((y5).length : Int)) :: (.int .i64 t81) :: n_ 42 []))) [some (.var [.map 3, .map 4, .map 5]), some (oM6 y6), some (.var (c_TA (y8.getD t30.toNat default))), some (oP1 y4.2.2.1 []), some (oM3 l1), some (oM3 l3)]
abbrev pl_LockAges_K1 (t30 : Int) (y8 : (List (TA))) (y4 : (TO) × (Int) × (UT) × (Bag (TL × Int)) × (Bag (TL × Int))) (l1 l3 : PT) (y6 : (List (TX × TS))) (yC9_8 : (List (TX))) (t47 : Int) (r : (Bool)) : Prop := Kt_ w0 W μ0 Tryz.f7 0 0 (pl_LockAges_v r) [] (kAt (bodyOf Tryz.f7) 1) (.any :: .any :: .any :: (.ptr 0 0 0) :: (.map 1) :: .any :: (.ptr 2 0 0) :: (.ds 3 (yC9_8).length (rowF c_TX default yC9_8)) :: n_ 20 ((.ds 15 (y8).length (rowF c_TA default y8)) :: (.int .i64 ((y8).length : Int)) :: (.int .i64 t30) :: n_ 14 ((.ds 3 (yC9_8).length (rowF c_TX default yC9_8)) :: (.int .i64 ((yC9_8).length : Int)) :: (.int .i64 t47) :: n_ 76 []))) [some (.var [.map 3, .map 4, .map 5]), some (oM6 y6), some (.var (c_TA (y8.getD t30.toNat default))), some (oP1 y4.2.2.1 []), some (oM3 l1), some (oM3 l3)]
abbrev pl_LockAges_K1000009 (t30 : Int) (m : List (TX × TS)) (y8 : (List (TA))) (y4 : (TO) × (Int) × (UT) × (Bag (TL × Int)) × (Bag (TL × Int))) (q q2 : Bag (TL × Int)) (r : (Bool)) : Prop := Kt_ w0 W μ0 Tryz.f7 0 0 (pl_LockAges_v r) [] (kAtR (bodyOf Tryz.f7) 9) (.any :: .any :: .any :: (.ptr 0 0 0) :: (.map 1) :: .any :: (.ptr 2 0 0) :: n_ 21 ((.ds 15 (y8).length (rowF c_TA default y8)) :: (.int .i64 ((y8).length : Int)) :: (.int .i64 t30) :: n_ 93 [])) [some (.var [.map 3, .map 4, .map 5]), some (oM6 m), some (.var (c_TA (y8.getD t30.toNat default))), some (oP1 y4.2.2.1 []), some (.mapq true ks2 (Bag.map (fun e_ => (v_TL e_.1, (LV.int .u8) e_.2)) q)), some (.mapq true ks2 (Bag.map (fun e_ => (v_TL e_.1, (LV.int .u8) e_.2)) q2))]
abbrev pl_LockAges_K0 (y8 : (List (TA))) (t30 : Int) (m : List (TX × TS)) (us : UT) (m2 m3 : PT) (r : (Bool)) : Prop := Kt_ w0 W μ0 Tryz.f7 0 0 (pl_LockAges_v r) [] (kAt (bodyOf Tryz.f7) 0) (.any :: .any :: .any :: (.ptr 0 0 0) :: (.map 1) :: n_ 23 ((.ds 15 (y8).length (rowF c_TA default y8)) :: (.int .i64 ((y8).length : Int)) :: (.int .i64 t30) :: n_ 93 [])) [sU_, some (oM6 m), some (oP1 us []), some (oM3 m2), some (oM3 m3)]
theorem pl_LockAges_l2_ok {w0 W μ0} (hμ : Lt_ μ0 0) (t30 : Int) (y8 : (List (TA))) (yL0_4 : (TO) × (Int) × (UT) × (Bag (TL × Int)) × (Bag (TL × Int))) (l1 l3 : PT) (y6 : (List (TX × TS))) (yC9_8 : (List (TX))) (y5 : (List (TX))) (k0 : (Int) → (List (TX × TS)) → (UT) → (PT) → (PT) → Option ((Bool))) (hk0 : ∀ (t30 : Int) (m : List (TX × TS)) (us : UT) (m2 m3 : PT) (r : (Bool)), k0 t30 m us m2 m3 = some r → pl_LockAges_K0 w0 W μ0 y8 t30 m us m2 m3 r) : ∀ (fuel : Nat) (blocked : Bool) (t81 : Int) (r : (Bool)), pl_LockAges_l2 t30 y8 yL0_4 l1 l3 y6 yC9_8 y5 k0 fuel blocked t81 = some r → pl_LockAges_K2 w0 W μ0 t30 y8 yL0_4 l1 l3 y6 yC9_8 y5 blocked t81 r := by
 intro fuel
 induction fuel with
 | zero => intro blocked t81 r h; rw [pl_LockAges_l2] at h; cases h
 | succ fuel ih =>
  intro blocked t81 r h
  rw [pl_LockAges_l2] at h
  rcases it_ h with ⟨C1, h⟩ | ⟨C1, h⟩
  ·obtain ⟨G2, h⟩ := gs_ h
   obtain ⟨yL2_4, E3, h⟩ := bs_ h
   rcases it_ h with ⟨C5, h⟩ | ⟨C5, h⟩
   ·exact rt_ hμ [0, 1, 2, 3, 4, 5] 32 [.go, .reg [(0, hT)], .reg [], .reg [(4, hk_ (hK_ [0, 3, 4, 5] (lT_Mode_v yL2_4) (lT_Mode_objs yL0_4.2.2.1 l1 l3) (lT_Mode_up yL0_4.2.2.1 l1 l3 yL2_4)))], .reg [(2, hT)], .reg []]
     (q6 (f_ C1 tr) (q27 (Eq.refl 3) G2 (q12 (le_ 3 3 rfl) (Eq.refl 3) (le_ 3 3 rfl) (Eq.refl 0))) (m_ 3 3 rfl (r1_ (m_ 13 15 rfl (a_ (a_ (a_ (lT_Mode_ok yL0_4.2.2.1 l1 l3 (y5.getD t81.toNat default) (y8.getD t30.toNat default).f_Key yL2_4 E3 (sel [0, 3, 4, 5]) sj_) (o4_ [.map 3, .map 4, .map 5] yL0_4.2.2.1 l1 l3)) tr) (r1_ tr))))) (q8 (r2_ (f_ C5 (a_ tr (t4_ (r1_ tr))))) (r2_ tr))) (ih _ _ r h) ⟨rfl, trivial, rfl, uP, trivial, trivial, trivial⟩
   ·obtain ⟨G6, h⟩ := gs_ h
    rcases it_ h with ⟨C7, h⟩ | ⟨C7, h⟩
    ·exact rt_ hμ [0, 1, 2, 3, 4, 5] 32 [.go, .reg [(0, hT)], .reg [], .reg [(4, hk_ (hK_ [0, 3, 4, 5] (lT_Mode_v yL2_4) (lT_Mode_objs yL0_4.2.2.1 l1 l3) (lT_Mode_up yL0_4.2.2.1 l1 l3 yL2_4)))], .reg [(2, hF), (7, hv_ (.bool (decide ((y5.getD t81.toNat default) = (yC9_8.getD 0 default))))), (8, hT)], .reg []]
      (q6 (f_ C1 tr) (q27 (Eq.refl 3) G2 (q12 (le_ 3 3 rfl) (Eq.refl 3) (le_ 3 3 rfl) (Eq.refl 0))) (m_ 3 3 rfl (r1_ (m_ 13 15 rfl (a_ (a_ (a_ (lT_Mode_ok yL0_4.2.2.1 l1 l3 (y5.getD t81.toNat default) (y8.getD t30.toNat default).f_Key yL2_4 E3 (sel [0, 3, 4, 5]) sj_) (o4_ [.map 3, .map 4, .map 5] yL0_4.2.2.1 l1 l3)) tr) (r1_ tr))))) (q8 (r2_ (f_ C5 (m_ 3 3 rfl (r1_ (a_ (a_ (a_ (Eq.refl 3) G6) tr) (a_ (a_ (le_ 3 3 rfl) tr) (a_ (a_ tr (a_ (leB (k_TX (y5.getD t81.toNat default) (yC9_8.getD 0 default))) tr)) (f_ C7 tr)))))))) (r2_ tr))) (ih _ _ r h) ⟨rfl, trivial, rfl, uP, trivial, trivial, trivial⟩
    ·rcases it_ h with ⟨C8, h⟩ | ⟨C8, h⟩
     ·obtain ⟨y10, E9, h⟩ := bs_ h
      rcases it_ h with ⟨C11, h⟩ | ⟨C11, h⟩
      ·obtain ⟨y12, E13, h⟩ := bs_ h
       obtain ⟨y14, E15, h⟩ := bs_ h
       obtain ⟨y17, E16, h⟩ := bs_ h
       rcases it_ h with ⟨C18, h⟩ | ⟨C18, h⟩
       ·obtain rfl := si_ h
        exact rr_ [] 38 [.go, .reg [(0, hT)], .reg [], .reg [(4, hk_ (hK_ [0, 3, 4, 5] (lT_Mode_v yL2_4) (lT_Mode_objs yL0_4.2.2.1 l1 l3) (lT_Mode_up yL0_4.2.2.1 l1 l3 yL2_4)))], .reg [(2, hF), (7, hv_ (.bool (decide ((y5.getD t81.toNat default) = (yC9_8.getD 0 default))))), (8, hF)], .reg [(2, hT), (5, hk_ (hK_ [0, 3, 4, 5] (lT_Prepared_v y10) (lT_Prepared_objs yL0_4.2.2.1 l1 l3) (lT_Prepared_up yL0_4.2.2.1 l1 l3 y10))), (8, hT), (11, { look := ((mget y6 (y5.getD t81.toNat default)).map v_TS), v := some (v_TS y12) }), (16, { look := ((mget y6 (yC9_8.getD 0 default)).map v_TS), v := some (v_TS y14) }), (17, hC (parrelref05_Stamps_v y17)), (19, hT)], .reg []]
         (q3 (q6 (f_ C1 tr) (q27 (Eq.refl 3) G2 (q12 (le_ 3 3 rfl) (Eq.refl 3) (le_ 3 3 rfl) (Eq.refl 0))) (m_ 3 3 rfl (r1_ (m_ 13 15 rfl (a_ (a_ (a_ (lT_Mode_ok yL0_4.2.2.1 l1 l3 (y5.getD t81.toNat default) (y8.getD t30.toNat default).f_Key yL2_4 E3 (sel [0, 3, 4, 5]) sj_) (o4_ [.map 3, .map 4, .map 5] yL0_4.2.2.1 l1 l3)) tr) (r1_ tr))))) (q6 (r2_ (f_ C5 (m_ 3 3 rfl (r1_ (a_ (a_ (a_ (Eq.refl 3) G6) tr) (a_ (a_ (le_ 3 3 rfl) tr) (a_ (a_ tr (a_ (leB (k_TX (y5.getD t81.toNat default) (yC9_8.getD 0 default))) tr)) (f_ C7 tr)))))))) (r2_ (f_ C8 (r1_ (m_ 3 3 rfl (a_ (a_ (a_ (lT_Prepared_ok yL0_4.2.2.1 l1 l3 (y5.getD t81.toNat default) y10 E9 (sel [0, 3, 4, 5]) sj_) (o4_ [.map 3, .map 4, .map 5] yL0_4.2.2.1 l1 l3)) tr) (r2_ (f_ C11 (r1_ (m_ 3 3 rfl (a_ (a_ (a_ (Eq.refl true) (findE_enc v_TX v_TS k_TX y6 (y5.getD t81.toNat default))) (a_ (LV.Le.trans (le_look v_TS (mget y6 (y5.getD t81.toNat default)) default) (le_nm v_TS E13)) tr)) (r2_ (a_ (a_ (a_ (Eq.refl 3) G6) tr) (a_ (a_ (le_ 3 3 rfl) tr) (a_ (a_ (a_ (Eq.refl true) (findE_enc v_TX v_TS k_TX y6 (yC9_8.getD 0 default))) (a_ (LV.Le.trans (le_look v_TS (mget y6 (yC9_8.getD 0 default)) default) (le_nm v_TS E15)) tr)) (c_ (parrelref05_Stamps_tri y12 y14 y17 E16) (r1_ (f_ C18 tr))))))))))))))))) tr tr)))
       ·exact rt_ hμ [0, 1, 2, 3, 4, 5] 41 [.go, .reg [(0, hT)], .reg [], .reg [(4, hk_ (hK_ [0, 3, 4, 5] (lT_Mode_v yL2_4) (lT_Mode_objs yL0_4.2.2.1 l1 l3) (lT_Mode_up yL0_4.2.2.1 l1 l3 yL2_4)))], .reg [(2, hF), (7, hv_ (.bool (decide ((y5.getD t81.toNat default) = (yC9_8.getD 0 default))))), (8, hF)], .reg [(2, hT), (5, hk_ (hK_ [0, 3, 4, 5] (lT_Prepared_v y10) (lT_Prepared_objs yL0_4.2.2.1 l1 l3) (lT_Prepared_up yL0_4.2.2.1 l1 l3 y10))), (8, hT), (11, { look := ((mget y6 (y5.getD t81.toNat default)).map v_TS), v := some (v_TS y12) }), (16, { look := ((mget y6 (yC9_8.getD 0 default)).map v_TS), v := some (v_TS y14) }), (17, hC (parrelref05_Stamps_v y17)), (19, hF)], .reg [], .reg []]
         (q6 (f_ C1 tr) (q27 (Eq.refl 3) G2 (q12 (le_ 3 3 rfl) (Eq.refl 3) (le_ 3 3 rfl) (Eq.refl 0))) (m_ 3 3 rfl (r1_ (m_ 13 15 rfl (a_ (a_ (a_ (lT_Mode_ok yL0_4.2.2.1 l1 l3 (y5.getD t81.toNat default) (y8.getD t30.toNat default).f_Key yL2_4 E3 (sel [0, 3, 4, 5]) sj_) (o4_ [.map 3, .map 4, .map 5] yL0_4.2.2.1 l1 l3)) tr) (r1_ tr))))) (q6 (r2_ (f_ C5 (m_ 3 3 rfl (r1_ (a_ (a_ (a_ (Eq.refl 3) G6) tr) (a_ (a_ (le_ 3 3 rfl) tr) (a_ (a_ tr (a_ (leB (k_TX (y5.getD t81.toNat default) (yC9_8.getD 0 default))) tr)) (f_ C7 tr)))))))) (r2_ (f_ C8 (r1_ (m_ 3 3 rfl (a_ (a_ (a_ (lT_Prepared_ok yL0_4.2.2.1 l1 l3 (y5.getD t81.toNat default) y10 E9 (sel [0, 3, 4, 5]) sj_) (o4_ [.map 3, .map 4, .map 5] yL0_4.2.2.1 l1 l3)) tr) (r2_ (f_ C11 (r1_ (m_ 3 3 rfl (a_ (a_ (a_ (Eq.refl true) (findE_enc v_TX v_TS k_TX y6 (y5.getD t81.toNat default))) (a_ (LV.Le.trans (le_look v_TS (mget y6 (y5.getD t81.toNat default)) default) (le_nm v_TS E13)) tr)) (r2_ (a_ (a_ (a_ (Eq.refl 3) G6) tr) (a_ (a_ (le_ 3 3 rfl) tr) (a_ (a_ (a_ (Eq.refl true) (findE_enc v_TX v_TS k_TX y6 (yC9_8.getD 0 default))) (a_ (LV.Le.trans (le_look v_TS (mget y6 (yC9_8.getD 0 default)) default) (le_nm v_TS E15)) tr)) (c_ (parrelref05_Stamps_tri y12 y14 y17 E16) (r1_ (f_ C18 tr))))))))))))))))) tr (q16 tr))) (ih _ _ r h) ⟨rfl, trivial, rfl, uP, trivial, trivial, trivial⟩
      ·exact rt_ hμ [0, 1, 2, 3, 4, 5] 41 [.go, .reg [(0, hT)], .reg [], .reg [(4, hk_ (hK_ [0, 3, 4, 5] (lT_Mode_v yL2_4) (lT_Mode_objs yL0_4.2.2.1 l1 l3) (lT_Mode_up yL0_4.2.2.1 l1 l3 yL2_4)))], .reg [(2, hF), (7, hv_ (.bool (decide ((y5.getD t81.toNat default) = (yC9_8.getD 0 default))))), (8, hF)], .reg [(2, hT), (5, hk_ (hK_ [0, 3, 4, 5] (lT_Prepared_v y10) (lT_Prepared_objs yL0_4.2.2.1 l1 l3) (lT_Prepared_up yL0_4.2.2.1 l1 l3 y10))), (8, hF)], .reg [], .reg []]
        (q6 (f_ C1 tr) (q27 (Eq.refl 3) G2 (q12 (le_ 3 3 rfl) (Eq.refl 3) (le_ 3 3 rfl) (Eq.refl 0))) (m_ 3 3 rfl (r1_ (m_ 13 15 rfl (a_ (a_ (a_ (lT_Mode_ok yL0_4.2.2.1 l1 l3 (y5.getD t81.toNat default) (y8.getD t30.toNat default).f_Key yL2_4 E3 (sel [0, 3, 4, 5]) sj_) (o4_ [.map 3, .map 4, .map 5] yL0_4.2.2.1 l1 l3)) tr) (r1_ tr))))) (q6 (r2_ (f_ C5 (m_ 3 3 rfl (r1_ (a_ (a_ (a_ (Eq.refl 3) G6) tr) (a_ (a_ (le_ 3 3 rfl) tr) (a_ (a_ tr (a_ (leB (k_TX (y5.getD t81.toNat default) (yC9_8.getD 0 default))) tr)) (f_ C7 tr)))))))) (r2_ (f_ C8 (r1_ (m_ 3 3 rfl (a_ (a_ (a_ (lT_Prepared_ok yL0_4.2.2.1 l1 l3 (y5.getD t81.toNat default) y10 E9 (sel [0, 3, 4, 5]) sj_) (o4_ [.map 3, .map 4, .map 5] yL0_4.2.2.1 l1 l3)) tr) (r2_ (f_ C11 (t2_ (t8_ (r1_ tr)))))))))) tr (q16 tr))) (ih _ _ r h) ⟨rfl, trivial, rfl, uP, trivial, trivial, trivial⟩
     ·exact rt_ hμ [0, 1, 2, 3, 4, 5] 41 [.go, .reg [(0, hT)], .reg [], .reg [(4, hk_ (hK_ [0, 3, 4, 5] (lT_Mode_v yL2_4) (lT_Mode_objs yL0_4.2.2.1 l1 l3) (lT_Mode_up yL0_4.2.2.1 l1 l3 yL2_4)))], .reg [(2, hF), (7, hv_ (.bool (decide ((y5.getD t81.toNat default) = (yC9_8.getD 0 default))))), (8, hF)], .reg [(2, hF)], .reg [], .reg []]
       (q6 (f_ C1 tr) (q27 (Eq.refl 3) G2 (q12 (le_ 3 3 rfl) (Eq.refl 3) (le_ 3 3 rfl) (Eq.refl 0))) (m_ 3 3 rfl (r1_ (m_ 13 15 rfl (a_ (a_ (a_ (lT_Mode_ok yL0_4.2.2.1 l1 l3 (y5.getD t81.toNat default) (y8.getD t30.toNat default).f_Key yL2_4 E3 (sel [0, 3, 4, 5]) sj_) (o4_ [.map 3, .map 4, .map 5] yL0_4.2.2.1 l1 l3)) tr) (r1_ tr))))) (q6 (r2_ (f_ C5 (m_ 3 3 rfl (r1_ (a_ (a_ (a_ (Eq.refl 3) G6) tr) (a_ (a_ (le_ 3 3 rfl) tr) (a_ (a_ tr (a_ (leB (k_TX (y5.getD t81.toNat default) (yC9_8.getD 0 default))) tr)) (f_ C7 tr)))))))) (r2_ (f_ C8 (t4_ (r2_ (t2_ (t8_ (r1_ tr))))))) tr (q16 tr))) (ih _ _ r h) ⟨rfl, trivial, rfl, uP, trivial, trivial, trivial⟩
  ·rcases it_ h with ⟨C2, h⟩ | ⟨C2, h⟩
   ·obtain rfl := si_ h
    exact rr_ [] 23 [.go, .reg [(0, hF)], .reg [(1, hT)], .reg []]
     (q3 (q6 (f_ C1 tr) (q9 (f_ C2 tr)) tr tr))
   ·exact rt_ hμ [0, 1, 3, 4, 5] 24 [.go, .reg [(0, hF)], .reg [(1, hF)], .reg []]
     (q14 (f_ C1 tr) (q9 (f_ C2 tr)) tr tr) (hk0 _ _ _ _ _ r h) ⟨rfl, trivial, uP, trivial, trivial, trivial⟩
theorem pl_LockAges_l1_ok {w0 W μ0} (hμ : Lt_ μ0 0) (t30 : Int) (y8 : (List (TA))) (yL0_4 : (TO) × (Int) × (UT) × (Bag (TL × Int)) × (Bag (TL × Int))) (l1 l3 : PT) (y6 : (List (TX × TS))) (yC9_8 : (List (TX))) (k0 : (Int) → (List (TX × TS)) → (UT) → (PT) → (PT) → Option ((Bool))) (hk0 : ∀ (t30 : Int) (m : List (TX × TS)) (us : UT) (m2 m3 : PT) (r : (Bool)), k0 t30 m us m2 m3 = some r → pl_LockAges_K0 w0 W μ0 y8 t30 m us m2 m3 r) : ∀ (fuel : Nat) (t47 : Int) (r : (Bool)), pl_LockAges_l1 t30 y8 yL0_4 l1 l3 y6 yC9_8 k0 fuel t47 = some r → pl_LockAges_K1 w0 W μ0 t30 y8 yL0_4 l1 l3 y6 yC9_8 t47 r := by
 intro fuel
 induction fuel with
 | zero => intro t47 r h; rw [pl_LockAges_l1] at h; cases h
 | succ fuel ih =>
  intro t47 r h
  rw [pl_LockAges_l1] at h
  rcases it_ h with ⟨C1, h⟩ | ⟨C1, h⟩
  ·obtain ⟨G2, h⟩ := gs_ h
   obtain ⟨yL1_4, E3, h⟩ := bs_ h
   rcases it_ h with ⟨C5, h⟩ | ⟨C5, h⟩
   ·obtain rfl := si_ h
    exact rr_ [] 28 [.go, .reg [(0, hT)], .reg [], .reg [(2, hk_ (hK_ [0, 3, 4, 5] (lT_Waits_v yL1_4) (lT_Waits_objs yL0_4.2.2.1 l1 l3) (lT_Waits_up yL0_4.2.2.1 l1 l3 yL1_4))), (4, hT)], .reg []]
     (q3 (q6 (f_ C1 tr) (q9 (q27 (Eq.refl 3) G2 (q7 (le_ 3 3 rfl) (r2_ (q4 (Eq.refl 3) (le_ 3 3 rfl) (Eq.refl 0) tr))))) (m_ 3 3 rfl (a_ (a_ (a_ (lT_Waits_ok yL0_4.2.2.1 l1 l3 (yC9_8.getD t47.toNat default) yL1_4 E3 (sel [0, 3, 4, 5]) sj_) (o4_ [.map 3, .map 4, .map 5] yL0_4.2.2.1 l1 l3)) tr) (r1_ (f_ C5 (t8_ (t8_ (r1_ tr))))))) (q30 tr)))
   ·rcases it_ h with ⟨C6, h⟩ | ⟨C6, h⟩
    ·obtain ⟨G7, h⟩ := gs_ h
     obtain ⟨yL1_8, E9, h⟩ := bs_ h
     obtain ⟨y10, E11, h⟩ := bs_ h
     obtain ⟨y13, E12, h⟩ := bs_ h
     rcases it_ h with ⟨C14, h⟩ | ⟨C14, h⟩
     ·obtain rfl := si_ h
      exact rr_ [] 28 [.go, .reg [(0, hT)], .reg [], .reg [(2, hk_ (hK_ [0, 3, 4, 5] (lT_Waits_v yL1_4) (lT_Waits_objs yL0_4.2.2.1 l1 l3) (lT_Waits_up yL0_4.2.2.1 l1 l3 yL1_4))), (4, hF), (7, hT), (13, hv_ (v_TX yL1_8)), (14, { look := ((mget y6 yL1_8).map v_TS), v := some (v_TS ((mget y6 yL1_8).getD default)) }), (17, { look := ((mget y6 (yC9_8.getD t47.toNat default)).map v_TS), v := some (v_TS y10) }), (18, hC (parrelref05_Stamps_v y13)), (21, hT)], .reg []]
       (q3 (q6 (f_ C1 tr) (q9 (q27 (Eq.refl 3) G2 (q7 (le_ 3 3 rfl) (r2_ (q4 (Eq.refl 3) (le_ 3 3 rfl) (Eq.refl 0) tr))))) (m_ 3 3 rfl (a_ (a_ (a_ (lT_Waits_ok yL0_4.2.2.1 l1 l3 (yC9_8.getD t47.toNat default) yL1_4 E3 (sel [0, 3, 4, 5]) sj_) (o4_ [.map 3, .map 4, .map 5] yL0_4.2.2.1 l1 l3)) tr) (r1_ (f_ C5 (r2_ (f_ C6 (r4_ (a_ (a_ (a_ (Eq.refl 3) G7) tr) (a_ (a_ (le_ 3 3 rfl) (a_ (le_nm v_TX E9) tr)) (a_ (a_ (a_ (Eq.refl true) (findE_enc v_TX v_TS k_TX y6 yL1_8)) (a_ (le_look v_TS (mget y6 yL1_8) default) tr)) (r1_ (m_ 3 3 rfl (a_ (a_ (a_ (Eq.refl true) (findE_enc v_TX v_TS k_TX y6 (yC9_8.getD t47.toNat default))) (a_ (LV.Le.trans (le_look v_TS (mget y6 (yC9_8.getD t47.toNat default)) default) (le_nm v_TS E11)) tr)) (a_ (a_ (a_ (parrelref05_Stamps_tri ((mget y6 yL1_8).getD default) y10 y13 E12) tr) tr) (r2_ (f_ C14 tr)))))))))))))))) (q30 tr)))
     ·exact rt_ hμ [0, 1, 2, 3, 4, 5] 29 [.go, .reg [(0, hT)], .reg [], .reg [(2, hk_ (hK_ [0, 3, 4, 5] (lT_Waits_v yL1_4) (lT_Waits_objs yL0_4.2.2.1 l1 l3) (lT_Waits_up yL0_4.2.2.1 l1 l3 yL1_4))), (4, hF), (7, hT), (13, hv_ (v_TX yL1_8)), (14, { look := ((mget y6 yL1_8).map v_TS), v := some (v_TS ((mget y6 yL1_8).getD default)) }), (17, { look := ((mget y6 (yC9_8.getD t47.toNat default)).map v_TS), v := some (v_TS y10) }), (18, hC (parrelref05_Stamps_v y13)), (21, hF)], .reg []]
       (q6 (f_ C1 tr) (q9 (q27 (Eq.refl 3) G2 (q7 (le_ 3 3 rfl) (r2_ (q4 (Eq.refl 3) (le_ 3 3 rfl) (Eq.refl 0) tr))))) (m_ 3 3 rfl (a_ (a_ (a_ (lT_Waits_ok yL0_4.2.2.1 l1 l3 (yC9_8.getD t47.toNat default) yL1_4 E3 (sel [0, 3, 4, 5]) sj_) (o4_ [.map 3, .map 4, .map 5] yL0_4.2.2.1 l1 l3)) tr) (r1_ (f_ C5 (r2_ (f_ C6 (r4_ (a_ (a_ (a_ (Eq.refl 3) G7) tr) (a_ (a_ (le_ 3 3 rfl) (a_ (le_nm v_TX E9) tr)) (a_ (a_ (a_ (Eq.refl true) (findE_enc v_TX v_TS k_TX y6 yL1_8)) (a_ (le_look v_TS (mget y6 yL1_8) default) tr)) (r1_ (m_ 3 3 rfl (a_ (a_ (a_ (Eq.refl true) (findE_enc v_TX v_TS k_TX y6 (yC9_8.getD t47.toNat default))) (a_ (LV.Le.trans (le_look v_TS (mget y6 (yC9_8.getD t47.toNat default)) default) (le_nm v_TS E11)) tr)) (a_ (a_ (a_ (parrelref05_Stamps_tri ((mget y6 yL1_8).getD default) y10 y13 E12) tr) tr) (r2_ (f_ C14 tr)))))))))))))))) (q16 tr)) (ih _ r h) ⟨rfl, trivial, rfl, uP, trivial, trivial, trivial⟩
    ·exact rt_ hμ [0, 1, 2, 3, 4, 5] 29 [.go, .reg [(0, hT)], .reg [], .reg [(2, hk_ (hK_ [0, 3, 4, 5] (lT_Waits_v yL1_4) (lT_Waits_objs yL0_4.2.2.1 l1 l3) (lT_Waits_up yL0_4.2.2.1 l1 l3 yL1_4))), (4, hF), (7, hF)], .reg []]
      (q6 (f_ C1 tr) (q9 (q27 (Eq.refl 3) G2 (q7 (le_ 3 3 rfl) (r2_ (q4 (Eq.refl 3) (le_ 3 3 rfl) (Eq.refl 0) tr))))) (m_ 3 3 rfl (a_ (a_ (a_ (lT_Waits_ok yL0_4.2.2.1 l1 l3 (yC9_8.getD t47.toNat default) yL1_4 E3 (sel [0, 3, 4, 5]) sj_) (o4_ [.map 3, .map 4, .map 5] yL0_4.2.2.1 l1 l3)) tr) (r1_ (f_ C5 (r2_ (f_ C6 (t4_ (t8_ (r2_ tr))))))))) (q16 tr)) (ih _ r h) ⟨rfl, trivial, rfl, uP, trivial, trivial, trivial⟩
  ·rcases it_ h with ⟨C2, h⟩ | ⟨C2, h⟩
   ·exact rt_ hμ [0, 1, 3, 4, 5] 24 [.go, .reg [(0, hF)], .reg [(2, hT)], .reg []]
     (q14 (f_ C1 tr) (r2_ (f_ C2 tr)) tr tr) (hk0 _ _ _ _ _ r h) ⟨rfl, trivial, uP, trivial, trivial, trivial⟩
   ·obtain ⟨y5, E3, h⟩ := bs_ h
    exact rt_ hμ [0, 1, 2, 3, 4, 5] 31 [.go, .reg [(0, hF)], .reg [(2, hF)], .reg [], .reg [(1, hk_ (hK_ [0, 3, 4, 5] (lT_Users_v y5) (lT_Users_objs yL0_4.2.2.1 l1 l3) (lT_Users_up yL0_4.2.2.1 l1 l3 y5)))]]
     (q6 (f_ C1 tr) (r2_ (f_ C2 tr)) tr (q3 (q25 (a_ (lT_Users_ok yL0_4.2.2.1 l1 l3 y5 E3 (sel [0, 3, 4, 5]) sj_) (o4_ [.map 3, .map 4, .map 5] yL0_4.2.2.1 l1 l3))))) (pl_LockAges_l2_ok hμ t30 y8 yL0_4 l1 l3 y6 yC9_8 y5 k0 hk0 big _ _ r h) ⟨rfl, trivial, rfl, uP, trivial, trivial, trivial⟩
theorem pl_LockAges_c9_ok {w0 W μ0} (hμ : Lt_ μ0 0) (t30 : Int) (m : List (TX × TS)) (y8 : (List (TA))) (y4 : (TO) × (Int) × (UT) × (Bag (TL × Int)) × (Bag (TL × Int))) (k0 : (Int) → (List (TX × TS)) → (UT) → (PT) → (PT) → Option ((Bool))) (hk0 : ∀ (t30 : Int) (m : List (TX × TS)) (us : UT) (m2 m3 : PT) (r : (Bool)), k0 t30 m us m2 m3 = some r → pl_LockAges_K0 w0 W μ0 y8 t30 m us m2 m3 r) (q q2 : Bag (TL × Int)) (r : (Bool)) (h : pl_LockAges_c9 t30 m y8 y4 k0 q q2 = some r) : pl_LockAges_K1000009 w0 W μ0 t30 m y8 y4 q q2 r := by
 unfold pl_LockAges_c9 at h
 refine k_bagM v_TL (LV.int .u8) (ag := true) (ks := ks2) (c := 4) (q := q) (by kernel_rfl) (by kernel_rfl) (fun l1 hC9_2 => ?_)
 replace h := agreeB_some h hC9_2
 subst hC9_2
 refine k_bagM v_TL (LV.int .u8) (ag := true) (ks := ks2) (c := 5) (q := q2) (by kernel_rfl) (by kernel_rfl) (fun l3 hC9_4 => ?_)
 replace h := agreeB_some h hC9_4
 subst hC9_4
 obtain ⟨y6, E5, h⟩ := bs_ h
 obtain ⟨yC9_8, E7, h⟩ := bs_ h
 exact rt_ hμ [0, 6, 2, 3, 4, 5] 20 [.reg [(3, hk_ (hK_ [0, 3, 4, 5, 1, 6] (pl_stamps_v y6) (pl_stamps_objs y4.2.2.1 l1 l3 m) (pl_stamps_up y4.2.2.1 l1 l3 m y6)))], .reg [(3, hk_ (hK_ [0, 3, 4, 5] (lT_Queue_v yC9_8) (lT_Queue_objs y4.2.2.1 l1 l3) (lT_Queue_up y4.2.2.1 l1 l3 yC9_8)))], .reg []]
  (q20 (r2_ (m_ 15 15 rfl (a_ (a_ (a_ (pl_stamps_ok y4.2.2.1 l1 l3 m (y8.getD t30.toNat default) y6 E5 (sel [0, 3, 4, 5, 1, 6]) sj_) (a_ (rl_ (.var [.map 3, .map 4, .map 5])) (a_ (Eq.refl (oP1 y4.2.2.1 [] : LO)) (a_ (rl_ (oM3 l1)) (a_ (rl_ (oM3 l3)) (a_ (rl_ (oM6 m)) tr)))))) tr) (r1_ tr)))) (r2_ (m_ 13 15 rfl (a_ (a_ (a_ (lT_Queue_ok y4.2.2.1 l1 l3 (y8.getD t30.toNat default).f_Key yC9_8 E7 (sel [0, 3, 4, 5]) sj_) (o4_ [.map 3, .map 4, .map 5] y4.2.2.1 l1 l3)) tr) (r1_ tr)))) tr tr) (pl_LockAges_l1_ok hμ t30 y8 y4 l1 l3 y6 yC9_8 k0 hk0 big _ r h) ⟨rfl, trivial, rfl, uP, trivial, trivial, trivial⟩
theorem pl_LockAges_l0_ok {w0 W μ0} (hμ : Lt_ μ0 0) (y8 : (List (TA))) : ∀ (fuel : Nat) (t30 : Int) (m : List (TX × TS)) (us : UT) (m2 m3 : PT) (r : (Bool)), pl_LockAges_l0 y8 fuel t30 m us m2 m3 = some r → pl_LockAges_K0 w0 W μ0 y8 t30 m us m2 m3 r := by
 intro fuel
 induction fuel with
 | zero => intro t30 m us m2 m3 r h; rw [pl_LockAges_l0] at h; cases h
 | succ fuel ih =>
  intro t30 m us m2 m3 r h
  rw [pl_LockAges_l0] at h
  rcases it_ h with ⟨C1, h⟩ | ⟨C1, h⟩
  ·obtain ⟨G2, h⟩ := gs_ h
   obtain ⟨y4, E3, h⟩ := bs_ h
   exact rt_ hμ [0, 1, 5, 2, 3, 4] 25 [.go, .reg [(0, hT)], .reg [], .reg [(2, hk_ (hK_ [0, 2, 3, 4] (pl_does_v y4) (pl_does_objs us m2 m3) (pl_does_up y4)))]]
    (q6 (f_ C1 tr) (q27 (Eq.refl 15) G2 (q12 (le_ 15 15 rfl) (Eq.refl 15) (le_ 15 15 rfl) (Eq.refl 0))) (m_ 15 15 rfl (a_ (a_ (a_ (pl_does_ok us m2 m3 (y8.getD t30.toNat default) y4 E3 (sel [0, 2, 3, 4]) sj_) (o4_ [.map 2, .map 3, .map 4] us m2 m3)) tr) tr)) tr) (pl_LockAges_c9_ok hμ t30 m y8 y4 (pl_LockAges_l0 y8 fuel) ih _ _ r h) ⟨rfl, trivial, rfl, uP, trivial, trivial, trivial⟩
  ·obtain ⟨y3, E2, h⟩ := bs_ h
   obtain rfl := si_ h
   exact rr_ [] 19 [.go, .reg [(0, hF)], .reg [(0, hC (pl_alive_v y3))]]
    (q24 (f_ C1 tr) (c_ (pl_alive_tri y3 E2) (r1_ tr)))
theorem pl_LockAges_ok (script : List (TA)) (r : (Bool)) (h : pl_LockAges script = some r) : ∀ σ, Inj 0 σ → FnTri Tryz.prog 7 (renL σ [.ds 15 (script).length (rowF c_TA default script)]) (preOf σ 0 []) ((pl_LockAges_v r).ren σ) (upOf σ []) := by
 refine fo_ Tryz.func7 trivial trivial ?_
 intro w0 W μ0 hμ
 unfold pl_LockAges at h
 obtain ⟨y2, e1, h⟩ := bs_ h
 obtain ⟨y4, e3, h⟩ := bs_ h
 rcases it_ h with ⟨c5, h⟩ | ⟨c5, h⟩
 ·obtain ⟨y7, e6, h⟩ := bs_ h
  obtain rfl := si_ h
  exact rr_ [] 23 [.reg [], .reg [(0, hk_ (hK_ [0, 1, 2, 3] (lock_New_v y2) [] (lock_New_up y2)))], .reg [(4, hC (pl_far_v y4)), (5, hT)], .reg [(3, hC (pl_alive_v y7))]]
   (q3 (q28 (lock_New_ok y2 e1 (sel [0, 1, 2, 3]) sj_) (r4_ (c_ (pl_far_tri script y4 e3) (f_ c5 tr))) (q22 (c_ (pl_alive_tri y7 e6) (r2_ tr)))))
 ·obtain ⟨y8, e6, h⟩ := bs_ h
  exact rt_ hμ [0, 4, 1, 2, 3] 30 [.reg [], .reg [(0, hk_ (hK_ [0, 1, 2, 3] (lock_New_v y2) [] (lock_New_up y2)))], .reg [(4, hC (pl_far_v y4)), (5, hF)], .reg [], .reg [(1, hC (pl_short_v y8))]]
   (q28 (lock_New_ok y2 e1 (sel [0, 1, 2, 3]) sj_) (r4_ (c_ (pl_far_tri script y4 e3) (f_ c5 tr))) (q8 (r2_ tr) (q9 (c_ (pl_short_tri script y8 e6) (r2_ tr))))) (pl_LockAges_l0_ok hμ y8 big _ _ _ _ _ r h) ⟨rfl, trivial, uP, trivial, trivial, trivial⟩
theorem pl_LockAges_tri (script : List (TA)) (r : (Bool)) (h : pl_LockAges script = some r) : FnTri Tryz.prog 7 [.ds 15 (script).length (rowF c_TA default script)] [] (pl_LockAges_v r) [] := FnTri.none (pl_LockAges_ok script r h) rfl rfl
end
end Go.Proofs.YtddgjfclpknkcaaGreatDoor.Wk
