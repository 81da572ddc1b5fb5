import Derived.Test.YtddgjfclpknkcaaGreatDoorLckWb
namespace Go.Proofs.YtddgjfclpknkcaaGreatDoor.Wk
open Go Go.Cn Go.RowKit
set_option maxRecDepth 100000
set_option maxHeartbeats 4000000
set_option linter.unusedVariables false
set_option linter.unusedSimpArgs false
noncomputable section
variable (w0 : World) (W : Nat → Prop) (μ0 : Emb)
theorem lT_gone_ok (uu : UT) (hh ww : PT) (x : TX) (r : (UT) × (PT) × (PT)) (h : lT_gone uu hh ww x = some r) : ∀ σ, Inj 4 σ → FnTri Tryz.prog 44 (renL σ [.ptr 0 0 0, v_TX x]) (preOf σ 0 (lT_gone_objs uu hh ww)) ((lT_gone_v r).ren σ) (upOf σ (lT_gone_up r)) := by
 refine fo_ Tryz.func44 ⟨rfl, uP, trivial, trivial, trivial⟩ ⟨rfl, uP, trivial, trivial, trivial⟩ ?_
 intro w0 W μ0 hμ
 unfold lT_gone at h
 obtain ⟨y2, e1, h⟩ := bs_ h
 obtain ⟨y4, e3, h⟩ := bs_ h
 obtain rfl := si_ h
 exact rr_ [] 20 [.reg [], .reg [(5, { os := [(1, oP1 (mdel uu x) [])] })], .reg [(5, hk_ (hK_ [2] (lP_drop_v y2) (lP_drop_objs hh) (lP_drop_up y2)))], .reg [(5, hk_ (hK_ [3] (lP_drop_v y4) (lP_drop_objs ww) (lP_drop_up y4)))]]
  (q16 (r1_ tr) (q2 (l_ 0 3 rfl (m_ 3 3 rfl (a_ (a_ (Eq.refl true) (a_ (pm_del v_TX c_TU k_TX true ks0 [] uu x) tr)) tr)))) (q2 (l_ 1 3 rfl (m_ 3 3 rfl (a_ (a_ (a_ (lP_drop_ok hh x y2 e1 (sel [2]) sj_) (a_ (rl_ (oM3 hh)) tr)) tr) tr)))) (q17 (l_ 2 3 rfl (m_ 3 3 rfl (a_ (a_ (a_ (lP_drop_ok ww x y4 e3 (sel [3]) sj_) (a_ (rl_ (oM3 ww)) tr)) tr) tr)))))
def lT_wound_v (r : (List (TX)) × (UT) × (PT) × (PT)) : LV := .ds 3 (r.1).length (rowF c_TX default r.1)
def lT_wound_up (r : (List (TX)) × (UT) × (PT) × (PT)) : Upd := [(0, some (.var [.map 1, .map 2, .map 3])), (1, some (oP1 r.2.1 [])), (2, some (oM3 r.2.2.1)), (3, some (oM3 r.2.2.2))]
def lT_wound_objs (uu : UT) (hh ww : PT) : List LO := [.var [.map 1, .map 2, .map 3], oP1 uu [], oM3 hh, oM3 ww]
def lT_wound_l1 (uu : UT) (hh ww : PT) (s : TL) (l : List (TX)) (y3 : (List (TX))) : Nat → (Int) → (UT) → (PT) → (PT) → Option ((List (TX)) × (UT) × (PT) × (PT))
 | 0, _, _, _, _ => none
 | fuel + 1, t77, us, m, m2 =>
  if ((decide (t77 < ((l).length : Int))) : Bool) then
   if 0 ≤ t77 ∧ t77 < (((y3).length : Nat) : Int) then
   (lT_gone us m m2 (y3.getD t77.toNat default)).bind fun y4 =>
   lT_wound_l1 uu hh ww s l y3 fuel (IntKind.wrap .i64 (t77 + 1)) y4.1 y4.2.1 y4.2.2
   else none
  else
   some (y3, us, m, m2)
def lT_wound_l0 (uu : UT) (hh ww : PT) (s : TL) (y2 : (Bag (TX))) (l1 : List (TX)) : Nat → (Int) → (List (TX)) → Option ((List (TX)) × (UT) × (PT) × (PT))
 | 0, _, _ => none
 | fuel + 1, t25, l =>
  if ((decide (t25 < ((y2).length : Int))) : Bool) then
   if 0 ≤ t25 ∧ t25 < (((l1).length : Nat) : Int) then
   if ((!decide ((l1.getD t25.toNat default) = s.f_tx)) : Bool) then
    if (((mget uu (l1.getD t25.toNat default)).isSome) : Bool) then
     (mget uu (l1.getD t25.toNat default)).bind fun y5 =>
     if ((!y5.f_prepared) : Bool) then
      (lT_age uu (l1.getD t25.toNat default) y5 hh ww s.f_tx (l1.getD t25.toNat default)).bind fun y9 =>
      if ((decide (y9 < 0)) : Bool) then
       (some (TL.mk (l1.getD t25.toNat default) s.f_key)).bind fun y11 =>
       (lock_clash ((mget ww s).getD default) ((mget hh y11).getD default)).bind fun y14 =>
       if (y14 : Bool) then
        if ((l).length + (([(l1.getD t25.toNat default)] : List (TX))).length) * 12 ≤ 140737488351232 then
        lT_wound_l0 uu hh ww s y2 l1 fuel (IntKind.wrap .i64 (t25 + 1)) (l ++ ([(l1.getD t25.toNat default)] : List (TX)))
        else none
       else
        lT_wound_l0 uu hh ww s y2 l1 fuel (IntKind.wrap .i64 (t25 + 1)) l
      else
       lT_wound_l0 uu hh ww s y2 l1 fuel (IntKind.wrap .i64 (t25 + 1)) l
     else
      lT_wound_l0 uu hh ww s y2 l1 fuel (IntKind.wrap .i64 (t25 + 1)) l
    else
     none
   else
    lT_wound_l0 uu hh ww s y2 l1 fuel (IntKind.wrap .i64 (t25 + 1)) l
   else none
  else
   (sFA l uu hh ww).bind fun y3 =>
   if (l).length = (y3).length then
   lT_wound_l1 uu hh ww s l y3 big 0 uu hh ww
   else none
def lT_wound_c2000000 (uu : UT) (hh ww : PT) (s : TL) (y2 : (Bag (TX))) (q : Bag (TX)) : Option ((List (TX)) × (UT) × (PT) × (PT)) :=
 agreeB q fun l1 =>
 lT_wound_l0 uu hh ww s y2 l1 big 0 ([] : List (TX))
def lT_wound (uu : UT) (hh ww : PT) (s : TL) : Option ((List (TX)) × (UT) × (PT) × (PT)) :=
 (lP_at hh s.f_key).bind fun y2 =>
 lT_wound_c2000000 uu hh ww s y2 y2
abbrev lT_wound_K1 (l : List (TX)) (y3 : (List (TX))) (t77 : Int) (us : UT) (m m2 : PT) (r : (List (TX)) × (UT) × (PT) × (PT)) : Prop := Kt_ w0 W μ0 Tryz.f59 4 4 (lT_wound_v r) (lT_wound_up r) (kAt (bodyOf Tryz.f59) 1) ((.ptr 0 0 0) :: n_ 5 ((.gs 4 (y3).length) :: n_ 68 ((.gs 4 (y3).length) :: (.int .i64 ((l).length : Int)) :: (.int .i64 t77) :: n_ 8 []))) [some (.var [.map 1, .map 2, .map 3]), some (oP1 us []), some (oM3 m), some (oM3 m2), some (.gr 3 (y3).length (rowF c_TX default y3))]
abbrev lT_wound_K0 (uu : UT) (hh ww : PT) (s : TL) (y2 : (Bag (TX))) (l1 : List (TX)) (t25 : Int) (l : List (TX)) (r : (List (TX)) × (UT) × (PT) × (PT)) : Prop := Kt_ w0 W μ0 Tryz.f59 4 4 (lT_wound_v r) (lT_wound_up r) (kAt (bodyOf Tryz.f59) 0) ((.ptr 0 0 0) :: .any :: .any :: (.ptr 4 0 0) :: .any :: (.int .u8 ((mget ww s).getD default)) :: (.gs 5 (l).length) :: n_ 16 ((.gs 6 (l1).length) :: (.int .i64 ((y2).length : Int)) :: (.int .i64 t25) :: n_ 60 [])) [some (.var [.map 1, .map 2, .map 3]), some (oP1 uu []), some (oM3 hh), some (oM3 ww), some (.var (c_TL s)), some (.gr 3 (l).length (rowF c_TX default l)), some (.gr 3 (l1).length (rowF c_TX default l1))]
abbrev lT_wound_K3000000 (uu : UT) (hh ww : PT) (s : TL) (y2 : (Bag (TX))) (q : Bag (TX)) (r : (List (TX)) × (UT) × (PT) × (PT)) : Prop := Kt_ w0 W μ0 Tryz.f59 4 4 (lT_wound_v r) (lT_wound_up r) (kAt (bodyOf Tryz.f59) 0) ((.ptr 0 0 0) :: .any :: .any :: (.ptr 4 0 0) :: .any :: (.int .u8 ((mget ww s).getD default)) :: (.gs 5 (([] : List (TX))).length) :: n_ 16 ((.gs 6 (q).length) :: (.int .i64 ((y2).length : Int)) :: (.int .i64 0) :: n_ 60 [])) [some (.var [.map 1, .map 2, .map 3]), some (oP1 uu []), some (oM3 hh), some (oM3 ww), some (.var (c_TL s)), some (.gr 3 (([] : List (TX))).length (rowF c_TX default ([] : List (TX)))), some (.bag 3 (Bag.map c_TX q))]
theorem lT_wound_l1_ok {w0 W μ0} (hμ : Lt_ μ0 4) (uu : UT) (hh ww : PT) (s : TL) (l : List (TX)) (y3 : (List (TX))) : ∀ (fuel : Nat) (t77 : Int) (us : UT) (m m2 : PT) (r : (List (TX)) × (UT) × (PT) × (PT)), lT_wound_l1 uu hh ww s l y3 fuel t77 us m m2 = some r → lT_wound_K1 w0 W μ0 l y3 t77 us m m2 r := by
 intro fuel
 induction fuel with
 | zero => intro t77 us m m2 r h; rw [lT_wound_l1] at h; cases h
 | succ fuel ih =>
  intro t77 us m m2 r h
  rw [lT_wound_l1] at h
  rcases it_ h with ⟨C1, h⟩ | ⟨C1, h⟩
  ·obtain ⟨G2, h⟩ := gs_ h
   obtain ⟨y4, E3, h⟩ := bs_ h
   exact rt_ hμ [4] 26 [.go, .reg [(0, hT)], .reg [], .reg [(2, hk_ (hK_ [0, 1, 2, 3] (lT_gone_v y4) (lT_gone_objs us m m2) (lT_gone_up y4)))], .reg []]
    (q11 (f_ C1 tr) (ld_ 3 G2 tr (r1_ (a_ (a_ (a_ (Eq.refl 3) (a_ (le_ 3 3 rfl) (Eq.refl 0))) tr) tr))) (m_ 3 3 rfl (a_ (a_ (a_ (lT_gone_ok us m m2 (y3.getD t77.toNat default) y4 E3 (sel [0, 1, 2, 3]) sj_) (o4_ [.map 1, .map 2, .map 3] us m m2)) tr) tr)) (q14 tr)) (ih _ _ _ _ r h) ⟨rfl, uP, trivial, trivial, fun _ _ => rfl, trivial⟩
  ·obtain rfl := si_ h
   exact rr_ [] 20 [.go, .reg [(0, hF)], .reg [], .frz 4]
    (q16 (f_ C1 tr) (r2_ tr) (q0 (fz_row (enc := c_TX) (d := default) (fun _ => rfl) y3) (Nat.le_refl (y3).length) (Nat.le_refl (y3).length) (q3 (Nat.le_refl (y3).length) (Nat.le_refl (y3).length))) tr)
theorem lT_wound_l0_ok {w0 W μ0} (hμ : Lt_ μ0 4) (uu : UT) (hh ww : PT) (s : TL) (y2 : (Bag (TX))) (l1 : List (TX)) : ∀ (fuel : Nat) (t25 : Int) (l : List (TX)) (r : (List (TX)) × (UT) × (PT) × (PT)), lT_wound_l0 uu hh ww s y2 l1 fuel t25 l = some r → lT_wound_K0 w0 W μ0 uu hh ww s y2 l1 t25 l r := by
 intro fuel
 induction fuel with
 | zero => intro t25 l r h; rw [lT_wound_l0] at h; cases h
 | succ fuel ih =>
  intro t25 l r h
  rw [lT_wound_l0] at h
  rcases it_ h with ⟨C1, h⟩ | ⟨C1, h⟩
  ·obtain ⟨G2, h⟩ := gs_ h
   rcases it_ h with ⟨C3, h⟩ | ⟨C3, h⟩
   ·rcases it_ h with ⟨C4, h⟩ | ⟨C4, h⟩
    ·obtain ⟨y5, E6, h⟩ := bs_ h
     rcases it_ h with ⟨C7, h⟩ | ⟨C7, h⟩
     ·obtain ⟨y9, E8, h⟩ := bs_ h
      rcases it_ h with ⟨C10, h⟩ | ⟨C10, h⟩
      ·obtain ⟨y11, E12, h⟩ := bs_ h
       obtain ⟨y14, E13, h⟩ := bs_ h
       rcases it_ h with ⟨C15, h⟩ | ⟨C15, h⟩
       ·obtain ⟨G16, h⟩ := gs_ h
        exact rt_ hμ [4, 10, 6] 33 [.go, .reg [(0, hT)], .reg [], .x (.p (.po 1 (v_TX (l1.getD t25.toNat default)) (c_TU y5))), .reg [(3, hv_ (.bool (!decide ((l1.getD t25.toNat default) = s.f_tx)))), (4, hT), (10, { look := some (.ptr 8 0 0) }), (16, hT), (21, hk_ (hK_ [0, 1, 8, 2, 3] (lT_age_v y9) (lT_age_objs uu (l1.getD t25.toNat default) y5 hh ww) (lT_age_up uu (l1.getD t25.toNat default) y5 hh ww y9))), (24, hT), (33, hv_ (v_TL y11)), (34, { look := ((mget hh y11).map (LV.int .u8)), v := some (.int .u8 ((mget hh y11).getD default)) }), (35, hC (lock_clash_v y14)), (36, hT)], .x (.p (.pc 1)), .wk [] [(1, oP1 uu [])], .reg [(2, { os := [(9, .gr 3 (([(l1.getD t25.toNat default)] : List (TX))).length (rowF c_TX default ([(l1.getD t25.toNat default)] : List (TX))))], v := some (.gs 9 (([(l1.getD t25.toNat default)] : List (TX))).length) }), (3, { app := 3, os := [(10, .gr 3 ((l ++ ([(l1.getD t25.toNat default)] : List (TX)))).length (rowF c_TX default (l ++ ([(l1.getD t25.toNat default)] : List (TX)))))], v := some (.gs 10 ((l ++ ([(l1.getD t25.toNat default)] : List (TX)))).length) })], .reg []]
         (q0 (f_ C1 tr) (ld_ 3 G2 tr (r1_ (a_ (a_ (a_ (Eq.refl 3) (a_ (le_ 3 3 rfl) (Eq.refl 0))) tr) tr))) (a_ (pmIn v_TX c_TU E6) (pmO0 v_TX (l1.getD t25.toNat default))) (q0 (m_ 3 3 rfl (r1_ (m_ 3 11 rfl (a_ (a_ tr (a_ (leB (congrArg not (k_TX (l1.getD t25.toNat default) s.f_tx))) tr)) (f_ C3 (r1_ (r2_ (l_ 0 3 rfl (m_ 3 3 rfl (a_ (a_ (a_ (Eq.refl true) (a_ (pmSi v_TX c_TU k_TX uu (l1.getD t25.toNat default) (isS E6)) (List.mem_cons_self (a := ((v_TX (l1.getD t25.toNat default), 8) : LV × Nat)) (l := [])))) tr) (r2_ (l_ 4 5 rfl (r2_ (f_ C7 (r2_ (m_ 3 11 rfl (m_ 3 3 rfl (a_ (a_ (a_ (lT_age_ok uu (l1.getD t25.toNat default) y5 hh ww s.f_tx (l1.getD t25.toNat default) y9 E8 (sel [0, 1, 8, 2, 3]) sj_) (a_ (rl_ (.var [.map 1, .map 2, .map 3])) (a_ (Eq.refl (oP1 uu [(v_TX (l1.getD t25.toNat default), 8)] : LO)) (a_ (rl_ (.var (c_TU y5))) (a_ (rl_ (oM3 hh)) (a_ (rl_ (oM3 ww)) tr)))))) tr) (r2_ (f_ C10 (r4_ (l_ 1 3 rfl (m_ 3 3 rfl (r1_ (m_ 11 11 rfl (a_ (a_ (Eq.refl true) (a_ (le_nm v_TL E12) tr)) (a_ (a_ (a_ (Eq.refl true) (findE_enc v_TL (LV.int .u8) k_TL hh y11)) (a_ (le_look (LV.int .u8) (mget hh y11) default) tr)) (a_ (a_ (a_ (lock_clash_tri ((mget ww s).getD default) ((mget hh y11).getD default) y14 E13) tr) tr) (f_ C15 tr))))))))))))))))))))))))))))) (q0 (getP_enc v_TX c_TU k_TX uu (l1.getD t25.toNat default) E6) (Eq.refl true) (Eq.refl true) (show 1 ≠ 8 from by decide)) (q3 tr (pm_same v_TX c_TU k_TX true ks0 [] (m := uu) (k := (l1.getD t25.toNat default)) E6)) (q27 (m_ 3 3 rfl (a_ (a_ (a_ (Eq.refl true) (a_ (Eq.refl 3) (a_ (lt_ 0 3 rfl) (le_ 3 16777216 rfl)))) (a_ (le_sl_gs 9 1 (some 1) rfl) (a_ (sub_lit c_TX default 3 (fun _ => rfl) ([(l1.getD t25.toNat default)] : List (TX))) tr))) (a_ (a_ (a_ (a_ (Eq.refl 3) (Nat.le_refl (([(l1.getD t25.toNat default)] : List (TX))).length)) (a_ (a_ (lt_ 0 3 rfl) (a_ (lt_ 0 12 rfl) (a_ G16 (a_ (Eq.refl 3) (Eq.refl true))))) (a_ (Eq.refl 3) (Nat.le_refl (l).length)))) (a_ (le_gs_app 10 l ([(l1.getD t25.toNat default)] : List (TX))) (a_ (sub_app c_TX default 3 l ([(l1.getD t25.toNat default)] : List (TX))) tr))) (r1_ tr)))) (r2_ tr)))) (ih _ _ r h) ⟨rfl, uP, trivial, trivial, rfl, fun _ _ => rfl, fun _ _ => rfl, trivial⟩
       ·exact rt_ hμ [4, 5, 6] 32 [.go, .reg [(0, hT)], .reg [], .x (.p (.po 1 (v_TX (l1.getD t25.toNat default)) (c_TU y5))), .reg [(3, hv_ (.bool (!decide ((l1.getD t25.toNat default) = s.f_tx)))), (4, hT), (10, { look := some (.ptr 8 0 0) }), (16, hT), (21, hk_ (hK_ [0, 1, 8, 2, 3] (lT_age_v y9) (lT_age_objs uu (l1.getD t25.toNat default) y5 hh ww) (lT_age_up uu (l1.getD t25.toNat default) y5 hh ww y9))), (24, hT), (33, hv_ (v_TL y11)), (34, { look := ((mget hh y11).map (LV.int .u8)), v := some (.int .u8 ((mget hh y11).getD default)) }), (35, hC (lock_clash_v y14)), (36, hF)], .x (.p (.pc 1)), .wk [] [(1, oP1 uu [])], .reg []]
         (q0 (f_ C1 tr) (ld_ 3 G2 tr (r1_ (a_ (a_ (a_ (Eq.refl 3) (a_ (le_ 3 3 rfl) (Eq.refl 0))) tr) tr))) (a_ (pmIn v_TX c_TU E6) (pmO0 v_TX (l1.getD t25.toNat default))) (q0 (m_ 3 3 rfl (r1_ (m_ 3 11 rfl (a_ (a_ tr (a_ (leB (congrArg not (k_TX (l1.getD t25.toNat default) s.f_tx))) tr)) (f_ C3 (r1_ (r2_ (l_ 0 3 rfl (m_ 3 3 rfl (a_ (a_ (a_ (Eq.refl true) (a_ (pmSi v_TX c_TU k_TX uu (l1.getD t25.toNat default) (isS E6)) (List.mem_cons_self (a := ((v_TX (l1.getD t25.toNat default), 8) : LV × Nat)) (l := [])))) tr) (r2_ (l_ 4 5 rfl (r2_ (f_ C7 (r2_ (m_ 3 11 rfl (m_ 3 3 rfl (a_ (a_ (a_ (lT_age_ok uu (l1.getD t25.toNat default) y5 hh ww s.f_tx (l1.getD t25.toNat default) y9 E8 (sel [0, 1, 8, 2, 3]) sj_) (a_ (rl_ (.var [.map 1, .map 2, .map 3])) (a_ (Eq.refl (oP1 uu [(v_TX (l1.getD t25.toNat default), 8)] : LO)) (a_ (rl_ (.var (c_TU y5))) (a_ (rl_ (oM3 hh)) (a_ (rl_ (oM3 ww)) tr)))))) tr) (r2_ (f_ C10 (r4_ (l_ 1 3 rfl (m_ 3 3 rfl (r1_ (m_ 11 11 rfl (a_ (a_ (Eq.refl true) (a_ (le_nm v_TL E12) tr)) (a_ (a_ (a_ (Eq.refl true) (findE_enc v_TL (LV.int .u8) k_TL hh y11)) (a_ (le_look (LV.int .u8) (mget hh y11) default) tr)) (a_ (a_ (a_ (lock_clash_tri ((mget ww s).getD default) ((mget hh y11).getD default) y14 E13) tr) tr) (f_ C15 tr))))))))))))))))))))))))))))) (q0 (getP_enc v_TX c_TU k_TX uu (l1.getD t25.toNat default) E6) (Eq.refl true) (Eq.refl true) (show 1 ≠ 8 from by decide)) (q3 tr (pm_same v_TX c_TU k_TX true ks0 [] (m := uu) (k := (l1.getD t25.toNat default)) E6)) (q14 tr))) (ih _ _ r h) ⟨rfl, uP, trivial, trivial, rfl, fun _ _ => rfl, fun _ _ => rfl, trivial⟩
      ·exact rt_ hμ [4, 5, 6] 32 [.go, .reg [(0, hT)], .reg [], .x (.p (.po 1 (v_TX (l1.getD t25.toNat default)) (c_TU y5))), .reg [(3, hv_ (.bool (!decide ((l1.getD t25.toNat default) = s.f_tx)))), (4, hT), (10, { look := some (.ptr 8 0 0) }), (16, hT), (21, hk_ (hK_ [0, 1, 8, 2, 3] (lT_age_v y9) (lT_age_objs uu (l1.getD t25.toNat default) y5 hh ww) (lT_age_up uu (l1.getD t25.toNat default) y5 hh ww y9))), (24, hF)], .x (.p (.pc 1)), .wk [] [(1, oP1 uu [])], .reg []]
        (q0 (f_ C1 tr) (ld_ 3 G2 tr (r1_ (a_ (a_ (a_ (Eq.refl 3) (a_ (le_ 3 3 rfl) (Eq.refl 0))) tr) tr))) (a_ (pmIn v_TX c_TU E6) (pmO0 v_TX (l1.getD t25.toNat default))) (q0 (m_ 3 3 rfl (r1_ (m_ 3 11 rfl (a_ (a_ tr (a_ (leB (congrArg not (k_TX (l1.getD t25.toNat default) s.f_tx))) tr)) (f_ C3 (r1_ (r2_ (l_ 0 3 rfl (m_ 3 3 rfl (a_ (a_ (a_ (Eq.refl true) (a_ (pmSi v_TX c_TU k_TX uu (l1.getD t25.toNat default) (isS E6)) (List.mem_cons_self (a := ((v_TX (l1.getD t25.toNat default), 8) : LV × Nat)) (l := [])))) tr) (r2_ (l_ 4 5 rfl (r2_ (f_ C7 (r2_ (m_ 3 11 rfl (m_ 3 3 rfl (a_ (a_ (a_ (lT_age_ok uu (l1.getD t25.toNat default) y5 hh ww s.f_tx (l1.getD t25.toNat default) y9 E8 (sel [0, 1, 8, 2, 3]) sj_) (a_ (rl_ (.var [.map 1, .map 2, .map 3])) (a_ (Eq.refl (oP1 uu [(v_TX (l1.getD t25.toNat default), 8)] : LO)) (a_ (rl_ (.var (c_TU y5))) (a_ (rl_ (oM3 hh)) (a_ (rl_ (oM3 ww)) tr)))))) tr) (r2_ (f_ C10 (a_ tr (t2_ (t8_ (r1_ tr)))))))))))))))))))))))) (q0 (getP_enc v_TX c_TU k_TX uu (l1.getD t25.toNat default) E6) (Eq.refl true) (Eq.refl true) (show 1 ≠ 8 from by decide)) (q3 tr (pm_same v_TX c_TU k_TX true ks0 [] (m := uu) (k := (l1.getD t25.toNat default)) E6)) (q14 tr))) (ih _ _ r h) ⟨rfl, uP, trivial, trivial, rfl, fun _ _ => rfl, fun _ _ => rfl, trivial⟩
     ·exact rt_ hμ [4, 5, 6] 32 [.go, .reg [(0, hT)], .reg [], .x (.p (.po 1 (v_TX (l1.getD t25.toNat default)) (c_TU y5))), .reg [(3, hv_ (.bool (!decide ((l1.getD t25.toNat default) = s.f_tx)))), (4, hT), (10, { look := some (.ptr 8 0 0) }), (16, hF)], .x (.p (.pc 1)), .wk [] [(1, oP1 uu [])], .reg []]
       (q0 (f_ C1 tr) (ld_ 3 G2 tr (r1_ (a_ (a_ (a_ (Eq.refl 3) (a_ (le_ 3 3 rfl) (Eq.refl 0))) tr) tr))) (a_ (pmIn v_TX c_TU E6) (pmO0 v_TX (l1.getD t25.toNat default))) (q0 (m_ 3 3 rfl (r1_ (m_ 3 11 rfl (a_ (a_ tr (a_ (leB (congrArg not (k_TX (l1.getD t25.toNat default) s.f_tx))) tr)) (f_ C3 (r1_ (r2_ (l_ 0 3 rfl (m_ 3 3 rfl (a_ (a_ (a_ (Eq.refl true) (a_ (pmSi v_TX c_TU k_TX uu (l1.getD t25.toNat default) (isS E6)) (List.mem_cons_self (a := ((v_TX (l1.getD t25.toNat default), 8) : LV × Nat)) (l := [])))) tr) (r2_ (l_ 4 5 rfl (r2_ (f_ C7 (t2_ (t4_ (r2_ (a_ tr (t2_ (t8_ (r1_ tr))))))))))))))))))))) (q0 (getP_enc v_TX c_TU k_TX uu (l1.getD t25.toNat default) E6) (Eq.refl true) (Eq.refl true) (show 1 ≠ 8 from by decide)) (q3 tr (pm_same v_TX c_TU k_TX true ks0 [] (m := uu) (k := (l1.getD t25.toNat default)) E6)) (q14 tr))) (ih _ _ r h) ⟨rfl, uP, trivial, trivial, rfl, fun _ _ => rfl, fun _ _ => rfl, trivial⟩
    ·cases h
   ·exact rt_ hμ [4, 5, 6] 29 [.go, .reg [(0, hT)], .reg [], .reg [(3, hv_ (.bool (!decide ((l1.getD t25.toNat default) = s.f_tx)))), (4, hF)], .reg []]
     (q0 (f_ C1 tr) (ld_ 3 G2 tr (r1_ (a_ (a_ (a_ (Eq.refl 3) (a_ (le_ 3 3 rfl) (Eq.refl 0))) tr) tr))) (m_ 3 3 rfl (r1_ (m_ 3 11 rfl (a_ (a_ tr (a_ (leB (congrArg not (k_TX (l1.getD t25.toNat default) s.f_tx))) tr)) (f_ C3 (t2_ (t8_ (r2_ (t2_ (t4_ (r2_ (a_ tr (t2_ (t8_ (r1_ tr))))))))))))))) (q14 tr)) (ih _ _ r h) ⟨rfl, uP, trivial, trivial, rfl, fun _ _ => rfl, fun _ _ => rfl, trivial⟩
  ·obtain ⟨y3, E2, h⟩ := bs_ h
   obtain ⟨G4, h⟩ := gs_ h
   exact rt_ hμ [5] 26 [.go, .reg [(0, hF)], .reg [(3, hk_ (hK_ [5, 0, 1, 2, 3] (sFA_v y3) (sFA_objs l uu hh ww) (sFA_up uu hh ww y3)))], .reg [], .wk [(6, .gs 5 (y3).length), (75, .gs 5 (y3).length)] []]
    (q0 (f_ C1 tr) (q2 (q18 (sFA_ok l uu hh ww y3 E2 (sel [5, 0, 1, 2, 3]) sj_) (rl_ (.gr 3 (l).length (rowF c_TX default l))) (o4_ [.map 1, .map 2, .map 3] uu hh ww))) (q2 tr) (q6 (q3 (le_gs 5 G4) (le_gs 5 G4)))) (lT_wound_l1_ok hμ uu hh ww s l y3 big _ _ _ _ r h) ⟨rfl, uP, trivial, trivial, fun _ _ => rfl, trivial⟩
theorem lT_wound_c2000000_ok {w0 W μ0} (hμ : Lt_ μ0 4) (uu : UT) (hh ww : PT) (s : TL) (y2 : (Bag (TX))) (q : Bag (TX)) (r : (List (TX)) × (UT) × (PT) × (PT)) (h : lT_wound_c2000000 uu hh ww s y2 q = some r) : lT_wound_K3000000 w0 W μ0 uu hh ww s y2 q r := by
 unfold lT_wound_c2000000 at h
 refine k_bag c_TX default (sz := 3) (c := 6) (q := q) (by kernel_rfl) (by kernel_rfl) (fun l1 hC2000000_2 => ?_)
 replace h := agreeB_some h hC2000000_2
 subst hC2000000_2
 exact rt_ hμ [4, 5, 6] 8 []
  tr (lT_wound_l0_ok hμ uu hh ww s y2 l1 big _ _ r h) ⟨rfl, uP, trivial, trivial, rfl, fun _ _ => rfl, fun _ _ => rfl, trivial⟩
theorem lT_wound_ok (uu : UT) (hh ww : PT) (s : TL) (r : (List (TX)) × (UT) × (PT) × (PT)) (h : lT_wound uu hh ww s = some r) : ∀ σ, Inj 4 σ → FnTri Tryz.prog 59 (renL σ [.ptr 0 0 0, v_TL s]) (preOf σ 0 (lT_wound_objs uu hh ww)) ((lT_wound_v r).ren σ) (upOf σ (lT_wound_up r)) := by
 refine fo_ Tryz.func59 ⟨rfl, uP, trivial, trivial, trivial⟩ ⟨rfl, uP, trivial, trivial, trivial⟩ ?_
 intro w0 W μ0 hμ
 unfold lT_wound at h
 obtain ⟨y2, e1, h⟩ := bs_ h
 exact rt_ hμ [4, 5, 6] 25 [.reg [(1, hv_ (.ds 3 (([] : List (TX))).length (rowF c_TX default ([] : List (TX)))))], .reg [(5, { look := ((mget ww s).map (LV.int .u8)), v := some (.int .u8 ((mget ww s).getD default)) })], .void (.gr 3 (([] : List (TX))).length (rowF c_TX default ([] : List (TX)))), .reg [(0, hv_ (.gs 5 (([] : List (TX))).length))], .reg [(6, hk_ (hK_ [2, 6] (lP_at_v y2) (lP_at_objs hh) (lP_at_up hh y2)))]]
  (q0 (r1_ (q9 tr (le_nil_ds 3 (rowF c_TX default [])))) (q2 (l_ 2 3 rfl (m_ 11 11 rfl (a_ (a_ (a_ (Eq.refl true) (findE_enc v_TL (LV.int .u8) k_TL ww s)) (a_ (le_look (LV.int .u8) (mget ww s) default) tr)) (r1_ tr))))) (Eq.refl 0) (q3 (q9 tr (le_nil_gs 5)) (q2 (l_ 1 3 rfl (r1_ (m_ 11 11 rfl (a_ (a_ (a_ (lP_at_ok hh s.f_key y2 e1 (sel [2, 6]) sj_) (a_ (rl_ (oM3 hh)) tr)) tr) (r2_ tr)))))))) (lT_wound_c2000000_ok hμ uu hh ww s y2 _ r h) ⟨rfl, uP, trivial, trivial, rfl, fun _ _ => rfl, trivial, trivial⟩
def mKP_v (r : Unit) : LV := .fn 90 [] [.ptr 1 0 0]
def mKP_up (m : PT) (r : Unit) : Upd := [(0, some (oM3 m)), (1, some (.var [.map 0]))]
def mKP_objs (m : PT) : List LO := [oM3 m]
def mKP (m : PT) : Option (Unit) :=
 some ()
theorem mKP_ok (m : PT) (r : Unit) (h : mKP m = some r) : ∀ σ, Inj 2 σ → FnTri Tryz.prog 64 (renL σ [.map 0]) (preOf σ 0 (mKP_objs m)) ((mKP_v r).ren σ) (upOf σ (mKP_up m r)) := by
 refine fo_ Tryz.func64 ⟨trivial, trivial⟩ ⟨trivial, rfl, trivial⟩ ?_
 intro w0 W μ0 hμ
 unfold mKP at h
 obtain rfl := si_ h
 exact rr_ [1] 15 [.reg [], .reg []]
  (q9 (r2_ tr) (r2_ tr))
def so63_kc (x : (TL)) : List Value := [.int .u8 x.f_tx.f_Node, .int .u32 x.f_tx.f_Boot, .int .u32 x.f_tx.f_Num, .int .u8 x.f_key.a0, .int .u8 x.f_key.a1, .int .u8 x.f_key.a2, .int .u8 x.f_key.a3, .int .u8 x.f_key.a4, .int .u8 x.f_key.a5, .int .u8 x.f_key.a6, .int .u8 x.f_key.a7]
def so63_kv (x : (TL)) : Value := .agg #[.int .u8 x.f_tx.f_Node, .int .u32 x.f_tx.f_Boot, .int .u32 x.f_tx.f_Num, .int .u8 x.f_key.a0, .int .u8 x.f_key.a1, .int .u8 x.f_key.a2, .int .u8 x.f_key.a3, .int .u8 x.f_key.a4, .int .u8 x.f_key.a5, .int .u8 x.f_key.a6, .int .u8 x.f_key.a7]
def so63_kd (v : Value) : (TL) :=
 match v with
 | .agg cs => match cs.toList with
  | [.int _ a0, .int _ a1, .int _ a2, .int _ a3, .int _ a4, .int _ a5, .int _ a6, .int _ a7, .int _ a8, .int _ a9, .int _ a10] => (TL.mk (TX.mk a0 a1 a2) (A8.mk a3 a4 a5 a6 a7 a8 a9 a10))
  | _ => default
 | _ => default
theorem so63_kdv (x : (TL)) : so63_kd (so63_kv x) = x := rfl
theorem so63_len (x : (TL)) : (so63_kc x).length = 11 := rfl
theorem so63_one (x : (TL)) : ∀ v ∈ so63_kc x, v.oneCell' = true := by
 intro u hu
 simp only [so63_kc, List.mem_cons, List.not_mem_nil, or_false] at hu
 rcases hu with rfl | rfl | rfl | rfl | rfl | rfl | rfl | rfl | rfl | rfl | rfl <;> rfl
theorem so63_enc (φ : Fro) (x : (TL)) : RelFL φ (c_TL x) (so63_kc x) := ⟨_, _, rfl, rfl, ⟨_, _, rfl, rfl, ⟨_, _, rfl, rfl, ⟨_, _, rfl, rfl, ⟨_, _, rfl, rfl, ⟨_, _, rfl, rfl, ⟨_, _, rfl, rfl, ⟨_, _, rfl, rfl, ⟨_, _, rfl, rfl, ⟨_, _, rfl, rfl, ⟨_, _, rfl, rfl, rfl⟩⟩⟩⟩⟩⟩⟩⟩⟩⟩⟩
theorem so63_det (φ : Fro) (x : (TL)) (v : Value) (h : RelF φ (.agg (c_TL x)) v) : v = so63_kv x := by
 obtain ⟨vs, rfl, h⟩ := h
 have key : ∀ (l : List Value), RelFL φ (c_TL x) l → l = so63_kc x := by
  intro l h
  obtain ⟨r0, e0, h0⟩ := det_int h
  obtain ⟨r1, e1, h1⟩ := det_int h0
  obtain ⟨r2, e2, h2⟩ := det_int h1
  obtain ⟨r3, e3, h3⟩ := det_int h2
  obtain ⟨r4, e4, h4⟩ := det_int h3
  obtain ⟨r5, e5, h5⟩ := det_int h4
  obtain ⟨r6, e6, h6⟩ := det_int h5
  obtain ⟨r7, e7, h7⟩ := det_int h6
  obtain ⟨r8, e8, h8⟩ := det_int h7
  obtain ⟨r9, e9, h9⟩ := det_int h8
  obtain ⟨r10, e10, h10⟩ := det_int h9
  have e : _ = [] := h10
  subst e
  subst_vars
  rfl
 have := key _ h
 rw [← Array.toArray_toList (xs := vs), this]
 rfl
theorem so63_info : ∃ i, Tryz.prog.info? 87 = some i ∧ i.zero = some (.agg #[.int .u8 0, .int .u32 0, .int .u32 0, .int .u8 0, .int .u8 0, .int .u8 0, .int .u8 0, .int .u8 0, .int .u8 0, .int .u8 0, .int .u8 0]) ∧ i.size = 11 ∧ i.bytes = 20 := by
 have h : (Tryz.prog.info? 87).map (fun i => (i.zero, i.size, i.bytes)) = some (some (.agg #[.int .u8 0, .int .u32 0, .int .u32 0, .int .u8 0, .int .u8 0, .int .u8 0, .int .u8 0, .int .u8 0, .int .u8 0, .int .u8 0, .int .u8 0]), 11, 20) := by kernel_rfl
 obtain ⟨i, h1, h2⟩ := Option.map_eq_some_iff.1 h
 exact ⟨i, h1, congrArg (·.1) h2, congrArg (·.2.1) h2, congrArg (·.2.2) h2⟩
def so63_ApI (w : World) (pre : List (TL)) (W : World) : Prop :=
 (∃ v, Boxed W w.heap.size 113 v ∧ W.ownsRow w.heap.size 87 11 v pre.length (pre.flatMap so63_kc) ∧ (v = .slice none 0 0 ↔ pre = [])) ∧ Below w.heap.size w W ∧ w.drawn ≤ W.drawn
theorem so63_ApI.own (w : World) (B : Nat) (hB : w.heap.size ≤ B) : OwnD B (so63_ApI w) :=
 OwnD.and (OwnFrom.d ((holdsRow_own w.heap.size w.heap.size 113 87 11 (fun (pre : List (TL)) => pre.length) (fun pre => pre.flatMap so63_kc) (fun pre v => v = .slice none 0 0 ↔ pre = [])).from B)) (OwnD.and (OwnFrom.d (ownFrom_below (Nat.le_refl _) hB)) (ownD_drawn B _))
theorem so63_appendSeq (n : Nat) (hn : 2 ≤ n) (g : Nat) (lb : Array Value) (eg : ∀ args w, (callFunc g args).run Tryz.prog w = .ok (.enter g args) w) (S : List (TL) → Prop) (N : Nat) (hN : N ≤ maxLen) (hNb : N * 20 ≤ 140737488355328)
  (w : World) (hseq : SeqD Fence.wide (n - 1) Tryz.prog g lb so63_kv S N w) :
  CallsIn Fence.wide n Tryz.prog 113 #[.slice none 0 0, .func (.func g) #[] lb] w fun e w' => ∃ (v : Value) (ss : List (TL)), e = .returned v ∧ S ss ∧ w'.ownsRow w.heap.size 87 11 v ss.length (ss.flatMap so63_kc) ∧ (v = .slice none 0 0 ↔ ss = []) ∧ Below w.heap.size w w' ∧ w.drawn ≤ w'.drawn := by
 have h1 : 1 ≤ n := by omega
 refine callsIn_of_wp_marks Tryz.func113 rfl trivial ?_ rfl
 simp only [Tryz.ntmps113, List.size_toArray, List.length_cons, List.length_nil, Nat.reduceAdd, Nat.reduceSub, Array.replicate_succ, Array.replicate_zero, List.push_toArray, List.append_toArray, List.nil_append, List.cons_append]
 gi_wp2
 obtain ⟨W0, hW0⟩ : ∃ W0, w.alloc (.cells #[.slice none 0 0] 113) = W0 := ⟨_, rfl⟩
 have hs0 : W0.heap.size = w.heap.size + 1 := by rw [← hW0]; simp
 have hB0 : Boxed W0 w.heap.size 113 (.slice none 0 0) := by rw [← hW0]; exact Boxed.new w _ _
 have hb0 : Below w.heap.size w W0 := by rw [← hW0]; exact (Below.refl _ w).alloc (Nat.le_refl _) _
 rw [hW0]
 refine rangeFunc_box rfl h1 (gf := g) (lb := lb) rfl trivial eg hseq hb0 rfl (so63_ApI w) (so63_ApI.own w _ (by omega)) ⟨⟨_, hB0, World.ownsRow_nil _ _ _ _, by simp⟩, hb0, by rw [← hW0]; exact Nat.le_refl _⟩
  (fun pre x a1 W => so63_ApI w pre W ∧ ∃ bx, W.heap[bx]? = some (.cells #[.int .u8 x.f_tx.f_Node, .int .u32 x.f_tx.f_Boot, .int .u32 x.f_tx.f_Num, .int .u8 x.f_key.a0, .int .u8 x.f_key.a1, .int .u8 x.f_key.a2, .int .u8 x.f_key.a3, .int .u8 x.f_key.a4, .int .u8 x.f_key.a5, .int .u8 x.f_key.a6, .int .u8 x.f_key.a7] 87 (0, 0)) ∧
   a1 = { tmps := #[.slice none 0 0, .func (.func g) #[] lb, .pointer (some ⟨w.heap.size, 0, none⟩), undef, .slice none 0 0, .pointer (some ⟨bx, 0, none⟩), .func (.func g) #[] lb, so63_kv x, undef, undef, undef, undef, undef], defers := [] })
  (fun x a1 => OwnD.and (so63_ApI.own w _ (by omega)) (fun s X Y row hs hg _ hr => by
   obtain ⟨bx, hx, e⟩ := hs
   exact ⟨bx, (grownBy_keeps_cells hg (fun r e => (hr r e).2) hx rfl).trans hx, e⟩)) ?assign ?body ?done
 case assign =>
  intro l pre x W hI hlen
  unfold so63_kv
  gi_wp2_with (rw [Oper.semAt_eq _ _ _ (fun c h => by cases h)]; go_simp; try go_bits)
  exact ⟨⟨(so63_ApI.own w w.heap.size (Nat.le_refl _)).alloc _ hI, W.heap.size, World.alloc_heap_new W _, rfl⟩, KeepsOthers.alloc _ _⟩
 case body =>
  rintro l pre x a1 W ⟨⟨⟨v, hv, hrow, hnil⟩, hB, hD0⟩, bx, hbx, rfl⟩ hlen
  obtain ⟨i0, hi, hz0, hz1, hz2⟩ := so63_info
  have hc := hv.cell
  have hf := hv.frozen
  have hx0 : W.cell? ⟨bx, 0, none⟩ = some (.int .u8 x.f_tx.f_Node) := by simp [World.cell?, hbx]
  have hx1 : W.cell? ⟨bx, 1, none⟩ = some (.int .u32 x.f_tx.f_Boot) := by simp [World.cell?, hbx]
  have hx2 : W.cell? ⟨bx, 2, none⟩ = some (.int .u32 x.f_tx.f_Num) := by simp [World.cell?, hbx]
  have hx3 : W.cell? ⟨bx, 3, none⟩ = some (.int .u8 x.f_key.a0) := by simp [World.cell?, hbx]
  have hx4 : W.cell? ⟨bx, 4, none⟩ = some (.int .u8 x.f_key.a1) := by simp [World.cell?, hbx]
  have hx5 : W.cell? ⟨bx, 5, none⟩ = some (.int .u8 x.f_key.a2) := by simp [World.cell?, hbx]
  have hx6 : W.cell? ⟨bx, 6, none⟩ = some (.int .u8 x.f_key.a3) := by simp [World.cell?, hbx]
  have hx7 : W.cell? ⟨bx, 7, none⟩ = some (.int .u8 x.f_key.a4) := by simp [World.cell?, hbx]
  have hx8 : W.cell? ⟨bx, 8, none⟩ = some (.int .u8 x.f_key.a5) := by simp [World.cell?, hbx]
  have hx9 : W.cell? ⟨bx, 9, none⟩ = some (.int .u8 x.f_key.a6) := by simp [World.cell?, hbx]
  have hx10 : W.cell? ⟨bx, 10, none⟩ = some (.int .u8 x.f_key.a7) := by simp [World.cell?, hbx]
  have hbs := hB.size
  unfold so63_kv
  gi_wp2_with (first
 | (gi_at_builtin; refine wpListIn_append_d _ rfl _ _ 113 rfl w.heap.size 87 i0 _ 11 20 Tryz.underlying113 hi hz0 hz1 hz2 rfl (by decide) _ _ _ rfl (hrow.alloc _) ⟨W.heap.size, 0, none⟩ 1 1 (so63_kc x) rfl rfl ?_ ?_ (by omega) (by omega) (by simp; omega) ?_)
 |(rw [Oper.semAt_eq _ _ _ (fun c h => by cases h)]; go_simp; try go_bits))
  ·exact fun j u hj => cell_new W (so63_kc x) 87 j u hj
  ·intro u hu
   simp only [so63_kc, List.mem_cons, List.not_mem_nil, or_false] at hu
   rcases hu with rfl | rfl | rfl | rfl | rfl | rfl | rfl | rfl | rfl | rfl | rfl <;> rfl
  ·intro v' w3 hown' hg3 hd3 hnil3
   obtain ⟨hv3, hv4, hrow4, hko, hbe⟩ := hv.appended (by decide) hrow hbs (Nat.le_refl _) hown' hg3
   have hc3 := hv3.cell
   have hf3 := hv3.frozen
   obtain ⟨g', cap', hv'⟩ := ownsRow_succ hown'
   subst hv'
   gi_wp2_with (rw [Oper.semAt_eq _ _ _ (fun c h => by cases h)]; go_simp; try go_bits)
   refine ⟨⟨_, hv4, ?_, by simp⟩, hB.trans hbe, Nat.le_trans hD0 hd3⟩
   rw [List.length_append, List.flatMap_append]
   simpa using hrow4
 case done =>
  rintro D ss W hD hS ⟨⟨v, hv, hrow, hnil⟩, hB, hD0⟩ hK
  have hc := hv.cell
  have hf := hv.frozen
  gi_wp2
  refine ⟨by simp, .inl ⟨_, _, rfl, run_takeDeferred hK, ?_⟩⟩
  exact ⟨_, results_tmp rfl _ _ _, v, ss, rfl, hS, ownsRow_putObj hrow _ hK rfl, hnil, hB.grown (grownBy_putObj' _ _ _) hB.size (fun k e => by cases e; omega), hD0⟩
theorem so63_collect (n : Nat) (hn : 3 ≤ n) (g : Nat) (lb : Array Value) (eg : ∀ args w, (callFunc g args).run Tryz.prog w = .ok (.enter g args) w) (S : List (TL) → Prop) (N : Nat) (hN : N ≤ maxLen) (hNb : N * 20 ≤ 140737488355328)
  (w : World) (hseq : SeqD Fence.wide (n - 1 - 1) Tryz.prog g lb so63_kv S N w) :
  CallsIn Fence.wide n Tryz.prog 88 #[.func (.func g) #[] lb] w fun e w' => ∃ (v : Value) (ss : List (TL)), e = .returned v ∧ S ss ∧ w'.ownsRow w.heap.size 87 11 v ss.length (ss.flatMap so63_kc) ∧ (v = .slice none 0 0 ↔ ss = []) ∧ Below w.heap.size w w' ∧ w.drawn ≤ w'.drawn := by
 have h1 : 1 ≤ n := by omega
 have F78 : Fence.wide.fn 113 := trivial
 refine callsIn_of_wp Tryz.func88 rfl trivial ?_ rfl
 simp only [Tryz.ntmps88, List.size_toArray, List.length_cons, List.length_nil, Nat.reduceAdd, Nat.reduceSub, Array.replicate_succ, Array.replicate_zero, List.push_toArray, List.append_toArray, List.nil_append, List.cons_append]
 gi_wp2_with (gi_at_call 113; refine (so63_appendSeq (n - 1) (by omega) g lb eg S N hN hNb _ hseq).mono ?_; rintro e w' ⟨v, ss, rfl, hS, hrow, hnil, hb⟩)
 go_ret
 exact ⟨v, ss, rfl, hS, hrow, hnil, hb⟩
theorem so63k90c_keys (n : Nat) (Bm b : Nat) (es : Array MapEntry) (clock : Nat) (ks : List (TL)) (w : World) (off : Nat) (hm : w.cell? ⟨Bm, off, none⟩ = some (.map (some b))) (hBm : Bm < w.heap.size) (hb : w.heap[b]? = some (.map es clock))
  (hold : ∀ x ∈ es.toList, x.born < clock) (hnd : (es.toList.map (·.born)).Nodup) (hk : es.toList.map (·.key) = ks.map so63_kv) :
  SeqD Fence.wide n Tryz.prog 90 #[.pointer (some ⟨Bm, off, none⟩)] so63_kv (fun xs => xs.Perm ks) es.size w := fun l J W hW hJ hY h0 => by
 have hbW : W.heap[b]? = some (.map es clock) := (hW.block b (Array.getElem?_eq_some_iff.1 hb).1).trans hb
 have hc : W.cell? ⟨Bm, off, none⟩ = some (.map (some b)) := (World.cell?_of_block (hW.block Bm hBm)).trans hm
 refine callsIn_of_wp Tryz.func90 rfl trivial ?_ rfl
 simp only [Tryz.ntmps90, List.size_toArray, List.length_cons, List.length_nil, Nat.reduceAdd, Nat.reduceSub, Array.replicate_succ, Array.replicate_zero, List.push_toArray, List.append_toArray, List.nil_append, List.cons_append]
 gi_wp2_with (first
 | (gi_at_range; refine wpListIn_range_raw _ rfl _ 71 rfl 87 5 Tryz.underlying71 b es clock rfl hbW ?_)
 | gi_in)
 go_frame
 have hrg0 : Rg (W.alloc (.mapIter (some b) clock #[] clock)) b W.heap.size es clock [] :=
  ⟨(Below.heap_alloc _ _ b (Array.getElem?_eq_some_iff.1 hbW).1).trans hbW, World.alloc_heap_new W _, (fun d hd => by cases hd), List.nodup_nil⟩
 have hJ0 : J [] (W.alloc (.mapIter (some b) clock #[] clock)) := hJ [] W _ none h0 (World.grownBy_alloc W _ none) (Nat.le_refl _) (fun r e => by cases e)
 gi_loopw [3] (fun _ wr => ∃ (ds : List MapEntry) (xs : List (TL)), Rg wr b W.heap.size es clock ds ∧ ds.map (·.key) = xs.map so63_kv ∧ J xs wr)
  (fun _ wr => itLeft b W.heap.size wr)
 case atStart => exact ⟨[], [], hrg0, rfl, hJ0⟩
 case round =>
  obtain ⟨ds, xs, hrg, hdx, hJs⟩ := hrel
  gi_wp2_with (first
 | (gi_at_next; refine wpListIn_next_raw _ rfl _ rfl b W.heap.size es clock ds rfl hrg hold hnd ?_ ?_)
 | gi_in)
  ·intro hall
   gi_wp2
   go_end0
   refine ⟨⟨_, rfl⟩, xs, ?_, hJs⟩
   have hp := (hrg.perm hnd (fun x hx => hall x (by simpa using hx))).map (·.key)
   rw [hdx, hk] at hp
   exact perm_of_map so63_kv so63_kd so63_kdv hp
  ·intro e w2 he hrg2 hg2 hd2 hs2 hen
   obtain ⟨x, hx⟩ : ∃ x, e.key = so63_kv x := by
    have : e.key ∈ es.toList.map (·.key) := List.mem_map.2 ⟨e, by simpa using he, rfl⟩
    rw [hk] at this
    obtain ⟨x, _, hx⟩ := List.mem_map.1 this
    exact ⟨x, hx.symm⟩
   rw [hx] at hen ⊢
   have hJ2 : J xs w2 := hJ xs wr w2 _ hJs hg2 hd2 (fun r e => by cases e; exact ⟨Nat.le_refl _, _, hrg.it, rfl⟩)
   have hlt2 : xs.length < es.size := by
    have h1 := hrg2.len hnd
    have h2 := congrArg List.length hdx
    simp only [List.length_map, List.length_append, List.length_cons, List.length_nil] at h1 h2
    omega
   have hJ3 : J xs (w2.alloc (.cells #[.int .u8 x.f_tx.f_Node, .int .u32 x.f_tx.f_Boot, .int .u32 x.f_tx.f_Num, .int .u8 x.f_key.a0, .int .u8 x.f_key.a1, .int .u8 x.f_key.a2, .int .u8 x.f_key.a3, .int .u8 x.f_key.a4, .int .u8 x.f_key.a5, .int .u8 x.f_key.a6, .int .u8 x.f_key.a7] 87)) := hJ xs w2 _ none hJ2 (World.grownBy_alloc w2 _ none) (Nat.le_refl _) (fun r e => by cases e)
   obtain ⟨fn, tmps, assign, body, hy, hR⟩ := hY xs x _ hJ3 hlt2
   unfold so63_kv at hen hy ⊢
   clear hs2 hd2
   gi_wp2
   refine ⟨fun h => absurd h (by simp [Fence.wide]), hR.mono ?_⟩
   rintro e' W4 ⟨rfl, hJ4, hk4⟩
   gi_wp2
   have hrg4 := (hrg2.walks (KeepsWalks.alloc _ _)).walks hk4
   go_roundw
   case rel => exact ⟨ds ++ [e], xs ++ [x], hrg4, by rw [List.map_append, List.map_append, hdx, List.map_cons, hx]; rfl, hJ4⟩
   case measure =>
    rw [hrg4.left, hrg.left]
    have := hrg2.len hnd
    simp only [List.length_append, List.length_cons, List.length_nil] at this ⊢
    omega
theorem so63k90c_det (φ : Fro) (x : (TL)) (v : Value) (h : RelF φ (v_TL x) v) : v = so63_kv x := so63_det φ x v h
theorem so63k90c_col (b c new : Nat) (hnb : new ≠ b) (hnc : new ≠ c) (m : List ((TL) × (Int))) (h1 : m.length ≤ maxLen) (h2 : m.length * 20 ≤ 140737488355328) :
  FnTri Tryz.prog 88 [.fn 90 [] [.ptr b 0 0]] [(b, LO.var [.map c]), (c, LO.mapR true ks2 (encM v_TL (LV.int .u8) m))] (.gs new (m.map (·.1)).length) [(new, some (.bag 11 (Bag.map c_TL (Bag.of (m.map (·.1))))))] := by
 refine ⟨⟨_, Tryz.func88, by kernel_rfl, by kernel_rfl⟩, fun μ w vals hr hp hf => ?_⟩
 obtain ⟨v0, r0, rfl, ⟨a0, b0, rfl, ha, hb⟩, rfl⟩ := hr
 obtain rfl := rel_nocap ha
 obtain ⟨p, hpb, rfl⟩ := rel_cap hb
 have hb1 : (b, LO.var [.map c]) ∈ [(b, LO.var [.map c]), (c, LO.mapR true ks2 (encM v_TL (LV.int .u8) m))] := List.mem_cons_self
 have hc1 : (c, LO.mapR true ks2 (encM v_TL (LV.int .u8) m)) ∈ [(b, LO.var [.map c]), (c, LO.mapR true ks2 (encM v_TL (LV.int .u8) m))] := List.mem_cons_of_mem _ List.mem_cons_self
 have hn : μ new = none := by
  rcases hf new (by simp [Upd.has]) with ⟨o, ho, _⟩ | h
  ·simp only [List.mem_cons, Prod.mk.injEq, List.not_mem_nil, or_false] at ho
   rcases ho with ⟨e, _⟩ | ⟨e, _⟩
   ·exact absurd e hnb
   ·exact absurd e hnc
  ·exact h
 obtain ⟨p', hpb', hok⟩ := hp.obj b _ hb1
 obtain rfl := si_ (hpb.symm.trans hpb')
 obtain ⟨vm, hvm, hcell, hlt⟩ := var_cell hok
 obtain ⟨q, hq, rfl⟩ := hvm
 obtain ⟨q', hq', hok2⟩ := hp.obj c _ hc1
 obtain rfl := si_ (hq.symm.trans hq')
 obtain ⟨⟨es, clock, hes, hF2, hnd, hborn⟩, _⟩ := hok2
 have hlen : es.size = (m.map (·.1)).length := by
  have := ents_len _ _ hF2
  rw [List.length_map]; simpa using this
 have hseq := so63k90c_keys 8 p.rb q.rb es clock (m.map (·.1)) w _ hcell hlt hes hborn hnd (ents_keys so63k90c_det _ _ hF2)
 rw [hlen] at hseq
 have hc := callsIn_wide.1 (so63_collect 10 (by omega) 90 _ (enters_of Tryz.func90 (by kernel_rfl) rfl) _ (m.map (·.1)).length (by rw [List.length_map]; exact h1) (by rw [List.length_map]; exact h2) w hseq)
 refine hc.mono ?_
 rintro e w' ⟨v, ss, rfl, hS, hrow, hnil, hB, hD⟩
 obtain ⟨μ', g1, g2⟩ := collect_fin so63_enc so63_len so63_one hn hp hB hD hrow hnil hS
 exact ⟨v, μ', rfl, g1, g2⟩
def sFS_v (r : (List (TL))) : LV := .tup []
def sFS_up (uu : UT) (hh ww : PT) (r : (List (TL))) : Upd := [(0, some (.gr 11 (r).length (rowF c_TL default r))), (1, some (.var [.map 2, .map 3, .map 4])), (2, some (oP1 uu [])), (3, some (oM3 hh)), (4, some (oM3 ww))]
def sFS_objs (x : List (TL)) (uu : UT) (hh ww : PT) : List LO := [.gr 11 (x).length (rowF c_TL default x), .var [.map 2, .map 3, .map 4], oP1 uu [], oM3 hh, oM3 ww]
def sFS (x : List (TL)) (uu : UT) (hh ww : PT) : Option ((List (TL))) :=
 (mb_Len (IntKind.wrap .u64 ((x).length : Int))).bind fun y2 =>
 (sPD true x 0 ((x).length : Int) y2 uu hh ww).bind fun y4 =>
 some y4
theorem sFS_ok (x : List (TL)) (uu : UT) (hh ww : PT) (r : (List (TL))) (h : sFS x uu hh ww = some r) : ∀ σ, Inj 5 σ → FnTri Tryz.prog 89 (renL σ [.gs 0 (x).length, .fn 65 [.ptr 1 0 0] []]) (preOf σ 0 (sFS_objs x uu hh ww)) ((sFS_v r).ren σ) (upOf σ (sFS_up uu hh ww r)) := by
 refine fo_ Tryz.func89 ⟨fun _ _ => rfl, rfl, uP, trivial, trivial, trivial⟩ ⟨fun _ _ => rfl, rfl, uP, trivial, trivial, trivial⟩ ?_
 intro w0 W μ0 hμ
 unfold sFS at h
 obtain ⟨y2, e1, h⟩ := bs_ h
 obtain ⟨y4, e3, h⟩ := bs_ h
 obtain rfl := si_ h
 exact rr_ [] 14 [.reg [], .reg [(4, hC (mb_Len_v y2)), (6, hk_ (hK_ [0, 1, 2, 3, 4] (sPD_v true y4) (sPD_objs true x uu hh ww) (sPD_up true uu hh ww y4)))]]
  (q9 (q2 tr) (r4_ (q4 (q1 (mb_Len_tri (IntKind.wrap .u64 ((x).length : Int)) y2 e1)) (q18 (sPD_ok true x 0 ((x).length : Int) y2 uu hh ww y4 e3 (sel [0, 1, 2, 3, 4]) sj_) (rl_ (.gr 11 (x).length (rowF c_TL default x))) (o4_ [.map 2, .map 3, .map 4] uu hh ww)))))
def sFO_v (r : (List (TL))) : LV := .ds 11 (r).length (rowF c_TL default r)
def sFO_up (x : PT) (uu : UT) (hh : PT) (r : (List (TL))) : Upd := [(0, some (.var [.map 1])), (1, some (oM3 x)), (2, some (.var [.map 3, .map 4, .map 1])), (3, some (oP1 uu [])), (4, some (oM3 hh))]
def sFO_objs (x : PT) (uu : UT) (hh : PT) : List LO := [.var [.map 1], oM3 x, .var [.map 3, .map 4, .map 1], oP1 uu [], oM3 hh]
def sFO_c2 (x : PT) (uu : UT) (hh : PT) (q : Bag (TL)) : Option ((List (TL))) :=
 agreeB q fun l1 =>
 (sFS l1 uu hh x).bind fun y4 =>
 if (l1).length = (y4).length then
 some y4
 else none
def sFO (x : PT) (uu : UT) (hh : PT) : Option ((List (TL))) :=
 if (x).length ≤ maxLen then
 if (x).length * 20 ≤ 140737488355328 then
 sFO_c2 x uu hh (Bag.of (x.map (·.1)))
 else none
 else none
abbrev sFO_K1000002 (x : PT) (uu : UT) (hh : PT) (q : Bag (TL)) (r : (List (TL))) : Prop := Kt_ w0 W μ0 Tryz.f63 5 5 (sFO_v r) (sFO_up x uu hh r) (kAtR (bodyOf Tryz.f63) 2) (.any :: (.fn 65 [.ptr 2 0 0] []) :: .any :: .any :: .any :: (.gs 5 (q).length) :: n_ 6 []) [some (.var [.map 1]), some (oM3 x), some (.var [.map 3, .map 4, .map 1]), some (oP1 uu []), some (oM3 hh), some (.bag 11 (Bag.map c_TL q))]
theorem sFO_c2_ok {w0 W μ0} (hμ : Lt_ μ0 5) (x : PT) (uu : UT) (hh : PT) (q : Bag (TL)) (r : (List (TL))) (h : sFO_c2 x uu hh q = some r) : sFO_K1000002 w0 W μ0 x uu hh q r := by
 unfold sFO_c2 at h
 refine k_bag c_TL default (sz := 11) (c := 5) (q := q) (by kernel_rfl) (by kernel_rfl) (fun l1 hC2_2 => ?_)
 replace h := agreeB_some h hC2_2
 subst hC2_2
 obtain ⟨y4, E3, h⟩ := bs_ h
 obtain ⟨G5, h⟩ := gs_ h
 obtain rfl := si_ h
 exact rr_ [] 16 [.reg [(2, hk_ (hK_ [5, 2, 3, 4, 1] (sFS_v y4) (sFS_objs l1 uu hh x) (sFS_up uu hh x y4)))], .reg [], .wk [(4, .gs 5 (y4).length), (5, .gs 5 (y4).length), (8, .gs 5 (y4).length), (11, .gs 5 (y4).length)] [], .frz 5]
  (q16 (r2_ (q18 (sFS_ok l1 uu hh x y4 E3 (sel [5, 2, 3, 4, 1]) sj_) (rl_ (.gr 11 (l1).length (rowF c_TL default l1))) (o4_ [.map 3, .map 4, .map 1] uu hh x))) (r2_ tr) (q16 (le_gs 5 G5) (le_gs 5 G5) (le_gs 5 G5) (q1 (le_gs 5 G5))) (q16 (fz_row (enc := c_TL) (d := default) (fun _ => rfl) y4) (Nat.le_refl (y4).length) (Nat.le_refl (y4).length) (q3 (Nat.le_refl (y4).length) (Nat.le_refl (y4).length))))
theorem sFO_ok (x : PT) (uu : UT) (hh : PT) (r : (List (TL))) (h : sFO x uu hh = some r) : ∀ σ, Inj 5 σ → FnTri Tryz.prog 63 (renL σ [.fn 90 [] [.ptr 0 0 0], .fn 65 [.ptr 2 0 0] []]) (preOf σ 0 (sFO_objs x uu hh)) ((sFO_v r).ren σ) (upOf σ (sFO_up x uu hh r)) := by
 refine fo_ Tryz.func63 ⟨rfl, trivial, rfl, uP, trivial, trivial⟩ ⟨rfl, trivial, rfl, uP, trivial, trivial⟩ ?_
 intro w0 W μ0 hμ
 unfold sFO at h
 obtain ⟨g1, h⟩ := gs_ h
 obtain ⟨g2, h⟩ := gs_ h
 exact rt_ hμ [5] 16 [.reg [(0, hv_ (.ds 11 (([] : List (TL))).length (rowF c_TL default ([] : List (TL)))))], .reg [(1, { call := some (.gs 5 (x.map (·.1)).length, [(0, .var [.map 1]), (1, .mapR true ks2 (encM v_TL (LV.int .u8) x))], [(5, some (.bag 11 (Bag.map c_TL (Bag.of (x.map (·.1))))))]) })]]
  (q3 (q9 tr (le_nil_ds 11 (rowF c_TL default []))) (r1_ (q4 (q0 (so63k90c_col 0 1 5 (by decide) (by decide) x g1 g2) (rl_ (.var [.map 1])) (le_mapR (ag := true) (ks := ks2) (es := encM v_TL (LV.int .u8) x)) tr) tr))) (sFO_c2_ok hμ x uu hh _ r h) ⟨rfl, trivial, rfl, uP, trivial, trivial, trivial⟩
def lT_isFree_v (r : (Bool)) : LV := .bool r
def lT_isFree_up (uu : UT) (hh ww : PT) (r : (Bool)) : Upd := [(0, some (.var [.map 1, .map 2, .map 3])), (1, some (oP1 uu [])), (2, some (oM3 hh)), (3, some (oM3 ww))]
def lT_isFree_objs (uu : UT) (hh ww : PT) : List LO := [.var [.map 1, .map 2, .map 3], oP1 uu [], oM3 hh, oM3 ww]
def lT_isFree_l1 (uu : UT) (hh ww : PT) (s : TL) (y3 : (Bag (TX))) (l1 : List (TX)) : Nat → (Int) → Option ((Bool))
 | 0, _ => none
 | fuel + 1, t54 =>
  if ((decide (t54 < ((y3).length : Int))) : Bool) then
   if 0 ≤ t54 ∧ t54 < (((l1).length : Nat) : Int) then
   if ((!decide ((l1.getD t54.toNat default) = s.f_tx)) : Bool) then
    (lT_age_2 uu hh ww (l1.getD t54.toNat default) s.f_tx).bind fun y5 =>
    if ((decide (y5 < 0)) : Bool) then
     (some (TL.mk (l1.getD t54.toNat default) s.f_key)).bind fun y7 =>
     (lock_clash ((mget ww s).getD default) ((mget ww y7).getD default)).bind fun y10 =>
     if (y10 : Bool) then
      some false
     else
      lT_isFree_l1 uu hh ww s y3 l1 fuel (IntKind.wrap .i64 (t54 + 1))
    else
     lT_isFree_l1 uu hh ww s y3 l1 fuel (IntKind.wrap .i64 (t54 + 1))
   else
    lT_isFree_l1 uu hh ww s y3 l1 fuel (IntKind.wrap .i64 (t54 + 1))
   else none
  else
   some true
def lT_isFree_c2000001 (uu : UT) (hh ww : PT) (s : TL) (y3 : (Bag (TX))) (q2 : Bag (TX)) : Option ((Bool)) :=
 agreeB q2 fun l1 =>
 lT_isFree_l1 uu hh ww s y3 l1 big 0
def lT_isFree_l0 (uu : UT) (hh ww : PT) (s : TL) (y2 : (Bag (TX))) (l1 : List (TX)) : Nat → (Int) → Option ((Bool))
 | 0, _ => none
 | fuel + 1, t24 =>
  if ((decide (t24 < ((y2).length : Int))) : Bool) then
   if 0 ≤ t24 ∧ t24 < (((l1).length : Nat) : Int) then
   if ((!decide ((l1.getD t24.toNat default) = s.f_tx)) : Bool) then
    (some (TL.mk (l1.getD t24.toNat default) s.f_key)).bind fun y4 =>
    (lock_clash ((mget ww s).getD default) ((mget hh y4).getD default)).bind fun y7 =>
    if (y7 : Bool) then
     some false
    else
     lT_isFree_l0 uu hh ww s y2 l1 fuel (IntKind.wrap .i64 (t24 + 1))
   else
    lT_isFree_l0 uu hh ww s y2 l1 fuel (IntKind.wrap .i64 (t24 + 1))
   else none
  else
   (lP_at ww s.f_key).bind fun y3 =>
   lT_isFree_c2000001 uu hh ww s y3 y3
def lT_isFree_c2000000 (uu : UT) (hh ww : PT) (s : TL) (y2 : (Bag (TX))) (q : Bag (TX)) : Option ((Bool)) :=
 agreeB q fun l1 =>
 lT_isFree_l0 uu hh ww s y2 l1 big 0
def lT_isFree (uu : UT) (hh ww : PT) (s : TL) : Option ((Bool)) :=
 (lP_at hh s.f_key).bind fun y2 =>
 lT_isFree_c2000000 uu hh ww s y2 y2
abbrev lT_isFree_K1 (uu : UT) (hh ww : PT) (s : TL) (y3 : (Bag (TX))) (l1 : List (TX)) (t54 : Int) (r : (Bool)) : Prop := Kt_ w0 W μ0 Tryz.f66 4 4 (lT_isFree_v r) (lT_isFree_up uu hh ww r) (kAt (bodyOf Tryz.f66) 1) ((.ptr 0 0 0) :: .any :: .any :: (.ptr 4 0 0) :: .any :: (.int .u8 ((mget ww s).getD default)) :: n_ 46 ((.gs 5 (l1).length) :: (.int .i64 ((y3).length : Int)) :: (.int .i64 t54) :: n_ 29 [])) [some (.var [.map 1, .map 2, .map 3]), some (oP1 uu []), some (oM3 hh), some (oM3 ww), some (.var (c_TL s)), some (.gr 3 (l1).length (rowF c_TX default l1))]
abbrev lT_isFree_K3000001 (uu : UT) (hh ww : PT) (s : TL) (y3 : (Bag (TX))) (q2 : Bag (TX)) (r : (Bool)) : Prop := Kt_ w0 W μ0 Tryz.f66 4 4 (lT_isFree_v r) (lT_isFree_up uu hh ww r) (kAt (bodyOf Tryz.f66) 1) ((.ptr 0 0 0) :: .any :: .any :: (.ptr 4 0 0) :: .any :: (.int .u8 ((mget ww s).getD default)) :: n_ 46 ((.gs 5 (q2).length) :: (.int .i64 ((y3).length : Int)) :: (.int .i64 0) :: n_ 29 [])) [some (.var [.map 1, .map 2, .map 3]), some (oP1 uu []), some (oM3 hh), some (oM3 ww), some (.var (c_TL s)), some (.bag 3 (Bag.map c_TX q2))]
abbrev lT_isFree_K0 (uu : UT) (hh ww : PT) (s : TL) (y2 : (Bag (TX))) (l1 : List (TX)) (t24 : Int) (r : (Bool)) : Prop := Kt_ w0 W μ0 Tryz.f66 4 4 (lT_isFree_v r) (lT_isFree_up uu hh ww r) (kAt (bodyOf Tryz.f66) 0) ((.ptr 0 0 0) :: .any :: .any :: (.ptr 4 0 0) :: .any :: (.int .u8 ((mget ww s).getD default)) :: n_ 16 ((.gs 5 (l1).length) :: (.int .i64 ((y2).length : Int)) :: (.int .i64 t24) :: n_ 59 [])) [some (.var [.map 1, .map 2, .map 3]), some (oP1 uu []), some (oM3 hh), some (oM3 ww), some (.var (c_TL s)), some (.gr 3 (l1).length (rowF c_TX default l1))]
abbrev lT_isFree_K3000000 (uu : UT) (hh ww : PT) (s : TL) (y2 : (Bag (TX))) (q : Bag (TX)) (r : (Bool)) : Prop := Kt_ w0 W μ0 Tryz.f66 4 4 (lT_isFree_v r) (lT_isFree_up uu hh ww r) (kAt (bodyOf Tryz.f66) 0) ((.ptr 0 0 0) :: .any :: .any :: (.ptr 4 0 0) :: .any :: (.int .u8 ((mget ww s).getD default)) :: n_ 16 ((.gs 5 (q).length) :: (.int .i64 ((y2).length : Int)) :: (.int .i64 0) :: n_ 59 [])) [some (.var [.map 1, .map 2, .map 3]), some (oP1 uu []), some (oM3 hh), some (oM3 ww), some (.var (c_TL s)), some (.bag 3 (Bag.map c_TX q))]
theorem lT_isFree_l1_ok {w0 W μ0} (hμ : Lt_ μ0 4) (uu : UT) (hh ww : PT) (s : TL) (y3 : (Bag (TX))) (l1 : List (TX)) : ∀ (fuel : Nat) (t54 : Int) (r : (Bool)), lT_isFree_l1 uu hh ww s y3 l1 fuel t54 = some r → lT_isFree_K1 w0 W μ0 uu hh ww s y3 l1 t54 r := by
 intro fuel
 induction fuel with
 | zero => intro t54 r h; rw [lT_isFree_l1] at h; cases h
 | succ fuel ih =>
  intro t54 r h
  rw [lT_isFree_l1] at h
  rcases it_ h with ⟨C1, h⟩ | ⟨C1, h⟩
  ·obtain ⟨G2, h⟩ := gs_ h
   rcases it_ h with ⟨C3, h⟩ | ⟨C3, h⟩
   ·obtain ⟨y5, E4, h⟩ := bs_ h
    rcases it_ h with ⟨C6, h⟩ | ⟨C6, h⟩
    ·obtain ⟨y7, E8, h⟩ := bs_ h
     obtain ⟨y10, E9, h⟩ := bs_ h
     rcases it_ h with ⟨C11, h⟩ | ⟨C11, h⟩
     ·obtain rfl := si_ h
      exact rr_ [] 28 [.go, .reg [(0, hT)], .reg [], .reg [(3, hv_ (.bool (!decide ((l1.getD t54.toNat default) = s.f_tx)))), (4, hT), (9, hk_ (hK_ [0, 1, 2, 3] (lT_age_2_v y5) (lT_age_2_objs uu hh ww) (lT_age_2_up uu hh ww y5))), (12, hT), (21, hv_ (v_TL y7)), (22, { look := ((mget ww y7).map (LV.int .u8)), v := some (.int .u8 ((mget ww y7).getD default)) }), (23, hC (lock_clash_v y10)), (24, hT)], .reg []]
       (q16 (f_ C1 tr) (ld_ 3 G2 tr (r1_ (a_ (a_ (a_ (Eq.refl 3) (a_ (le_ 3 3 rfl) (Eq.refl 0))) tr) tr))) (m_ 3 3 rfl (r1_ (m_ 3 11 rfl (a_ (a_ tr (a_ (leB (congrArg not (k_TX (l1.getD t54.toNat default) s.f_tx))) tr)) (f_ C3 (r1_ (m_ 3 3 rfl (r1_ (m_ 3 11 rfl (a_ (a_ (a_ (lT_age_2_ok uu hh ww (l1.getD t54.toNat default) s.f_tx y5 E4 (sel [0, 1, 2, 3]) sj_) (o4_ [.map 1, .map 2, .map 3] uu hh ww)) tr) (r2_ (f_ C6 (r4_ (l_ 2 3 rfl (m_ 3 3 rfl (r1_ (m_ 11 11 rfl (a_ (a_ (Eq.refl true) (a_ (le_nm v_TL E8) tr)) (a_ (a_ (a_ (Eq.refl true) (findE_enc v_TL (LV.int .u8) k_TL ww y7)) (a_ (le_look (LV.int .u8) (mget ww y7) default) tr)) (a_ (a_ (a_ (lock_clash_tri ((mget ww s).getD default) ((mget ww y7).getD default) y10 E9) tr) tr) (f_ C11 tr))))))))))))))))))))) (q19 tr))
     ·exact rt_ hμ [4, 5] 29 [.go, .reg [(0, hT)], .reg [], .reg [(3, hv_ (.bool (!decide ((l1.getD t54.toNat default) = s.f_tx)))), (4, hT), (9, hk_ (hK_ [0, 1, 2, 3] (lT_age_2_v y5) (lT_age_2_objs uu hh ww) (lT_age_2_up uu hh ww y5))), (12, hT), (21, hv_ (v_TL y7)), (22, { look := ((mget ww y7).map (LV.int .u8)), v := some (.int .u8 ((mget ww y7).getD default)) }), (23, hC (lock_clash_v y10)), (24, hF)], .reg []]
       (q0 (f_ C1 tr) (ld_ 3 G2 tr (r1_ (a_ (a_ (a_ (Eq.refl 3) (a_ (le_ 3 3 rfl) (Eq.refl 0))) tr) tr))) (m_ 3 3 rfl (r1_ (m_ 3 11 rfl (a_ (a_ tr (a_ (leB (congrArg not (k_TX (l1.getD t54.toNat default) s.f_tx))) tr)) (f_ C3 (r1_ (m_ 3 3 rfl (r1_ (m_ 3 11 rfl (a_ (a_ (a_ (lT_age_2_ok uu hh ww (l1.getD t54.toNat default) s.f_tx y5 E4 (sel [0, 1, 2, 3]) sj_) (o4_ [.map 1, .map 2, .map 3] uu hh ww)) tr) (r2_ (f_ C6 (r4_ (l_ 2 3 rfl (m_ 3 3 rfl (r1_ (m_ 11 11 rfl (a_ (a_ (Eq.refl true) (a_ (le_nm v_TL E8) tr)) (a_ (a_ (a_ (Eq.refl true) (findE_enc v_TL (LV.int .u8) k_TL ww y7)) (a_ (le_look (LV.int .u8) (mget ww y7) default) tr)) (a_ (a_ (a_ (lock_clash_tri ((mget ww s).getD default) ((mget ww y7).getD default) y10 E9) tr) tr) (f_ C11 tr))))))))))))))))))))) (q14 tr)) (ih _ r h) ⟨rfl, uP, trivial, trivial, rfl, fun _ _ => rfl, trivial⟩
    ·exact rt_ hμ [4, 5] 29 [.go, .reg [(0, hT)], .reg [], .reg [(3, hv_ (.bool (!decide ((l1.getD t54.toNat default) = s.f_tx)))), (4, hT), (9, hk_ (hK_ [0, 1, 2, 3] (lT_age_2_v y5) (lT_age_2_objs uu hh ww) (lT_age_2_up uu hh ww y5))), (12, hF)], .reg []]
      (q0 (f_ C1 tr) (ld_ 3 G2 tr (r1_ (a_ (a_ (a_ (Eq.refl 3) (a_ (le_ 3 3 rfl) (Eq.refl 0))) tr) tr))) (m_ 3 3 rfl (r1_ (m_ 3 11 rfl (a_ (a_ tr (a_ (leB (congrArg not (k_TX (l1.getD t54.toNat default) s.f_tx))) tr)) (f_ C3 (r1_ (m_ 3 3 rfl (r1_ (m_ 3 11 rfl (a_ (a_ (a_ (lT_age_2_ok uu hh ww (l1.getD t54.toNat default) s.f_tx y5 E4 (sel [0, 1, 2, 3]) sj_) (o4_ [.map 1, .map 2, .map 3] uu hh ww)) tr) (r2_ (f_ C6 (a_ tr (t2_ (t8_ (r1_ tr)))))))))))))))) (q14 tr)) (ih _ r h) ⟨rfl, uP, trivial, trivial, rfl, fun _ _ => rfl, trivial⟩
   ·exact rt_ hμ [4, 5] 29 [.go, .reg [(0, hT)], .reg [], .reg [(3, hv_ (.bool (!decide ((l1.getD t54.toNat default) = s.f_tx)))), (4, hF)], .reg []]
     (q0 (f_ C1 tr) (ld_ 3 G2 tr (r1_ (a_ (a_ (a_ (Eq.refl 3) (a_ (le_ 3 3 rfl) (Eq.refl 0))) tr) tr))) (m_ 3 3 rfl (r1_ (m_ 3 11 rfl (a_ (a_ tr (a_ (leB (congrArg not (k_TX (l1.getD t54.toNat default) s.f_tx))) tr)) (f_ C3 (t2_ (t4_ (r2_ (a_ tr (t2_ (t8_ (r1_ tr)))))))))))) (q14 tr)) (ih _ r h) ⟨rfl, uP, trivial, trivial, rfl, fun _ _ => rfl, trivial⟩
  ·obtain rfl := si_ h
   exact rr_ [] 19 [.go, .reg [(0, hF)], .reg []]
    (q9 (f_ C1 tr) (r1_ tr))
theorem lT_isFree_c2000001_ok {w0 W μ0} (hμ : Lt_ μ0 4) (uu : UT) (hh ww : PT) (s : TL) (y3 : (Bag (TX))) (q2 : Bag (TX)) (r : (Bool)) (h : lT_isFree_c2000001 uu hh ww s y3 q2 = some r) : lT_isFree_K3000001 w0 W μ0 uu hh ww s y3 q2 r := by
 unfold lT_isFree_c2000001 at h
 refine k_bag c_TX default (sz := 3) (c := 5) (q := q2) (by kernel_rfl) (by kernel_rfl) (fun l1 hC2000001_2 => ?_)
 replace h := agreeB_some h hC2000001_2
 subst hC2000001_2
 exact rt_ hμ [4, 5] 8 []
  tr (lT_isFree_l1_ok hμ uu hh ww s y3 l1 big _ r h) ⟨rfl, uP, trivial, trivial, rfl, fun _ _ => rfl, trivial⟩
theorem lT_isFree_l0_ok {w0 W μ0} (hμ : Lt_ μ0 4) (uu : UT) (hh ww : PT) (s : TL) (y2 : (Bag (TX))) (l1 : List (TX)) : ∀ (fuel : Nat) (t24 : Int) (r : (Bool)), lT_isFree_l0 uu hh ww s y2 l1 fuel t24 = some r → lT_isFree_K0 w0 W μ0 uu hh ww s y2 l1 t24 r := by
 intro fuel
 induction fuel with
 | zero => intro t24 r h; rw [lT_isFree_l0] at h; cases h
 | succ fuel ih =>
  intro t24 r h
  rw [lT_isFree_l0] at h
  rcases it_ h with ⟨C1, h⟩ | ⟨C1, h⟩
  ·obtain ⟨G2, h⟩ := gs_ h
   rcases it_ h with ⟨C3, h⟩ | ⟨C3, h⟩
   ·obtain ⟨y4, E5, h⟩ := bs_ h
    obtain ⟨y7, E6, h⟩ := bs_ h
    rcases it_ h with ⟨C8, h⟩ | ⟨C8, h⟩
    ·obtain rfl := si_ h
     exact rr_ [] 28 [.go, .reg [(0, hT)], .reg [], .reg [(3, hv_ (.bool (!decide ((l1.getD t24.toNat default) = s.f_tx)))), (4, hT), (13, hv_ (v_TL y4)), (14, { look := ((mget hh y4).map (LV.int .u8)), v := some (.int .u8 ((mget hh y4).getD default)) }), (15, hC (lock_clash_v y7)), (16, hT)], .reg []]
      (q16 (f_ C1 tr) (ld_ 3 G2 tr (r1_ (a_ (a_ (a_ (Eq.refl 3) (a_ (le_ 3 3 rfl) (Eq.refl 0))) tr) tr))) (m_ 3 3 rfl (r1_ (m_ 3 11 rfl (a_ (a_ tr (a_ (leB (congrArg not (k_TX (l1.getD t24.toNat default) s.f_tx))) tr)) (f_ C3 (r4_ (l_ 1 3 rfl (m_ 3 3 rfl (r1_ (m_ 11 11 rfl (a_ (a_ (Eq.refl true) (a_ (le_nm v_TL E5) tr)) (a_ (a_ (a_ (Eq.refl true) (findE_enc v_TL (LV.int .u8) k_TL hh y4)) (a_ (le_look (LV.int .u8) (mget hh y4) default) tr)) (a_ (a_ (a_ (lock_clash_tri ((mget ww s).getD default) ((mget hh y4).getD default) y7 E6) tr) tr) (f_ C8 tr)))))))))))))) (q19 tr))
    ·exact rt_ hμ [4, 5] 29 [.go, .reg [(0, hT)], .reg [], .reg [(3, hv_ (.bool (!decide ((l1.getD t24.toNat default) = s.f_tx)))), (4, hT), (13, hv_ (v_TL y4)), (14, { look := ((mget hh y4).map (LV.int .u8)), v := some (.int .u8 ((mget hh y4).getD default)) }), (15, hC (lock_clash_v y7)), (16, hF)], .reg []]
      (q0 (f_ C1 tr) (ld_ 3 G2 tr (r1_ (a_ (a_ (a_ (Eq.refl 3) (a_ (le_ 3 3 rfl) (Eq.refl 0))) tr) tr))) (m_ 3 3 rfl (r1_ (m_ 3 11 rfl (a_ (a_ tr (a_ (leB (congrArg not (k_TX (l1.getD t24.toNat default) s.f_tx))) tr)) (f_ C3 (r4_ (l_ 1 3 rfl (m_ 3 3 rfl (r1_ (m_ 11 11 rfl (a_ (a_ (Eq.refl true) (a_ (le_nm v_TL E5) tr)) (a_ (a_ (a_ (Eq.refl true) (findE_enc v_TL (LV.int .u8) k_TL hh y4)) (a_ (le_look (LV.int .u8) (mget hh y4) default) tr)) (a_ (a_ (a_ (lock_clash_tri ((mget ww s).getD default) ((mget hh y4).getD default) y7 E6) tr) tr) (f_ C8 tr)))))))))))))) (q14 tr)) (ih _ r h) ⟨rfl, uP, trivial, trivial, rfl, fun _ _ => rfl, trivial⟩
   ·exact rt_ hμ [4, 5] 29 [.go, .reg [(0, hT)], .reg [], .reg [(3, hv_ (.bool (!decide ((l1.getD t24.toNat default) = s.f_tx)))), (4, hF)], .reg []]
     (q0 (f_ C1 tr) (ld_ 3 G2 tr (r1_ (a_ (a_ (a_ (Eq.refl 3) (a_ (le_ 3 3 rfl) (Eq.refl 0))) tr) tr))) (m_ 3 3 rfl (r1_ (m_ 3 11 rfl (a_ (a_ tr (a_ (leB (congrArg not (k_TX (l1.getD t24.toNat default) s.f_tx))) tr)) (f_ C3 (a_ tr (t2_ (t8_ (r1_ tr))))))))) (q14 tr)) (ih _ r h) ⟨rfl, uP, trivial, trivial, rfl, fun _ _ => rfl, trivial⟩
  ·obtain ⟨y3, E2, h⟩ := bs_ h
   exact rt_ hμ [4, 6] 22 [.go, .reg [(0, hF)], .reg [(6, hk_ (hK_ [3, 6] (lP_at_v y3) (lP_at_objs ww) (lP_at_up ww y3)))]]
    (q3 (f_ C1 tr) (q2 (l_ 2 3 rfl (r1_ (m_ 11 11 rfl (a_ (a_ (a_ (lP_at_ok ww s.f_key y3 E2 (sel [3, 6]) sj_) (a_ (rl_ (oM3 ww)) tr)) tr) (r2_ tr))))))) (lT_isFree_c2000001_ok hμ uu hh ww s y3 _ r h) ⟨rfl, uP, trivial, trivial, rfl, trivial, trivial⟩
theorem lT_isFree_c2000000_ok {w0 W μ0} (hμ : Lt_ μ0 4) (uu : UT) (hh ww : PT) (s : TL) (y2 : (Bag (TX))) (q : Bag (TX)) (r : (Bool)) (h : lT_isFree_c2000000 uu hh ww s y2 q = some r) : lT_isFree_K3000000 w0 W μ0 uu hh ww s y2 q r := by
 unfold lT_isFree_c2000000 at h
 refine k_bag c_TX default (sz := 3) (c := 5) (q := q) (by kernel_rfl) (by kernel_rfl) (fun l1 hC2000000_2 => ?_)
 replace h := agreeB_some h hC2000000_2
 subst hC2000000_2
 exact rt_ hμ [4, 5] 8 []
  tr (lT_isFree_l0_ok hμ uu hh ww s y2 l1 big _ r h) ⟨rfl, uP, trivial, trivial, rfl, fun _ _ => rfl, trivial⟩
theorem lT_isFree_ok (uu : UT) (hh ww : PT) (s : TL) (r : (Bool)) (h : lT_isFree uu hh ww s = some r) : ∀ σ, Inj 4 σ → FnTri Tryz.prog 66 (renL σ [.ptr 0 0 0, v_TL s]) (preOf σ 0 (lT_isFree_objs uu hh ww)) ((lT_isFree_v r).ren σ) (upOf σ (lT_isFree_up uu hh ww r)) := by
 refine fo_ Tryz.func66 ⟨rfl, uP, trivial, trivial, trivial⟩ ⟨rfl, uP, trivial, trivial, trivial⟩ ?_
 intro w0 W μ0 hμ
 unfold lT_isFree at h
 obtain ⟨y2, e1, h⟩ := bs_ h
 exact rt_ hμ [4, 5] 21 [.reg [], .reg [(5, { look := ((mget ww s).map (LV.int .u8)), v := some (.int .u8 ((mget ww s).getD default)) })], .reg [(6, hk_ (hK_ [2, 5] (lP_at_v y2) (lP_at_objs hh) (lP_at_up hh y2)))]]
  (q0 (r2_ tr) (q2 (l_ 2 3 rfl (m_ 11 11 rfl (a_ (a_ (a_ (Eq.refl true) (findE_enc v_TL (LV.int .u8) k_TL ww s)) (a_ (le_look (LV.int .u8) (mget ww s) default) tr)) (r1_ tr))))) (q2 (l_ 1 3 rfl (r1_ (m_ 11 11 rfl (a_ (a_ (a_ (lP_at_ok hh s.f_key y2 e1 (sel [2, 5]) sj_) (a_ (rl_ (oM3 hh)) tr)) tr) (r2_ tr)))))) tr) (lT_isFree_c2000000_ok hμ uu hh ww s y2 _ r h) ⟨rfl, uP, trivial, trivial, rfl, trivial, trivial⟩
def lT_on_v (r : (List (TG)) × (PT) × (PT)) : LV := .ds 12 (r.1).length (rowF c_TG default r.1)
def lT_on_up (uu : UT) (r : (List (TG)) × (PT) × (PT)) : Upd := [(0, some (.var [.map 1, .map 2, .map 3])), (1, some (oP1 uu [])), (2, some (oM3 r.2.1)), (3, some (oM3 r.2.2))]
def lT_on_objs (uu : UT) (hh ww : PT) : List LO := [.var [.map 1, .map 2, .map 3], oP1 uu [], oM3 hh, oM3 ww]
def lT_on_l0 (uu : UT) (hh ww : PT) (y4 : (List (TL))) : Nat → (Int) → (PT) → (PT) → (List (TG)) → Option ((List (TG)) × (PT) × (PT))
 | 0, _, _, _, _ => none
 | fuel + 1, t16, m, m2, l =>
  if ((decide (t16 < ((y4).length : Int))) : Bool) then
   if 0 ≤ t16 ∧ t16 < (((y4).length : Nat) : Int) then
   (lT_isFree uu m m2 (y4.getD t16.toNat default)).bind fun yL0_4 =>
   if ((!yL0_4) : Bool) then
    lT_on_l0 uu hh ww y4 fuel (IntKind.wrap .i64 (t16 + 1)) m m2 l
   else
    (some ((mget m2 (y4.getD t16.toNat default)).getD default)).bind fun y6 =>
    (some ((mget m (y4.getD t16.toNat default)).getD default)).bind fun y8 =>
    (some (mset m (y4.getD t16.toNat default) (if y8 > y6 then y8 else y6))).bind fun y10 =>
    (some (TG.mk (y4.getD t16.toNat default).f_tx (y4.getD t16.toNat default).f_key (if y8 > y6 then y8 else y6))).bind fun y12 =>
    if ((l).length + (([y12] : List (TG))).length) * 24 ≤ 140737488351232 then
    lT_on_l0 uu hh ww y4 fuel (IntKind.wrap .i64 (t16 + 1)) y10 (mdel m2 (y4.getD t16.toNat default)) (l ++ ([y12] : List (TG)))
    else none
   else none
  else
   some (l, m, m2)
def lT_on (uu : UT) (hh ww : PT) : Option ((List (TG)) × (PT) × (PT)) :=
 (mKP ww).bind fun y2 =>
 (sFO ww uu hh).bind fun y4 =>
 lT_on_l0 uu hh ww y4 big 0 hh ww ([] : List (TG))
abbrev lT_on_K0 (uu : UT) (y4 : (List (TL))) (t16 : Int) (m m2 : PT) (l : List (TG)) (r : (List (TG)) × (PT) × (PT)) : Prop := Kt_ w0 W μ0 Tryz.f39 4 4 (lT_on_v r) (lT_on_up uu r) (kAt (bodyOf Tryz.f39) 0) ((.ptr 0 0 0) :: .any :: .any :: (.gs 4 (l).length) :: n_ 10 ((.ds 11 (y4).length (rowF c_TL default y4)) :: (.int .i64 ((y4).length : Int)) :: (.int .i64 t16) :: n_ 42 [])) [some (.var [.map 1, .map 2, .map 3]), some (oP1 uu []), some (oM3 m), some (oM3 m2), some (.gr 12 (l).length (rowF c_TG default l))]
theorem lT_on_l0_ok {w0 W μ0} (hμ : Lt_ μ0 4) (uu : UT) (hh ww : PT) (y4 : (List (TL))) : ∀ (fuel : Nat) (t16 : Int) (m m2 : PT) (l : List (TG)) (r : (List (TG)) × (PT) × (PT)), lT_on_l0 uu hh ww y4 fuel t16 m m2 l = some r → lT_on_K0 w0 W μ0 uu y4 t16 m m2 l r := by
 intro fuel
 induction fuel with
 | zero => intro t16 m m2 l r h; rw [lT_on_l0] at h; cases h
 | succ fuel ih =>
  intro t16 m m2 l r h
  rw [lT_on_l0] at h
  rcases it_ h with ⟨C1, h⟩ | ⟨C1, h⟩
  ·obtain ⟨G2, h⟩ := gs_ h
   obtain ⟨yL0_4, E3, h⟩ := bs_ h
   rcases it_ h with ⟨C5, h⟩ | ⟨C5, h⟩
   ·exact rt_ hμ [4] 29 [.go, .reg [(0, hT)], .reg [], .reg [(2, hk_ (hK_ [0, 1, 2, 3] (lT_isFree_v yL0_4) (lT_isFree_objs uu m m2) (lT_isFree_up uu m m2 yL0_4))), (3, hT)], .reg []]
     (q11 (f_ C1 tr) (q13 (a_ (Eq.refl 11) G2) (le_ 11 11 rfl) (q18 (Eq.refl 11) (le_ 11 11 rfl) (Eq.refl 0))) (m_ 11 11 rfl (a_ (a_ (a_ (lT_isFree_ok uu m m2 (y4.getD t16.toNat default) yL0_4 E3 (sel [0, 1, 2, 3]) sj_) (o4_ [.map 1, .map 2, .map 3] uu m m2)) tr) (f_ C5 tr))) (q14 tr)) (ih _ _ _ _ r h) ⟨rfl, uP, trivial, trivial, fun _ _ => rfl, trivial⟩
   ·obtain ⟨y6, E7, h⟩ := bs_ h
    obtain ⟨y8, E9, h⟩ := bs_ h
    obtain ⟨y10, E11, h⟩ := bs_ h
    obtain ⟨y12, E13, h⟩ := bs_ h
    obtain ⟨G14, h⟩ := gs_ h
    exact rt_ hμ [7] 41 [.go, .reg [(0, hT)], .reg [], .reg [(2, hk_ (hK_ [0, 1, 2, 3] (lT_isFree_v yL0_4) (lT_isFree_objs uu m m2) (lT_isFree_up uu m m2 yL0_4))), (3, hF)], .reg [(5, { look := ((mget m2 (y4.getD t16.toNat default)).map (LV.int .u8)), v := some (.int .u8 y6) }), (11, { look := ((mget m (y4.getD t16.toNat default)).map (LV.int .u8)), v := some (.int .u8 y8) })], .reg [(5, { os := [(3, oM3 (mdel m2 (y4.getD t16.toNat default)))] })], .reg [(6, { os := [(2, oM3 y10)] })], .reg [(6, hv_ (v_TG y12)), (7, { os := [(6, .gr 12 (([y12] : List (TG))).length (rowF c_TG default ([y12] : List (TG))))], v := some (.gs 6 (([y12] : List (TG))).length) }), (8, { app := 3, os := [(7, .gr 12 ((l ++ ([y12] : List (TG)))).length (rowF c_TG default (l ++ ([y12] : List (TG)))))], v := some (.gs 7 ((l ++ ([y12] : List (TG)))).length) })], .reg []]
     (q11 (f_ C1 tr) (q13 (a_ (Eq.refl 11) G2) (le_ 11 11 rfl) (q18 (Eq.refl 11) (le_ 11 11 rfl) (Eq.refl 0))) (m_ 11 11 rfl (a_ (a_ (a_ (lT_isFree_ok uu m m2 (y4.getD t16.toNat default) yL0_4 E3 (sel [0, 1, 2, 3]) sj_) (o4_ [.map 1, .map 2, .map 3] uu m m2)) tr) (f_ C5 tr))) (q0 (q2 (l_ 2 3 rfl (m_ 11 11 rfl (a_ (a_ (a_ (Eq.refl true) (findE_enc v_TL (LV.int .u8) k_TL m2 (y4.getD t16.toNat default))) (a_ (LV.Le.trans (le_look (LV.int .u8) (mget m2 (y4.getD t16.toNat default)) default) (le_nm (LV.int .u8) E7)) tr)) (r1_ (r2_ (l_ 1 3 rfl (m_ 11 11 rfl (a_ (a_ (a_ (Eq.refl true) (findE_enc v_TL (LV.int .u8) k_TL m (y4.getD t16.toNat default))) (a_ (LV.Le.trans (le_look (LV.int .u8) (mget m (y4.getD t16.toNat default)) default) (le_nm (LV.int .u8) E9)) tr)) (r2_ tr)))))))))) (q2 (l_ 2 3 rfl (m_ 11 11 rfl (a_ (a_ (Eq.refl true) (a_ (sub_del v_TL (LV.int .u8) k_TL true ks2 m2 (y4.getD t16.toNat default)) tr)) tr)))) (q2 (l_ 1 3 rfl (m_ 11 11 rfl (r1_ (a_ (a_ (a_ (Eq.refl true) (Eq.refl true)) (a_ (LO.Sub.trans (sub_upd v_TL (LV.int .u8) k_TL true ks2 m (y4.getD t16.toNat default) (if y8 > y6 then y8 else y6)) (LO.Sub.of_eq (nm_eq (fun l_ => oM3 l_) E11))) tr)) tr))))) (q3 (r2_ (m_ 3 11 rfl (r1_ (m_ 11 11 rfl (r1_ (a_ (a_ (Eq.refl true) (a_ (le_nm v_TG E13) tr)) (a_ (a_ (a_ (Eq.refl true) (a_ (Eq.refl 12) (a_ (lt_ 0 12 rfl) (le_ 12 16777216 rfl)))) (a_ (le_sl_gs 6 1 (some 1) rfl) (a_ (sub_lit c_TG default 12 (fun _ => rfl) ([y12] : List (TG))) tr))) (a_ (a_ (a_ (a_ (Eq.refl 12) (Nat.le_refl (([y12] : List (TG))).length)) (a_ (a_ (lt_ 0 12 rfl) (a_ (lt_ 0 24 rfl) (a_ G14 (a_ (Eq.refl 12) (Eq.refl true))))) (a_ (Eq.refl 12) (Nat.le_refl (l).length)))) (a_ (le_gs_app 7 l ([y12] : List (TG))) (a_ (sub_app c_TG default 12 l ([y12] : List (TG))) tr))) (r1_ tr))))))))) (r2_ tr)))) (ih _ _ _ _ r h) ⟨rfl, uP, trivial, trivial, fun _ _ => rfl, trivial⟩
  ·obtain rfl := si_ h
   exact rr_ [] 20 [.go, .reg [(0, hF)], .reg [], .frz 4]
    (q16 (f_ C1 tr) (r2_ tr) (q0 (fz_row (enc := c_TG) (d := default) (fun _ => rfl) l) (Nat.le_refl (l).length) (Nat.le_refl (l).length) (q1 (Nat.le_refl (l).length))) tr)
theorem lT_on_ok (uu : UT) (hh ww : PT) (r : (List (TG)) × (PT) × (PT)) (h : lT_on uu hh ww = some r) : ∀ σ, Inj 4 σ → FnTri Tryz.prog 39 (renL σ [.ptr 0 0 0]) (preOf σ 0 (lT_on_objs uu hh ww)) ((lT_on_v r).ren σ) (upOf σ (lT_on_up uu r)) := by
 refine fo_ Tryz.func39 ⟨rfl, uP, trivial, trivial, trivial⟩ ⟨rfl, uP, trivial, trivial, trivial⟩ ?_
 intro w0 W μ0 hμ
 unfold lT_on at h
 obtain ⟨y2, e1, h⟩ := bs_ h
 obtain ⟨y4, e3, h⟩ := bs_ h
 exact rt_ hμ [4] 22 [.reg [(0, hv_ (.ds 12 (([] : List (TG))).length (rowF c_TG default ([] : List (TG)))))], .void (.gr 12 (([] : List (TG))).length (rowF c_TG default ([] : List (TG)))), .reg [(0, hv_ (.gs 4 (([] : List (TG))).length))], .reg [(4, hk_ (hK_ [3, 5] (mKP_v y2) (mKP_objs ww) (mKP_up ww y2))), (7, hk_ (hK_ [5, 3, 0, 1, 2] (sFO_v y4) (sFO_objs ww uu hh) (sFO_up ww uu hh y4)))]]
  (q0 (q9 tr (le_nil_ds 12 (rowF c_TG default []))) (Eq.refl 0) (q9 tr (le_nil_gs 4)) (q17 (l_ 2 3 rfl (a_ (a_ (a_ (mKP_ok ww y2 e1 (sel [3, 5]) sj_) (a_ (rl_ (oM3 ww)) tr)) tr) (r2_ (a_ (a_ (a_ (sFO_ok ww uu hh y4 e3 (sel [5, 3, 0, 1, 2]) sj_) (a_ (rl_ (.var [.map 3])) (a_ (rl_ (oM3 ww)) (a_ (rl_ (.var [.map 1, .map 2, .map 3])) (a_ (Eq.refl (oP1 uu [] : LO)) (a_ (rl_ (oM3 hh)) tr)))))) tr) (r2_ tr))))))) (lT_on_l0_ok hμ uu hh ww y4 big _ _ _ _ r h) ⟨rfl, uP, trivial, trivial, fun _ _ => rfl, trivial⟩
def lT_Ask_v (r : (TO) × (Int) × (UT) × (PT) × (PT)) : LV := .tup [v_TO r.1, .int .i64 r.2.1]
def lT_Ask_up (r : (TO) × (Int) × (UT) × (PT) × (PT)) : Upd := [(0, some (.var [.map 1, .map 2, .map 3])), (1, some (oP1 r.2.2.1 [])), (2, some (oM3 r.2.2.2.1)), (3, some (oM3 r.2.2.2.2))]
def lT_Ask_objs (uu : UT) (hh ww : PT) : List LO := [.var [.map 1, .map 2, .map 3], oP1 uu [], oM3 hh, oM3 ww]
def lT_Ask_c4 (uu : UT) (hh ww : PT) (s : TS) (x_k : A8 (Int)) (mode : Int) : Option ((TO) × (Int) × (UT) × (PT) × (PT)) :=
 some ((TO.mk ([] : List (TX)) ([] : List (TG))), 1, uu, hh, ww)
def lT_Ask_c8 (uu : UT) (hh ww : PT) (s : TS) (x_k : A8 (Int)) (mode : Int) : Option ((TO) × (Int) × (UT) × (PT) × (PT)) :=
 some ((TO.mk ([] : List (TX)) ([] : List (TG))), 11, uu, hh, ww)
def lT_Ask_c10 (uu : UT) (hh ww : PT) (s : TS) (x_k : A8 (Int)) (mode : Int) : Option ((TO) × (Int) × (UT) × (PT) × (PT)) :=
 some ((TO.mk ([] : List (TX)) ([] : List (TG))), 5, uu, hh, ww)
def lT_Ask_c11 (uu : UT) (hh ww : PT) (s : TS) (x_k : A8 (Int)) (mode : Int) : Option ((TO) × (Int) × (UT) × (PT) × (PT)) :=
 (some ((mget hh (TL.mk s.f_Tx x_k)).getD default)).bind fun y1 =>
 if ((decide (mode ≤ y1)) : Bool) then
  some ((TO.mk ([] : List (TX)) ([] : List (TG))), 0, uu, hh, ww)
 else
  (some ((mget ww (TL.mk s.f_Tx x_k)).getD default)).bind fun y4 =>
  (some (mset ww (TL.mk s.f_Tx x_k) (if mode > y4 then mode else y4))).bind fun y6 =>
  (lT_wound (mset uu s.f_Tx (TU.mk s false)) hh y6 (TL.mk s.f_Tx x_k)).bind fun y9 =>
  (lT_on y9.2.1 y9.2.2.1 y9.2.2.2).bind fun y11 =>
  some ((TO.mk y9.1 y11.1), 0, y9.2.1, y11.2.1, y11.2.2)
def lT_Ask_c12 (uu : UT) (hh ww : PT) (s : TS) (x_k : A8 (Int)) (mode : Int) : Option ((TO) × (Int) × (UT) × (PT) × (PT)) :=
 some ((TO.mk ([] : List (TX)) ([] : List (TG))), 0, uu, hh, ww)
def lT_Ask_c15 (uu : UT) (hh ww : PT) (s : TS) (x_k : A8 (Int)) (mode : Int) : Option ((TO) × (Int) × (UT) × (PT) × (PT)) :=
 (some ((mget ww (TL.mk s.f_Tx x_k)).getD default)).bind fun y1 =>
 (some (mset ww (TL.mk s.f_Tx x_k) (if mode > y1 then mode else y1))).bind fun y3 =>
 (lT_wound uu hh y3 (TL.mk s.f_Tx x_k)).bind fun y6 =>
 (lT_on y6.2.1 y6.2.2.1 y6.2.2.2).bind fun y8 =>
 some ((TO.mk y6.1 y8.1), 0, y6.2.1, y8.2.1, y8.2.2)
def lT_Ask_c5 (uu : UT) (hh ww : PT) (s : TS) (x_k : A8 (Int)) (mode : Int) : Option ((TO) × (Int) × (UT) × (PT) × (PT)) :=
 if (((mget uu s.f_Tx).isSome) : Bool) then
  (mget uu s.f_Tx).bind fun y2 =>
  if (y2.f_prepared : Bool) then
   lT_Ask_c8 uu hh ww s x_k mode
  else
   (some ((mget hh (TL.mk s.f_Tx x_k)).getD default)).bind fun y5 =>
   if ((decide (mode ≤ y5)) : Bool) then
    lT_Ask_c12 uu hh ww s x_k mode
   else
    lT_Ask_c15 uu hh ww s x_k mode
 else
  if ((((uu).length : Int) == 64) : Bool) then
   lT_Ask_c10 uu hh ww s x_k mode
  else
   lT_Ask_c11 uu hh ww s x_k mode
def lT_Ask (uu : UT) (hh ww : PT) (s : TS) (x_k : A8 (Int)) (mode : Int) : Option ((TO) × (Int) × (UT) × (PT) × (PT)) :=
 (lT_ok uu hh ww).bind fun y2 =>
 (ids_StampMay s).bind fun y4 =>
 if ((!y4) : Bool) then
  some ((TO.mk ([] : List (TX)) ([] : List (TG))), 1, uu, hh, ww)
 else
  (lock_keyMay x_k).bind fun y7 =>
  if ((!y7) : Bool) then
   lT_Ask_c4 uu hh ww s x_k mode
  else
   if ((mode != 1) : Bool) then
    if ((mode != 2) : Bool) then
     lT_Ask_c4 uu hh ww s x_k mode
    else
     lT_Ask_c5 uu hh ww s x_k mode
   else
    lT_Ask_c5 uu hh ww s x_k mode
abbrev lT_Ask_K1000004 (uu : UT) (hh ww : PT) (r : (TO) × (Int) × (UT) × (PT) × (PT)) : Prop := Kt_ w0 W μ0 Tryz.f33 4 4 (lT_Ask_v r) (lT_Ask_up r) (kAtR (bodyOf Tryz.f33) 4) (n_ 8 ((.ptr 4 0 0) :: n_ 101 [])) [some (.var [.map 1, .map 2, .map 3]), some (oP1 uu []), some (oM3 hh), some (oM3 ww), some (.var [.nilsl, .nilsl])]
abbrev lT_Ask_K1000008 (uu : UT) (hh ww : PT) (r : (TO) × (Int) × (UT) × (PT) × (PT)) : Prop := Kt_ w0 W μ0 Tryz.f33 4 4 (lT_Ask_v r) (lT_Ask_up r) (kAtR (bodyOf Tryz.f33) 8) (n_ 8 ((.ptr 4 0 0) :: n_ 101 [])) [some (.var [.map 1, .map 2, .map 3]), some (oP1 uu []), some (oM3 hh), some (oM3 ww), some (.var [.nilsl, .nilsl])]
abbrev lT_Ask_K1000010 (uu : UT) (hh ww : PT) (r : (TO) × (Int) × (UT) × (PT) × (PT)) : Prop := Kt_ w0 W μ0 Tryz.f33 4 4 (lT_Ask_v r) (lT_Ask_up r) (kAtR (bodyOf Tryz.f33) 10) (n_ 8 ((.ptr 4 0 0) :: n_ 101 [])) [some (.var [.map 1, .map 2, .map 3]), some (oP1 uu []), some (oM3 hh), some (oM3 ww), some (.var [.nilsl, .nilsl])]
abbrev lT_Ask_K1000011 (uu : UT) (hh ww : PT) (s : TS) (x_k : A8 (Int)) (mode : Int) (r : (TO) × (Int) × (UT) × (PT) × (PT)) : Prop := Kt_ w0 W μ0 Tryz.f33 4 4 (lT_Ask_v r) (lT_Ask_up r) (kAtR (bodyOf Tryz.f33) 11) ((.ptr 0 0 0) :: .any :: .any :: (.int .u8 mode) :: .any :: (.ptr 4 0 0) :: .any :: .any :: (.ptr 5 0 0) :: .any :: (.ptr 6 0 0) :: .nilptr :: n_ 98 []) [some (.var [.map 1, .map 2, .map 3]), some (oP1 uu []), some (oM3 hh), some (oM3 ww), some (.var (c_TS s)), some (.var [.nilsl, .nilsl]), some (.var (c_TL (TL.mk s.f_Tx x_k)))]
abbrev lT_Ask_K1000012 (uu : UT) (hh ww : PT) (r : (TO) × (Int) × (UT) × (PT) × (PT)) : Prop := Kt_ w0 W μ0 Tryz.f33 4 4 (lT_Ask_v r) (lT_Ask_up r) (kAtR (bodyOf Tryz.f33) 12) (n_ 8 ((.ptr 4 0 0) :: n_ 101 [])) [some (.var [.map 1, .map 2, .map 3]), some (oP1 uu []), some (oM3 hh), some (oM3 ww), some (.var [.nilsl, .nilsl])]
abbrev lT_Ask_K1000015 (uu : UT) (hh ww : PT) (s : TS) (x_k : A8 (Int)) (mode : Int) (r : (TO) × (Int) × (UT) × (PT) × (PT)) : Prop := Kt_ w0 W μ0 Tryz.f33 4 4 (lT_Ask_v r) (lT_Ask_up r) (kAtR (bodyOf Tryz.f33) 15) ((.ptr 0 0 0) :: .any :: .any :: (.int .u8 mode) :: n_ 4 ((.ptr 4 0 0) :: .any :: (.ptr 5 0 0) :: n_ 99 [])) [some (.var [.map 1, .map 2, .map 3]), some (oP1 uu []), some (oM3 hh), some (oM3 ww), some (.var [.nilsl, .nilsl]), some (.var (c_TL (TL.mk s.f_Tx x_k)))]
abbrev lT_Ask_K1000005 (uu : UT) (hh ww : PT) (s : TS) (x_k : A8 (Int)) (mode : Int) (r : (TO) × (Int) × (UT) × (PT) × (PT)) : Prop := Kt_ w0 W μ0 Tryz.f33 4 4 (lT_Ask_v r) (lT_Ask_up r) (kAtR (bodyOf Tryz.f33) 5) ((.ptr 0 0 0) :: .any :: .any :: (.int .u8 mode) :: .any :: (.ptr 4 0 0) :: (.ptr 5 0 0) :: .any :: (.ptr 6 0 0) :: n_ 101 []) [some (.var [.map 1, .map 2, .map 3]), some (oP1 uu []), some (oM3 hh), some (oM3 ww), some (.var (c_TS s)), some (.var [.int .u8 x_k.a0, .int .u8 x_k.a1, .int .u8 x_k.a2, .int .u8 x_k.a3, .int .u8 x_k.a4, .int .u8 x_k.a5, .int .u8 x_k.a6, .int .u8 x_k.a7]), some (.var [.nilsl, .nilsl])]
theorem lT_Ask_c4_ok {w0 W μ0} (hμ : Lt_ μ0 4) (uu : UT) (hh ww : PT) (s : TS) (x_k : A8 (Int)) (mode : Int) (r : (TO) × (Int) × (UT) × (PT) × (PT)) (h : lT_Ask_c4 uu hh ww s x_k mode = some r) : lT_Ask_K1000004 w0 W μ0 uu hh ww r := by
 unfold lT_Ask_c4 at h
 obtain rfl := si_ h
 exact rr_ [] 13 [.reg [], .wk [] [(4, .var [.ds 3 (([] : List (TX))).length (rowF c_TX default ([] : List (TX))), .nilsl])], .wk [] [(4, .var (c_TO (TO.mk ([] : List (TX)) ([] : List (TG)))))]]
  (q22 (q15 (q13 (Eq.refl true) (q8 (Eq.refl 2) (le_ 2 2 rfl) (Eq.refl 0)) tr) (LO.Sub.var (a := [.nilsl, .nilsl]) (b := [.ds 3 (([] : List (TX))).length (rowF c_TX default ([] : List (TX))), .nilsl]) (a_ (le_nil_ds 3 (rowF c_TX default [])) (a_ (LV.Le.refl (.nilsl)) tr))) (LO.Sub.var (a := [.ds 3 (([] : List (TX))).length (rowF c_TX default ([] : List (TX))), .nilsl]) (b := [.ds 3 (([] : List (TX))).length (rowF c_TX default ([] : List (TX))), .ds 12 (([] : List (TG))).length (rowF c_TG default ([] : List (TG)))]) (a_ (LV.Le.refl (.ds 3 (([] : List (TX))).length (rowF c_TX default ([] : List (TX))))) (a_ (le_nil_ds 12 (rowF c_TG default [])) tr)))) (le_ 2 2 rfl))
theorem lT_Ask_c8_ok {w0 W μ0} (hμ : Lt_ μ0 4) (uu : UT) (hh ww : PT) (s : TS) (x_k : A8 (Int)) (mode : Int) (r : (TO) × (Int) × (UT) × (PT) × (PT)) (h : lT_Ask_c8 uu hh ww s x_k mode = some r) : lT_Ask_K1000008 w0 W μ0 uu hh ww r := by
 unfold lT_Ask_c8 at h
 obtain rfl := si_ h
 exact rr_ [] 13 [.reg [], .wk [] [(4, .var [.ds 3 (([] : List (TX))).length (rowF c_TX default ([] : List (TX))), .nilsl])], .wk [] [(4, .var (c_TO (TO.mk ([] : List (TX)) ([] : List (TG)))))]]
  (q22 (q15 (q13 (Eq.refl true) (q8 (Eq.refl 2) (le_ 2 2 rfl) (Eq.refl 0)) tr) (LO.Sub.var (a := [.nilsl, .nilsl]) (b := [.ds 3 (([] : List (TX))).length (rowF c_TX default ([] : List (TX))), .nilsl]) (a_ (le_nil_ds 3 (rowF c_TX default [])) (a_ (LV.Le.refl (.nilsl)) tr))) (LO.Sub.var (a := [.ds 3 (([] : List (TX))).length (rowF c_TX default ([] : List (TX))), .nilsl]) (b := [.ds 3 (([] : List (TX))).length (rowF c_TX default ([] : List (TX))), .ds 12 (([] : List (TG))).length (rowF c_TG default ([] : List (TG)))]) (a_ (LV.Le.refl (.ds 3 (([] : List (TX))).length (rowF c_TX default ([] : List (TX))))) (a_ (le_nil_ds 12 (rowF c_TG default [])) tr)))) (le_ 2 2 rfl))
theorem lT_Ask_c10_ok {w0 W μ0} (hμ : Lt_ μ0 4) (uu : UT) (hh ww : PT) (s : TS) (x_k : A8 (Int)) (mode : Int) (r : (TO) × (Int) × (UT) × (PT) × (PT)) (h : lT_Ask_c10 uu hh ww s x_k mode = some r) : lT_Ask_K1000010 w0 W μ0 uu hh ww r := by
 unfold lT_Ask_c10 at h
 obtain rfl := si_ h
 exact rr_ [] 13 [.reg [], .wk [] [(4, .var [.ds 3 (([] : List (TX))).length (rowF c_TX default ([] : List (TX))), .nilsl])], .wk [] [(4, .var (c_TO (TO.mk ([] : List (TX)) ([] : List (TG)))))]]
  (q22 (q15 (q13 (Eq.refl true) (q8 (Eq.refl 2) (le_ 2 2 rfl) (Eq.refl 0)) tr) (LO.Sub.var (a := [.nilsl, .nilsl]) (b := [.ds 3 (([] : List (TX))).length (rowF c_TX default ([] : List (TX))), .nilsl]) (a_ (le_nil_ds 3 (rowF c_TX default [])) (a_ (LV.Le.refl (.nilsl)) tr))) (LO.Sub.var (a := [.ds 3 (([] : List (TX))).length (rowF c_TX default ([] : List (TX))), .nilsl]) (b := [.ds 3 (([] : List (TX))).length (rowF c_TX default ([] : List (TX))), .ds 12 (([] : List (TG))).length (rowF c_TG default ([] : List (TG)))]) (a_ (LV.Le.refl (.ds 3 (([] : List (TX))).length (rowF c_TX default ([] : List (TX))))) (a_ (le_nil_ds 12 (rowF c_TG default [])) tr)))) (le_ 2 2 rfl))
theorem lT_Ask_c11_ok {w0 W μ0} (hμ : Lt_ μ0 4) (uu : UT) (hh ww : PT) (s : TS) (x_k : A8 (Int)) (mode : Int) (r : (TO) × (Int) × (UT) × (PT) × (PT)) (h : lT_Ask_c11 uu hh ww s x_k mode = some r) : lT_Ask_K1000011 w0 W μ0 uu hh ww s x_k mode r := by
 unfold lT_Ask_c11 at h
 obtain ⟨y1, E2, h⟩ := bs_ h
 rcases it_ h with ⟨C3, h⟩ | ⟨C3, h⟩
 ·obtain rfl := si_ h
  exact rr_ [] 17 [.reg [(5, { look := ((mget hh (TL.mk s.f_Tx x_k)).map (LV.int .u8)), v := some (.int .u8 y1) }), (8, hT)], .reg [], .wk [] [(5, .var [.ds 3 (([] : List (TX))).length (rowF c_TX default ([] : List (TX))), .nilsl])], .wk [] [(5, .var (c_TO (TO.mk ([] : List (TX)) ([] : List (TG)))))]]
   (q22 (q0 (q2 (l_ 1 3 rfl (m_ 11 11 rfl (a_ (a_ (a_ (Eq.refl true) (findE_enc v_TL (LV.int .u8) k_TL hh (TL.mk s.f_Tx x_k))) (a_ (LV.Le.trans (le_look (LV.int .u8) (mget hh (TL.mk s.f_Tx x_k)) default) (le_nm (LV.int .u8) E2)) tr)) (r2_ (f_ C3 tr)))))) (q13 (Eq.refl true) (q8 (Eq.refl 2) (le_ 2 2 rfl) (Eq.refl 0)) tr) (q3 tr (LO.Sub.var (a := [.nilsl, .nilsl]) (b := [.ds 3 (([] : List (TX))).length (rowF c_TX default ([] : List (TX))), .nilsl]) (a_ (le_nil_ds 3 (rowF c_TX default [])) (a_ (LV.Le.refl (.nilsl)) tr)))) (q9 tr (LO.Sub.var (a := [.ds 3 (([] : List (TX))).length (rowF c_TX default ([] : List (TX))), .nilsl]) (b := [.ds 3 (([] : List (TX))).length (rowF c_TX default ([] : List (TX))), .ds 12 (([] : List (TG))).length (rowF c_TG default ([] : List (TG)))]) (a_ (LV.Le.refl (.ds 3 (([] : List (TX))).length (rowF c_TX default ([] : List (TX))))) (a_ (le_nil_ds 12 (rowF c_TG default [])) tr))))) (le_ 2 2 rfl))
 ·obtain ⟨y4, E5, h⟩ := bs_ h
  obtain ⟨y6, E7, h⟩ := bs_ h
  obtain ⟨y9, E8, h⟩ := bs_ h
  obtain ⟨y11, E10, h⟩ := bs_ h
  obtain rfl := si_ h
  exact rr_ [] 30 [.reg [(5, { look := ((mget hh (TL.mk s.f_Tx x_k)).map (LV.int .u8)), v := some (.int .u8 y1) }), (8, hF)], .reg [], .reg [(9, { os := [(1, oP1 (mset uu s.f_Tx (TU.mk s false)) [])] })], .reg [(10, { look := ((mget ww (TL.mk s.f_Tx x_k)).map (LV.int .u8)), v := some (.int .u8 y4) }), (13, { os := [(3, oM3 y6)] })], .reg [(2, hk_ (hK_ [0, 1, 2, 3] (lT_wound_v y9) (lT_wound_objs (mset uu s.f_Tx (TU.mk s false)) hh y6) (lT_wound_up y9)))], .reg [(2, hk_ (hK_ [0, 1, 2, 3] (lT_on_v y11) (lT_on_objs y9.2.1 y9.2.2.1 y9.2.2.2) (lT_on_up y9.2.1 y11)))]]
   (q22 (q0 (q2 (l_ 1 3 rfl (m_ 11 11 rfl (a_ (a_ (a_ (Eq.refl true) (findE_enc v_TL (LV.int .u8) k_TL hh (TL.mk s.f_Tx x_k))) (a_ (LV.Le.trans (le_look (LV.int .u8) (mget hh (TL.mk s.f_Tx x_k)) default) (le_nm (LV.int .u8) E2)) tr)) (r2_ (f_ C3 tr)))))) (r2_ tr) (q2 (l_ 0 3 rfl (r1_ (m_ 4 4 rfl (m_ 4 4 rfl (a_ (a_ (Eq.refl true) tr) (r1_ (a_ (a_ (a_ (Eq.refl true) (a_ (Eq.refl true) (show 1 ≠ 7 from by decide))) (a_ (pm_upd v_TX c_TU k_TX true ks0 [] uu s.f_Tx (TU.mk s false)) tr)) tr)))))))) (q7 (q2 (l_ 2 3 rfl (m_ 11 11 rfl (r1_ (r2_ (l_ 2 3 rfl (m_ 11 11 rfl (a_ (a_ (a_ (Eq.refl true) (findE_enc v_TL (LV.int .u8) k_TL ww (TL.mk s.f_Tx x_k))) (a_ (LV.Le.trans (le_look (LV.int .u8) (mget ww (TL.mk s.f_Tx x_k)) default) (le_nm (LV.int .u8) E5)) tr)) (r2_ (a_ (a_ (a_ (Eq.refl true) (Eq.refl true)) (a_ (LO.Sub.trans (sub_upd v_TL (LV.int .u8) k_TL true ks2 ww (TL.mk s.f_Tx x_k) (if mode > y4 then mode else y4)) (LO.Sub.of_eq (nm_eq (fun l_ => oM3 l_) E7))) tr)) tr)))))))))) (m_ 11 11 rfl (a_ (a_ (a_ (lT_wound_ok (mset uu s.f_Tx (TU.mk s false)) hh y6 (TL.mk s.f_Tx x_k) y9 E8 (sel [0, 1, 2, 3]) sj_) (a_ (rl_ (.var [.map 1, .map 2, .map 3])) (a_ (Eq.refl (oP1 (mset uu s.f_Tx (TU.mk s false)) [] : LO)) (a_ (rl_ (oM3 hh)) (a_ (rl_ (oM3 y6)) tr))))) tr) (r1_ tr))) (r2_ (q0 (q1 (a_ (lT_on_ok y9.2.1 y9.2.2.1 y9.2.2.2 y11 E10 (sel [0, 1, 2, 3]) sj_) (o4_ [.map 1, .map 2, .map 3] y9.2.1 y9.2.2.1 y9.2.2.2))) (q1 (Eq.refl true)) (q1 (q8 (Eq.refl 2) (le_ 2 2 rfl) (Eq.refl 0))) (r1_ tr))) tr)) (le_ 2 2 rfl))
theorem lT_Ask_c12_ok {w0 W μ0} (hμ : Lt_ μ0 4) (uu : UT) (hh ww : PT) (s : TS) (x_k : A8 (Int)) (mode : Int) (r : (TO) × (Int) × (UT) × (PT) × (PT)) (h : lT_Ask_c12 uu hh ww s x_k mode = some r) : lT_Ask_K1000012 w0 W μ0 uu hh ww r := by
 unfold lT_Ask_c12 at h
 obtain rfl := si_ h
 exact rr_ [] 13 [.reg [], .wk [] [(4, .var [.ds 3 (([] : List (TX))).length (rowF c_TX default ([] : List (TX))), .nilsl])], .wk [] [(4, .var (c_TO (TO.mk ([] : List (TX)) ([] : List (TG)))))]]
  (q22 (q15 (q13 (Eq.refl true) (q8 (Eq.refl 2) (le_ 2 2 rfl) (Eq.refl 0)) tr) (LO.Sub.var (a := [.nilsl, .nilsl]) (b := [.ds 3 (([] : List (TX))).length (rowF c_TX default ([] : List (TX))), .nilsl]) (a_ (le_nil_ds 3 (rowF c_TX default [])) (a_ (LV.Le.refl (.nilsl)) tr))) (LO.Sub.var (a := [.ds 3 (([] : List (TX))).length (rowF c_TX default ([] : List (TX))), .nilsl]) (b := [.ds 3 (([] : List (TX))).length (rowF c_TX default ([] : List (TX))), .ds 12 (([] : List (TG))).length (rowF c_TG default ([] : List (TG)))]) (a_ (LV.Le.refl (.ds 3 (([] : List (TX))).length (rowF c_TX default ([] : List (TX))))) (a_ (le_nil_ds 12 (rowF c_TG default [])) tr)))) (le_ 2 2 rfl))
theorem lT_Ask_c15_ok {w0 W μ0} (hμ : Lt_ μ0 4) (uu : UT) (hh ww : PT) (s : TS) (x_k : A8 (Int)) (mode : Int) (r : (TO) × (Int) × (UT) × (PT) × (PT)) (h : lT_Ask_c15 uu hh ww s x_k mode = some r) : lT_Ask_K1000015 w0 W μ0 uu hh ww s x_k mode r := by
 unfold lT_Ask_c15 at h
 obtain ⟨y1, E2, h⟩ := bs_ h
 obtain ⟨y3, E4, h⟩ := bs_ h
 obtain ⟨y6, E5, h⟩ := bs_ h
 obtain ⟨y8, E7, h⟩ := bs_ h
 obtain rfl := si_ h
 exact rr_ [] 17 [.reg [(10, { look := ((mget ww (TL.mk s.f_Tx x_k)).map (LV.int .u8)), v := some (.int .u8 y1) }), (13, { os := [(3, oM3 y3)] })], .reg [(2, hk_ (hK_ [0, 1, 2, 3] (lT_wound_v y6) (lT_wound_objs uu hh y3) (lT_wound_up y6)))], .reg [(2, hk_ (hK_ [0, 1, 2, 3] (lT_on_v y8) (lT_on_objs y6.2.1 y6.2.2.1 y6.2.2.2) (lT_on_up y6.2.1 y8)))]]
  (q22 (q7 (q2 (l_ 2 3 rfl (m_ 11 11 rfl (r1_ (r2_ (l_ 2 3 rfl (m_ 11 11 rfl (a_ (a_ (a_ (Eq.refl true) (findE_enc v_TL (LV.int .u8) k_TL ww (TL.mk s.f_Tx x_k))) (a_ (LV.Le.trans (le_look (LV.int .u8) (mget ww (TL.mk s.f_Tx x_k)) default) (le_nm (LV.int .u8) E2)) tr)) (r2_ (a_ (a_ (a_ (Eq.refl true) (Eq.refl true)) (a_ (LO.Sub.trans (sub_upd v_TL (LV.int .u8) k_TL true ks2 ww (TL.mk s.f_Tx x_k) (if mode > y1 then mode else y1)) (LO.Sub.of_eq (nm_eq (fun l_ => oM3 l_) E4))) tr)) tr)))))))))) (m_ 11 11 rfl (a_ (a_ (a_ (lT_wound_ok uu hh y3 (TL.mk s.f_Tx x_k) y6 E5 (sel [0, 1, 2, 3]) sj_) (o4_ [.map 1, .map 2, .map 3] uu hh y3)) tr) (r1_ tr))) (r2_ (q0 (q1 (a_ (lT_on_ok y6.2.1 y6.2.2.1 y6.2.2.2 y8 E7 (sel [0, 1, 2, 3]) sj_) (o4_ [.map 1, .map 2, .map 3] y6.2.1 y6.2.2.1 y6.2.2.2))) (q1 (Eq.refl true)) (q1 (q8 (Eq.refl 2) (le_ 2 2 rfl) (Eq.refl 0))) (r1_ tr))) tr) (le_ 2 2 rfl))
theorem lT_Ask_c5_ok {w0 W μ0} (hμ : Lt_ μ0 4) (uu : UT) (hh ww : PT) (s : TS) (x_k : A8 (Int)) (mode : Int) (r : (TO) × (Int) × (UT) × (PT) × (PT)) (h : lT_Ask_c5 uu hh ww s x_k mode = some r) : lT_Ask_K1000005 w0 W μ0 uu hh ww s x_k mode r := by
 unfold lT_Ask_c5 at h
 rcases it_ h with ⟨C1, h⟩ | ⟨C1, h⟩
 ·obtain ⟨y2, E3, h⟩ := bs_ h
  rcases it_ h with ⟨C4, h⟩ | ⟨C4, h⟩
  ·exact rt_ hμ [6] 24 [.reg [], .x (.p (.po 1 (v_TX s.f_Tx) (c_TU y2))), .reg [(6, { look := some (.ptr 8 0 0) })], .reg [(8, hT)], .x (.p (.pc 1)), .wk [] [(1, oP1 uu [])]]
    (q0 (r1_ (m_ 4 4 rfl (m_ 8 8 rfl (a_ (a_ (Eq.refl true) tr) (r1_ (a_ (a_ (a_ (Eq.refl 11) (a_ (le_ 11 11 rfl) (Eq.refl 0))) tr) tr)))))) (a_ (pmIn v_TX c_TU E3) (pmO0 v_TX s.f_Tx)) (q2 (l_ 0 3 rfl (r1_ (m_ 4 4 rfl (a_ (a_ (a_ (Eq.refl true) (a_ (pmSi v_TX c_TU k_TX uu s.f_Tx (isS E3)) (List.mem_cons_self (a := ((v_TX s.f_Tx, 8) : LV × Nat)) (l := [])))) tr) (r1_ tr)))))) (q0 (q23 (l_ 4 5 rfl (r1_ (f_ C4 tr)))) (q0 (getP_enc v_TX c_TU k_TX uu s.f_Tx E3) (Eq.refl true) (Eq.refl true) (show 1 ≠ 8 from by decide)) (q3 tr (pm_same v_TX c_TU k_TX true ks0 [] (m := uu) (k := s.f_Tx) E3)) tr)) (lT_Ask_c8_ok hμ uu hh ww s x_k mode r h) ⟨rfl, uP, trivial, trivial, rfl, trivial⟩
  ·obtain ⟨y5, E6, h⟩ := bs_ h
   rcases it_ h with ⟨C7, h⟩ | ⟨C7, h⟩
   ·exact rt_ hμ [6] 32 [.reg [], .x (.p (.po 1 (v_TX s.f_Tx) (c_TU y2))), .reg [(6, { look := some (.ptr 8 0 0) })], .reg [(8, hF)], .reg [], .reg [(5, { look := ((mget hh (TL.mk s.f_Tx x_k)).map (LV.int .u8)), v := some (.int .u8 y5) }), (8, hT)], .x (.p (.pc 1)), .wk [] [(1, oP1 uu [])]]
     (q0 (r1_ (m_ 4 4 rfl (m_ 8 8 rfl (a_ (a_ (Eq.refl true) tr) (r1_ (a_ (a_ (a_ (Eq.refl 11) (a_ (le_ 11 11 rfl) (Eq.refl 0))) tr) tr)))))) (a_ (pmIn v_TX c_TU E3) (pmO0 v_TX s.f_Tx)) (q2 (l_ 0 3 rfl (r1_ (m_ 4 4 rfl (a_ (a_ (a_ (Eq.refl true) (a_ (pmSi v_TX c_TU k_TX uu s.f_Tx (isS E3)) (List.mem_cons_self (a := ((v_TX s.f_Tx, 8) : LV × Nat)) (l := [])))) tr) (r1_ tr)))))) (q0 (q23 (l_ 4 5 rfl (r1_ (f_ C4 tr)))) (q2 (t2_ (t4_ (r2_ tr)))) (q2 (l_ 1 3 rfl (m_ 11 11 rfl (a_ (a_ (a_ (Eq.refl true) (findE_enc v_TL (LV.int .u8) k_TL hh (TL.mk s.f_Tx x_k))) (a_ (LV.Le.trans (le_look (LV.int .u8) (mget hh (TL.mk s.f_Tx x_k)) default) (le_nm (LV.int .u8) E6)) tr)) (r2_ (f_ C7 tr)))))) (q3 (q0 (getP_enc v_TX c_TU k_TX uu s.f_Tx E3) (Eq.refl true) (Eq.refl true) (show 1 ≠ 8 from by decide)) (q3 tr (pm_same v_TX c_TU k_TX true ks0 [] (m := uu) (k := s.f_Tx) E3))))) (lT_Ask_c12_ok hμ uu hh ww s x_k mode r h) ⟨rfl, uP, trivial, trivial, rfl, trivial⟩
   ·exact rt_ hμ [6, 7] 40 [.reg [], .x (.p (.po 1 (v_TX s.f_Tx) (c_TU y2))), .reg [(6, { look := some (.ptr 8 0 0) })], .reg [(8, hF)], .reg [], .reg [(5, { look := ((mget hh (TL.mk s.f_Tx x_k)).map (LV.int .u8)), v := some (.int .u8 y5) }), (8, hF)], .reg [], .x (.p (.pc 1)), .wk [] [(1, oP1 uu [])]]
     (q0 (r1_ (m_ 4 4 rfl (m_ 8 8 rfl (a_ (a_ (Eq.refl true) tr) (r1_ (a_ (a_ (a_ (Eq.refl 11) (a_ (le_ 11 11 rfl) (Eq.refl 0))) tr) tr)))))) (a_ (pmIn v_TX c_TU E3) (pmO0 v_TX s.f_Tx)) (q2 (l_ 0 3 rfl (r1_ (m_ 4 4 rfl (a_ (a_ (a_ (Eq.refl true) (a_ (pmSi v_TX c_TU k_TX uu s.f_Tx (isS E3)) (List.mem_cons_self (a := ((v_TX s.f_Tx, 8) : LV × Nat)) (l := [])))) tr) (r1_ tr)))))) (q0 (q23 (l_ 4 5 rfl (r1_ (f_ C4 tr)))) (q2 (t2_ (t4_ (r2_ tr)))) (q2 (l_ 1 3 rfl (m_ 11 11 rfl (a_ (a_ (a_ (Eq.refl true) (findE_enc v_TL (LV.int .u8) k_TL hh (TL.mk s.f_Tx x_k))) (a_ (LV.Le.trans (le_look (LV.int .u8) (mget hh (TL.mk s.f_Tx x_k)) default) (le_nm (LV.int .u8) E6)) tr)) (r2_ (f_ C7 tr)))))) (q0 (r2_ tr) (q0 (getP_enc v_TX c_TU k_TX uu s.f_Tx E3) (Eq.refl true) (Eq.refl true) (show 1 ≠ 8 from by decide)) (q3 tr (pm_same v_TX c_TU k_TX true ks0 [] (m := uu) (k := s.f_Tx) E3)) tr))) (lT_Ask_c15_ok hμ uu hh ww s x_k mode r h) ⟨rfl, uP, trivial, trivial, rfl, rfl, trivial⟩
 ·rcases it_ h with ⟨C2, h⟩ | ⟨C2, h⟩
  ·exact rt_ hμ [6] 25 [.reg [], .reg [(6, { look := none })], .reg [], .reg [(7, hv_ (.int .i64 ((uu).length : Int))), (10, hT)]]
    (q0 (r1_ (m_ 4 4 rfl (m_ 8 8 rfl (a_ (a_ (Eq.refl true) tr) (r1_ (a_ (a_ (a_ (Eq.refl 11) (a_ (le_ 11 11 rfl) (Eq.refl 0))) tr) tr)))))) (q2 (l_ 0 3 rfl (r1_ (m_ 4 4 rfl (a_ (a_ (a_ (Eq.refl true) (pmN v_TX c_TU k_TX uu s.f_Tx C1)) tr) (r1_ tr)))))) (q2 (t4_ (r2_ tr))) (q14 (r4_ (l_ 0 3 rfl (a_ (a_ tr (a_ (le_pmlen v_TX c_TU uu) tr)) (r2_ (f_ C2 tr))))))) (lT_Ask_c10_ok hμ uu hh ww s x_k mode r h) ⟨rfl, uP, trivial, trivial, rfl, trivial⟩
  ·exact rt_ hμ [4, 6, 7] 25 [.reg [], .reg [(6, { look := none })], .reg [], .reg [(7, hv_ (.int .i64 ((uu).length : Int))), (10, hF)]]
    (q0 (r1_ (m_ 4 4 rfl (m_ 8 8 rfl (a_ (a_ (Eq.refl true) tr) (r1_ (a_ (a_ (a_ (Eq.refl 11) (a_ (le_ 11 11 rfl) (Eq.refl 0))) tr) tr)))))) (q2 (l_ 0 3 rfl (r1_ (m_ 4 4 rfl (a_ (a_ (a_ (Eq.refl true) (pmN v_TX c_TU k_TX uu s.f_Tx C1)) tr) (r1_ tr)))))) (q2 (t4_ (r2_ tr))) (q14 (r4_ (l_ 0 3 rfl (a_ (a_ tr (a_ (le_pmlen v_TX c_TU uu) tr)) (r2_ (f_ C2 tr))))))) (lT_Ask_c11_ok hμ uu hh ww s x_k mode r h) ⟨rfl, uP, trivial, trivial, rfl, rfl, rfl, trivial⟩
theorem lT_Ask_ok (uu : UT) (hh ww : PT) (s : TS) (x_k : A8 (Int)) (mode : Int) (r : (TO) × (Int) × (UT) × (PT) × (PT)) (h : lT_Ask uu hh ww s x_k mode = some r) : ∀ σ, Inj 4 σ → FnTri Tryz.prog 33 (renL σ [.ptr 0 0 0, v_TS s, .agg [.int .u8 x_k.a0, .int .u8 x_k.a1, .int .u8 x_k.a2, .int .u8 x_k.a3, .int .u8 x_k.a4, .int .u8 x_k.a5, .int .u8 x_k.a6, .int .u8 x_k.a7], .int .u8 mode]) (preOf σ 0 (lT_Ask_objs uu hh ww)) ((lT_Ask_v r).ren σ) (upOf σ (lT_Ask_up r)) := by
 refine fo_ Tryz.func33 ⟨rfl, uP, trivial, trivial, trivial⟩ ⟨rfl, uP, trivial, trivial, trivial⟩ ?_
 intro w0 W μ0 hμ
 unfold lT_Ask at h
 obtain ⟨y2, e1, h⟩ := bs_ h
 obtain ⟨y4, e3, h⟩ := bs_ h
 rcases it_ h with ⟨c5, h⟩ | ⟨c5, h⟩
 ·obtain rfl := si_ h
  exact rr_ [] 27 [.reg [], .reg [(1, hk_ (hK_ [0, 1, 2, 3] (lT_ok_v y2) (lT_ok_objs uu hh ww) (lT_ok_up hh ww y2)))], .reg [(1, hC (ids_StampMay_v y4)), (3, hT)], .reg [], .wk [] [(6, .var [.ds 3 (([] : List (TX))).length (rowF c_TX default ([] : List (TX))), .nilsl])], .wk [] [(6, .var (c_TO (TO.mk ([] : List (TX)) ([] : List (TG)))))]]
   (q22 (q7 (r4_ tr) (q24 (q16 (lT_ok_ok uu hh ww y2 e1 (sel [0, 1, 2, 3]) sj_) (rl_ (.var [.map 1, .map 2, .map 3])) (le_pmR v_TX c_TU (ag := true) (ks := ks0) (m := uu) (opn := [])) (q3 (rl_ (oM3 hh)) (rl_ (oM3 ww))))) (m_ 4 4 rfl (c_ (ids_StampMay_tri s y4 e3) (r1_ (f_ c5 (a_ tr (t2_ (r2_ (t2_ (t4_ (r2_ tr)))))))))) (q15 (q13 (Eq.refl true) (q8 (Eq.refl 2) (le_ 2 2 rfl) (Eq.refl 0)) tr) (LO.Sub.var (a := [.nilsl, .nilsl]) (b := [.ds 3 (([] : List (TX))).length (rowF c_TX default ([] : List (TX))), .nilsl]) (a_ (le_nil_ds 3 (rowF c_TX default [])) (a_ (LV.Le.refl (.nilsl)) tr))) (LO.Sub.var (a := [.ds 3 (([] : List (TX))).length (rowF c_TX default ([] : List (TX))), .nilsl]) (b := [.ds 3 (([] : List (TX))).length (rowF c_TX default ([] : List (TX))), .ds 12 (([] : List (TG))).length (rowF c_TG default ([] : List (TG)))]) (a_ (LV.Le.refl (.ds 3 (([] : List (TX))).length (rowF c_TX default ([] : List (TX))))) (a_ (le_nil_ds 12 (rowF c_TG default [])) tr))))) (le_ 2 2 rfl))
 ·obtain ⟨y7, e6, h⟩ := bs_ h
  rcases it_ h with ⟨c8, h⟩ | ⟨c8, h⟩
  ·exact rt_ hμ [6] 23 [.reg [], .reg [(1, hk_ (hK_ [0, 1, 2, 3] (lT_ok_v y2) (lT_ok_objs uu hh ww) (lT_ok_up hh ww y2)))], .reg [(1, hC (ids_StampMay_v y4)), (3, hF), (5, hC (lock_keyMay_v y7)), (8, hT)]]
    (q7 (r4_ tr) (q24 (q16 (lT_ok_ok uu hh ww y2 e1 (sel [0, 1, 2, 3]) sj_) (rl_ (.var [.map 1, .map 2, .map 3])) (le_pmR v_TX c_TU (ag := true) (ks := ks0) (m := uu) (opn := [])) (q3 (rl_ (oM3 hh)) (rl_ (oM3 ww))))) (m_ 4 4 rfl (c_ (ids_StampMay_tri s y4 e3) (r1_ (f_ c5 (m_ 8 8 rfl (c_ (lock_keyMay_tri x_k y7 e6) (r2_ (f_ c8 (t2_ (t4_ (r2_ tr))))))))))) tr) (lT_Ask_c4_ok hμ uu hh ww s x_k mode r h) ⟨rfl, uP, trivial, trivial, rfl, trivial⟩
  ·rcases it_ h with ⟨c9, h⟩ | ⟨c9, h⟩
   ·rcases it_ h with ⟨c10, h⟩ | ⟨c10, h⟩
    ·exact rt_ hμ [6] 23 [.reg [], .reg [(1, hk_ (hK_ [0, 1, 2, 3] (lT_ok_v y2) (lT_ok_objs uu hh ww) (lT_ok_up hh ww y2)))], .reg [(1, hC (ids_StampMay_v y4)), (3, hF), (5, hC (lock_keyMay_v y7)), (8, hF), (11, hT), (16, hT)]]
      (q7 (r4_ tr) (q24 (q16 (lT_ok_ok uu hh ww y2 e1 (sel [0, 1, 2, 3]) sj_) (rl_ (.var [.map 1, .map 2, .map 3])) (le_pmR v_TX c_TU (ag := true) (ks := ks0) (m := uu) (opn := [])) (q3 (rl_ (oM3 hh)) (rl_ (oM3 ww))))) (m_ 4 4 rfl (c_ (ids_StampMay_tri s y4 e3) (r1_ (f_ c5 (m_ 8 8 rfl (c_ (lock_keyMay_tri x_k y7 e6) (r2_ (f_ c8 (r2_ (f_ c9 (r4_ (f_ c10 tr)))))))))))) tr) (lT_Ask_c4_ok hμ uu hh ww s x_k mode r h) ⟨rfl, uP, trivial, trivial, rfl, trivial⟩
    ·exact rt_ hμ [4, 5, 6] 25 [.reg [], .reg [(1, hk_ (hK_ [0, 1, 2, 3] (lT_ok_v y2) (lT_ok_objs uu hh ww) (lT_ok_up hh ww y2)))], .reg [(1, hC (ids_StampMay_v y4)), (3, hF), (5, hC (lock_keyMay_v y7)), (8, hF), (11, hT), (16, hF)]]
      (q7 (r4_ tr) (q24 (q16 (lT_ok_ok uu hh ww y2 e1 (sel [0, 1, 2, 3]) sj_) (rl_ (.var [.map 1, .map 2, .map 3])) (le_pmR v_TX c_TU (ag := true) (ks := ks0) (m := uu) (opn := [])) (q3 (rl_ (oM3 hh)) (rl_ (oM3 ww))))) (m_ 4 4 rfl (c_ (ids_StampMay_tri s y4 e3) (r1_ (f_ c5 (m_ 8 8 rfl (c_ (lock_keyMay_tri x_k y7 e6) (r2_ (f_ c8 (r2_ (f_ c9 (r4_ (f_ c10 tr)))))))))))) tr) (lT_Ask_c5_ok hμ uu hh ww s x_k mode r h) ⟨rfl, uP, trivial, trivial, rfl, rfl, rfl, trivial⟩
   ·exact rt_ hμ [4, 5, 6] 25 [.reg [], .reg [(1, hk_ (hK_ [0, 1, 2, 3] (lT_ok_v y2) (lT_ok_objs uu hh ww) (lT_ok_up hh ww y2)))], .reg [(1, hC (ids_StampMay_v y4)), (3, hF), (5, hC (lock_keyMay_v y7)), (8, hF), (11, hF)]]
     (q7 (r4_ tr) (q24 (q16 (lT_ok_ok uu hh ww y2 e1 (sel [0, 1, 2, 3]) sj_) (rl_ (.var [.map 1, .map 2, .map 3])) (le_pmR v_TX c_TU (ag := true) (ks := ks0) (m := uu) (opn := [])) (q3 (rl_ (oM3 hh)) (rl_ (oM3 ww))))) (m_ 4 4 rfl (c_ (ids_StampMay_tri s y4 e3) (r1_ (f_ c5 (m_ 8 8 rfl (c_ (lock_keyMay_tri x_k y7 e6) (r2_ (f_ c8 (r2_ (f_ c9 (t2_ (r1_ (r2_ tr))))))))))))) tr) (lT_Ask_c5_ok hμ uu hh ww s x_k mode r h) ⟨rfl, uP, trivial, trivial, rfl, rfl, rfl, trivial⟩
def lT_Mode_v (r : (Int)) : LV := .int .u8 r
def lT_Mode_up (uu : UT) (hh ww : PT) (r : (Int)) : Upd := [(0, some (.var [.map 1, .map 2, .map 3])), (1, some (oP1 uu [])), (2, some (oM3 hh)), (3, some (oM3 ww))]
def lT_Mode_objs (uu : UT) (hh ww : PT) : List LO := [.var [.map 1, .map 2, .map 3], oP1 uu [], oM3 hh, oM3 ww]
def lT_Mode (uu : UT) (hh ww : PT) (x : TX) (x_k : A8 (Int)) : Option ((Int)) :=
 (lT_ok uu hh ww).bind fun y2 =>
 (some ((mget hh (TL.mk x x_k)).getD default)).bind fun y3 =>
 some y3
theorem lT_Mode_ok (uu : UT) (hh ww : PT) (x : TX) (x_k : A8 (Int)) (r : (Int)) (h : lT_Mode uu hh ww x x_k = some r) : ∀ σ, Inj 4 σ → FnTri Tryz.prog 16 (renL σ [.ptr 0 0 0, v_TX x, .agg [.int .u8 x_k.a0, .int .u8 x_k.a1, .int .u8 x_k.a2, .int .u8 x_k.a3, .int .u8 x_k.a4, .int .u8 x_k.a5, .int .u8 x_k.a6, .int .u8 x_k.a7]]) (preOf σ 0 (lT_Mode_objs uu hh ww)) ((lT_Mode_v r).ren σ) (upOf σ (lT_Mode_up uu hh ww r)) := by
 refine fo_ Tryz.func16 ⟨rfl, uP, trivial, trivial, trivial⟩ ⟨rfl, uP, trivial, trivial, trivial⟩ ?_
 intro w0 W μ0 hμ
 unfold lT_Mode at h
 obtain ⟨y2, e1, h⟩ := bs_ h
 obtain ⟨y3, e4, h⟩ := bs_ h
 obtain rfl := si_ h
 exact rr_ [] 21 [.reg [], .reg [(1, hk_ (hK_ [0, 1, 2, 3] (lT_ok_v y2) (lT_ok_objs uu hh ww) (lT_ok_up hh ww y2)))], .reg [(7, { look := ((mget hh (TL.mk x x_k)).map (LV.int .u8)), v := some (.int .u8 y3) })]]
  (q1 (q7 (q2 tr) (q4 (q0 (lT_ok_ok uu hh ww y2 e1 (sel [0, 1, 2, 3]) sj_) (rl_ (.var [.map 1, .map 2, .map 3])) (le_pmR v_TX c_TU (ag := true) (ks := ks0) (m := uu) (opn := [])) (q3 (rl_ (oM3 hh)) (rl_ (oM3 ww)))) tr) (q2 (l_ 1 3 rfl (m_ 3 3 rfl (m_ 8 8 rfl (a_ (a_ (Eq.refl true) tr) (a_ (a_ (a_ (Eq.refl true) (findE_enc v_TL (LV.int .u8) k_TL hh (TL.mk x x_k))) (a_ (LV.Le.trans (le_look (LV.int .u8) (mget hh (TL.mk x x_k)) default) (le_nm (LV.int .u8) e4)) tr)) (r1_ tr))))))) tr))
def pl_alive_v (r : (Bool)) : LV := .bool r
def pl_alive : Option ((Bool)) :=
 (lock_New).bind fun y2 =>
 (pl_stamp 5).bind fun y4 =>
 (lT_Ask y2.1 y2.2.1 y2.2.2 y4 (A8.mk 97 0 0 0 0 0 0 0) 1).bind fun y6 =>
 (pl_stamp 3).bind fun y8 =>
 (lT_Ask y6.2.2.1 y6.2.2.2.1 y6.2.2.2.2 y8 (A8.mk 97 0 0 0 0 0 0 0) 2).bind fun y10 =>
 if ((y6.2.1 == 0) : Bool) then
  if ((((y6.1.f_Granted).length : Int) == 1) : Bool) then
   if ((y10.2.1 == 0) : Bool) then
    if ((((y10.1.f_Wounded).length : Int) == 1) : Bool) then
     if ((((y10.1.f_Granted).length : Int) == 1) : Bool) then
      (pl_stamp 3).bind fun y17 =>
      (lT_Mode y10.2.2.1 y10.2.2.2.1 y10.2.2.2.2 y17.f_Tx (A8.mk 97 0 0 0 0 0 0 0)).bind fun y19 =>
      if ((y19 == 2) : Bool) then
       (pl_stamp 5).bind fun y22 =>
       (lT_Mode y10.2.2.1 y10.2.2.2.1 y10.2.2.2.2 y22.f_Tx (A8.mk 97 0 0 0 0 0 0 0)).bind fun y24 =>
       some (y24 == 0)
      else
       some false
     else
      some false
    else
     some false
   else
    some false
  else
   some false
 else
  some false
theorem pl_alive_ok (r : (Bool)) (h : pl_alive = some r) : ∀ σ, Inj 0 σ → FnTri Tryz.prog 11 (renL σ []) (preOf σ 0 []) ((pl_alive_v r).ren σ) (upOf σ []) := by
 refine fo_ Tryz.func11 trivial trivial ?_
 intro w0 W μ0 hμ
 unfold pl_alive at h
 obtain ⟨y2, e1, h⟩ := bs_ h
 obtain ⟨y4, e3, h⟩ := bs_ h
 obtain ⟨y6, e5, h⟩ := bs_ h
 obtain ⟨y8, e7, h⟩ := bs_ h
 obtain ⟨y10, e9, h⟩ := bs_ h
 rcases it_ h with ⟨c11, h⟩ | ⟨c11, h⟩
 ·rcases it_ h with ⟨c12, h⟩ | ⟨c12, h⟩
  ·rcases it_ h with ⟨c13, h⟩ | ⟨c13, h⟩
   ·rcases it_ h with ⟨c14, h⟩ | ⟨c14, h⟩
    ·rcases it_ h with ⟨c15, h⟩ | ⟨c15, h⟩
     ·obtain ⟨y17, e16, h⟩ := bs_ h
      obtain ⟨y19, e18, h⟩ := bs_ h
      rcases it_ h with ⟨c20, h⟩ | ⟨c20, h⟩
      ·obtain ⟨y22, e21, h⟩ := bs_ h
       obtain ⟨y24, e23, h⟩ := bs_ h
       obtain rfl := si_ h
       exact rr_ [] 33 [.reg [], .reg [(0, hk_ (hK_ [0, 1, 2, 3] (lock_New_v y2) [] (lock_New_up y2)))], .reg [], .reg [], .reg [(1, hC (pl_stamp_v y4)), (3, hk_ (hK_ [0, 1, 2, 3] (lT_Ask_v y6) (lT_Ask_objs y2.1 y2.2.1 y2.2.2) (lT_Ask_up y6)))], .reg [(1, hC (pl_stamp_v y8)), (3, hk_ (hK_ [0, 1, 2, 3] (lT_Ask_v y10) (lT_Ask_objs y6.2.2.1 y6.2.2.2.1 y6.2.2.2.2) (lT_Ask_up y10)))], .reg [(2, hT), (8, hT), (12, hT), (18, hT), (24, hT), (26, hC (pl_stamp_v y17)), (29, hk_ (hK_ [0, 1, 2, 3] (lT_Mode_v y19) (lT_Mode_objs y10.2.2.1 y10.2.2.2.1 y10.2.2.2.2) (lT_Mode_up y10.2.2.1 y10.2.2.2.1 y10.2.2.2.2 y19))), (32, hT), (34, hC (pl_stamp_v y22)), (37, hk_ (hK_ [0, 1, 2, 3] (lT_Mode_v y24) (lT_Mode_objs y10.2.2.1 y10.2.2.2.1 y10.2.2.2.2) (lT_Mode_up y10.2.2.1 y10.2.2.2.1 y10.2.2.2.2 y24)))]]
        (q26 (lock_New_ok y2 e1 (sel [0, 1, 2, 3]) sj_) (q4 (Eq.refl true) (q18 (Eq.refl 8) (le_ 8 8 rfl) (Eq.refl 0))) (q7 (r2_ tr) (c_ (pl_stamp_tri 5 y4 e3) (m_ 8 8 rfl (a_ (a_ (a_ (lT_Ask_ok y2.1 y2.2.1 y2.2.2 y4 (A8.mk 97 0 0 0 0 0 0 0) 1 y6 e5 (sel [0, 1, 2, 3]) sj_) (o4_ [.map 1, .map 2, .map 3] y2.1 y2.2.1 y2.2.2)) tr) (r4_ (a_ (a_ (a_ (Eq.refl 2) (a_ (le_ 2 2 rfl) (Eq.refl 0))) tr) (r1_ tr)))))) (r1_ (c_ (pl_stamp_tri 3 y8 e7) (m_ 8 8 rfl (a_ (a_ (a_ (lT_Ask_ok y6.2.2.1 y6.2.2.2.1 y6.2.2.2.2 y8 (A8.mk 97 0 0 0 0 0 0 0) 2 y10 e9 (sel [0, 1, 2, 3]) sj_) (o4_ [.map 1, .map 2, .map 3] y6.2.2.1 y6.2.2.2.1 y6.2.2.2.2)) tr) (r4_ (a_ (a_ (a_ (Eq.refl 2) (a_ (le_ 2 2 rfl) (Eq.refl 0))) tr) (r1_ tr))))))) (q14 (f_ c11 (r1_ (l_ 1 2 rfl (r1_ (r2_ (f_ c12 (r1_ (r2_ (f_ c13 (r1_ (l_ 0 2 rfl (r1_ (r2_ (f_ c14 (r1_ (l_ 1 2 rfl (r1_ (r2_ (f_ c15 (r1_ (c_ (pl_stamp_tri 3 y17 e16) (r1_ (m_ 8 8 rfl (a_ (a_ (a_ (lT_Mode_ok y10.2.2.1 y10.2.2.2.1 y10.2.2.2.2 y17.f_Tx (A8.mk 97 0 0 0 0 0 0 0) y19 e18 (sel [0, 1, 2, 3]) sj_) (o4_ [.map 1, .map 2, .map 3] y10.2.2.1 y10.2.2.2.1 y10.2.2.2.2)) tr) (r2_ (f_ c20 (r1_ (c_ (pl_stamp_tri 5 y22 e21) (r1_ (m_ 8 8 rfl (a_ (a_ (a_ (lT_Mode_ok y10.2.2.1 y10.2.2.2.1 y10.2.2.2.2 y22.f_Tx (A8.mk 97 0 0 0 0 0 0 0) y24 e23 (sel [0, 1, 2, 3]) sj_) (o4_ [.map 1, .map 2, .map 3] y10.2.2.1 y10.2.2.2.1 y10.2.2.2.2)) tr) (r1_ (r2_ tr))))))))))))))))))))))))))))))))))))
      ·obtain rfl := si_ h
       exact rr_ [] 33 [.reg [], .reg [(0, hk_ (hK_ [0, 1, 2, 3] (lock_New_v y2) [] (lock_New_up y2)))], .reg [], .reg [], .reg [(1, hC (pl_stamp_v y4)), (3, hk_ (hK_ [0, 1, 2, 3] (lT_Ask_v y6) (lT_Ask_objs y2.1 y2.2.1 y2.2.2) (lT_Ask_up y6)))], .reg [(1, hC (pl_stamp_v y8)), (3, hk_ (hK_ [0, 1, 2, 3] (lT_Ask_v y10) (lT_Ask_objs y6.2.2.1 y6.2.2.2.1 y6.2.2.2.2) (lT_Ask_up y10)))], .reg [(2, hT), (8, hT), (12, hT), (18, hT), (24, hT), (26, hC (pl_stamp_v y17)), (29, hk_ (hK_ [0, 1, 2, 3] (lT_Mode_v y19) (lT_Mode_objs y10.2.2.1 y10.2.2.2.1 y10.2.2.2.2) (lT_Mode_up y10.2.2.1 y10.2.2.2.1 y10.2.2.2.2 y19))), (32, hF)]]
        (q26 (lock_New_ok y2 e1 (sel [0, 1, 2, 3]) sj_) (q4 (Eq.refl true) (q18 (Eq.refl 8) (le_ 8 8 rfl) (Eq.refl 0))) (q7 (r2_ tr) (c_ (pl_stamp_tri 5 y4 e3) (m_ 8 8 rfl (a_ (a_ (a_ (lT_Ask_ok y2.1 y2.2.1 y2.2.2 y4 (A8.mk 97 0 0 0 0 0 0 0) 1 y6 e5 (sel [0, 1, 2, 3]) sj_) (o4_ [.map 1, .map 2, .map 3] y2.1 y2.2.1 y2.2.2)) tr) (r4_ (a_ (a_ (a_ (Eq.refl 2) (a_ (le_ 2 2 rfl) (Eq.refl 0))) tr) (r1_ tr)))))) (r1_ (c_ (pl_stamp_tri 3 y8 e7) (m_ 8 8 rfl (a_ (a_ (a_ (lT_Ask_ok y6.2.2.1 y6.2.2.2.1 y6.2.2.2.2 y8 (A8.mk 97 0 0 0 0 0 0 0) 2 y10 e9 (sel [0, 1, 2, 3]) sj_) (o4_ [.map 1, .map 2, .map 3] y6.2.2.1 y6.2.2.2.1 y6.2.2.2.2)) tr) (r4_ (a_ (a_ (a_ (Eq.refl 2) (a_ (le_ 2 2 rfl) (Eq.refl 0))) tr) (r1_ tr))))))) (q14 (f_ c11 (r1_ (l_ 1 2 rfl (r1_ (r2_ (f_ c12 (r1_ (r2_ (f_ c13 (r1_ (l_ 0 2 rfl (r1_ (r2_ (f_ c14 (r1_ (l_ 1 2 rfl (r1_ (r2_ (f_ c15 (r1_ (c_ (pl_stamp_tri 3 y17 e16) (r1_ (m_ 8 8 rfl (a_ (a_ (a_ (lT_Mode_ok y10.2.2.1 y10.2.2.2.1 y10.2.2.2.2 y17.f_Tx (A8.mk 97 0 0 0 0 0 0 0) y19 e18 (sel [0, 1, 2, 3]) sj_) (o4_ [.map 1, .map 2, .map 3] y10.2.2.1 y10.2.2.2.1 y10.2.2.2.2)) tr) (r2_ (f_ c20 (t2_ (t4_ (r2_ tr))))))))))))))))))))))))))))))))
     ·obtain rfl := si_ h
      exact rr_ [] 33 [.reg [], .reg [(0, hk_ (hK_ [0, 1, 2, 3] (lock_New_v y2) [] (lock_New_up y2)))], .reg [], .reg [], .reg [(1, hC (pl_stamp_v y4)), (3, hk_ (hK_ [0, 1, 2, 3] (lT_Ask_v y6) (lT_Ask_objs y2.1 y2.2.1 y2.2.2) (lT_Ask_up y6)))], .reg [(1, hC (pl_stamp_v y8)), (3, hk_ (hK_ [0, 1, 2, 3] (lT_Ask_v y10) (lT_Ask_objs y6.2.2.1 y6.2.2.2.1 y6.2.2.2.2) (lT_Ask_up y10)))], .reg [(2, hT), (8, hT), (12, hT), (18, hT), (24, hF)]]
       (q26 (lock_New_ok y2 e1 (sel [0, 1, 2, 3]) sj_) (q4 (Eq.refl true) (q18 (Eq.refl 8) (le_ 8 8 rfl) (Eq.refl 0))) (q7 (r2_ tr) (c_ (pl_stamp_tri 5 y4 e3) (m_ 8 8 rfl (a_ (a_ (a_ (lT_Ask_ok y2.1 y2.2.1 y2.2.2 y4 (A8.mk 97 0 0 0 0 0 0 0) 1 y6 e5 (sel [0, 1, 2, 3]) sj_) (o4_ [.map 1, .map 2, .map 3] y2.1 y2.2.1 y2.2.2)) tr) (r4_ (a_ (a_ (a_ (Eq.refl 2) (a_ (le_ 2 2 rfl) (Eq.refl 0))) tr) (r1_ tr)))))) (r1_ (c_ (pl_stamp_tri 3 y8 e7) (m_ 8 8 rfl (a_ (a_ (a_ (lT_Ask_ok y6.2.2.1 y6.2.2.2.1 y6.2.2.2.2 y8 (A8.mk 97 0 0 0 0 0 0 0) 2 y10 e9 (sel [0, 1, 2, 3]) sj_) (o4_ [.map 1, .map 2, .map 3] y6.2.2.1 y6.2.2.2.1 y6.2.2.2.2)) tr) (r4_ (a_ (a_ (a_ (Eq.refl 2) (a_ (le_ 2 2 rfl) (Eq.refl 0))) tr) (r1_ tr))))))) (q14 (f_ c11 (r1_ (l_ 1 2 rfl (r1_ (r2_ (f_ c12 (r1_ (r2_ (f_ c13 (r1_ (l_ 0 2 rfl (r1_ (r2_ (f_ c14 (r1_ (l_ 1 2 rfl (r1_ (r2_ (f_ c15 (t2_ (t4_ (r2_ (t2_ (t4_ (r2_ tr))))))))))))))))))))))))))))
    ·obtain rfl := si_ h
     exact rr_ [] 33 [.reg [], .reg [(0, hk_ (hK_ [0, 1, 2, 3] (lock_New_v y2) [] (lock_New_up y2)))], .reg [], .reg [], .reg [(1, hC (pl_stamp_v y4)), (3, hk_ (hK_ [0, 1, 2, 3] (lT_Ask_v y6) (lT_Ask_objs y2.1 y2.2.1 y2.2.2) (lT_Ask_up y6)))], .reg [(1, hC (pl_stamp_v y8)), (3, hk_ (hK_ [0, 1, 2, 3] (lT_Ask_v y10) (lT_Ask_objs y6.2.2.1 y6.2.2.2.1 y6.2.2.2.2) (lT_Ask_up y10)))], .reg [(2, hT), (8, hT), (12, hT), (18, hF)]]
      (q26 (lock_New_ok y2 e1 (sel [0, 1, 2, 3]) sj_) (q4 (Eq.refl true) (q18 (Eq.refl 8) (le_ 8 8 rfl) (Eq.refl 0))) (q7 (r2_ tr) (c_ (pl_stamp_tri 5 y4 e3) (m_ 8 8 rfl (a_ (a_ (a_ (lT_Ask_ok y2.1 y2.2.1 y2.2.2 y4 (A8.mk 97 0 0 0 0 0 0 0) 1 y6 e5 (sel [0, 1, 2, 3]) sj_) (o4_ [.map 1, .map 2, .map 3] y2.1 y2.2.1 y2.2.2)) tr) (r4_ (a_ (a_ (a_ (Eq.refl 2) (a_ (le_ 2 2 rfl) (Eq.refl 0))) tr) (r1_ tr)))))) (r1_ (c_ (pl_stamp_tri 3 y8 e7) (m_ 8 8 rfl (a_ (a_ (a_ (lT_Ask_ok y6.2.2.1 y6.2.2.2.1 y6.2.2.2.2 y8 (A8.mk 97 0 0 0 0 0 0 0) 2 y10 e9 (sel [0, 1, 2, 3]) sj_) (o4_ [.map 1, .map 2, .map 3] y6.2.2.1 y6.2.2.2.1 y6.2.2.2.2)) tr) (r4_ (a_ (a_ (a_ (Eq.refl 2) (a_ (le_ 2 2 rfl) (Eq.refl 0))) tr) (r1_ tr))))))) (q14 (f_ c11 (r1_ (l_ 1 2 rfl (r1_ (r2_ (f_ c12 (r1_ (r2_ (f_ c13 (r1_ (l_ 0 2 rfl (r1_ (r2_ (f_ c14 (t4_ (r2_ (t2_ (t4_ (r2_ (t2_ (t4_ (r2_ tr)))))))))))))))))))))))))
   ·obtain rfl := si_ h
    exact rr_ [] 33 [.reg [], .reg [(0, hk_ (hK_ [0, 1, 2, 3] (lock_New_v y2) [] (lock_New_up y2)))], .reg [], .reg [], .reg [(1, hC (pl_stamp_v y4)), (3, hk_ (hK_ [0, 1, 2, 3] (lT_Ask_v y6) (lT_Ask_objs y2.1 y2.2.1 y2.2.2) (lT_Ask_up y6)))], .reg [(1, hC (pl_stamp_v y8)), (3, hk_ (hK_ [0, 1, 2, 3] (lT_Ask_v y10) (lT_Ask_objs y6.2.2.1 y6.2.2.2.1 y6.2.2.2.2) (lT_Ask_up y10)))], .reg [(2, hT), (8, hT), (12, hF)]]
     (q26 (lock_New_ok y2 e1 (sel [0, 1, 2, 3]) sj_) (q4 (Eq.refl true) (q18 (Eq.refl 8) (le_ 8 8 rfl) (Eq.refl 0))) (q7 (r2_ tr) (c_ (pl_stamp_tri 5 y4 e3) (m_ 8 8 rfl (a_ (a_ (a_ (lT_Ask_ok y2.1 y2.2.1 y2.2.2 y4 (A8.mk 97 0 0 0 0 0 0 0) 1 y6 e5 (sel [0, 1, 2, 3]) sj_) (o4_ [.map 1, .map 2, .map 3] y2.1 y2.2.1 y2.2.2)) tr) (r4_ (a_ (a_ (a_ (Eq.refl 2) (a_ (le_ 2 2 rfl) (Eq.refl 0))) tr) (r1_ tr)))))) (r1_ (c_ (pl_stamp_tri 3 y8 e7) (m_ 8 8 rfl (a_ (a_ (a_ (lT_Ask_ok y6.2.2.1 y6.2.2.2.1 y6.2.2.2.2 y8 (A8.mk 97 0 0 0 0 0 0 0) 2 y10 e9 (sel [0, 1, 2, 3]) sj_) (o4_ [.map 1, .map 2, .map 3] y6.2.2.1 y6.2.2.2.1 y6.2.2.2.2)) tr) (r4_ (a_ (a_ (a_ (Eq.refl 2) (a_ (le_ 2 2 rfl) (Eq.refl 0))) tr) (r1_ tr))))))) (q14 (f_ c11 (r1_ (l_ 1 2 rfl (r1_ (r2_ (f_ c12 (r1_ (r2_ (f_ c13 (t4_ (r2_ (t4_ (r2_ (t2_ (t4_ (r2_ (t2_ (t4_ (r2_ tr))))))))))))))))))))))
  ·obtain rfl := si_ h
   exact rr_ [] 33 [.reg [], .reg [(0, hk_ (hK_ [0, 1, 2, 3] (lock_New_v y2) [] (lock_New_up y2)))], .reg [], .reg [], .reg [(1, hC (pl_stamp_v y4)), (3, hk_ (hK_ [0, 1, 2, 3] (lT_Ask_v y6) (lT_Ask_objs y2.1 y2.2.1 y2.2.2) (lT_Ask_up y6)))], .reg [(1, hC (pl_stamp_v y8)), (3, hk_ (hK_ [0, 1, 2, 3] (lT_Ask_v y10) (lT_Ask_objs y6.2.2.1 y6.2.2.2.1 y6.2.2.2.2) (lT_Ask_up y10)))], .reg [(2, hT), (8, hF)]]
    (q26 (lock_New_ok y2 e1 (sel [0, 1, 2, 3]) sj_) (q4 (Eq.refl true) (q18 (Eq.refl 8) (le_ 8 8 rfl) (Eq.refl 0))) (q7 (r2_ tr) (c_ (pl_stamp_tri 5 y4 e3) (m_ 8 8 rfl (a_ (a_ (a_ (lT_Ask_ok y2.1 y2.2.1 y2.2.2 y4 (A8.mk 97 0 0 0 0 0 0 0) 1 y6 e5 (sel [0, 1, 2, 3]) sj_) (o4_ [.map 1, .map 2, .map 3] y2.1 y2.2.1 y2.2.2)) tr) (r4_ (a_ (a_ (a_ (Eq.refl 2) (a_ (le_ 2 2 rfl) (Eq.refl 0))) tr) (r1_ tr)))))) (r1_ (c_ (pl_stamp_tri 3 y8 e7) (m_ 8 8 rfl (a_ (a_ (a_ (lT_Ask_ok y6.2.2.1 y6.2.2.2.1 y6.2.2.2.2 y8 (A8.mk 97 0 0 0 0 0 0 0) 2 y10 e9 (sel [0, 1, 2, 3]) sj_) (o4_ [.map 1, .map 2, .map 3] y6.2.2.1 y6.2.2.2.1 y6.2.2.2.2)) tr) (r4_ (a_ (a_ (a_ (Eq.refl 2) (a_ (le_ 2 2 rfl) (Eq.refl 0))) tr) (r1_ tr))))))) (q14 (f_ c11 (r1_ (l_ 1 2 rfl (r1_ (r2_ (f_ c12 (t2_ (r2_ (t4_ (r2_ (t4_ (r2_ (t2_ (t4_ (r2_ (t2_ (t4_ (r2_ tr)))))))))))))))))))))
 ·obtain rfl := si_ h
  exact rr_ [] 33 [.reg [], .reg [(0, hk_ (hK_ [0, 1, 2, 3] (lock_New_v y2) [] (lock_New_up y2)))], .reg [], .reg [], .reg [(1, hC (pl_stamp_v y4)), (3, hk_ (hK_ [0, 1, 2, 3] (lT_Ask_v y6) (lT_Ask_objs y2.1 y2.2.1 y2.2.2) (lT_Ask_up y6)))], .reg [(1, hC (pl_stamp_v y8)), (3, hk_ (hK_ [0, 1, 2, 3] (lT_Ask_v y10) (lT_Ask_objs y6.2.2.1 y6.2.2.2.1 y6.2.2.2.2) (lT_Ask_up y10)))], .reg [(2, hF)]]
   (q26 (lock_New_ok y2 e1 (sel [0, 1, 2, 3]) sj_) (q4 (Eq.refl true) (q18 (Eq.refl 8) (le_ 8 8 rfl) (Eq.refl 0))) (q7 (r2_ tr) (c_ (pl_stamp_tri 5 y4 e3) (m_ 8 8 rfl (a_ (a_ (a_ (lT_Ask_ok y2.1 y2.2.1 y2.2.2 y4 (A8.mk 97 0 0 0 0 0 0 0) 1 y6 e5 (sel [0, 1, 2, 3]) sj_) (o4_ [.map 1, .map 2, .map 3] y2.1 y2.2.1 y2.2.2)) tr) (r4_ (a_ (a_ (a_ (Eq.refl 2) (a_ (le_ 2 2 rfl) (Eq.refl 0))) tr) (r1_ tr)))))) (r1_ (c_ (pl_stamp_tri 3 y8 e7) (m_ 8 8 rfl (a_ (a_ (a_ (lT_Ask_ok y6.2.2.1 y6.2.2.2.1 y6.2.2.2.2 y8 (A8.mk 97 0 0 0 0 0 0 0) 2 y10 e9 (sel [0, 1, 2, 3]) sj_) (o4_ [.map 1, .map 2, .map 3] y6.2.2.1 y6.2.2.2.1 y6.2.2.2.2)) tr) (r4_ (a_ (a_ (a_ (Eq.refl 2) (a_ (le_ 2 2 rfl) (Eq.refl 0))) tr) (r1_ tr))))))) (q14 (f_ c11 (t4_ (r2_ (t2_ (r2_ (t4_ (r2_ (t4_ (r2_ (t2_ (t4_ (r2_ (t2_ (t4_ (r2_ tr))))))))))))))))))
theorem pl_alive_tri (r : (Bool)) (h : pl_alive = some r) : FnTri Tryz.prog 11 [] [] (pl_alive_v r) [] := FnTri.none (pl_alive_ok r h) rfl rfl
def lP_of_v (r : (Bool)) : LV := .bool r
def lP_of_up (p : PT) (r : (Bool)) : Upd := [(0, some (oM3 p))]
def lP_of_objs (p : PT) : List LO := [oM3 p]
def lP_of_l0 (p : PT) (x : TX) : Nat → (PT) → Option ((Bool))
 | 0, _ => none
 | fuel + 1, rest =>
  if ((List.isEmpty rest) : Bool) then
   some false
  else agree rest fun a1 rs2 =>
   if ((decide (a1.1.f_tx = x)) : Bool) then
    some true
   else
    lP_of_l0 p x fuel rs2
def lP_of (p : PT) (x : TX) : Option ((Bool)) :=
 lP_of_l0 p x big p
abbrev lP_of_K0 (p : PT) (x : TX) (rest : PT) (r : (Bool)) : Prop := Kt_ w0 W μ0 Tryz.f40 1 1 (lP_of_v r) (lP_of_up p r) (kAt (bodyOf Tryz.f40) 0) (.any :: .any :: .any :: (.ptr 1 0 0) :: .any :: .any :: .any :: (.ptr 2 0 0) :: n_ 8 []) [none, some (.var (c_TX x)), some (.mit 0 true ks2 (encM v_TL (LV.int .u8) p) none (encM v_TL (LV.int .u8) rest))]
theorem lP_of_l0_ok {w0 W μ0} (hμ : Lt_ μ0 1) (p : PT) (x : TX) : ∀ (fuel : Nat) (rest : PT) (r : (Bool)), lP_of_l0 p x fuel rest = some r → lP_of_K0 w0 W μ0 p x rest r := by
 intro fuel
 induction fuel with
 | zero => intro rest r h; rw [lP_of_l0] at h; cases h
 | succ fuel ih =>
  intro rest r h
  rw [lP_of_l0] at h
  refine k_nextT (it := 7) (t1 := 8) (t2 := 9) (d := 2) (m := 0) (ag := true) (ks := ks2) (es := encM v_TL (LV.int .u8) p) v_TL (LV.int .u8) rest (by kernel_rfl) (by kernel_rfl) (by kernel_rfl) (by kernel_rfl) (fun hn_ => ?_) (fun i_ a1 hi_ => ?_)
  ·rw [if_pos (rest_none hn_)] at h
   obtain rfl := si_ h
   exact rr_ [] 16 [.x (.mitz 2), .reg []]
    (q9 (show 0 ≠ 2 from by decide) (r1_ tr))
  ·rw [if_neg (rest_some hi_)] at h
   replace h := agree_some h hi_
   generalize rest.eraseIdx i_ = rs2 at h ⊢
   rcases it_ h with ⟨C3, h⟩ | ⟨C3, h⟩
   ·obtain rfl := si_ h
    exact rr_ [] 24 [.reg [], .reg [(3, hT)], .x (.mitz 2), .reg []]
     (q1 (q7 (q2 (q18 (Eq.refl 11) (le_ 11 11 rfl) (Eq.refl 0))) (m_ 3 11 rfl (m_ 3 3 rfl (a_ (a_ tr (a_ (LV.Le.trans (leB (k_TX a1.1.f_tx x)) (leB C3)) tr)) tr))) (show 0 ≠ 2 from by decide) (q19 tr)))
   ·exact rt_ hμ [1, 2] 23 [.reg [], .reg [(3, hF)], .x (.mitn 2)]
     (q7 (q2 (q18 (Eq.refl 11) (le_ 11 11 rfl) (Eq.refl 0))) (m_ 3 11 rfl (m_ 3 3 rfl (a_ (a_ tr (a_ (LV.Le.trans (leB (k_TX a1.1.f_tx x)) (leB C3)) tr)) tr))) tr tr) (ih _ r h) ⟨rfl, lt_ 0 3 rfl, trivial⟩
theorem lP_of_ok (p : PT) (x : TX) (r : (Bool)) (h : lP_of p x = some r) : ∀ σ, Inj 1 σ → FnTri Tryz.prog 40 (renL σ [.map 0, v_TX x]) (preOf σ 0 (lP_of_objs p)) ((lP_of_v r).ren σ) (upOf σ (lP_of_up p r)) := by
 refine fo_ Tryz.func40 ⟨trivial, trivial⟩ ⟨trivial, trivial⟩ ?_
 intro w0 W μ0 hμ
 unfold lP_of at h
 exact rt_ hμ [1, 2] 18 [.reg [], .reg []]
  (q3 (r2_ tr) (r2_ tr)) (lP_of_l0_ok hμ p x big _ r h) ⟨rfl, lt_ 0 3 rfl, trivial⟩
def lT_Waits_v (r : (Bool)) : LV := .bool r
def lT_Waits_up (uu : UT) (hh ww : PT) (r : (Bool)) : Upd := [(0, some (.var [.map 1, .map 2, .map 3])), (1, some (oP1 uu [])), (2, some (oM3 hh)), (3, some (oM3 ww))]
def lT_Waits_objs (uu : UT) (hh ww : PT) : List LO := [.var [.map 1, .map 2, .map 3], oP1 uu [], oM3 hh, oM3 ww]
def lT_Waits (uu : UT) (hh ww : PT) (x : TX) : Option ((Bool)) :=
 (lT_ok uu hh ww).bind fun y2 =>
 (lP_of ww x).bind fun y4 =>
 some y4
theorem lT_Waits_ok (uu : UT) (hh ww : PT) (x : TX) (r : (Bool)) (h : lT_Waits uu hh ww x = some r) : ∀ σ, Inj 4 σ → FnTri Tryz.prog 18 (renL σ [.ptr 0 0 0, v_TX x]) (preOf σ 0 (lT_Waits_objs uu hh ww)) ((lT_Waits_v r).ren σ) (upOf σ (lT_Waits_up uu hh ww r)) := by
 refine fo_ Tryz.func18 ⟨rfl, uP, trivial, trivial, trivial⟩ ⟨rfl, uP, trivial, trivial, trivial⟩ ?_
 intro w0 W μ0 hμ
 unfold lT_Waits at h
 obtain ⟨y2, e1, h⟩ := bs_ h
 obtain ⟨y4, e3, h⟩ := bs_ h
 obtain rfl := si_ h
 exact rr_ [] 15 [.reg [], .reg [(1, hk_ (hK_ [0, 1, 2, 3] (lT_ok_v y2) (lT_ok_objs uu hh ww) (lT_ok_up hh ww y2))), (8, hk_ (hK_ [3] (lP_of_v y4) (lP_of_objs ww) (lP_of_up ww y4)))]]
  (q20 (a_ (q16 (lT_ok_ok uu hh ww y2 e1 (sel [0, 1, 2, 3]) sj_) (rl_ (.var [.map 1, .map 2, .map 3])) (le_pmR v_TX c_TU (ag := true) (ks := ks0) (m := uu) (opn := [])) (q3 (rl_ (oM3 hh)) (rl_ (oM3 ww)))) (r4_ (l_ 2 3 rfl (m_ 3 3 rfl (a_ (a_ (a_ (lP_of_ok ww x y4 e3 (sel [3]) sj_) (a_ (rl_ (oM3 ww)) tr)) tr) (r2_ tr)))))))
def lock_reads_v (r : (Bool)) : LV := .bool r
def lock_reads (mode : Int) : Option ((Bool)) :=
 some (mode == 1)
theorem lock_reads_ok (mode : Int) (r : (Bool)) (h : lock_reads mode = some r) : ∀ σ, Inj 0 σ → FnTri Tryz.prog 38 (renL σ [.int .u8 mode]) (preOf σ 0 []) ((lock_reads_v r).ren σ) (upOf σ []) := by
 refine fo_ Tryz.func38 trivial trivial ?_
 intro w0 W μ0 hμ
 unfold lock_reads at h
 obtain rfl := si_ h
 exact rr_ [] 15 [.reg [], .reg []]
  (q28 (q2 tr))
theorem lock_reads_tri (mode : Int) (r : (Bool)) (h : lock_reads mode = some r) : FnTri Tryz.prog 38 [.int .u8 mode] [] (lock_reads_v r) [] := FnTri.none (lock_reads_ok mode r h) rfl rfl
def lP_drop_L1_2_v (r : (Bool)) : LV := .bool r
def lP_drop_L1_2_up (x2 : TX) (r : (Bool)) : Upd := [(0, some (.var (c_TX x2))), (1, some (.var [.fn 38 [] []]))]
def lP_drop_L1_2_objs (x2 : TX) : List LO := [.var (c_TX x2), .var [.fn 38 [] []]]
def lP_drop_L1_2 (s : TL) (mode : Int) (x2 : TX) : Option ((Bool)) :=
 if ((decide (s.f_tx = x2)) : Bool) then
  (lock_reads mode).bind fun y3 =>
  some y3
 else
  some false
theorem lP_drop_L1_2_ok (s : TL) (mode : Int) (x2 : TX) (r : (Bool)) (h : lP_drop_L1_2 s mode x2 = some r) : ∀ σ, Inj 2 σ → FnTri Tryz.prog 62 (renL σ [v_TL s, .int .u8 mode, .ptr 0 0 0, .ptr 1 0 0]) (preOf σ 0 (lP_drop_L1_2_objs x2)) ((lP_drop_L1_2_v r).ren σ) (upOf σ (lP_drop_L1_2_up x2 r)) := by
 refine fo_ Tryz.func62 ⟨rfl, rfl, trivial⟩ ⟨rfl, rfl, trivial⟩ ?_
 intro w0 W μ0 hμ
 unfold lP_drop_L1_2 at h
 rcases it_ h with ⟨c1, h⟩ | ⟨c1, h⟩
 ·obtain ⟨y3, e2, h⟩ := bs_ h
  obtain rfl := si_ h
  exact rr_ [] 15 [.reg [], .reg [(3, hv_ (.bool (decide (s.f_tx = x2)))), (4, hT), (7, hC (lock_reads_v y3))]]
   (q20 (m_ 3 11 rfl (m_ 3 3 rfl (a_ (a_ tr (a_ (leB (k_TX s.f_tx x2)) tr)) (f_ c1 (l_ 0 1 rfl (r1_ (c_ (lock_reads_tri mode y3 e2) (r2_ tr)))))))))
 ·obtain rfl := si_ h
  exact rr_ [] 15 [.reg [], .reg [(3, hv_ (.bool (decide (s.f_tx = x2)))), (4, hF)]]
   (q20 (m_ 3 11 rfl (m_ 3 3 rfl (a_ (a_ tr (a_ (leB (k_TX s.f_tx x2)) tr)) (f_ c1 (a_ tr (t2_ (r2_ tr))))))))
def mDF_2_v (r : (PT)) : LV := .tup []
def mDF_2_up (c : TX) (r : (PT)) : Upd := [(0, some (oM3 r)), (1, some (.var (c_TX c))), (2, some (.var [.fn 38 [] []]))]
def mDF_2_objs (m : PT) (c : TX) : List LO := [oM3 m, .var (c_TX c), .var [.fn 38 [] []]]
def mDF_2_l0 (m : PT) (c : TX) : Nat → (PT) → (PT) → Option ((PT))
 | 0, _, _ => none
 | fuel + 1, m2, rest =>
  if ((List.isEmpty rest) : Bool) then
   some m2
  else agree rest fun a1 rs2 =>
   (lP_drop_L1_2 a1.1 a1.2 c).bind fun y4 =>
   if (y4 : Bool) then
    if mget rs2 a1.1 = none then
    mDF_2_l0 m c fuel (mdel m2 a1.1) rs2
    else none
   else
    mDF_2_l0 m c fuel m2 rs2
def mDF_2 (m : PT) (c : TX) : Option ((PT)) :=
 mDF_2_l0 m c big m m
abbrev mDF_2_K0 (c : TX) (m2 rest : PT) (r : (PT)) : Prop := Kt_ w0 W μ0 Tryz.f61 3 3 (mDF_2_v r) (mDF_2_up c r) (kAt (bodyOf Tryz.f61) 0) ((.map 0) :: (.fn 62 [] [.ptr 1 0 0, .ptr 2 0 0]) :: n_ 5 ((.ptr 3 0 0) :: n_ 11 [])) [none, some (.var (c_TX c)), some (.var [.fn 38 [] []]), some (.mit 0 true ks2 (encM v_TL (LV.int .u8) m2) none (encM v_TL (LV.int .u8) rest))]
theorem mDF_2_l0_ok {w0 W μ0} (hμ : Lt_ μ0 3) (m : PT) (c : TX) : ∀ (fuel : Nat) (m2 rest : PT) (r : (PT)), mDF_2_l0 m c fuel m2 rest = some r → mDF_2_K0 w0 W μ0 c m2 rest r := by
 intro fuel
 induction fuel with
 | zero => intro m2 rest r h; rw [mDF_2_l0] at h; cases h
 | succ fuel ih =>
  intro m2 rest r h
  rw [mDF_2_l0] at h
  refine k_nextT (it := 7) (t1 := 8) (t2 := 9) (d := 3) (m := 0) (ag := true) (ks := ks2) (es := encM v_TL (LV.int .u8) m2) v_TL (LV.int .u8) rest (by kernel_rfl) (by kernel_rfl) (by kernel_rfl) (by kernel_rfl) (fun hn_ => ?_) (fun i_ a1 hi_ => ?_)
  ·rw [if_pos (rest_none hn_)] at h
   refine k_x (t := .mitz 3) (foot := [3]) (up := [(3, none), (0, some (.map true ks2 (encM v_TL (LV.int .u8) m2)))]) rfl (by kernel_rfl) (show 0 ≠ 3 from by decide) ?_
   obtain rfl := si_ h
   exact rr_ [] 12 []
    (q1 tr)
  ·rw [if_neg (rest_some hi_)] at h
   replace h := agree_some h hi_
   generalize rest.eraseIdx i_ = rs2 at h ⊢
   obtain ⟨y4, E3, h⟩ := bs_ h
   rcases it_ h with ⟨C5, h⟩ | ⟨C5, h⟩
   ·obtain ⟨G6, h⟩ := gs_ h
    exact rt_ hμ [3] 23 [.reg [], .reg [(3, { call := some (hK_ [1, 2] (lP_drop_L1_2_v y4) (lP_drop_L1_2_objs c) (lP_drop_L1_2_up c y4)), v := some (.bool true) })], .reg [(2, { app := 1003, os := [(3, .mit 0 true ks2 (encM v_TL (LV.int .u8) (mdel m2 a1.1)) none (encM v_TL (LV.int .u8) rs2))] })]]
     (q7 (r4_ (q4 (q8 (Eq.refl 11) (le_ 11 11 rfl) (Eq.refl 0)) tr)) (m_ 11 11 rfl (r1_ (a_ (a_ (a_ (lP_drop_L1_2_ok a1.1 a1.2 c y4 E3 (sel [1, 2]) sj_) (a_ (rl_ (.var (c_TX c))) (a_ (rl_ (.var [.fn 38 [] []])) tr))) (a_ (leB C5) tr)) tr))) (r1_ (m_ 11 11 rfl (a_ (a_ (delmit_ob (ev := (LV.int .u8)) (ag := true) (ks := ks2) v_TL k_TL (fun _ => rfl) G6) (a_ (mit_del v_TL k_TL (ev := (LV.int .u8)) 0 true ks2 m2 rs2 a1.1) tr)) tr))) tr) (ih _ _ r h) ⟨rfl, rfl, lt_ 0 4 rfl, trivial⟩
   ·exact rt_ hμ [3] 23 [.reg [], .reg [(3, { call := some (hK_ [1, 2] (lP_drop_L1_2_v y4) (lP_drop_L1_2_objs c) (lP_drop_L1_2_up c y4)), v := some (.bool false) })], .x (.mitn 3)]
     (q7 (r4_ (q4 (q8 (Eq.refl 11) (le_ 11 11 rfl) (Eq.refl 0)) tr)) (m_ 11 11 rfl (r1_ (a_ (a_ (a_ (lP_drop_L1_2_ok a1.1 a1.2 c y4 E3 (sel [1, 2]) sj_) (a_ (rl_ (.var (c_TX c))) (a_ (rl_ (.var [.fn 38 [] []])) tr))) (a_ (leB C5) tr)) tr))) tr tr) (ih _ _ r h) ⟨rfl, rfl, lt_ 0 4 rfl, trivial⟩
theorem mDF_2_ok (m : PT) (c : TX) (r : (PT)) (h : mDF_2 m c = some r) : ∀ σ, Inj 3 σ → FnTri Tryz.prog 61 (renL σ [.map 0, .fn 62 [] [.ptr 1 0 0, .ptr 2 0 0]]) (preOf σ 0 (mDF_2_objs m c)) ((mDF_2_v r).ren σ) (upOf σ (mDF_2_up c r)) := by
 refine fo_ Tryz.func61 ⟨trivial, rfl, rfl, trivial⟩ ⟨trivial, rfl, rfl, trivial⟩ ?_
 intro w0 W μ0 hμ
 unfold mDF_2 at h
 exact rt_ hμ [3] 14 [.reg []]
  (q14 tr) (mDF_2_l0_ok hμ m c big _ _ r h) ⟨rfl, rfl, lt_ 0 4 rfl, trivial⟩
def lP_drop_2_v (r : (PT)) : LV := .tup []
def lP_drop_2_up (r : (PT)) : Upd := [(0, some (oM3 r))]
def lP_drop_2_objs (p : PT) : List LO := [oM3 p]
def lP_drop_2 (p : PT) (x : TX) : Option ((PT)) :=
 (mDF_2 p x).bind fun y2 =>
 some y2
theorem lP_drop_2_ok (p : PT) (x : TX) (r : (PT)) (h : lP_drop_2 p x = some r) : ∀ σ, Inj 1 σ → FnTri Tryz.prog 37 (renL σ [.map 0, v_TX x, .fn 38 [] []]) (preOf σ 0 (lP_drop_2_objs p)) ((lP_drop_2_v r).ren σ) (upOf σ (lP_drop_2_up r)) := by
 refine fo_ Tryz.func37 ⟨trivial, trivial⟩ ⟨trivial, trivial⟩ ?_
 intro w0 W μ0 hμ
 unfold lP_drop_2 at h
 obtain ⟨y2, e1, h⟩ := bs_ h
 obtain rfl := si_ h
 exact rr_ [] 14 [.reg [], .reg [(2, hk_ (hK_ [0, 1, 2] (mDF_2_v y2) (mDF_2_objs p x) (mDF_2_up x y2)))]]
  (q9 (r2_ tr) (r2_ (q6 (q0 (mDF_2_ok p x y2 e1 (sel [0, 1, 2]) sj_) (rl_ (oM3 p)) (rl_ (.var (c_TX x))) (q1 (rl_ (.var [.fn 38 [] []])))))))
def lT_Prepare_v (r : (TO) × (Int) × (UT) × (PT) × (PT)) : LV := .tup [v_TO r.1, .int .i64 r.2.1]
def lT_Prepare_up (r : (TO) × (Int) × (UT) × (PT) × (PT)) : Upd := [(0, some (.var [.map 1, .map 2, .map 3])), (1, some (oP1 r.2.2.1 [])), (2, some (oM3 r.2.2.2.1)), (3, some (oM3 r.2.2.2.2))]
def lT_Prepare_objs (uu : UT) (hh ww : PT) : List LO := [.var [.map 1, .map 2, .map 3], oP1 uu [], oM3 hh, oM3 ww]
def lT_Prepare_c6 (uu : UT) (hh ww : PT) (x : TX) : Option ((TO) × (Int) × (UT) × (PT) × (PT)) :=
 some ((TO.mk ([] : List (TX)) ([] : List (TG))), 11, uu, hh, ww)
def lT_Prepare_c7 (uu : UT) (hh ww : PT) (x : TX) : Option ((TO) × (Int) × (UT) × (PT) × (PT)) :=
 if (((mget uu x).isSome) : Bool) then
  (mget uu x).bind fun y2 =>
  (lP_drop_2 hh x).bind fun y5 =>
  (lT_on (mset uu x (TU.mk y2.f_stamp true)) y5 ww).bind fun y7 =>
  some ((TO.mk ([] : List (TX)) y7.1), 0, (mset uu x (TU.mk y2.f_stamp true)), y7.2.1, y7.2.2)
 else
  none
def lT_Prepare (uu : UT) (hh ww : PT) (x : TX) : Option ((TO) × (Int) × (UT) × (PT) × (PT)) :=
 (lT_ok uu hh ww).bind fun y2 =>
 if (((mget uu x).isSome) : Bool) then
  (mget uu x).bind fun y4 =>
  (lT_Waits uu hh ww x).bind fun y7 =>
  if (y7 : Bool) then
   lT_Prepare_c6 uu hh ww x
  else
   lT_Prepare_c7 uu hh ww x
 else
  some ((TO.mk ([] : List (TX)) ([] : List (TG))), 6, uu, hh, ww)
abbrev lT_Prepare_K1000006 (uu : UT) (hh ww : PT) (r : (TO) × (Int) × (UT) × (PT) × (PT)) : Prop := Kt_ w0 W μ0 Tryz.f14 4 4 (lT_Prepare_v r) (lT_Prepare_up r) (kAtR (bodyOf Tryz.f14) 6) (n_ 4 ((.ptr 4 0 0) :: n_ 37 [])) [some (.var [.map 1, .map 2, .map 3]), some (oP1 uu []), some (oM3 hh), some (oM3 ww), some (.var [.nilsl, .nilsl])]
abbrev lT_Prepare_K1000007 (uu : UT) (hh ww : PT) (x : TX) (r : (TO) × (Int) × (UT) × (PT) × (PT)) : Prop := Kt_ w0 W μ0 Tryz.f14 4 4 (lT_Prepare_v r) (lT_Prepare_up r) (kAtR (bodyOf Tryz.f14) 7) ((.ptr 0 0 0) :: .any :: .any :: (.ptr 4 0 0) :: (.ptr 5 0 0) :: n_ 37 []) [some (.var [.map 1, .map 2, .map 3]), some (oP1 uu []), some (oM3 hh), some (oM3 ww), some (.var (c_TX x)), some (.var [.nilsl, .nilsl])]
theorem lT_Prepare_c6_ok {w0 W μ0} (hμ : Lt_ μ0 4) (uu : UT) (hh ww : PT) (x : TX) (r : (TO) × (Int) × (UT) × (PT) × (PT)) (h : lT_Prepare_c6 uu hh ww x = some r) : lT_Prepare_K1000006 w0 W μ0 uu hh ww r := by
 unfold lT_Prepare_c6 at h
 obtain rfl := si_ h
 exact rr_ [] 13 [.reg [], .wk [] [(4, .var [.ds 3 (([] : List (TX))).length (rowF c_TX default ([] : List (TX))), .nilsl])], .wk [] [(4, .var (c_TO (TO.mk ([] : List (TX)) ([] : List (TG)))))]]
  (q22 (q15 (q13 (Eq.refl true) (q8 (Eq.refl 2) (le_ 2 2 rfl) (Eq.refl 0)) tr) (LO.Sub.var (a := [.nilsl, .nilsl]) (b := [.ds 3 (([] : List (TX))).length (rowF c_TX default ([] : List (TX))), .nilsl]) (a_ (le_nil_ds 3 (rowF c_TX default [])) (a_ (LV.Le.refl (.nilsl)) tr))) (LO.Sub.var (a := [.ds 3 (([] : List (TX))).length (rowF c_TX default ([] : List (TX))), .nilsl]) (b := [.ds 3 (([] : List (TX))).length (rowF c_TX default ([] : List (TX))), .ds 12 (([] : List (TG))).length (rowF c_TG default ([] : List (TG)))]) (a_ (LV.Le.refl (.ds 3 (([] : List (TX))).length (rowF c_TX default ([] : List (TX))))) (a_ (le_nil_ds 12 (rowF c_TG default [])) tr)))) (le_ 2 2 rfl))
theorem lT_Prepare_c7_ok {w0 W μ0} (hμ : Lt_ μ0 4) (uu : UT) (hh ww : PT) (x : TX) (r : (TO) × (Int) × (UT) × (PT) × (PT)) (h : lT_Prepare_c7 uu hh ww x = some r) : lT_Prepare_K1000007 w0 W μ0 uu hh ww x r := by
 unfold lT_Prepare_c7 at h
 rcases it_ h with ⟨C1, h⟩ | ⟨C1, h⟩
 ·obtain ⟨y2, E3, h⟩ := bs_ h
  obtain ⟨y5, E4, h⟩ := bs_ h
  obtain ⟨y7, E6, h⟩ := bs_ h
  obtain rfl := si_ h
  exact rr_ [] 21 [.x (.p (.po 1 (v_TX x) (c_TU y2))), .reg [(5, { look := some (.ptr 6 0 0) })], .x (.p (.pc 1)), .wk [] [(1, oP1 (mset uu x (TU.mk y2.f_stamp true)) [])], .reg [(5, hk_ (hK_ [2] (lP_drop_2_v y5) (lP_drop_2_objs hh) (lP_drop_2_up y5)))], .reg [(1, hk_ (hK_ [0, 1, 2, 3] (lT_on_v y7) (lT_on_objs (mset uu x (TU.mk y2.f_stamp true)) y5 ww) (lT_on_up (mset uu x (TU.mk y2.f_stamp true)) y7)))], .wk [] [(5, .var (c_TO (TO.mk ([] : List (TX)) y7.1)))]]
   (q22 (q0 (a_ (pmIn v_TX c_TU E3) (pmO0 v_TX x)) (q2 (l_ 0 3 rfl (m_ 3 3 rfl (a_ (a_ (a_ (Eq.refl true) (a_ (pmSi v_TX c_TU k_TX uu x (isS E3)) (List.mem_cons_self (a := ((v_TX x, 6) : LV × Nat)) (l := [])))) tr) (r2_ (a_ (a_ (a_ (Eq.refl 1) (a_ (le_ 5 5 rfl) (Eq.refl 0))) tr) tr)))))) (q0 (getP_enc v_TX c_TU k_TX uu x E3) (Eq.refl true) (Eq.refl true) (show 1 ≠ 6 from by decide)) (q11 (q3 tr (pm_upd v_TX c_TU k_TX true ks0 [] uu x (TU.mk y2.f_stamp true))) (q2 (l_ 1 3 rfl (m_ 3 3 rfl (a_ (a_ (a_ (lP_drop_2_ok hh x y5 E4 (sel [2]) sj_) (a_ (rl_ (oM3 hh)) tr)) tr) tr)))) (q0 (q16 (lT_on_ok (mset uu x (TU.mk y2.f_stamp true)) y5 ww y7 E6 (sel [0, 1, 2, 3]) sj_) (rl_ (.var [.map 1, .map 2, .map 3])) (Eq.refl (oP1 (mset uu x (TU.mk y2.f_stamp true)) [] : LO)) (q3 (rl_ (oM3 y5)) (rl_ (oM3 ww)))) (q1 (Eq.refl true)) (q1 (q8 (Eq.refl 2) (le_ 2 2 rfl) (Eq.refl 0))) (r1_ tr)) (q9 tr (LO.Sub.var (a := [.nilsl, .ds 12 (y7.1).length (rowF c_TG default y7.1)]) (b := [.ds 3 (([] : List (TX))).length (rowF c_TX default ([] : List (TX))), .ds 12 (y7.1).length (rowF c_TG default y7.1)]) (a_ (le_nil_ds 3 (rowF c_TX default [])) (a_ (LV.Le.refl (.ds 12 (y7.1).length (rowF c_TG default y7.1))) tr)))))) (le_ 2 2 rfl))
 ·cases h
theorem lT_Prepare_ok (uu : UT) (hh ww : PT) (x : TX) (r : (TO) × (Int) × (UT) × (PT) × (PT)) (h : lT_Prepare uu hh ww x = some r) : ∀ σ, Inj 4 σ → FnTri Tryz.prog 14 (renL σ [.ptr 0 0 0, v_TX x]) (preOf σ 0 (lT_Prepare_objs uu hh ww)) ((lT_Prepare_v r).ren σ) (upOf σ (lT_Prepare_up r)) := by
 refine fo_ Tryz.func14 ⟨rfl, uP, trivial, trivial, trivial⟩ ⟨rfl, uP, trivial, trivial, trivial⟩ ?_
 intro w0 W μ0 hμ
 unfold lT_Prepare at h
 obtain ⟨y2, e1, h⟩ := bs_ h
 rcases it_ h with ⟨c3, h⟩ | ⟨c3, h⟩
 ·obtain ⟨y4, e5, h⟩ := bs_ h
  obtain ⟨y7, e6, h⟩ := bs_ h
  rcases it_ h with ⟨c8, h⟩ | ⟨c8, h⟩
  ·exact rt_ hμ [5] 30 [.reg [], .reg [(1, hk_ (hK_ [0, 1, 2, 3] (lT_ok_v y2) (lT_ok_objs uu hh ww) (lT_ok_up hh ww y2)))], .x (.p (.po 1 (v_TX x) (c_TU y4))), .reg [(5, { look := some (.ptr 6 0 0) })], .x (.p (.pc 1)), .wk [] [(1, oP1 uu [])], .reg [(2, hk_ (hK_ [0, 1, 2, 3] (lT_Waits_v y7) (lT_Waits_objs uu hh ww) (lT_Waits_up uu hh ww y7))), (3, hT)]]
    (q7 (q2 tr) (q24 (q16 (lT_ok_ok uu hh ww y2 e1 (sel [0, 1, 2, 3]) sj_) (rl_ (.var [.map 1, .map 2, .map 3])) (le_pmR v_TX c_TU (ag := true) (ks := ks0) (m := uu) (opn := [])) (q3 (rl_ (oM3 hh)) (rl_ (oM3 ww))))) (a_ (pmIn v_TX c_TU e5) (pmO0 v_TX x)) (q0 (q2 (l_ 0 3 rfl (m_ 3 3 rfl (a_ (a_ (a_ (Eq.refl true) (a_ (pmSi v_TX c_TU k_TX uu x (isS e5)) (List.mem_cons_self (a := ((v_TX x, 6) : LV × Nat)) (l := [])))) tr) (r2_ tr))))) (q0 (getP_enc v_TX c_TU k_TX uu x e5) (Eq.refl true) (Eq.refl true) (show 1 ≠ 6 from by decide)) (q3 tr (pm_same v_TX c_TU k_TX true ks0 [] (m := uu) (k := x) e5)) (q19 (m_ 3 3 rfl (a_ (a_ (a_ (lT_Waits_ok uu hh ww x y7 e6 (sel [0, 1, 2, 3]) sj_) (o4_ [.map 1, .map 2, .map 3] uu hh ww)) tr) (f_ c8 tr)))))) (lT_Prepare_c6_ok hμ uu hh ww x r h) ⟨rfl, uP, trivial, trivial, rfl, trivial⟩
  ·exact rt_ hμ [4, 5] 32 [.reg [], .reg [(1, hk_ (hK_ [0, 1, 2, 3] (lT_ok_v y2) (lT_ok_objs uu hh ww) (lT_ok_up hh ww y2)))], .x (.p (.po 1 (v_TX x) (c_TU y4))), .reg [(5, { look := some (.ptr 6 0 0) })], .x (.p (.pc 1)), .wk [] [(1, oP1 uu [])], .reg [(2, hk_ (hK_ [0, 1, 2, 3] (lT_Waits_v y7) (lT_Waits_objs uu hh ww) (lT_Waits_up uu hh ww y7))), (3, hF)]]
    (q7 (q2 tr) (q24 (q16 (lT_ok_ok uu hh ww y2 e1 (sel [0, 1, 2, 3]) sj_) (rl_ (.var [.map 1, .map 2, .map 3])) (le_pmR v_TX c_TU (ag := true) (ks := ks0) (m := uu) (opn := [])) (q3 (rl_ (oM3 hh)) (rl_ (oM3 ww))))) (a_ (pmIn v_TX c_TU e5) (pmO0 v_TX x)) (q0 (q2 (l_ 0 3 rfl (m_ 3 3 rfl (a_ (a_ (a_ (Eq.refl true) (a_ (pmSi v_TX c_TU k_TX uu x (isS e5)) (List.mem_cons_self (a := ((v_TX x, 6) : LV × Nat)) (l := [])))) tr) (r2_ tr))))) (q0 (getP_enc v_TX c_TU k_TX uu x e5) (Eq.refl true) (Eq.refl true) (show 1 ≠ 6 from by decide)) (q3 tr (pm_same v_TX c_TU k_TX true ks0 [] (m := uu) (k := x) e5)) (q19 (m_ 3 3 rfl (a_ (a_ (a_ (lT_Waits_ok uu hh ww x y7 e6 (sel [0, 1, 2, 3]) sj_) (o4_ [.map 1, .map 2, .map 3] uu hh ww)) tr) (f_ c8 tr)))))) (lT_Prepare_c7_ok hμ uu hh ww x r h) ⟨rfl, uP, trivial, trivial, rfl, rfl, trivial⟩
 ·obtain rfl := si_ h
  exact rr_ [] 27 [.reg [], .reg [(1, hk_ (hK_ [0, 1, 2, 3] (lT_ok_v y2) (lT_ok_objs uu hh ww) (lT_ok_up hh ww y2)))], .reg [(5, { look := none })], .reg [], .wk [] [(5, .var [.ds 3 (([] : List (TX))).length (rowF c_TX default ([] : List (TX))), .nilsl])], .wk [] [(5, .var (c_TO (TO.mk ([] : List (TX)) ([] : List (TG)))))]]
   (q22 (q7 (q2 tr) (q24 (q16 (lT_ok_ok uu hh ww y2 e1 (sel [0, 1, 2, 3]) sj_) (rl_ (.var [.map 1, .map 2, .map 3])) (le_pmR v_TX c_TU (ag := true) (ks := ks0) (m := uu) (opn := [])) (q3 (rl_ (oM3 hh)) (rl_ (oM3 ww))))) (q2 (l_ 0 3 rfl (m_ 3 3 rfl (a_ (a_ (a_ (Eq.refl true) (pmN v_TX c_TU k_TX uu x c3)) tr) (r2_ tr))))) (q15 (q13 (Eq.refl true) (q8 (Eq.refl 2) (le_ 2 2 rfl) (Eq.refl 0)) tr) (LO.Sub.var (a := [.nilsl, .nilsl]) (b := [.ds 3 (([] : List (TX))).length (rowF c_TX default ([] : List (TX))), .nilsl]) (a_ (le_nil_ds 3 (rowF c_TX default [])) (a_ (LV.Le.refl (.nilsl)) tr))) (LO.Sub.var (a := [.ds 3 (([] : List (TX))).length (rowF c_TX default ([] : List (TX))), .nilsl]) (b := [.ds 3 (([] : List (TX))).length (rowF c_TX default ([] : List (TX))), .ds 12 (([] : List (TG))).length (rowF c_TG default ([] : List (TG)))]) (a_ (LV.Le.refl (.ds 3 (([] : List (TX))).length (rowF c_TX default ([] : List (TX))))) (a_ (le_nil_ds 12 (rowF c_TG default [])) tr))))) (le_ 2 2 rfl))
def lT_Release_v (r : (TO) × (Int) × (UT) × (PT) × (PT)) : LV := .tup [v_TO r.1, .int .i64 r.2.1]
def lT_Release_up (r : (TO) × (Int) × (UT) × (PT) × (PT)) : Upd := [(0, some (.var [.map 1, .map 2, .map 3])), (1, some (oP1 r.2.2.1 [])), (2, some (oM3 r.2.2.2.1)), (3, some (oM3 r.2.2.2.2))]
def lT_Release_objs (uu : UT) (hh ww : PT) : List LO := [.var [.map 1, .map 2, .map 3], oP1 uu [], oM3 hh, oM3 ww]
def lT_Release (uu : UT) (hh ww : PT) (x : TX) : Option ((TO) × (Int) × (UT) × (PT) × (PT)) :=
 (lT_ok uu hh ww).bind fun y2 =>
 if (((mget uu x).isSome) : Bool) then
  (mget uu x).bind fun y4 =>
  (lT_gone uu hh ww x).bind fun y7 =>
  (lT_on y7.1 y7.2.1 y7.2.2).bind fun y9 =>
  some ((TO.mk ([] : List (TX)) y9.1), 0, y7.1, y9.2.1, y9.2.2)
 else
  some ((TO.mk ([] : List (TX)) ([] : List (TG))), 6, uu, hh, ww)
theorem lT_Release_ok (uu : UT) (hh ww : PT) (x : TX) (r : (TO) × (Int) × (UT) × (PT) × (PT)) (h : lT_Release uu hh ww x = some r) : ∀ σ, Inj 4 σ → FnTri Tryz.prog 21 (renL σ [.ptr 0 0 0, v_TX x]) (preOf σ 0 (lT_Release_objs uu hh ww)) ((lT_Release_v r).ren σ) (upOf σ (lT_Release_up r)) := by
 refine fo_ Tryz.func21 ⟨rfl, uP, trivial, trivial, trivial⟩ ⟨rfl, uP, trivial, trivial, trivial⟩ ?_
 intro w0 W μ0 hμ
 unfold lT_Release at h
 obtain ⟨y2, e1, h⟩ := bs_ h
 rcases it_ h with ⟨c3, h⟩ | ⟨c3, h⟩
 ·obtain ⟨y4, e5, h⟩ := bs_ h
  obtain ⟨y7, e6, h⟩ := bs_ h
  obtain ⟨y9, e8, h⟩ := bs_ h
  obtain rfl := si_ h
  exact rr_ [] 34 [.reg [], .reg [(1, hk_ (hK_ [0, 1, 2, 3] (lT_ok_v y2) (lT_ok_objs uu hh ww) (lT_ok_up hh ww y2)))], .x (.p (.po 1 (v_TX x) (c_TU y4))), .reg [(5, { look := some (.ptr 6 0 0) })], .x (.p (.pc 1)), .wk [] [(1, oP1 uu [])], .reg [(2, hk_ (hK_ [0, 1, 2, 3] (lT_gone_v y7) (lT_gone_objs uu hh ww) (lT_gone_up y7)))], .reg [(1, hk_ (hK_ [0, 1, 2, 3] (lT_on_v y9) (lT_on_objs y7.1 y7.2.1 y7.2.2) (lT_on_up y7.1 y9)))], .wk [] [(5, .var (c_TO (TO.mk ([] : List (TX)) y9.1)))]]
   (q22 (q7 (q2 tr) (q24 (q16 (lT_ok_ok uu hh ww y2 e1 (sel [0, 1, 2, 3]) sj_) (rl_ (.var [.map 1, .map 2, .map 3])) (le_pmR v_TX c_TU (ag := true) (ks := ks0) (m := uu) (opn := [])) (q3 (rl_ (oM3 hh)) (rl_ (oM3 ww))))) (a_ (pmIn v_TX c_TU e5) (pmO0 v_TX x)) (q0 (q2 (l_ 0 3 rfl (m_ 3 3 rfl (a_ (a_ (a_ (Eq.refl true) (a_ (pmSi v_TX c_TU k_TX uu x (isS e5)) (List.mem_cons_self (a := ((v_TX x, 6) : LV × Nat)) (l := [])))) tr) (r2_ tr))))) (q0 (getP_enc v_TX c_TU k_TX uu x e5) (Eq.refl true) (Eq.refl true) (show 1 ≠ 6 from by decide)) (q3 tr (pm_same v_TX c_TU k_TX true ks0 [] (m := uu) (k := x) e5)) (q25 (m_ 3 3 rfl (a_ (a_ (a_ (lT_gone_ok uu hh ww x y7 e6 (sel [0, 1, 2, 3]) sj_) (o4_ [.map 1, .map 2, .map 3] uu hh ww)) tr) tr)) (q0 (q1 (a_ (lT_on_ok y7.1 y7.2.1 y7.2.2 y9 e8 (sel [0, 1, 2, 3]) sj_) (o4_ [.map 1, .map 2, .map 3] y7.1 y7.2.1 y7.2.2))) (q1 (Eq.refl true)) (q1 (q8 (Eq.refl 2) (le_ 2 2 rfl) (Eq.refl 0))) (r1_ tr)) (q3 tr (LO.Sub.var (a := [.nilsl, .ds 12 (y9.1).length (rowF c_TG default y9.1)]) (b := [.ds 3 (([] : List (TX))).length (rowF c_TX default ([] : List (TX))), .ds 12 (y9.1).length (rowF c_TG default y9.1)]) (a_ (le_nil_ds 3 (rowF c_TX default [])) (a_ (LV.Le.refl (.ds 12 (y9.1).length (rowF c_TG default y9.1))) tr)))) tr))) (le_ 2 2 rfl))
 ·obtain rfl := si_ h
  exact rr_ [] 27 [.reg [], .reg [(1, hk_ (hK_ [0, 1, 2, 3] (lT_ok_v y2) (lT_ok_objs uu hh ww) (lT_ok_up hh ww y2)))], .reg [(5, { look := none })], .reg [], .wk [] [(5, .var [.ds 3 (([] : List (TX))).length (rowF c_TX default ([] : List (TX))), .nilsl])], .wk [] [(5, .var (c_TO (TO.mk ([] : List (TX)) ([] : List (TG)))))]]
   (q22 (q7 (q2 tr) (q24 (q16 (lT_ok_ok uu hh ww y2 e1 (sel [0, 1, 2, 3]) sj_) (rl_ (.var [.map 1, .map 2, .map 3])) (le_pmR v_TX c_TU (ag := true) (ks := ks0) (m := uu) (opn := [])) (q3 (rl_ (oM3 hh)) (rl_ (oM3 ww))))) (q2 (l_ 0 3 rfl (m_ 3 3 rfl (a_ (a_ (a_ (Eq.refl true) (pmN v_TX c_TU k_TX uu x c3)) tr) (r2_ tr))))) (q15 (q13 (Eq.refl true) (q8 (Eq.refl 2) (le_ 2 2 rfl) (Eq.refl 0)) tr) (LO.Sub.var (a := [.nilsl, .nilsl]) (b := [.ds 3 (([] : List (TX))).length (rowF c_TX default ([] : List (TX))), .nilsl]) (a_ (le_nil_ds 3 (rowF c_TX default [])) (a_ (LV.Le.refl (.nilsl)) tr))) (LO.Sub.var (a := [.ds 3 (([] : List (TX))).length (rowF c_TX default ([] : List (TX))), .nilsl]) (b := [.ds 3 (([] : List (TX))).length (rowF c_TX default ([] : List (TX))), .ds 12 (([] : List (TG))).length (rowF c_TG default ([] : List (TG)))]) (a_ (LV.Le.refl (.ds 3 (([] : List (TX))).length (rowF c_TX default ([] : List (TX))))) (a_ (le_nil_ds 12 (rowF c_TG default [])) tr))))) (le_ 2 2 rfl))
def lT_Restore_v (r : (Int) × (UT) × (Bag (TL × Int)) × (Bag (TL × Int))) : LV := .int .i64 r.1
def lT_Restore_up (r : (Int) × (UT) × (Bag (TL × Int)) × (Bag (TL × Int))) : Upd := [(0, some (.var [.map 1, .map 2, .map 3])), (1, some (oP1 r.2.1 [])), (2, some (.mapq true ks2 (Bag.map (fun e_ => (v_TL e_.1, (LV.int .u8) e_.2)) r.2.2.1))), (3, some (.mapq true ks2 (Bag.map (fun e_ => (v_TL e_.1, (LV.int .u8) e_.2)) r.2.2.2)))]
def lT_Restore_objs (uu : UT) (hh ww : PT) : List LO := [.var [.map 1, .map 2, .map 3], oP1 uu [], oM3 hh, oM3 ww]
def lT_Restore_c16 (uu : UT) (hh ww : PT) (x : TX) (keys : List (A8 (Int))) : Option ((Int) × (UT) × (Bag (TL × Int)) × (Bag (TL × Int))) :=
 some (7, uu, (Bag.of hh), (Bag.of ww))
def lT_Restore_c20 (uu : UT) (hh ww : PT) (x : TX) (keys : List (A8 (Int))) : Option ((Int) × (UT) × (Bag (TL × Int)) × (Bag (TL × Int))) :=
 some (5, uu, (Bag.of hh), (Bag.of ww))
def lT_Restore_l1 (uu : UT) (hh ww : PT) (x : TX) (keys : List (A8 (Int))) (m : List (A8 (Int) × Bool)) (y1 : UT) : Nat → (PT) → (List (A8 (Int) × Bool)) → Option ((Int) × (UT) × (Bag (TL × Int)) × (Bag (TL × Int)))
 | 0, _, _ => none
 | fuel + 1, m2, rest =>
  if ((List.isEmpty rest) : Bool) then
   some (0, y1, (Bag.of m2), (Bag.of ww))
  else agree rest fun a1 rs2 =>
   lT_Restore_l1 uu hh ww x keys m y1 fuel (mset m2 (TL.mk x a1.1) 2) rs2
def lT_Restore_c21 (uu : UT) (hh ww : PT) (x : TX) (keys : List (A8 (Int))) (m : List (A8 (Int) × Bool)) : Option ((Int) × (UT) × (Bag (TL × Int)) × (Bag (TL × Int))) :=
 (some (mset uu x (TU.mk (TS.mk 0 x) true))).bind fun y1 =>
 lT_Restore_l1 uu hh ww x keys m y1 big hh m
def lT_Restore_l0 (uu : UT) (hh ww : PT) (x : TX) (keys : List (A8 (Int))) : Nat → (Bool) → (Int) → (List (A8 (Int) × Bool)) → Option ((Int) × (UT) × (Bag (TL × Int)) × (Bag (TL × Int)))
 | 0, _, _, _ => none
 | fuel + 1, held2, t18, m =>
  if ((decide (t18 < ((keys).length : Int))) : Bool) then
   if 0 ≤ t18 ∧ t18 < (((keys).length : Nat) : Int) then
   (lock_keyMay (keys.getD t18.toNat default)).bind fun y4 =>
   if ((!y4) : Bool) then
    some (1, uu, (Bag.of hh), (Bag.of ww))
   else
    if (((mget m (keys.getD t18.toNat default)).getD default) : Bool) then
     some (1, uu, (Bag.of hh), (Bag.of ww))
    else
     if (held2 : Bool) then
      lT_Restore_l0 uu hh ww x keys fuel true (IntKind.wrap .i64 (t18 + 1)) (mset m (keys.getD t18.toNat default) true)
     else
      (lP_at hh (keys.getD t18.toNat default)).bind fun y9 =>
      lT_Restore_l0 uu hh ww x keys fuel (decide (0 < ((y9).length : Int))) (IntKind.wrap .i64 (t18 + 1)) (mset m (keys.getD t18.toNat default) true)
   else none
  else
   (ids_TxMay x).bind fun y3 =>
   if ((!y3) : Bool) then
    some (1, uu, (Bag.of hh), (Bag.of ww))
   else
    if ((((keys).length : Int) == 0) : Bool) then
     some (1, uu, (Bag.of hh), (Bag.of ww))
    else
     if (((mget uu x).isSome) : Bool) then
      (mget uu x).bind fun y7 =>
      lT_Restore_c16 uu hh ww x keys
     else
      if (held2 : Bool) then
       some (11, uu, (Bag.of hh), (Bag.of ww))
      else
       if ((((uu).length : Int) == 64) : Bool) then
        lT_Restore_c20 uu hh ww x keys
       else
        lT_Restore_c21 uu hh ww x keys m
def lT_Restore (uu : UT) (hh ww : PT) (x : TX) (keys : List (A8 (Int))) : Option ((Int) × (UT) × (Bag (TL × Int)) × (Bag (TL × Int))) :=
 (lT_ok uu hh ww).bind fun y2 =>
 lT_Restore_l0 uu hh ww x keys big false 0 ([] : List (A8 (Int) × Bool))
abbrev lT_Restore_K1000016 (uu : UT) (hh ww : PT) (r : (Int) × (UT) × (Bag (TL × Int)) × (Bag (TL × Int))) : Prop := Kt_ w0 W μ0 Tryz.f35 4 4 (lT_Restore_v r) (lT_Restore_up r) (kAtR (bodyOf Tryz.f35) 16) (n_ 92 []) [some (.var [.map 1, .map 2, .map 3]), some (oP1 uu []), some (oM3 hh), some (oM3 ww)]
abbrev lT_Restore_K1000020 (uu : UT) (hh ww : PT) (r : (Int) × (UT) × (Bag (TL × Int)) × (Bag (TL × Int))) : Prop := Kt_ w0 W μ0 Tryz.f35 4 4 (lT_Restore_v r) (lT_Restore_up r) (kAtR (bodyOf Tryz.f35) 20) (n_ 92 []) [some (.var [.map 1, .map 2, .map 3]), some (oP1 uu []), some (oM3 hh), some (oM3 ww)]
abbrev lT_Restore_K1 (ww : PT) (x : TX) (m : List (A8 (Int) × Bool)) (y1 : UT) (m2 : PT) (rest : List (A8 (Int) × Bool)) (r : (Int) × (UT) × (Bag (TL × Int)) × (Bag (TL × Int))) : Prop := Kt_ w0 W μ0 Tryz.f35 4 4 (lT_Restore_v r) (lT_Restore_up r) (kAt (bodyOf Tryz.f35) 1) ((.ptr 0 0 0) :: .any :: .any :: .any :: (.ptr 4 0 0) :: n_ 75 ((.ptr 5 0 0) :: n_ 11 [])) [some (.var [.map 1, .map 2, .map 3]), some (oP1 y1 []), some (oM3 m2), some (oM3 ww), some (.var (c_TX x)), some (.mit 6 true ks4 (encM (fun z_ : A8 (Int) => LV.agg [.int .u8 z_.a0, .int .u8 z_.a1, .int .u8 z_.a2, .int .u8 z_.a3, .int .u8 z_.a4, .int .u8 z_.a5, .int .u8 z_.a6, .int .u8 z_.a7]) LV.bool m) none (encM (fun z_ : A8 (Int) => LV.agg [.int .u8 z_.a0, .int .u8 z_.a1, .int .u8 z_.a2, .int .u8 z_.a3, .int .u8 z_.a4, .int .u8 z_.a5, .int .u8 z_.a6, .int .u8 z_.a7]) LV.bool rest)), none]
abbrev lT_Restore_K1000021 (uu : UT) (hh ww : PT) (x : TX) (m : List (A8 (Int) × Bool)) (r : (Int) × (UT) × (Bag (TL × Int)) × (Bag (TL × Int))) : Prop := Kt_ w0 W μ0 Tryz.f35 4 4 (lT_Restore_v r) (lT_Restore_up r) (kAtR (bodyOf Tryz.f35) 21) ((.ptr 0 0 0) :: .any :: .any :: .any :: (.ptr 4 0 0) :: .any :: .any :: (.map 5) :: n_ 84 []) [some (.var [.map 1, .map 2, .map 3]), some (oP1 uu []), some (oM3 hh), some (oM3 ww), some (.var (c_TX x)), some (oM5 m)]
abbrev lT_Restore_K0 (uu : UT) (hh ww : PT) (x : TX) (keys : List (A8 (Int))) (held2 : Bool) (t18 : Int) (m : List (A8 (Int) × Bool)) (r : (Int) × (UT) × (Bag (TL × Int)) × (Bag (TL × Int))) : Prop := Kt_ w0 W μ0 Tryz.f35 4 4 (lT_Restore_v r) (lT_Restore_up r) (kAt (bodyOf Tryz.f35) 0) ((.ptr 0 0 0) :: .any :: (.ds 8 (keys).length (rowF (fun z_ : A8 (Int) => [.int .u8 z_.a0, .int .u8 z_.a1, .int .u8 z_.a2, .int .u8 z_.a3, .int .u8 z_.a4, .int .u8 z_.a5, .int .u8 z_.a6, .int .u8 z_.a7]) default keys)) :: .any :: (.ptr 4 0 0) :: .any :: .any :: (.map 5) :: (.bool held2) :: n_ 7 ((.ds 8 (keys).length (rowF (fun z_ : A8 (Int) => [.int .u8 z_.a0, .int .u8 z_.a1, .int .u8 z_.a2, .int .u8 z_.a3, .int .u8 z_.a4, .int .u8 z_.a5, .int .u8 z_.a6, .int .u8 z_.a7]) default keys)) :: (.int .i64 ((keys).length : Int)) :: (.int .i64 t18) :: n_ 73 [])) [some (.var [.map 1, .map 2, .map 3]), some (oP1 uu []), some (oM3 hh), some (oM3 ww), some (.var (c_TX x)), some (oM5 m)]
theorem lT_Restore_c16_ok {w0 W μ0} (hμ : Lt_ μ0 4) (uu : UT) (hh ww : PT) (x : TX) (keys : List (A8 (Int))) (r : (Int) × (UT) × (Bag (TL × Int)) × (Bag (TL × Int))) (h : lT_Restore_c16 uu hh ww x keys = some r) : lT_Restore_K1000016 w0 W μ0 uu hh ww r := by
 unfold lT_Restore_c16 at h
 obtain rfl := si_ h
 exact rr_ [] 13 [.reg [], .wk [] [(2, .mapq true ks2 (Bag.map (fun e_ => (v_TL e_.1, (LV.int .u8) e_.2)) (Bag.of hh)))], .wk [] [(3, .mapq true ks2 (Bag.map (fun e_ => (v_TL e_.1, (LV.int .u8) e_.2)) (Bag.of ww)))]]
  (q1 (q15 (r1_ tr) (sub_mapq v_TL (LV.int .u8) true ks2 hh) (sub_mapq v_TL (LV.int .u8) true ks2 ww)))
theorem lT_Restore_c20_ok {w0 W μ0} (hμ : Lt_ μ0 4) (uu : UT) (hh ww : PT) (x : TX) (keys : List (A8 (Int))) (r : (Int) × (UT) × (Bag (TL × Int)) × (Bag (TL × Int))) (h : lT_Restore_c20 uu hh ww x keys = some r) : lT_Restore_K1000020 w0 W μ0 uu hh ww r := by
 unfold lT_Restore_c20 at h
 obtain rfl := si_ h
 exact rr_ [] 13 [.reg [], .wk [] [(2, .mapq true ks2 (Bag.map (fun e_ => (v_TL e_.1, (LV.int .u8) e_.2)) (Bag.of hh)))], .wk [] [(3, .mapq true ks2 (Bag.map (fun e_ => (v_TL e_.1, (LV.int .u8) e_.2)) (Bag.of ww)))]]
  (q1 (q15 (r1_ tr) (sub_mapq v_TL (LV.int .u8) true ks2 hh) (sub_mapq v_TL (LV.int .u8) true ks2 ww)))
theorem lT_Restore_l1_ok {w0 W μ0} (hμ : Lt_ μ0 4) (uu : UT) (hh ww : PT) (x : TX) (keys : List (A8 (Int))) (m : List (A8 (Int) × Bool)) (y1 : UT) : ∀ (fuel : Nat) (m2 : PT) (rest : List (A8 (Int) × Bool)) (r : (Int) × (UT) × (Bag (TL × Int)) × (Bag (TL × Int))), lT_Restore_l1 uu hh ww x keys m y1 fuel m2 rest = some r → lT_Restore_K1 w0 W μ0 ww x m y1 m2 rest r := by
 intro fuel
 induction fuel with
 | zero => intro m2 rest r h; rw [lT_Restore_l1] at h; cases h
 | succ fuel ih =>
  intro m2 rest r h
  rw [lT_Restore_l1] at h
  refine k_nextT (it := 80) (t1 := 81) (t2 := 82) (d := 5) (m := 6) (ag := true) (ks := ks4) (es := encM (fun z_ : A8 (Int) => LV.agg [.int .u8 z_.a0, .int .u8 z_.a1, .int .u8 z_.a2, .int .u8 z_.a3, .int .u8 z_.a4, .int .u8 z_.a5, .int .u8 z_.a6, .int .u8 z_.a7]) LV.bool m) (fun z_ : A8 (Int) => LV.agg [.int .u8 z_.a0, .int .u8 z_.a1, .int .u8 z_.a2, .int .u8 z_.a3, .int .u8 z_.a4, .int .u8 z_.a5, .int .u8 z_.a6, .int .u8 z_.a7]) LV.bool rest (by kernel_rfl) (by kernel_rfl) (by kernel_rfl) (by kernel_rfl) (fun hn_ => ?_) (fun i_ a1 hi_ => ?_)
  ·rw [if_pos (rest_none hn_)] at h
   obtain rfl := si_ h
   exact rr_ [] 18 [.x (.mitz 5), .reg [], .wk [] [(2, .mapq true ks2 (Bag.map (fun e_ => (v_TL e_.1, (LV.int .u8) e_.2)) (Bag.of m2)))], .wk [] [(3, .mapq true ks2 (Bag.map (fun e_ => (v_TL e_.1, (LV.int .u8) e_.2)) (Bag.of ww)))]]
    (q1 (q7 (show 6 ≠ 5 from by decide) tr (q3 tr (sub_mapq v_TL (LV.int .u8) true ks2 m2)) (q9 tr (sub_mapq v_TL (LV.int .u8) true ks2 ww))))
  ·rw [if_neg (rest_some hi_)] at h
   replace h := agree_some h hi_
   generalize rest.eraseIdx i_ = rs2 at h ⊢
   exact rt_ hμ [4, 5, 6] 20 [.reg [], .reg [(7, { os := [(2, oM3 (mset m2 (TL.mk x a1.1) 2))] })], .x (.mitn 5)]
    (q0 (q2 (q18 (Eq.refl 8) (le_ 8 8 rfl) (Eq.refl 0))) (q2 (l_ 1 3 rfl (m_ 3 3 rfl (m_ 8 8 rfl (a_ (a_ (Eq.refl true) tr) (a_ (a_ (a_ (Eq.refl true) (Eq.refl true)) (a_ (sub_upd v_TL (LV.int .u8) k_TL true ks2 m2 (TL.mk x a1.1) 2) tr)) tr)))))) tr tr) (ih _ _ r h) ⟨rfl, uP, trivial, trivial, rfl, lt_ 6 7 rfl, trivial⟩
theorem lT_Restore_c21_ok {w0 W μ0} (hμ : Lt_ μ0 4) (uu : UT) (hh ww : PT) (x : TX) (keys : List (A8 (Int))) (m : List (A8 (Int) × Bool)) (r : (Int) × (UT) × (Bag (TL × Int)) × (Bag (TL × Int))) (h : lT_Restore_c21 uu hh ww x keys m = some r) : lT_Restore_K1000021 w0 W μ0 uu hh ww x m r := by
 unfold lT_Restore_c21 at h
 obtain ⟨y1, E2, h⟩ := bs_ h
 exact rt_ hμ [4, 7, 5] 17 [.reg [(9, { os := [(1, oP1 y1 [])] })], .reg []]
  (q3 (q2 (l_ 0 3 rfl (m_ 3 3 rfl (m_ 3 3 rfl (a_ (a_ (Eq.refl true) tr) (a_ (a_ (Eq.refl true) tr) (r1_ (a_ (a_ (a_ (Eq.refl true) (a_ (Eq.refl true) (show 1 ≠ 6 from by decide))) (a_ (Eq.trans (pm_upd v_TX c_TU k_TX true ks0 [] uu x (TU.mk (TS.mk 0 x) true)) (nm_eq (fun l_ => oP1 l_ []) E2)) tr)) tr)))))))) (r2_ tr)) (lT_Restore_l1_ok hμ uu hh ww x keys m y1 big _ _ r h) ⟨rfl, uP, trivial, trivial, rfl, lt_ 6 7 rfl, trivial⟩
theorem lT_Restore_l0_ok {w0 W μ0} (hμ : Lt_ μ0 4) (uu : UT) (hh ww : PT) (x : TX) (keys : List (A8 (Int))) : ∀ (fuel : Nat) (held2 : Bool) (t18 : Int) (m : List (A8 (Int) × Bool)) (r : (Int) × (UT) × (Bag (TL × Int)) × (Bag (TL × Int))), lT_Restore_l0 uu hh ww x keys fuel held2 t18 m = some r → lT_Restore_K0 w0 W μ0 uu hh ww x keys held2 t18 m r := by
 intro fuel
 induction fuel with
 | zero => intro held2 t18 m r h; rw [lT_Restore_l0] at h; cases h
 | succ fuel ih =>
  intro held2 t18 m r h
  rw [lT_Restore_l0] at h
  rcases it_ h with ⟨C1, h⟩ | ⟨C1, h⟩
  ·obtain ⟨G2, h⟩ := gs_ h
   obtain ⟨y4, E3, h⟩ := bs_ h
   rcases it_ h with ⟨C5, h⟩ | ⟨C5, h⟩
   ·obtain rfl := si_ h
    exact rr_ [] 31 [.go, .reg [(0, hT)], .reg [], .reg [(1, hC (lock_keyMay_v y4)), (3, hT)], .reg [], .wk [] [(2, .mapq true ks2 (Bag.map (fun e_ => (v_TL e_.1, (LV.int .u8) e_.2)) (Bag.of hh)))], .wk [] [(3, .mapq true ks2 (Bag.map (fun e_ => (v_TL e_.1, (LV.int .u8) e_.2)) (Bag.of ww)))]]
     (q16 (f_ C1 tr) (q13 (a_ (Eq.refl 8) G2) (le_ 8 8 rfl) (q18 (Eq.refl 8) (le_ 8 8 rfl) (Eq.refl 0))) (m_ 8 8 rfl (a_ (a_ (a_ (lock_keyMay_tri (keys.getD t18.toNat default) y4 E3) tr) tr) (r1_ (f_ C5 (a_ tr (t2_ (r1_ tr))))))) (q15 (r1_ tr) (sub_mapq v_TL (LV.int .u8) true ks2 hh) (sub_mapq v_TL (LV.int .u8) true ks2 ww)))
   ·rcases it_ h with ⟨C6, h⟩ | ⟨C6, h⟩
    ·obtain rfl := si_ h
     exact rr_ [] 31 [.go, .reg [(0, hT)], .reg [], .reg [(1, hC (lock_keyMay_v y4)), (3, hF), (6, { look := ((mget m (keys.getD t18.toNat default)).map LV.bool), v := some (.bool ((mget m (keys.getD t18.toNat default)).getD default)) }), (7, hT)], .reg [], .wk [] [(2, .mapq true ks2 (Bag.map (fun e_ => (v_TL e_.1, (LV.int .u8) e_.2)) (Bag.of hh)))], .wk [] [(3, .mapq true ks2 (Bag.map (fun e_ => (v_TL e_.1, (LV.int .u8) e_.2)) (Bag.of ww)))]]
      (q16 (f_ C1 tr) (q13 (a_ (Eq.refl 8) G2) (le_ 8 8 rfl) (q18 (Eq.refl 8) (le_ 8 8 rfl) (Eq.refl 0))) (m_ 8 8 rfl (a_ (a_ (a_ (lock_keyMay_tri (keys.getD t18.toNat default) y4 E3) tr) tr) (r1_ (f_ C5 (r1_ (m_ 8 8 rfl (a_ (a_ (a_ (Eq.refl true) (findE_enc (fun z_ : A8 (Int) => LV.agg [.int .u8 z_.a0, .int .u8 z_.a1, .int .u8 z_.a2, .int .u8 z_.a3, .int .u8 z_.a4, .int .u8 z_.a5, .int .u8 z_.a6, .int .u8 z_.a7]) LV.bool (k_arr8 .u8) m (keys.getD t18.toNat default))) (a_ (le_look LV.bool (mget m (keys.getD t18.toNat default)) default) tr)) (f_ C6 tr)))))))) (q15 (r1_ tr) (sub_mapq v_TL (LV.int .u8) true ks2 hh) (sub_mapq v_TL (LV.int .u8) true ks2 ww)))
    ·rcases it_ h with ⟨C7, h⟩ | ⟨C7, h⟩
     ·exact rt_ hμ [4, 5] 35 [.go, .reg [(0, hT)], .reg [], .reg [(1, hC (lock_keyMay_v y4)), (3, hF), (6, { look := ((mget m (keys.getD t18.toNat default)).map LV.bool), v := some (.bool ((mget m (keys.getD t18.toNat default)).getD default)) }), (7, hF)], .reg [(2, { os := [(5, oM5 (mset m (keys.getD t18.toNat default) true))] })], .reg [(1, hT)], .reg []]
       (q0 (f_ C1 tr) (q13 (a_ (Eq.refl 8) G2) (le_ 8 8 rfl) (q18 (Eq.refl 8) (le_ 8 8 rfl) (Eq.refl 0))) (m_ 8 8 rfl (a_ (a_ (a_ (lock_keyMay_tri (keys.getD t18.toNat default) y4 E3) tr) tr) (r1_ (f_ C5 (r1_ (m_ 8 8 rfl (a_ (a_ (a_ (Eq.refl true) (findE_enc (fun z_ : A8 (Int) => LV.agg [.int .u8 z_.a0, .int .u8 z_.a1, .int .u8 z_.a2, .int .u8 z_.a3, .int .u8 z_.a4, .int .u8 z_.a5, .int .u8 z_.a6, .int .u8 z_.a7]) LV.bool (k_arr8 .u8) m (keys.getD t18.toNat default))) (a_ (le_look LV.bool (mget m (keys.getD t18.toNat default)) default) tr)) (f_ C6 tr)))))))) (q25 (m_ 8 8 rfl (a_ (a_ (a_ (Eq.refl true) (Eq.refl true)) (a_ (sub_upd (fun z_ : A8 (Int) => LV.agg [.int .u8 z_.a0, .int .u8 z_.a1, .int .u8 z_.a2, .int .u8 z_.a3, .int .u8 z_.a4, .int .u8 z_.a5, .int .u8 z_.a6, .int .u8 z_.a7]) LV.bool (k_arr8 .u8) true ks4 m (keys.getD t18.toNat default) true) tr)) tr)) (f_ C7 (t8_ (r2_ tr))) (r2_ tr) tr)) (ih _ _ _ r h) ⟨rfl, uP, trivial, trivial, rfl, trivial, trivial⟩
     ·obtain ⟨y9, E8, h⟩ := bs_ h
      exact rt_ hμ [4, 5] 35 [.go, .reg [(0, hT)], .reg [], .reg [(1, hC (lock_keyMay_v y4)), (3, hF), (6, { look := ((mget m (keys.getD t18.toNat default)).map LV.bool), v := some (.bool ((mget m (keys.getD t18.toNat default)).getD default)) }), (7, hF)], .reg [(2, { os := [(5, oM5 (mset m (keys.getD t18.toNat default) true))] })], .reg [(1, hF), (7, hk_ (hK_ [2, 7] (lP_at_v y9) (lP_at_objs hh) (lP_at_up hh y9)))], .reg []]
       (q0 (f_ C1 tr) (q13 (a_ (Eq.refl 8) G2) (le_ 8 8 rfl) (q18 (Eq.refl 8) (le_ 8 8 rfl) (Eq.refl 0))) (m_ 8 8 rfl (a_ (a_ (a_ (lock_keyMay_tri (keys.getD t18.toNat default) y4 E3) tr) tr) (r1_ (f_ C5 (r1_ (m_ 8 8 rfl (a_ (a_ (a_ (Eq.refl true) (findE_enc (fun z_ : A8 (Int) => LV.agg [.int .u8 z_.a0, .int .u8 z_.a1, .int .u8 z_.a2, .int .u8 z_.a3, .int .u8 z_.a4, .int .u8 z_.a5, .int .u8 z_.a6, .int .u8 z_.a7]) LV.bool (k_arr8 .u8) m (keys.getD t18.toNat default))) (a_ (le_look LV.bool (mget m (keys.getD t18.toNat default)) default) tr)) (f_ C6 tr)))))))) (q25 (m_ 8 8 rfl (a_ (a_ (a_ (Eq.refl true) (Eq.refl true)) (a_ (sub_upd (fun z_ : A8 (Int) => LV.agg [.int .u8 z_.a0, .int .u8 z_.a1, .int .u8 z_.a2, .int .u8 z_.a3, .int .u8 z_.a4, .int .u8 z_.a5, .int .u8 z_.a6, .int .u8 z_.a7]) LV.bool (k_arr8 .u8) true ks4 m (keys.getD t18.toNat default) true) tr)) tr)) (f_ C7 (r1_ (r2_ (l_ 1 3 rfl (m_ 8 8 rfl (a_ (a_ (a_ (lP_at_ok hh (keys.getD t18.toNat default) y9 E8 (sel [2, 7]) sj_) (a_ (rl_ (oM3 hh)) tr)) tr) (r4_ tr))))))) (r2_ tr) tr)) (ih _ _ _ r h) ⟨rfl, uP, trivial, trivial, rfl, trivial, trivial⟩
  ·obtain ⟨y3, E2, h⟩ := bs_ h
   rcases it_ h with ⟨C4, h⟩ | ⟨C4, h⟩
   ·obtain rfl := si_ h
    exact rr_ [] 27 [.go, .reg [(0, hF)], .reg [(1, hC (ids_TxMay_v y3)), (3, hT)], .reg [], .wk [] [(2, .mapq true ks2 (Bag.map (fun e_ => (v_TL e_.1, (LV.int .u8) e_.2)) (Bag.of hh)))], .wk [] [(3, .mapq true ks2 (Bag.map (fun e_ => (v_TL e_.1, (LV.int .u8) e_.2)) (Bag.of ww)))]]
     (q1 (q11 (f_ C1 tr) (m_ 3 3 rfl (c_ (ids_TxMay_tri x y3 E2) (r1_ (f_ C4 (a_ tr (t2_ (r2_ tr))))))) tr (q3 (q3 tr (sub_mapq v_TL (LV.int .u8) true ks2 hh)) (q3 tr (sub_mapq v_TL (LV.int .u8) true ks2 ww)))))
   ·rcases it_ h with ⟨C5, h⟩ | ⟨C5, h⟩
    ·obtain rfl := si_ h
     exact rr_ [] 27 [.go, .reg [(0, hF)], .reg [(1, hC (ids_TxMay_v y3)), (3, hF), (8, hT)], .reg [], .wk [] [(2, .mapq true ks2 (Bag.map (fun e_ => (v_TL e_.1, (LV.int .u8) e_.2)) (Bag.of hh)))], .wk [] [(3, .mapq true ks2 (Bag.map (fun e_ => (v_TL e_.1, (LV.int .u8) e_.2)) (Bag.of ww)))]]
      (q1 (q11 (f_ C1 tr) (m_ 3 3 rfl (c_ (ids_TxMay_tri x y3 E2) (r1_ (f_ C4 (r4_ (f_ C5 tr)))))) tr (q3 (q3 tr (sub_mapq v_TL (LV.int .u8) true ks2 hh)) (q3 tr (sub_mapq v_TL (LV.int .u8) true ks2 ww)))))
    ·rcases it_ h with ⟨C6, h⟩ | ⟨C6, h⟩
     ·obtain ⟨y7, E8, h⟩ := bs_ h
      exact rt_ hμ [] 30 [.go, .reg [(0, hF)], .reg [(1, hC (ids_TxMay_v y3)), (3, hF), (8, hF)], .x (.p (.po 1 (v_TX x) (c_TU y7))), .reg [(5, { look := some (.ptr 6 0 0) })], .x (.p (.pc 1)), .wk [] [(1, oP1 uu [])]]
       (q0 (f_ C1 tr) (m_ 3 3 rfl (c_ (ids_TxMay_tri x y3 E2) (r1_ (f_ C4 (r4_ (f_ C5 tr)))))) (a_ (pmIn v_TX c_TU E8) (pmO0 v_TX x)) (q0 (q2 (l_ 0 3 rfl (m_ 3 3 rfl (a_ (a_ (a_ (Eq.refl true) (a_ (pmSi v_TX c_TU k_TX uu x (isS E8)) (List.mem_cons_self (a := ((v_TX x, 6) : LV × Nat)) (l := [])))) tr) (r2_ tr))))) (q0 (getP_enc v_TX c_TU k_TX uu x E8) (Eq.refl true) (Eq.refl true) (show 1 ≠ 6 from by decide)) (q3 tr (pm_same v_TX c_TU k_TX true ks0 [] (m := uu) (k := x) E8)) tr)) (lT_Restore_c16_ok hμ uu hh ww x keys r h) uT
     ·rcases it_ h with ⟨C7, h⟩ | ⟨C7, h⟩
      ·obtain rfl := si_ h
       exact rr_ [] 35 [.go, .reg [(0, hF)], .reg [(1, hC (ids_TxMay_v y3)), (3, hF), (8, hF)], .reg [(5, { look := none })], .reg [(1, hT)], .reg [], .wk [] [(2, .mapq true ks2 (Bag.map (fun e_ => (v_TL e_.1, (LV.int .u8) e_.2)) (Bag.of hh)))], .wk [] [(3, .mapq true ks2 (Bag.map (fun e_ => (v_TL e_.1, (LV.int .u8) e_.2)) (Bag.of ww)))]]
        (q16 (f_ C1 tr) (m_ 3 3 rfl (c_ (ids_TxMay_tri x y3 E2) (r1_ (f_ C4 (r4_ (f_ C5 tr)))))) (q2 (l_ 0 3 rfl (m_ 3 3 rfl (a_ (a_ (a_ (Eq.refl true) (pmN v_TX c_TU k_TX uu x C6)) tr) (r2_ tr))))) (q25 (f_ C7 tr) tr (q3 tr (sub_mapq v_TL (LV.int .u8) true ks2 hh)) (q9 tr (sub_mapq v_TL (LV.int .u8) true ks2 ww))))
      ·rcases it_ h with ⟨C8, h⟩ | ⟨C8, h⟩
       ·exact rt_ hμ [] 35 [.go, .reg [(0, hF)], .reg [(1, hC (ids_TxMay_v y3)), (3, hF), (8, hF)], .reg [(5, { look := none })], .reg [(1, hF)], .reg [(4, hv_ (.int .i64 ((uu).length : Int))), (6, hT)]]
         (q0 (f_ C1 tr) (m_ 3 3 rfl (c_ (ids_TxMay_tri x y3 E2) (r1_ (f_ C4 (r4_ (f_ C5 tr)))))) (q2 (l_ 0 3 rfl (m_ 3 3 rfl (a_ (a_ (a_ (Eq.refl true) (pmN v_TX c_TU k_TX uu x C6)) tr) (r2_ tr))))) (q27 (f_ C7 tr) (q2 (l_ 0 3 rfl (a_ (a_ tr (a_ (le_pmlen v_TX c_TU uu) tr)) (r1_ (f_ C8 tr))))))) (lT_Restore_c20_ok hμ uu hh ww x keys r h) uT
       ·exact rt_ hμ [4, 5] 37 [.go, .reg [(0, hF)], .reg [(1, hC (ids_TxMay_v y3)), (3, hF), (8, hF)], .reg [(5, { look := none })], .reg [(1, hF)], .reg [(4, hv_ (.int .i64 ((uu).length : Int))), (6, hF)]]
         (q0 (f_ C1 tr) (m_ 3 3 rfl (c_ (ids_TxMay_tri x y3 E2) (r1_ (f_ C4 (r4_ (f_ C5 tr)))))) (q2 (l_ 0 3 rfl (m_ 3 3 rfl (a_ (a_ (a_ (Eq.refl true) (pmN v_TX c_TU k_TX uu x C6)) tr) (r2_ tr))))) (q27 (f_ C7 tr) (q2 (l_ 0 3 rfl (a_ (a_ tr (a_ (le_pmlen v_TX c_TU uu) tr)) (r1_ (f_ C8 tr))))))) (lT_Restore_c21_ok hμ uu hh ww x keys m r h) ⟨rfl, uP, trivial, trivial, rfl, trivial, trivial⟩
theorem lT_Restore_ok (uu : UT) (hh ww : PT) (x : TX) (keys : List (A8 (Int))) (r : (Int) × (UT) × (Bag (TL × Int)) × (Bag (TL × Int))) (h : lT_Restore uu hh ww x keys = some r) : ∀ σ, Inj 4 σ → FnTri Tryz.prog 35 (renL σ [.ptr 0 0 0, v_TX x, .ds 8 (keys).length (rowF (fun z_ : A8 (Int) => [.int .u8 z_.a0, .int .u8 z_.a1, .int .u8 z_.a2, .int .u8 z_.a3, .int .u8 z_.a4, .int .u8 z_.a5, .int .u8 z_.a6, .int .u8 z_.a7]) default keys)]) (preOf σ 0 (lT_Restore_objs uu hh ww)) ((lT_Restore_v r).ren σ) (upOf σ (lT_Restore_up r)) := by
 refine fo_ Tryz.func35 ⟨rfl, uP, trivial, trivial, trivial⟩ ⟨rfl, uP, trivial, trivial, trivial⟩ ?_
 intro w0 W μ0 hμ
 unfold lT_Restore at h
 obtain ⟨y2, e1, h⟩ := bs_ h
 exact rt_ hμ [4, 5] 30 [.reg [], .reg [(1, hk_ (hK_ [0, 1, 2, 3] (lT_ok_v y2) (lT_ok_objs uu hh ww) (lT_ok_up hh ww y2)))], .reg [], .reg [], .reg []]
  (q7 (r2_ tr) (q4 (q0 (lT_ok_ok uu hh ww y2 e1 (sel [0, 1, 2, 3]) sj_) (rl_ (.var [.map 1, .map 2, .map 3])) (le_pmR v_TX c_TU (ag := true) (ks := ks0) (m := uu) (opn := [])) (q3 (rl_ (oM3 hh)) (rl_ (oM3 ww)))) tr) (r2_ tr) (q27 tr (q2 tr))) (lT_Restore_l0_ok hμ uu hh ww x keys big _ _ _ r h) ⟨rfl, uP, trivial, trivial, rfl, trivial, trivial⟩
def pl_does_v (r : (TO) × (Int) × (UT) × (Bag (TL × Int)) × (Bag (TL × Int))) : LV := .tup [v_TO r.1, .int .i64 r.2.1]
def pl_does_up (r : (TO) × (Int) × (UT) × (Bag (TL × Int)) × (Bag (TL × Int))) : Upd := [(0, some (.var [.map 1, .map 2, .map 3])), (1, some (oP1 r.2.2.1 [])), (2, some (.mapq true ks2 (Bag.map (fun e_ => (v_TL e_.1, (LV.int .u8) e_.2)) r.2.2.2.1))), (3, some (.mapq true ks2 (Bag.map (fun e_ => (v_TL e_.1, (LV.int .u8) e_.2)) r.2.2.2.2)))]
def pl_does_objs (uu : UT) (hh ww : PT) : List LO := [.var [.map 1, .map 2, .map 3], oP1 uu [], oM3 hh, oM3 ww]
def pl_does (uu : UT) (hh ww : PT) (a : TA) : Option ((TO) × (Int) × (UT) × (Bag (TL × Int)) × (Bag (TL × Int))) :=
 if (((Int.tmod a.f_Kind 5) == 2) : Bool) then
  (lT_Prepare uu hh ww a.f_Stamp.f_Tx).bind fun y3 =>
  some (y3.1, y3.2.1, y3.2.2.1, (Bag.of y3.2.2.2.1), (Bag.of y3.2.2.2.2))
 else
  if (((Int.tmod a.f_Kind 5) == 3) : Bool) then
   (lT_Release uu hh ww a.f_Stamp.f_Tx).bind fun y4 =>
   some (y4.1, y4.2.1, y4.2.2.1, (Bag.of y4.2.2.2.1), (Bag.of y4.2.2.2.2))
  else
   if (((Int.tmod a.f_Kind 5) == 4) : Bool) then
    (lT_Restore uu hh ww a.f_Stamp.f_Tx a.f_Keys).bind fun y5 =>
    some ((TO.mk ([] : List (TX)) ([] : List (TG))), y5.1, y5.2.1, y5.2.2.1, y5.2.2.2)
   else
    (lT_Ask uu hh ww a.f_Stamp a.f_Key a.f_Mode).bind fun y6 =>
    some (y6.1, y6.2.1, y6.2.2.1, (Bag.of y6.2.2.2.1), (Bag.of y6.2.2.2.2))
theorem pl_does_ok (uu : UT) (hh ww : PT) (a : TA) (r : (TO) × (Int) × (UT) × (Bag (TL × Int)) × (Bag (TL × Int))) (h : pl_does uu hh ww a = some r) : ∀ σ, Inj 4 σ → FnTri Tryz.prog 13 (renL σ [.ptr 0 0 0, v_TA a]) (preOf σ 0 (pl_does_objs uu hh ww)) ((pl_does_v r).ren σ) (upOf σ (pl_does_up r)) := by
 refine fo_ Tryz.func13 ⟨rfl, uP, trivial, trivial, trivial⟩ ⟨rfl, uP, trivial, trivial, trivial⟩ ?_
 intro w0 W μ0 hμ
 unfold pl_does at h
 rcases it_ h with ⟨c1, h⟩ | ⟨c1, h⟩
 ·obtain ⟨y3, e2, h⟩ := bs_ h
  obtain rfl := si_ h
  exact rr_ [] 26 [.reg [], .reg [], .reg [(1, hT)], .reg [(4, hk_ (hK_ [0, 1, 2, 3] (lT_Prepare_v y3) (lT_Prepare_objs uu hh ww) (lT_Prepare_up y3)))], .wk [] [(2, .mapq true ks2 (Bag.map (fun e_ => (v_TL e_.1, (LV.int .u8) e_.2)) (Bag.of y3.2.2.2.1)))], .wk [] [(3, .mapq true ks2 (Bag.map (fun e_ => (v_TL e_.1, (LV.int .u8) e_.2)) (Bag.of y3.2.2.2.2)))]]
   (q22 (q7 (q2 tr) (l_ 0 15 rfl (a_ (a_ (ne0 5 rfl) tr) tr)) (r1_ (f_ c1 tr)) (q15 (q2 (m_ 5 15 rfl (a_ (a_ (a_ (lT_Prepare_ok uu hh ww a.f_Stamp.f_Tx y3 e2 (sel [0, 1, 2, 3]) sj_) (o4_ [.map 1, .map 2, .map 3] uu hh ww)) tr) (r2_ (a_ (a_ (a_ (Eq.refl 2) (a_ (le_ 2 2 rfl) (Eq.refl 0))) tr) (r1_ tr)))))) (sub_mapq v_TL (LV.int .u8) true ks2 y3.2.2.2.1) (sub_mapq v_TL (LV.int .u8) true ks2 y3.2.2.2.2))) (le_ 2 2 rfl))
 ·rcases it_ h with ⟨c2, h⟩ | ⟨c2, h⟩
  ·obtain ⟨y4, e3, h⟩ := bs_ h
   obtain rfl := si_ h
   exact rr_ [] 30 [.reg [], .reg [], .reg [(1, hF)], .reg [(1, hT)], .reg [(4, hk_ (hK_ [0, 1, 2, 3] (lT_Release_v y4) (lT_Release_objs uu hh ww) (lT_Release_up y4)))], .wk [] [(2, .mapq true ks2 (Bag.map (fun e_ => (v_TL e_.1, (LV.int .u8) e_.2)) (Bag.of y4.2.2.2.1)))], .wk [] [(3, .mapq true ks2 (Bag.map (fun e_ => (v_TL e_.1, (LV.int .u8) e_.2)) (Bag.of y4.2.2.2.2)))]]
    (q22 (q7 (q2 tr) (l_ 0 15 rfl (a_ (a_ (ne0 5 rfl) tr) tr)) (r1_ (f_ c1 tr)) (q0 (r1_ (f_ c2 tr)) (q2 (m_ 5 15 rfl (a_ (a_ (a_ (lT_Release_ok uu hh ww a.f_Stamp.f_Tx y4 e3 (sel [0, 1, 2, 3]) sj_) (o4_ [.map 1, .map 2, .map 3] uu hh ww)) tr) (r2_ (a_ (a_ (a_ (Eq.refl 2) (a_ (le_ 2 2 rfl) (Eq.refl 0))) tr) (r1_ tr)))))) (q3 tr (sub_mapq v_TL (LV.int .u8) true ks2 y4.2.2.2.1)) (q9 tr (sub_mapq v_TL (LV.int .u8) true ks2 y4.2.2.2.2)))) (le_ 2 2 rfl))
  ·rcases it_ h with ⟨c3, h⟩ | ⟨c3, h⟩
   ·obtain ⟨y5, e4, h⟩ := bs_ h
    obtain rfl := si_ h
    exact rr_ [] 34 [.reg [], .reg [], .reg [(1, hF)], .reg [(1, hF)], .reg [(1, hT)], .reg [(7, hk_ (hK_ [0, 1, 2, 3] (lT_Restore_v y5) (lT_Restore_objs uu hh ww) (lT_Restore_up y5)))], .wk [] [(5, .var [.ds 3 (([] : List (TX))).length (rowF c_TX default ([] : List (TX))), .nilsl])], .wk [] [(5, .var (c_TO (TO.mk ([] : List (TX)) ([] : List (TG)))))]]
     (q22 (q7 (q2 tr) (l_ 0 15 rfl (a_ (a_ (ne0 5 rfl) tr) tr)) (r1_ (f_ c1 tr)) (q25 (f_ c2 tr) (f_ c3 tr) (a_ (q1 (Eq.refl true)) (q2 (m_ 5 15 rfl (r1_ (l_ 14 15 rfl (a_ (a_ (a_ (lT_Restore_ok uu hh ww a.f_Stamp.f_Tx a.f_Keys y5 e4 (sel [0, 1, 2, 3]) sj_) (o4_ [.map 1, .map 2, .map 3] uu hh ww)) tr) (a_ (a_ (a_ (Eq.refl 2) (a_ (le_ 2 2 rfl) (Eq.refl 0))) tr) (r1_ tr)))))))) (q3 (q3 tr (LO.Sub.var (a := [.nilsl, .nilsl]) (b := [.ds 3 (([] : List (TX))).length (rowF c_TX default ([] : List (TX))), .nilsl]) (a_ (le_nil_ds 3 (rowF c_TX default [])) (a_ (LV.Le.refl (.nilsl)) tr)))) (q3 tr (LO.Sub.var (a := [.ds 3 (([] : List (TX))).length (rowF c_TX default ([] : List (TX))), .nilsl]) (b := [.ds 3 (([] : List (TX))).length (rowF c_TX default ([] : List (TX))), .ds 12 (([] : List (TG))).length (rowF c_TG default ([] : List (TG)))]) (a_ (LV.Le.refl (.ds 3 (([] : List (TX))).length (rowF c_TX default ([] : List (TX))))) (a_ (le_nil_ds 12 (rowF c_TG default [])) tr))))))) (le_ 2 2 rfl))
   ·obtain ⟨y6, e4, h⟩ := bs_ h
    obtain rfl := si_ h
    exact rr_ [] 36 [.reg [], .reg [], .reg [(1, hF)], .reg [(1, hF)], .reg [(1, hF)], .reg [(7, hk_ (hK_ [0, 1, 2, 3] (lT_Ask_v y6) (lT_Ask_objs uu hh ww) (lT_Ask_up y6)))], .wk [] [(2, .mapq true ks2 (Bag.map (fun e_ => (v_TL e_.1, (LV.int .u8) e_.2)) (Bag.of y6.2.2.2.1)))], .wk [] [(3, .mapq true ks2 (Bag.map (fun e_ => (v_TL e_.1, (LV.int .u8) e_.2)) (Bag.of y6.2.2.2.2)))]]
     (q22 (q7 (q2 tr) (l_ 0 15 rfl (a_ (a_ (ne0 5 rfl) tr) tr)) (r1_ (f_ c1 tr)) (q25 (f_ c2 tr) (f_ c3 tr) (r2_ (m_ 5 15 rfl (r1_ (m_ 13 15 rfl (r1_ (l_ 13 15 rfl (a_ (a_ (a_ (lT_Ask_ok uu hh ww a.f_Stamp a.f_Key a.f_Mode y6 e4 (sel [0, 1, 2, 3]) sj_) (o4_ [.map 1, .map 2, .map 3] uu hh ww)) tr) (r2_ (a_ (a_ (a_ (Eq.refl 2) (a_ (le_ 2 2 rfl) (Eq.refl 0))) tr) (r1_ tr)))))))))) (q3 (q3 tr (sub_mapq v_TL (LV.int .u8) true ks2 y6.2.2.2.1)) (q3 tr (sub_mapq v_TL (LV.int .u8) true ks2 y6.2.2.2.2))))) (le_ 2 2 rfl))
def pl_keys_v (r : (List (A8 (Int)))) : LV := .gs 0 (r).length
def pl_keys_up (r : (List (A8 (Int)))) : Upd := [(0, some (.gr 8 (r).length (rowF (fun z_ : A8 (Int) => [.int .u8 z_.a0, .int .u8 z_.a1, .int .u8 z_.a2, .int .u8 z_.a3, .int .u8 z_.a4, .int .u8 z_.a5, .int .u8 z_.a6, .int .u8 z_.a7]) default r)))]
def pl_keys_l1 (t13 : Int) (y2 : (List (TA))) (yL0_4 : Int) (k0 : (Int) → (List (A8 (Int) × Bool)) → (List (A8 (Int))) → Option ((List (A8 (Int))))) : Nat → (Int) → (List (A8 (Int) × Bool)) → (List (A8 (Int))) → Option ((List (A8 (Int))))
 | 0, _, _, _ => none
 | fuel + 1, t24, m2, l3 =>
  if ((decide (t24 < yL0_4)) : Bool) then
   if 0 ≤ t24 ∧ t24 < ((((([(y2.getD t13.toNat default).f_Key] : List (A8 (Int))) ++ (y2.getD t13.toNat default).f_Keys)).length : Nat) : Int) then
   if ((!((mget m2 ((([(y2.getD t13.toNat default).f_Key] : List (A8 (Int))) ++ (y2.getD t13.toNat default).f_Keys).getD t24.toNat default)).getD default)) : Bool) then
    (some (mset m2 ((([(y2.getD t13.toNat default).f_Key] : List (A8 (Int))) ++ (y2.getD t13.toNat default).f_Keys).getD t24.toNat default) true)).bind fun yL1_4 =>
    if ((l3).length + (([((([(y2.getD t13.toNat default).f_Key] : List (A8 (Int))) ++ (y2.getD t13.toNat default).f_Keys).getD t24.toNat default)] : List (A8 (Int)))).length) * 8 ≤ 140737488351232 then
    pl_keys_l1 t13 y2 yL0_4 k0 fuel (IntKind.wrap .i64 (t24 + 1)) yL1_4 (l3 ++ ([((([(y2.getD t13.toNat default).f_Key] : List (A8 (Int))) ++ (y2.getD t13.toNat default).f_Keys).getD t24.toNat default)] : List (A8 (Int))))
    else none
   else
    pl_keys_l1 t13 y2 yL0_4 k0 fuel (IntKind.wrap .i64 (t24 + 1)) m2 l3
   else none
  else
   k0 (IntKind.wrap .i64 (t13 + 1)) m2 l3
def pl_keys_l0 (y2 : (List (TA))) : Nat → (Int) → (List (A8 (Int) × Bool)) → (List (A8 (Int))) → Option ((List (A8 (Int))))
 | 0, _, _, _ => none
 | fuel + 1, t13, m, l2 =>
  if ((decide (t13 < ((y2).length : Int))) : Bool) then
   if 0 ≤ t13 ∧ t13 < (((y2).length : Nat) : Int) then
   if ((([(y2.getD t13.toNat default).f_Key] : List (A8 (Int)))).length + ((y2.getD t13.toNat default).f_Keys).length) * 8 ≤ 140737488351232 then
   (some (((([(y2.getD t13.toNat default).f_Key] : List (A8 (Int))) ++ (y2.getD t13.toNat default).f_Keys)).length : Int)).bind fun y4 =>
   pl_keys_l1 t13 y2 y4 (pl_keys_l0 y2 fuel) big 0 m l2
   else none
   else none
  else
   some l2
def pl_keys (l : List (TA)) : Option ((List (A8 (Int)))) :=
 (pl_short l).bind fun y2 =>
 pl_keys_l0 y2 big 0 ([] : List (A8 (Int) × Bool)) ([] : List (A8 (Int)))
abbrev pl_keys_K1 (t13 : Int) (y2 : (List (TA))) (y4 t24 : Int) (m2 : List (A8 (Int) × Bool)) (l3 : List (A8 (Int))) (r : (List (A8 (Int)))) : Prop := Kt_ w0 W μ0 Tryz.f15 0 1 (pl_keys_v r) (pl_keys_up r) (kAt (bodyOf Tryz.f15) 1) (.any :: .any :: .any :: (.map 0) :: (.gs 1 (l3).length) :: n_ 6 ((.ds 15 (y2).length (rowF c_TA default y2)) :: (.int .i64 ((y2).length : Int)) :: (.int .i64 t13) :: n_ 8 ((.gs 2 ((([(y2.getD t13.toNat default).f_Key] : List (A8 (Int))) ++ (y2.getD t13.toNat default).f_Keys)).length) :: (.int .i64 y4) :: (.int .i64 t24) :: n_ 16 []))) [some (oM5 m2), some (.gr 8 (l3).length (rowF (fun z_ : A8 (Int) => [.int .u8 z_.a0, .int .u8 z_.a1, .int .u8 z_.a2, .int .u8 z_.a3, .int .u8 z_.a4, .int .u8 z_.a5, .int .u8 z_.a6, .int .u8 z_.a7]) default l3)), some (.gr 8 ((([(y2.getD t13.toNat default).f_Key] : List (A8 (Int))) ++ (y2.getD t13.toNat default).f_Keys)).length (rowF (fun z_ : A8 (Int) => [.int .u8 z_.a0, .int .u8 z_.a1, .int .u8 z_.a2, .int .u8 z_.a3, .int .u8 z_.a4, .int .u8 z_.a5, .int .u8 z_.a6, .int .u8 z_.a7]) default (([(y2.getD t13.toNat default).f_Key] : List (A8 (Int))) ++ (y2.getD t13.toNat default).f_Keys)))]
abbrev pl_keys_K0 (y2 : (List (TA))) (t13 : Int) (m : List (A8 (Int) × Bool)) (l2 : List (A8 (Int))) (r : (List (A8 (Int)))) : Prop := Kt_ w0 W μ0 Tryz.f15 0 1 (pl_keys_v r) (pl_keys_up r) (kAt (bodyOf Tryz.f15) 0) (.any :: .any :: .any :: (.map 0) :: (.gs 1 (l2).length) :: n_ 6 ((.ds 15 (y2).length (rowF c_TA default y2)) :: (.int .i64 ((y2).length : Int)) :: (.int .i64 t13) :: n_ 27 [])) [some (oM5 m), some (.gr 8 (l2).length (rowF (fun z_ : A8 (Int) => [.int .u8 z_.a0, .int .u8 z_.a1, .int .u8 z_.a2, .int .u8 z_.a3, .int .u8 z_.a4, .int .u8 z_.a5, .int .u8 z_.a6, .int .u8 z_.a7]) default l2))]
theorem pl_keys_l1_ok {w0 W μ0} (hμ : Lt_ μ0 0) (t13 : Int) (y2 : (List (TA))) (yL0_4 : Int) (k0 : (Int) → (List (A8 (Int) × Bool)) → (List (A8 (Int))) → Option ((List (A8 (Int))))) (hk0 : ∀ (t13 : Int) (m : List (A8 (Int) × Bool)) (l2 : List (A8 (Int))) (r : (List (A8 (Int)))), k0 t13 m l2 = some r → pl_keys_K0 w0 W μ0 y2 t13 m l2 r) : ∀ (fuel : Nat) (t24 : Int) (m2 : List (A8 (Int) × Bool)) (l3 : List (A8 (Int))) (r : (List (A8 (Int)))), pl_keys_l1 t13 y2 yL0_4 k0 fuel t24 m2 l3 = some r → pl_keys_K1 w0 W μ0 t13 y2 yL0_4 t24 m2 l3 r := by
 intro fuel
 induction fuel with
 | zero => intro t24 m2 l3 r h; rw [pl_keys_l1] at h; cases h
 | succ fuel ih =>
  intro t24 m2 l3 r h
  rw [pl_keys_l1] at h
  rcases it_ h with ⟨C1, h⟩ | ⟨C1, h⟩
  ·obtain ⟨G2, h⟩ := gs_ h
   rcases it_ h with ⟨C3, h⟩ | ⟨C3, h⟩
   ·obtain ⟨yL1_4, E5, h⟩ := bs_ h
    obtain ⟨G6, h⟩ := gs_ h
    exact rt_ hμ [0, 5, 2] 33 [.go, .reg [(0, hT)], .reg [], .reg [(2, { look := ((mget m2 ((([(y2.getD t13.toNat default).f_Key] : List (A8 (Int))) ++ (y2.getD t13.toNat default).f_Keys).getD t24.toNat default)).map LV.bool), v := some (.bool ((mget m2 ((([(y2.getD t13.toNat default).f_Key] : List (A8 (Int))) ++ (y2.getD t13.toNat default).f_Keys).getD t24.toNat default)).getD default)) }), (3, hT)], .reg [(2, { os := [(0, oM5 yL1_4)] })], .reg [(2, { os := [(4, .gr 8 (([((([(y2.getD t13.toNat default).f_Key] : List (A8 (Int))) ++ (y2.getD t13.toNat default).f_Keys).getD t24.toNat default)] : List (A8 (Int)))).length (rowF (fun z_ : A8 (Int) => [.int .u8 z_.a0, .int .u8 z_.a1, .int .u8 z_.a2, .int .u8 z_.a3, .int .u8 z_.a4, .int .u8 z_.a5, .int .u8 z_.a6, .int .u8 z_.a7]) default ([((([(y2.getD t13.toNat default).f_Key] : List (A8 (Int))) ++ (y2.getD t13.toNat default).f_Keys).getD t24.toNat default)] : List (A8 (Int)))))], v := some (.gs 4 (([((([(y2.getD t13.toNat default).f_Key] : List (A8 (Int))) ++ (y2.getD t13.toNat default).f_Keys).getD t24.toNat default)] : List (A8 (Int)))).length) }), (3, { app := 3, os := [(5, .gr 8 ((l3 ++ ([((([(y2.getD t13.toNat default).f_Key] : List (A8 (Int))) ++ (y2.getD t13.toNat default).f_Keys).getD t24.toNat default)] : List (A8 (Int))))).length (rowF (fun z_ : A8 (Int) => [.int .u8 z_.a0, .int .u8 z_.a1, .int .u8 z_.a2, .int .u8 z_.a3, .int .u8 z_.a4, .int .u8 z_.a5, .int .u8 z_.a6, .int .u8 z_.a7]) default (l3 ++ ([((([(y2.getD t13.toNat default).f_Key] : List (A8 (Int))) ++ (y2.getD t13.toNat default).f_Keys).getD t24.toNat default)] : List (A8 (Int))))))], v := some (.gs 5 ((l3 ++ ([((([(y2.getD t13.toNat default).f_Key] : List (A8 (Int))) ++ (y2.getD t13.toNat default).f_Keys).getD t24.toNat default)] : List (A8 (Int))))).length) })], .reg []]
     (q11 (f_ C1 tr) (ld_ 8 G2 tr (r1_ (a_ (a_ (a_ (Eq.refl 8) (a_ (le_ 8 8 rfl) (Eq.refl 0))) tr) tr))) (m_ 8 8 rfl (a_ (a_ (a_ (Eq.refl true) (findE_enc (fun z_ : A8 (Int) => LV.agg [.int .u8 z_.a0, .int .u8 z_.a1, .int .u8 z_.a2, .int .u8 z_.a3, .int .u8 z_.a4, .int .u8 z_.a5, .int .u8 z_.a6, .int .u8 z_.a7]) LV.bool (k_arr8 .u8) m2 ((([(y2.getD t13.toNat default).f_Key] : List (A8 (Int))) ++ (y2.getD t13.toNat default).f_Keys).getD t24.toNat default))) (a_ (le_look LV.bool (mget m2 ((([(y2.getD t13.toNat default).f_Key] : List (A8 (Int))) ++ (y2.getD t13.toNat default).f_Keys).getD t24.toNat default)) default) tr)) (f_ C3 tr))) (q25 (m_ 8 8 rfl (a_ (a_ (a_ (Eq.refl true) (Eq.refl true)) (a_ (LO.Sub.trans (sub_upd (fun z_ : A8 (Int) => LV.agg [.int .u8 z_.a0, .int .u8 z_.a1, .int .u8 z_.a2, .int .u8 z_.a3, .int .u8 z_.a4, .int .u8 z_.a5, .int .u8 z_.a6, .int .u8 z_.a7]) LV.bool (k_arr8 .u8) true ks4 m2 ((([(y2.getD t13.toNat default).f_Key] : List (A8 (Int))) ++ (y2.getD t13.toNat default).f_Keys).getD t24.toNat default) true) (LO.Sub.of_eq (nm_eq (fun l_ => oM5 l_) E5))) tr)) tr)) (m_ 8 8 rfl (a_ (a_ (a_ (Eq.refl true) (a_ (Eq.refl 8) (a_ (lt_ 0 8 rfl) (le_ 8 16777216 rfl)))) (a_ (le_sl_gs 4 1 (some 1) rfl) (a_ (sub_lit (fun z_ : A8 (Int) => [.int .u8 z_.a0, .int .u8 z_.a1, .int .u8 z_.a2, .int .u8 z_.a3, .int .u8 z_.a4, .int .u8 z_.a5, .int .u8 z_.a6, .int .u8 z_.a7]) default 8 (fun _ => rfl) ([((([(y2.getD t13.toNat default).f_Key] : List (A8 (Int))) ++ (y2.getD t13.toNat default).f_Keys).getD t24.toNat default)] : List (A8 (Int)))) tr))) (a_ (a_ (a_ (a_ (Eq.refl 8) (Nat.le_refl (([((([(y2.getD t13.toNat default).f_Key] : List (A8 (Int))) ++ (y2.getD t13.toNat default).f_Keys).getD t24.toNat default)] : List (A8 (Int)))).length)) (a_ (a_ (lt_ 0 8 rfl) (a_ (lt_ 0 8 rfl) (a_ G6 (a_ (Eq.refl 8) (Eq.refl true))))) (a_ (Eq.refl 8) (Nat.le_refl (l3).length)))) (a_ (le_gs_app 5 l3 ([((([(y2.getD t13.toNat default).f_Key] : List (A8 (Int))) ++ (y2.getD t13.toNat default).f_Keys).getD t24.toNat default)] : List (A8 (Int)))) (a_ (sub_app (fun z_ : A8 (Int) => [.int .u8 z_.a0, .int .u8 z_.a1, .int .u8 z_.a2, .int .u8 z_.a3, .int .u8 z_.a4, .int .u8 z_.a5, .int .u8 z_.a6, .int .u8 z_.a7]) default 8 l3 ([((([(y2.getD t13.toNat default).f_Key] : List (A8 (Int))) ++ (y2.getD t13.toNat default).f_Keys).getD t24.toNat default)] : List (A8 (Int)))) tr))) (r1_ tr)))) (r2_ tr) tr)) (ih _ _ _ r h) ⟨trivial, fun _ _ => rfl, fun _ _ => rfl, trivial⟩
   ·exact rt_ hμ [0, 1, 2] 29 [.go, .reg [(0, hT)], .reg [], .reg [(2, { look := ((mget m2 ((([(y2.getD t13.toNat default).f_Key] : List (A8 (Int))) ++ (y2.getD t13.toNat default).f_Keys).getD t24.toNat default)).map LV.bool), v := some (.bool ((mget m2 ((([(y2.getD t13.toNat default).f_Key] : List (A8 (Int))) ++ (y2.getD t13.toNat default).f_Keys).getD t24.toNat default)).getD default)) }), (3, hF)], .reg []]
     (q11 (f_ C1 tr) (ld_ 8 G2 tr (r1_ (a_ (a_ (a_ (Eq.refl 8) (a_ (le_ 8 8 rfl) (Eq.refl 0))) tr) tr))) (m_ 8 8 rfl (a_ (a_ (a_ (Eq.refl true) (findE_enc (fun z_ : A8 (Int) => LV.agg [.int .u8 z_.a0, .int .u8 z_.a1, .int .u8 z_.a2, .int .u8 z_.a3, .int .u8 z_.a4, .int .u8 z_.a5, .int .u8 z_.a6, .int .u8 z_.a7]) LV.bool (k_arr8 .u8) m2 ((([(y2.getD t13.toNat default).f_Key] : List (A8 (Int))) ++ (y2.getD t13.toNat default).f_Keys).getD t24.toNat default))) (a_ (le_look LV.bool (mget m2 ((([(y2.getD t13.toNat default).f_Key] : List (A8 (Int))) ++ (y2.getD t13.toNat default).f_Keys).getD t24.toNat default)) default) tr)) (f_ C3 tr))) (q14 tr)) (ih _ _ _ r h) ⟨trivial, fun _ _ => rfl, fun _ _ => rfl, trivial⟩
  ·exact rt_ hμ [0, 1] 19 [.go, .reg [(0, hF)], .reg []]
    (q3 (f_ C1 tr) (r2_ tr)) (hk0 _ _ _ r h) ⟨trivial, fun _ _ => rfl, trivial⟩
theorem pl_keys_l0_ok {w0 W μ0} (hμ : Lt_ μ0 0) (y2 : (List (TA))) : ∀ (fuel : Nat) (t13 : Int) (m : List (A8 (Int) × Bool)) (l2 : List (A8 (Int))) (r : (List (A8 (Int)))), pl_keys_l0 y2 fuel t13 m l2 = some r → pl_keys_K0 w0 W μ0 y2 t13 m l2 r := by
 intro fuel
 induction fuel with
 | zero => intro t13 m l2 r h; rw [pl_keys_l0] at h; cases h
 | succ fuel ih =>
  intro t13 m l2 r h
  rw [pl_keys_l0] at h
  rcases it_ h with ⟨C1, h⟩ | ⟨C1, h⟩
  ·obtain ⟨G2, h⟩ := gs_ h
   obtain ⟨G3, h⟩ := gs_ h
   obtain ⟨y4, E5, h⟩ := bs_ h
   exact rt_ hμ [0, 1, 4] 26 [.go, .reg [(0, hT)], .reg [], .reg [(2, { os := [(3, .gr 8 (([(y2.getD t13.toNat default).f_Key] : List (A8 (Int)))).length (rowF (fun z_ : A8 (Int) => [.int .u8 z_.a0, .int .u8 z_.a1, .int .u8 z_.a2, .int .u8 z_.a3, .int .u8 z_.a4, .int .u8 z_.a5, .int .u8 z_.a6, .int .u8 z_.a7]) default ([(y2.getD t13.toNat default).f_Key] : List (A8 (Int)))))], v := some (.gs 3 (([(y2.getD t13.toNat default).f_Key] : List (A8 (Int)))).length) }), (5, { app := 3, os := [(4, .gr 8 ((([(y2.getD t13.toNat default).f_Key] : List (A8 (Int))) ++ (y2.getD t13.toNat default).f_Keys)).length (rowF (fun z_ : A8 (Int) => [.int .u8 z_.a0, .int .u8 z_.a1, .int .u8 z_.a2, .int .u8 z_.a3, .int .u8 z_.a4, .int .u8 z_.a5, .int .u8 z_.a6, .int .u8 z_.a7]) default (([(y2.getD t13.toNat default).f_Key] : List (A8 (Int))) ++ (y2.getD t13.toNat default).f_Keys)))], v := some (.gs 4 ((([(y2.getD t13.toNat default).f_Key] : List (A8 (Int))) ++ (y2.getD t13.toNat default).f_Keys)).length) }), (6, hv_ (.int .i64 y4))]]
    (q11 (f_ C1 tr) (q13 (a_ (Eq.refl 15) G2) (le_ 15 15 rfl) (q18 (Eq.refl 15) (le_ 15 15 rfl) (Eq.refl 0))) (m_ 13 15 rfl (a_ (a_ (a_ (Eq.refl true) (a_ (Eq.refl 8) (a_ (lt_ 0 8 rfl) (le_ 8 16777216 rfl)))) (a_ (le_sl_gs 3 1 (some 1) rfl) (a_ (sub_lit (fun z_ : A8 (Int) => [.int .u8 z_.a0, .int .u8 z_.a1, .int .u8 z_.a2, .int .u8 z_.a3, .int .u8 z_.a4, .int .u8 z_.a5, .int .u8 z_.a6, .int .u8 z_.a7]) default 8 (fun _ => rfl) ([(y2.getD t13.toNat default).f_Key] : List (A8 (Int)))) tr))) (r1_ (l_ 14 15 rfl (a_ (a_ (a_ (Eq.refl 8) (a_ (a_ (lt_ 0 8 rfl) (a_ (lt_ 0 8 rfl) (a_ G3 (a_ (Eq.refl 8) (Eq.refl true))))) (a_ (Eq.refl 8) (Nat.le_refl (([(y2.getD t13.toNat default).f_Key] : List (A8 (Int)))).length)))) (a_ (le_gs_app 4 ([(y2.getD t13.toNat default).f_Key] : List (A8 (Int))) (y2.getD t13.toNat default).f_Keys) (a_ (sub_app (fun z_ : A8 (Int) => [.int .u8 z_.a0, .int .u8 z_.a1, .int .u8 z_.a2, .int .u8 z_.a3, .int .u8 z_.a4, .int .u8 z_.a5, .int .u8 z_.a6, .int .u8 z_.a7]) default 8 ([(y2.getD t13.toNat default).f_Key] : List (A8 (Int))) (y2.getD t13.toNat default).f_Keys) tr))) (a_ (a_ tr (a_ (le_nm (LV.int .i64) E5) tr)) (r1_ tr))))))) tr) (pl_keys_l1_ok hμ t13 y2 y4 (pl_keys_l0 y2 fuel) ih big _ _ _ r h) ⟨trivial, fun _ _ => rfl, fun _ _ => rfl, trivial⟩
  ·obtain rfl := si_ h
   exact rr_ [1] 19 [.go, .reg [(0, hF)], .reg []]
    (q9 (f_ C1 tr) (r2_ tr))
theorem pl_keys_ok (l : List (TA)) (r : (List (A8 (Int)))) (h : pl_keys l = some r) : ∀ σ, Inj 1 σ → FnTri Tryz.prog 15 (renL σ [.ds 15 (l).length (rowF c_TA default l)]) (preOf σ 0 []) ((pl_keys_v r).ren σ) (upOf σ (pl_keys_up r)) := by
 refine fo_ Tryz.func15 trivial ⟨fun _ _ => rfl, trivial⟩ ?_
 intro w0 W μ0 hμ
 unfold pl_keys at h
 obtain ⟨y2, e1, h⟩ := bs_ h
 exact rt_ hμ [0, 1] 25 [.reg [(0, { v := some (.ds 8 (([] : List (A8 (Int)))).length (rowF (fun z_ : A8 (Int) => [.int .u8 z_.a0, .int .u8 z_.a1, .int .u8 z_.a2, .int .u8 z_.a3, .int .u8 z_.a4, .int .u8 z_.a5, .int .u8 z_.a6, .int .u8 z_.a7]) default ([] : List (A8 (Int))))) })], .reg [], .void (.gr 8 (([] : List (A8 (Int)))).length (rowF (fun z_ : A8 (Int) => [.int .u8 z_.a0, .int .u8 z_.a1, .int .u8 z_.a2, .int .u8 z_.a3, .int .u8 z_.a4, .int .u8 z_.a5, .int .u8 z_.a6, .int .u8 z_.a7]) default ([] : List (A8 (Int))))), .reg [(0, hv_ (.gs 1 (([] : List (A8 (Int)))).length))], .reg [(1, hC (pl_short_v y2))]]
  (q0 (q9 tr (le_nil_ds 8 (rowF (fun z_ : A8 (Int) => [.int .u8 z_.a0, .int .u8 z_.a1, .int .u8 z_.a2, .int .u8 z_.a3, .int .u8 z_.a4, .int .u8 z_.a5, .int .u8 z_.a6, .int .u8 z_.a7]) default []))) (r2_ tr) (Eq.refl 0) (q3 (q9 tr (le_nil_gs 1)) (r1_ (c_ (pl_short_tri l y2 e1) (r2_ tr))))) (pl_keys_l0_ok hμ y2 big _ _ _ r h) ⟨trivial, fun _ _ => rfl, trivial⟩
def lT_Prepared_v (r : (Bool)) : LV := .bool r
def lT_Prepared_up (uu : UT) (hh ww : PT) (r : (Bool)) : Upd := [(0, some (.var [.map 1, .map 2, .map 3])), (1, some (oP1 uu [])), (2, some (oM3 hh)), (3, some (oM3 ww))]
def lT_Prepared_objs (uu : UT) (hh ww : PT) : List LO := [.var [.map 1, .map 2, .map 3], oP1 uu [], oM3 hh, oM3 ww]
def lT_Prepared (uu : UT) (hh ww : PT) (x : TX) : Option ((Bool)) :=
 (lT_ok uu hh ww).bind fun y2 =>
 if (((mget uu x).isSome) : Bool) then
  (mget uu x).bind fun y4 =>
  some y4.f_prepared
 else
  some false
theorem lT_Prepared_ok (uu : UT) (hh ww : PT) (x : TX) (r : (Bool)) (h : lT_Prepared uu hh ww x = some r) : ∀ σ, Inj 4 σ → FnTri Tryz.prog 17 (renL σ [.ptr 0 0 0, v_TX x]) (preOf σ 0 (lT_Prepared_objs uu hh ww)) ((lT_Prepared_v r).ren σ) (upOf σ (lT_Prepared_up uu hh ww r)) := by
 refine fo_ Tryz.func17 ⟨rfl, uP, trivial, trivial, trivial⟩ ⟨rfl, uP, trivial, trivial, trivial⟩ ?_
 intro w0 W μ0 hμ
 unfold lT_Prepared at h
 obtain ⟨y2, e1, h⟩ := bs_ h
 rcases it_ h with ⟨c3, h⟩ | ⟨c3, h⟩
 ·obtain ⟨y4, e5, h⟩ := bs_ h
  obtain rfl := si_ h
  exact rr_ [] 18 [.reg [], .x (.p (.po 1 (v_TX x) (c_TU y4))), .reg [(1, hk_ (hK_ [0, 1, 2, 3] (lT_ok_v y2) (lT_ok_objs uu hh ww) (lT_ok_up hh ww y2))), (8, { look := some (.ptr 5 0 0) }), (17, { look := some (.ptr 5 0 0) })], .x (.p (.pc 1)), .wk [] [(1, oP1 uu [])]]
   (q1 (q11 (r2_ tr) (a_ (pmIn v_TX c_TU e5) (pmO0 v_TX x)) (a_ (q16 (lT_ok_ok uu hh ww y2 e1 (sel [0, 1, 2, 3]) sj_) (rl_ (.var [.map 1, .map 2, .map 3])) (le_pmR v_TX c_TU (ag := true) (ks := ks0) (m := uu) (opn := [(v_TX x, 5)])) (q3 (rl_ (oM3 hh)) (rl_ (oM3 ww)))) (r4_ (l_ 0 3 rfl (m_ 3 3 rfl (a_ (a_ (a_ (Eq.refl true) (a_ (pmSi v_TX c_TU k_TX uu x (isS e5)) (List.mem_cons_self (a := ((v_TX x, 5) : LV × Nat)) (l := [])))) tr) (r2_ (r4_ (l_ 0 3 rfl (m_ 3 3 rfl (a_ (a_ (a_ (Eq.refl true) (a_ (pmSi v_TX c_TU k_TX uu x (isS e5)) (List.mem_cons_self (a := ((v_TX x, 5) : LV × Nat)) (l := [])))) tr) (r2_ (l_ 4 5 rfl (r2_ tr))))))))))))) (q3 (q0 (getP_enc v_TX c_TU k_TX uu x e5) (Eq.refl true) (Eq.refl true) (show 1 ≠ 5 from by decide)) (q3 tr (pm_same v_TX c_TU k_TX true ks0 [] (m := uu) (k := x) e5)))))
 ·obtain rfl := si_ h
  exact rr_ [] 15 [.reg [], .reg [(1, hk_ (hK_ [0, 1, 2, 3] (lT_ok_v y2) (lT_ok_objs uu hh ww) (lT_ok_up hh ww y2))), (8, { look := none })]]
   (q20 (a_ (q16 (lT_ok_ok uu hh ww y2 e1 (sel [0, 1, 2, 3]) sj_) (rl_ (.var [.map 1, .map 2, .map 3])) (le_pmR v_TX c_TU (ag := true) (ks := ks0) (m := uu) (opn := [])) (q3 (rl_ (oM3 hh)) (rl_ (oM3 ww)))) (r4_ (l_ 0 3 rfl (m_ 3 3 rfl (a_ (a_ (a_ (Eq.refl true) (pmN v_TX c_TU k_TX uu x c3)) tr) (r1_ (r2_ (a_ tr (t8_ (r2_ tr)))))))))))
def pl_LockPrepared_v (r : (Bool)) : LV := .bool r
def pl_LockPrepared_c8 (script more : List (TA)) (x : TX) (t43 : Int) (y11 : (List (TA))) (y4 : (TO) × (Int) × (UT) × (Bag (TL × Int)) × (Bag (TL × Int))) (k0 : (Int) → (UT) → (PT) → (PT) → Option ((Bool))) (q q2 : Bag (TL × Int)) : Option ((Bool)) :=
 agreeB q fun l1 =>
 agreeB q2 fun l3 =>
 k0 (IntKind.wrap .i64 (t43 + 1)) y4.2.2.1 l1 l3
def pl_LockPrepared_c11 : Option ((Bool)) :=
 (pl_alive).bind fun y2 =>
 some y2
def pl_LockPrepared_l3 (x : TX) (l : List (A8 (Int))) (t87 : Int) (y3 : (List (TA))) (k2 : (Int) → (UT) → (PT) → (PT) → Option ((Bool))) : Nat → (List (TX)) → (Int) → (Int) → (UT) → (PT) → (PT) → Option ((Bool))
 | 0, _, _, _, _, _, _ => none
 | fuel + 1, t109, t110, t111, us4, m5, m6 =>
  if ((decide (t111 < t110)) : Bool) then
   if 0 ≤ t111 ∧ t111 < (((t109).length : Nat) : Int) then
   if ((decide ((t109.getD t111.toNat default) = x)) : Bool) then
    some false
   else
    pl_LockPrepared_l3 x l t87 y3 k2 fuel t109 t110 (IntKind.wrap .i64 (t111 + 1)) us4 m5 m6
   else none
  else
   k2 (IntKind.wrap .i64 (t87 + 1)) us4 m5 m6
def pl_LockPrepared_c28 (x : TX) (l : List (A8 (Int))) (t87 : Int) (y3 : (List (TA))) (k2 : (Int) → (UT) → (PT) → (PT) → Option ((Bool))) (Wounded : List (TX)) (Granted : List (TG)) (us3 : UT) (q3 q4 : Bag (TL × Int)) : Option ((Bool)) :=
 agreeB q3 fun l1 =>
 agreeB q4 fun l3 =>
 pl_LockPrepared_l3 x l t87 y3 k2 big Wounded ((Wounded).length : Int) 0 us3 l1 l3
def pl_LockPrepared_l4 (x : TX) (l : List (A8 (Int))) (us2 : UT) (m3 m4 : PT) : Nat → (Int) → Option ((Bool))
 | 0, _ => none
 | fuel + 1, t122 =>
  if ((decide (t122 < ((l).length : Int))) : Bool) then
   if 0 ≤ t122 ∧ t122 < (((l).length : Nat) : Int) then
   (lT_Mode us2 m3 m4 x (l.getD t122.toNat default)).bind fun y4 =>
   if ((y4 != 2) : Bool) then
    some false
   else
    pl_LockPrepared_l4 x l us2 m3 m4 fuel (IntKind.wrap .i64 (t122 + 1))
   else none
  else
   (lT_Prepared us2 m3 m4 x).bind fun y3 =>
   if (y3 : Bool) then
    (lT_Waits us2 m3 m4 x).bind fun y6 =>
    if ((!y6) : Bool) then
     (pl_alive).bind fun y9 =>
     some y9
    else
     some false
   else
    some false
def pl_LockPrepared_l2 (x : TX) (l : List (A8 (Int))) (yL1_3 : (List (TA))) : Nat → (Int) → (UT) → (PT) → (PT) → Option ((Bool))
 | 0, _, _, _, _ => none
 | fuel + 1, t87, us2, m3, m4 =>
  if ((decide (t87 < ((yL1_3).length : Int))) : Bool) then
   if 0 ≤ t87 ∧ t87 < (((yL1_3).length : Nat) : Int) then
   (some (Int.tmod (yL1_3.getD t87.toNat default).f_Kind 5)).bind fun yL2_3 =>
   if ((yL2_3 == 3) : Bool) then
    if ((decide ((yL1_3.getD t87.toNat default).f_Stamp.f_Tx = x)) : Bool) then
     pl_LockPrepared_l2 x l yL1_3 fuel (IntKind.wrap .i64 (t87 + 1)) us2 m3 m4
    else
     (pl_does us2 m3 m4 (yL1_3.getD t87.toNat default)).bind fun y8 =>
     pl_LockPrepared_c28 x l t87 yL1_3 (pl_LockPrepared_l2 x l yL1_3 fuel) y8.1.f_Wounded y8.1.f_Granted y8.2.2.1 y8.2.2.2.1 y8.2.2.2.2
   else
    (pl_does us2 m3 m4 (yL1_3.getD t87.toNat default)).bind fun y7 =>
    pl_LockPrepared_c28 x l t87 yL1_3 (pl_LockPrepared_l2 x l yL1_3 fuel) y7.1.f_Wounded y7.1.f_Granted y7.2.2.1 y7.2.2.2.1 y7.2.2.2.2
   else none
  else
   pl_LockPrepared_l4 x l us2 m3 m4 big 0
def pl_LockPrepared_l1 (more : List (TA)) (x : TX) (yL0_3 : (TO) × (Int) × (UT) × (PT) × (PT)) (y2 : (List (A8 (Int)))) (yC12_4 : (List (A8 (Int)))) : Nat → (Int) → (List (A8 (Int))) → Option ((Bool))
 | 0, _, _ => none
 | fuel + 1, t67, l =>
  if ((decide (t67 < (((y2 ++ yC12_4)).length : Int))) : Bool) then
   if 0 ≤ t67 ∧ t67 < ((((y2 ++ yC12_4)).length : Nat) : Int) then
   (lT_Mode yL0_3.2.2.1 yL0_3.2.2.2.1 yL0_3.2.2.2.2 x ((y2 ++ yC12_4).getD t67.toNat default)).bind fun yL1_4 =>
   if ((yL1_4 == 1) : Bool) then
    some false
   else
    if ((yL1_4 == 2) : Bool) then
     if ((l).length + (([((y2 ++ yC12_4).getD t67.toNat default)] : List (A8 (Int)))).length) * 8 ≤ 140737488351232 then
     pl_LockPrepared_l1 more x yL0_3 y2 yC12_4 fuel (IntKind.wrap .i64 (t67 + 1)) (l ++ ([((y2 ++ yC12_4).getD t67.toNat default)] : List (A8 (Int))))
     else none
    else
     pl_LockPrepared_l1 more x yL0_3 y2 yC12_4 fuel (IntKind.wrap .i64 (t67 + 1)) l
   else none
  else
   (pl_short more).bind fun yL1_3 =>
   pl_LockPrepared_l2 x l yL1_3 big 0 yL0_3.2.2.1 yL0_3.2.2.2.1 yL0_3.2.2.2.2
def pl_LockPrepared_c12 (script more : List (TA)) (x : TX) (y3 : (TO) × (Int) × (UT) × (PT) × (PT)) : Option ((Bool)) :=
 (pl_keys script).bind fun y2 =>
 (pl_keys more).bind fun y4 =>
 if ((y2).length + (y4).length) * 8 ≤ 140737488351232 then
 pl_LockPrepared_l1 more x y3 y2 y4 big 0 ([] : List (A8 (Int)))
 else none
def pl_LockPrepared_l0 (script more : List (TA)) (x : TX) (y11 : (List (TA))) : Nat → (Int) → (UT) → (PT) → (PT) → Option ((Bool))
 | 0, _, _, _, _ => none
 | fuel + 1, t43, us, m, m2 =>
  if ((decide (t43 < ((y11).length : Int))) : Bool) then
   if 0 ≤ t43 ∧ t43 < (((y11).length : Nat) : Int) then
   (pl_does us m m2 (y11.getD t43.toNat default)).bind fun y4 =>
   pl_LockPrepared_c8 script more x t43 y11 y4 (pl_LockPrepared_l0 script more x y11 fuel) y4.2.2.2.1 y4.2.2.2.2
   else none
  else
   (lT_Prepare us m m2 x).bind fun y3 =>
   if ((y3.2.1 != 0) : Bool) then
    pl_LockPrepared_c11
   else
    pl_LockPrepared_c12 script more x y3
def pl_LockPrepared (script more : List (TA)) (x : TX) : Option ((Bool)) :=
 (lock_New).bind fun y2 =>
 (pl_far script).bind fun y4 =>
 if (y4 : Bool) then
  (pl_alive).bind fun y7 =>
  some y7
 else
  (pl_far more).bind fun y7 =>
  if (y7 : Bool) then
   (pl_alive).bind fun y10 =>
   some y10
  else
   (pl_short script).bind fun y11 =>
   pl_LockPrepared_l0 script more x y11 big 0 y2.1 y2.2.1 y2.2.2
abbrev pl_LockPrepared_K1000008 (script more : List (TA)) (x : TX) (t43 : Int) (y11 : (List (TA))) (y4 : (TO) × (Int) × (UT) × (Bag (TL × Int)) × (Bag (TL × Int))) (q q2 : Bag (TL × Int)) (r : (Bool)) : Prop := Kt_ w0 W μ0 Tryz.f3 0 0 (pl_LockPrepared_v r) [] (kAtR (bodyOf Tryz.f3) 8) ((.ds 15 (script).length (rowF c_TA default script)) :: (.ds 15 (more).length (rowF c_TA default more)) :: .any :: .any :: .any :: (.ptr 0 0 0) :: .any :: (.ptr 1 0 0) :: n_ 33 ((.ds 15 (y11).length (rowF c_TA default y11)) :: (.int .i64 ((y11).length : Int)) :: (.int .i64 t43) :: n_ 100 [])) [some (.var (c_TX x)), some (.var [.map 2, .map 3, .map 4]), some (oP1 y4.2.2.1 []), some (.mapq true ks2 (Bag.map (fun e_ => (v_TL e_.1, (LV.int .u8) e_.2)) q)), some (.mapq true ks2 (Bag.map (fun e_ => (v_TL e_.1, (LV.int .u8) e_.2)) q2))]
abbrev pl_LockPrepared_K1000011 (r : (Bool)) : Prop := Kt_ w0 W μ0 Tryz.f3 0 0 (pl_LockPrepared_v r) [] (kAtR (bodyOf Tryz.f3) 11) (n_ 144 []) []
abbrev pl_LockPrepared_K3 (x : TX) (l : List (A8 (Int))) (t87 : Int) (y3 : (List (TA))) (t109 : List (TX)) (t110 t111 : Int) (us4 : UT) (m5 m6 : PT) (r : (Bool)) : Prop := Kt_ w0 W μ0 Tryz.f3 0 0 (pl_LockPrepared_v r) [] (kAt (bodyOf Tryz.f3) 3) (n_ 5 ((.ptr 0 0 0) :: .any :: (.ptr 1 0 0) :: n_ 5 ((.gs 2 (l).length) :: n_ 71 ((.ds 15 (y3).length (rowF c_TA default y3)) :: (.int .i64 ((y3).length : Int)) :: (.int .i64 t87) :: n_ 21 ((.ds 3 (t109).length (rowF c_TX default t109)) :: (.int .i64 t110) :: (.int .i64 t111) :: n_ 32 []))))) [some (.var (c_TX x)), some (.var [.map 3, .map 4, .map 5]), some (.gr 8 (l).length (rowF (fun z_ : A8 (Int) => [.int .u8 z_.a0, .int .u8 z_.a1, .int .u8 z_.a2, .int .u8 z_.a3, .int .u8 z_.a4, .int .u8 z_.a5, .int .u8 z_.a6, .int .u8 z_.a7]) default l)), some (oP1 us4 []), some (oM3 m5), some (oM3 m6)]
end
end Go.Proofs.YtddgjfclpknkcaaGreatDoor.Wk
