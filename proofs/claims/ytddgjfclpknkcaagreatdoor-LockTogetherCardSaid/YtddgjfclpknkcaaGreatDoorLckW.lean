import Derived.Test.YtddgjfclpknkcaaGreatDoorLckWc
namespace Go.Proofs.YtddgjfclpknkcaaGreatDoor.Wk
open Go Go.Cn Go.RowKit
set_option maxRecDepth 100000
set_option maxHeartbeats 4000000
set_option linter.unusedVariables false
set_option linter.unusedSimpArgs false
noncomputable section
def pl_LockTogether_l0 (y8 : (List (TA))) : Nat → (Int) → (UT) → (PT) → (PT) → Option ((Bool))
 | 0, _, _, _, _ => none
 | fuel + 1, t26, us, m, m2 =>
  if ((decide (t26 < ((y8).length : Int))) : Bool) then
   if 0 ≤ t26 ∧ t26 < (((y8).length : Nat) : Int) then
   (pl_does us m m2 (y8.getD t26.toNat default)).bind fun y4 =>
   pl_LockTogether_c8 t26 y8 y4 (pl_LockTogether_l0 y8 fuel) y4.2.2.2.1 y4.2.2.2.2
   else none
  else
   (pl_alive).bind fun y3 =>
   some y3
def pl_LockTogether (script : List (TA)) : Option ((Bool)) :=
 (lock_New).bind fun y2 =>
 (pl_far script).bind fun y4 =>
 if (y4 : Bool) then
  (pl_alive).bind fun y7 =>
  some y7
 else
  (pl_short script).bind fun y8 =>
  pl_LockTogether_l0 y8 big 0 y2.1 y2.2.1 y2.2.2
abbrev pl_LockTogether_K1 (w0 : World) (W : Nat → Prop) (μ0 : Emb) (t26 : Int) (y8 : (List (TA))) (y4 : (TO) × (Int) × (UT) × (Bag (TL × Int)) × (Bag (TL × Int))) (l1 l3 : PT) (y6 : (List (TX))) (many writes t36 : Int) (r : (Bool)) : Prop := Kt_ w0 W μ0 Tryz.f4 0 0 (pl_LockTogether_v r) [] (kAt (bodyOf Tryz.f4) 1) (.any :: .any :: .any :: (.ptr 0 0 0) :: .any :: (.ptr 1 0 0) :: (.int .i64 many) :: (.int .i64 writes) :: n_ 16 ((.ds 15 (y8).length (rowF c_TA default y8)) :: (.int .i64 ((y8).length : Int)) :: (.int .i64 t26) :: n_ 7 ((.ds 3 (y6).length (rowF c_TX default y6)) :: (.int .i64 ((y6).length : Int)) :: (.int .i64 t36) :: n_ 29 []))) [some (.var [.map 2, .map 3, .map 4]), some (.var (c_TA (y8.getD t26.toNat default))), some (oP1 y4.2.2.1 []), some (oM3 l1), some (oM3 l3)]
abbrev pl_LockTogether_K1000008 (w0 : World) (W : Nat → Prop) (μ0 : Emb) (t26 : Int) (y8 : (List (TA))) (y4 : (TO) × (Int) × (UT) × (Bag (TL × Int)) × (Bag (TL × Int))) (q q2 : Bag (TL × Int)) (r : (Bool)) : Prop := Kt_ w0 W μ0 Tryz.f4 0 0 (pl_LockTogether_v r) [] (kAtR (bodyOf Tryz.f4) 8) (.any :: .any :: .any :: (.ptr 0 0 0) :: .any :: (.ptr 1 0 0) :: n_ 18 ((.ds 15 (y8).length (rowF c_TA default y8)) :: (.int .i64 ((y8).length : Int)) :: (.int .i64 t26) :: n_ 39 [])) [some (.var [.map 2, .map 3, .map 4]), some (.var (c_TA (y8.getD t26.toNat default))), some (oP1 y4.2.2.1 []), some (.mapq true ks2 (Bag.map (fun e_ => (v_TL e_.1, (LV.int .u8) e_.2)) q)), some (.mapq true ks2 (Bag.map (fun e_ => (v_TL e_.1, (LV.int .u8) e_.2)) q2))]
abbrev pl_LockTogether_K0 (w0 : World) (W : Nat → Prop) (μ0 : Emb) (y8 : (List (TA))) (t26 : Int) (us : UT) (m m2 : PT) (r : (Bool)) : Prop := Kt_ w0 W μ0 Tryz.f4 0 0 (pl_LockTogether_v r) [] (kAt (bodyOf Tryz.f4) 0) (.any :: .any :: .any :: (.ptr 0 0 0) :: n_ 20 ((.ds 15 (y8).length (rowF c_TA default y8)) :: (.int .i64 ((y8).length : Int)) :: (.int .i64 t26) :: n_ 39 [])) [some (.var [.map 1, .map 2, .map 3]), some (oP1 us []), some (oM3 m), some (oM3 m2)]
theorem pl_LockTogether_l1_ok {w0 W μ0} (hμ : Lt_ μ0 0) (t26 : Int) (y8 : (List (TA))) (yL0_4 : (TO) × (Int) × (UT) × (Bag (TL × Int)) × (Bag (TL × Int))) (l1 l3 : PT) (y6 : (List (TX))) (k0 : (Int) → (UT) → (PT) → (PT) → Option ((Bool))) (hk0 : ∀ (t26 : Int) (us : UT) (m m2 : PT) (r : (Bool)), k0 t26 us m m2 = some r → pl_LockTogether_K0 w0 W μ0 y8 t26 us m m2 r) : ∀ (fuel : Nat) (many writes t36 : Int) (r : (Bool)), pl_LockTogether_l1 t26 y8 yL0_4 l1 l3 y6 k0 fuel many writes t36 = some r → pl_LockTogether_K1 w0 W μ0 t26 y8 yL0_4 l1 l3 y6 many writes t36 r := by
 intro fuel
 induction fuel with
 | zero => intro many writes t36 r h; rw [pl_LockTogether_l1] at h; cases h
 | succ fuel ih =>
  intro many writes t36 r h
  rw [pl_LockTogether_l1] at h
  rcases it_ h with ⟨C1, h⟩ | ⟨C1, h⟩
  ·obtain ⟨G2, h⟩ := gs_ h
   obtain ⟨yL1_4, E3, h⟩ := bs_ h
   rcases it_ h with ⟨C5, h⟩ | ⟨C5, h⟩
   ·rcases it_ h with ⟨C6, h⟩ | ⟨C6, h⟩
    ·exact rt_ hμ [0, 1, 2, 3, 4] 40 [.go, .reg [(0, hT)], .reg [], .reg [(4, hk_ (hK_ [0, 2, 3, 4] (lT_Mode_v yL1_4) (lT_Mode_objs yL0_4.2.2.1 l1 l3) (lT_Mode_up yL0_4.2.2.1 l1 l3 yL1_4)))], .reg [(1, hT)], .reg [], .reg [(1, hT)], .reg [], .reg []]
      (q13 (f_ C1 tr) (q19 (Eq.refl 3) G2 (q4 (le_ 3 3 rfl) tr (q9 (Eq.refl 3) (le_ 3 3 rfl) (Eq.refl 0)))) (m_ 3 3 rfl (r1_ (m_ 13 15 rfl (a_ (a_ (a_ (lT_Mode_ok yL0_4.2.2.1 l1 l3 (y6.getD t36.toNat default) (y8.getD t26.toNat default).f_Key yL1_4 E3 (sel [0, 2, 3, 4]) sj_) (o4_ [.map 2, .map 3, .map 4] yL0_4.2.2.1 l1 l3)) tr) (r1_ tr))))) (q13 (r1_ (f_ C5 tr)) (q2 tr) (f_ C6 tr) (q8 (q2 tr) (r2_ tr)))) (ih _ _ _ r h) ⟨rfl, rfl, uP, trivial, trivial, trivial⟩
    ·exact rt_ hμ [0, 1, 2, 3, 4] 39 [.go, .reg [(0, hT)], .reg [], .reg [(4, hk_ (hK_ [0, 2, 3, 4] (lT_Mode_v yL1_4) (lT_Mode_objs yL0_4.2.2.1 l1 l3) (lT_Mode_up yL0_4.2.2.1 l1 l3 yL1_4)))], .reg [(1, hT)], .reg [], .reg [(1, hF)], .reg []]
      (q13 (f_ C1 tr) (q19 (Eq.refl 3) G2 (q4 (le_ 3 3 rfl) tr (q9 (Eq.refl 3) (le_ 3 3 rfl) (Eq.refl 0)))) (m_ 3 3 rfl (r1_ (m_ 13 15 rfl (a_ (a_ (a_ (lT_Mode_ok yL0_4.2.2.1 l1 l3 (y6.getD t36.toNat default) (y8.getD t26.toNat default).f_Key yL1_4 E3 (sel [0, 2, 3, 4]) sj_) (o4_ [.map 2, .map 3, .map 4] yL0_4.2.2.1 l1 l3)) tr) (r1_ tr))))) (q13 (r1_ (f_ C5 tr)) (q2 tr) (f_ C6 tr) (q17 tr))) (ih _ _ _ r h) ⟨rfl, rfl, uP, trivial, trivial, trivial⟩
   ·rcases it_ h with ⟨C6, h⟩ | ⟨C6, h⟩
    ·exact rt_ hμ [0, 1, 2, 3, 4] 39 [.go, .reg [(0, hT)], .reg [], .reg [(4, hk_ (hK_ [0, 2, 3, 4] (lT_Mode_v yL1_4) (lT_Mode_objs yL0_4.2.2.1 l1 l3) (lT_Mode_up yL0_4.2.2.1 l1 l3 yL1_4)))], .reg [(1, hF)], .reg [(1, hT)], .reg [], .reg []]
      (q13 (f_ C1 tr) (q19 (Eq.refl 3) G2 (q4 (le_ 3 3 rfl) tr (q9 (Eq.refl 3) (le_ 3 3 rfl) (Eq.refl 0)))) (m_ 3 3 rfl (r1_ (m_ 13 15 rfl (a_ (a_ (a_ (lT_Mode_ok yL0_4.2.2.1 l1 l3 (y6.getD t36.toNat default) (y8.getD t26.toNat default).f_Key yL1_4 E3 (sel [0, 2, 3, 4]) sj_) (o4_ [.map 2, .map 3, .map 4] yL0_4.2.2.1 l1 l3)) tr) (r1_ tr))))) (q6 (r1_ (f_ C5 tr)) (f_ C6 tr) (q2 tr) (q17 tr))) (ih _ _ _ r h) ⟨rfl, rfl, uP, trivial, trivial, trivial⟩
    ·exact rt_ hμ [0, 1, 2, 3, 4] 38 [.go, .reg [(0, hT)], .reg [], .reg [(4, hk_ (hK_ [0, 2, 3, 4] (lT_Mode_v yL1_4) (lT_Mode_objs yL0_4.2.2.1 l1 l3) (lT_Mode_up yL0_4.2.2.1 l1 l3 yL1_4)))], .reg [(1, hF)], .reg [(1, hF)], .reg []]
      (q13 (f_ C1 tr) (q19 (Eq.refl 3) G2 (q4 (le_ 3 3 rfl) tr (q9 (Eq.refl 3) (le_ 3 3 rfl) (Eq.refl 0)))) (m_ 3 3 rfl (r1_ (m_ 13 15 rfl (a_ (a_ (a_ (lT_Mode_ok yL0_4.2.2.1 l1 l3 (y6.getD t36.toNat default) (y8.getD t26.toNat default).f_Key yL1_4 E3 (sel [0, 2, 3, 4]) sj_) (o4_ [.map 2, .map 3, .map 4] yL0_4.2.2.1 l1 l3)) tr) (r1_ tr))))) (q6 (r1_ (f_ C5 tr)) (f_ C6 tr) (r2_ tr) tr)) (ih _ _ _ r h) ⟨rfl, rfl, uP, trivial, trivial, trivial⟩
  ·rcases it_ h with ⟨C2, h⟩ | ⟨C2, h⟩
   ·obtain rfl := si_ h
    exact rr_ [] 23 [.go, .reg [(0, hF)], .reg [(2, hT)], .reg []]
     (q3 (q13 (f_ C1 tr) (r2_ (f_ C2 (t2_ (t4_ (r1_ tr))))) tr tr))
   ·rcases it_ h with ⟨C3, h⟩ | ⟨C3, h⟩
    ·rcases it_ h with ⟨C4, h⟩ | ⟨C4, h⟩
     ·obtain rfl := si_ h
      exact rr_ [] 23 [.go, .reg [(0, hF)], .reg [(2, hF), (5, hT), (9, hT)], .reg []]
       (q3 (q13 (f_ C1 tr) (r2_ (f_ C2 (r2_ (f_ C3 (r1_ (r2_ (f_ C4 tr))))))) tr tr))
     ·exact rt_ hμ [0, 2, 3, 4] 24 [.go, .reg [(0, hF)], .reg [(2, hF), (5, hT), (9, hF)], .reg []]
       (q18 (f_ C1 tr) (f_ C2 (r2_ (f_ C3 (r1_ (r2_ (f_ C4 tr)))))) (r2_ tr) tr) (hk0 _ _ _ _ r h) uT
    ·exact rt_ hμ [0, 2, 3, 4] 24 [.go, .reg [(0, hF)], .reg [(2, hF), (5, hF)], .reg []]
      (q18 (f_ C1 tr) (f_ C2 (r2_ (f_ C3 (t2_ (r2_ tr))))) (r2_ tr) tr) (hk0 _ _ _ _ r h) uT
theorem pl_LockTogether_c8_ok {w0 W μ0} (hμ : Lt_ μ0 0) (t26 : Int) (y8 : (List (TA))) (y4 : (TO) × (Int) × (UT) × (Bag (TL × Int)) × (Bag (TL × Int))) (k0 : (Int) → (UT) → (PT) → (PT) → Option ((Bool))) (hk0 : ∀ (t26 : Int) (us : UT) (m m2 : PT) (r : (Bool)), k0 t26 us m m2 = some r → pl_LockTogether_K0 w0 W μ0 y8 t26 us m m2 r) (q q2 : Bag (TL × Int)) (r : (Bool)) (h : pl_LockTogether_c8 t26 y8 y4 k0 q q2 = some r) : pl_LockTogether_K1000008 w0 W μ0 t26 y8 y4 q q2 r := by
 unfold pl_LockTogether_c8 at h
 refine k_bagM v_TL (LV.int .u8) (ag := true) (ks := ks2) (c := 3) (q := q) (by kernel_rfl) (by kernel_rfl) (fun l1 hC8_2 => ?_)
 replace h := agreeB_some h hC8_2
 subst hC8_2
 refine k_bagM v_TL (LV.int .u8) (ag := true) (ks := ks2) (c := 4) (q := q2) (by kernel_rfl) (by kernel_rfl) (fun l3 hC8_4 => ?_)
 replace h := agreeB_some h hC8_4
 subst hC8_4
 obtain ⟨y6, E5, h⟩ := bs_ h
 exact rt_ hμ [0, 1, 2, 3, 4] 17 [.reg [], .reg [(1, hk_ (hK_ [0, 2, 3, 4] (lT_Users_v y6) (lT_Users_objs y4.2.2.1 l1 l3) (lT_Users_up y4.2.2.1 l1 l3 y6)))]]
  (q8 (r2_ tr) (r1_ (q19 (lT_Users_ok y4.2.2.1 l1 l3 y6 E5 (sel [0, 2, 3, 4]) sj_) (o4_ [.map 2, .map 3, .map 4] y4.2.2.1 l1 l3) (r2_ tr)))) (pl_LockTogether_l1_ok hμ t26 y8 y4 l1 l3 y6 k0 hk0 big _ _ _ r h) ⟨rfl, rfl, uP, trivial, trivial, trivial⟩
theorem pl_LockTogether_l0_ok {w0 W μ0} (hμ : Lt_ μ0 0) (y8 : (List (TA))) : ∀ (fuel : Nat) (t26 : Int) (us : UT) (m m2 : PT) (r : (Bool)), pl_LockTogether_l0 y8 fuel t26 us m m2 = some r → pl_LockTogether_K0 w0 W μ0 y8 t26 us m m2 r := by
 intro fuel
 induction fuel with
 | zero => intro t26 us m m2 r h; rw [pl_LockTogether_l0] at h; cases h
 | succ fuel ih =>
  intro t26 us m m2 r h
  rw [pl_LockTogether_l0] at h
  rcases it_ h with ⟨C1, h⟩ | ⟨C1, h⟩
  ·obtain ⟨G2, h⟩ := gs_ h
   obtain ⟨y4, E3, h⟩ := bs_ h
   exact rt_ hμ [0, 4, 1, 2, 3] 25 [.go, .reg [(0, hT)], .reg [], .reg [(2, hk_ (hK_ [0, 1, 2, 3] (pl_does_v y4) (pl_does_objs us m m2) (pl_does_up y4)))]]
    (q13 (f_ C1 tr) (q19 (Eq.refl 15) G2 (q4 (le_ 15 15 rfl) tr (q9 (Eq.refl 15) (le_ 15 15 rfl) (Eq.refl 0)))) (m_ 15 15 rfl (a_ (a_ (a_ (pl_does_ok us m m2 (y8.getD t26.toNat default) y4 E3 (sel [0, 1, 2, 3]) sj_) (o4_ [.map 1, .map 2, .map 3] us m m2)) tr) tr)) tr) (pl_LockTogether_c8_ok hμ t26 y8 y4 (pl_LockTogether_l0 y8 fuel) ih _ _ r h) ⟨rfl, rfl, uP, trivial, trivial, trivial⟩
  ·obtain ⟨y3, E2, h⟩ := bs_ h
   obtain rfl := si_ h
   exact rr_ [] 19 [.go, .reg [(0, hF)], .reg [(0, hC (pl_alive_v y3))]]
    (q7 (f_ C1 tr) (c_ (pl_alive_tri y3 E2) (r1_ tr)))
theorem pl_LockTogether_ok (script : List (TA)) (r : (Bool)) (h : pl_LockTogether script = some r) : ∀ σ, Inj 0 σ → FnTri Tryz.prog 4 (renL σ [.ds 15 (script).length (rowF c_TA default script)]) (preOf σ 0 []) ((pl_LockTogether_v r).ren σ) (upOf σ []) := by
 refine fo_ Tryz.func4 trivial trivial ?_
 intro w0 W μ0 hμ
 unfold pl_LockTogether at h
 obtain ⟨y2, e1, h⟩ := bs_ h
 obtain ⟨y4, e3, h⟩ := bs_ h
 rcases it_ h with ⟨c5, h⟩ | ⟨c5, h⟩
 ·obtain ⟨y7, e6, h⟩ := bs_ h
  obtain rfl := si_ h
  exact rr_ [] 23 [.reg [], .reg [(0, hk_ (hK_ [0, 1, 2, 3] (lock_New_v y2) [] (lock_New_up y2)))], .reg [(4, hC (pl_far_v y4)), (5, hT)], .reg [(3, hC (pl_alive_v y7))]]
   (q3 (q0 (r1_ tr) (q14 (q3 (lock_New_ok y2 e1 (sel [0, 1, 2, 3]) sj_))) (r4_ (c_ (pl_far_tri script y4 e3) (f_ c5 tr))) (q20 (c_ (pl_alive_tri y7 e6) (r2_ tr)))))
 ·obtain ⟨y8, e6, h⟩ := bs_ h
  exact rt_ hμ [0, 1, 2, 3] 27 [.reg [], .reg [(0, hk_ (hK_ [0, 1, 2, 3] (lock_New_v y2) [] (lock_New_up y2)))], .reg [(4, hC (pl_far_v y4)), (5, hF)], .reg [(1, hC (pl_short_v y8))]]
   (q0 (r1_ tr) (q14 (q3 (lock_New_ok y2 e1 (sel [0, 1, 2, 3]) sj_))) (r4_ (c_ (pl_far_tri script y4 e3) (f_ c5 tr))) (q3 (r1_ (c_ (pl_short_tri script y8 e6) (r2_ tr))))) (pl_LockTogether_l0_ok hμ y8 big _ _ _ _ r h) uT
theorem pl_LockTogether_tri (script : List (TA)) (r : (Bool)) (h : pl_LockTogether script = some r) : FnTri Tryz.prog 4 [.ds 15 (script).length (rowF c_TA default script)] [] (pl_LockTogether_v r) [] := FnTri.none (pl_LockTogether_ok script r h) rfl rfl
end
end Go.Proofs.YtddgjfclpknkcaaGreatDoor.Wk
