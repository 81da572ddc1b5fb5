import Derived.Test.YtddgjfclpknkcaaGreatDoorLckWc
namespace Go.Proofs.YtddgjfclpknkcaaGreatDoor.Wk
open Go Go.Cn Go.RowKit
set_option maxRecDepth 100000
set_option maxHeartbeats 4000000
set_option linter.unusedVariables false
set_option linter.unusedSimpArgs false
noncomputable section
variable (w0 : World) (W : Nat → Prop) (μ0 : Emb)
abbrev pl_LockPrepared_K1000028 (x : TX) (l : List (A8 (Int))) (t87 : Int) (y3 : (List (TA))) (Wounded : List (TX)) (Granted : List (TG)) (us3 : UT) (q3 q4 : Bag (TL × Int)) (r : (Bool)) : Prop := Kt_ w0 W μ0 Tryz.f3 0 0 (pl_LockPrepared_v r) [] (kAtR (bodyOf Tryz.f3) 28) (n_ 5 ((.ptr 0 0 0) :: .any :: (.ptr 1 0 0) :: n_ 5 ((.gs 2 (l).length) :: n_ 4 ((.ptr 3 0 0) :: n_ 66 ((.ds 15 (y3).length (rowF c_TA default y3)) :: (.int .i64 ((y3).length : Int)) :: (.int .i64 t87) :: n_ 56 []))))) [some (.var (c_TX x)), some (.var [.map 4, .map 5, .map 6]), some (.gr 8 (l).length (rowF (fun z_ : A8 (Int) => [.int .u8 z_.a0, .int .u8 z_.a1, .int .u8 z_.a2, .int .u8 z_.a3, .int .u8 z_.a4, .int .u8 z_.a5, .int .u8 z_.a6, .int .u8 z_.a7]) default l)), some (.var (c_TO (TO.mk Wounded Granted))), some (oP1 us3 []), some (.mapq true ks2 (Bag.map (fun e_ => (v_TL e_.1, (LV.int .u8) e_.2)) q3)), some (.mapq true ks2 (Bag.map (fun e_ => (v_TL e_.1, (LV.int .u8) e_.2)) q4))]
abbrev pl_LockPrepared_K4 (x : TX) (l : List (A8 (Int))) (us2 : UT) (m3 m4 : PT) (t122 : Int) (r : (Bool)) : Prop := Kt_ w0 W μ0 Tryz.f3 0 0 (pl_LockPrepared_v r) [] (kAt (bodyOf Tryz.f3) 4) (n_ 5 ((.ptr 0 0 0) :: .any :: (.ptr 1 0 0) :: n_ 112 ((.gs 2 (l).length) :: (.int .i64 ((l).length : Int)) :: (.int .i64 t122) :: n_ 21 []))) [some (.var (c_TX x)), some (.var [.map 3, .map 4, .map 5]), some (.gr 8 (l).length (rowF (fun z_ : A8 (Int) => [.int .u8 z_.a0, .int .u8 z_.a1, .int .u8 z_.a2, .int .u8 z_.a3, .int .u8 z_.a4, .int .u8 z_.a5, .int .u8 z_.a6, .int .u8 z_.a7]) default l)), some (oP1 us2 []), some (oM3 m3), some (oM3 m4)]
abbrev pl_LockPrepared_K2 (x : TX) (l : List (A8 (Int))) (y3 : (List (TA))) (t87 : Int) (us2 : UT) (m3 m4 : PT) (r : (Bool)) : Prop := Kt_ w0 W μ0 Tryz.f3 0 0 (pl_LockPrepared_v r) [] (kAt (bodyOf Tryz.f3) 2) (n_ 5 ((.ptr 0 0 0) :: .any :: (.ptr 1 0 0) :: n_ 5 ((.gs 2 (l).length) :: n_ 71 ((.ds 15 (y3).length (rowF c_TA default y3)) :: (.int .i64 ((y3).length : Int)) :: (.int .i64 t87) :: n_ 56 [])))) [some (.var (c_TX x)), some (.var [.map 3, .map 4, .map 5]), some (.gr 8 (l).length (rowF (fun z_ : A8 (Int) => [.int .u8 z_.a0, .int .u8 z_.a1, .int .u8 z_.a2, .int .u8 z_.a3, .int .u8 z_.a4, .int .u8 z_.a5, .int .u8 z_.a6, .int .u8 z_.a7]) default l)), some (oP1 us2 []), some (oM3 m3), some (oM3 m4)]
abbrev pl_LockPrepared_K1 (more : List (TA)) (x : TX) (y3 : (TO) × (Int) × (UT) × (PT) × (PT)) (y2 : (List (A8 (Int)))) (y4 : (List (A8 (Int)))) (t67 : Int) (l : List (A8 (Int))) (r : (Bool)) : Prop := Kt_ w0 W μ0 Tryz.f3 0 0 (pl_LockPrepared_v r) [] (kAt (bodyOf Tryz.f3) 1) (.any :: (.ds 15 (more).length (rowF c_TA default more)) :: .any :: .any :: .any :: (.ptr 0 0 0) :: .any :: (.ptr 1 0 0) :: n_ 5 ((.gs 2 (l).length) :: n_ 51 ((.gs 3 ((y2 ++ y4)).length) :: (.int .i64 (((y2 ++ y4)).length : Int)) :: (.int .i64 t67) :: n_ 76 []))) [some (.var (c_TX x)), some (.var [.map 4, .map 5, .map 6]), some (.gr 8 (l).length (rowF (fun z_ : A8 (Int) => [.int .u8 z_.a0, .int .u8 z_.a1, .int .u8 z_.a2, .int .u8 z_.a3, .int .u8 z_.a4, .int .u8 z_.a5, .int .u8 z_.a6, .int .u8 z_.a7]) default l)), some (.gr 8 ((y2 ++ y4)).length (rowF (fun z_ : A8 (Int) => [.int .u8 z_.a0, .int .u8 z_.a1, .int .u8 z_.a2, .int .u8 z_.a3, .int .u8 z_.a4, .int .u8 z_.a5, .int .u8 z_.a6, .int .u8 z_.a7]) default (y2 ++ y4))), some (oP1 y3.2.2.1 []), some (oM3 y3.2.2.2.1), some (oM3 y3.2.2.2.2)]
abbrev pl_LockPrepared_K1000012 (script more : List (TA)) (x : TX) (y3 : (TO) × (Int) × (UT) × (PT) × (PT)) (r : (Bool)) : Prop := Kt_ w0 W μ0 Tryz.f3 0 0 (pl_LockPrepared_v r) [] (kAtR (bodyOf Tryz.f3) 12) ((.ds 15 (script).length (rowF c_TA default script)) :: (.ds 15 (more).length (rowF c_TA default more)) :: .any :: .any :: .any :: (.ptr 0 0 0) :: .any :: (.ptr 1 0 0) :: n_ 136 []) [some (.var (c_TX x)), some (.var [.map 2, .map 3, .map 4]), some (oP1 y3.2.2.1 []), some (oM3 y3.2.2.2.1), some (oM3 y3.2.2.2.2)]
abbrev pl_LockPrepared_K0 (script more : List (TA)) (x : TX) (y11 : (List (TA))) (t43 : Int) (us : UT) (m m2 : PT) (r : (Bool)) : Prop := Kt_ w0 W μ0 Tryz.f3 0 0 (pl_LockPrepared_v r) [] (kAt (bodyOf Tryz.f3) 0) ((.ds 15 (script).length (rowF c_TA default script)) :: (.ds 15 (more).length (rowF c_TA default more)) :: .any :: .any :: .any :: (.ptr 0 0 0) :: .any :: (.ptr 1 0 0) :: n_ 33 ((.ds 15 (y11).length (rowF c_TA default y11)) :: (.int .i64 ((y11).length : Int)) :: (.int .i64 t43) :: n_ 100 [])) [some (.var (c_TX x)), some (.var [.map 2, .map 3, .map 4]), some (oP1 us []), some (oM3 m), some (oM3 m2)]
theorem pl_LockPrepared_c8_ok {w0 W μ0} (hμ : Lt_ μ0 0) (script more : List (TA)) (x : TX) (t43 : Int) (y11 : (List (TA))) (y4 : (TO) × (Int) × (UT) × (Bag (TL × Int)) × (Bag (TL × Int))) (k0 : (Int) → (UT) → (PT) → (PT) → Option ((Bool))) (hk0 : ∀ (t43 : Int) (us : UT) (m m2 : PT) (r : (Bool)), k0 t43 us m m2 = some r → pl_LockPrepared_K0 w0 W μ0 script more x y11 t43 us m m2 r) (q q2 : Bag (TL × Int)) (r : (Bool)) (h : pl_LockPrepared_c8 script more x t43 y11 y4 k0 q q2 = some r) : pl_LockPrepared_K1000008 w0 W μ0 script more x t43 y11 y4 q q2 r := by
 unfold pl_LockPrepared_c8 at h
 refine k_bagM v_TL (LV.int .u8) (ag := true) (ks := ks2) (c := 3) (q := q) (by kernel_rfl) (by kernel_rfl) (fun l1 hC8_2 => ?_)
 replace h := agreeB_some h hC8_2
 subst hC8_2
 refine k_bagM v_TL (LV.int .u8) (ag := true) (ks := ks2) (c := 4) (q := q2) (by kernel_rfl) (by kernel_rfl) (fun l3 hC8_4 => ?_)
 replace h := agreeB_some h hC8_4
 subst hC8_4
 exact rt_ hμ [0, 1, 2, 3, 4] 11 [.reg []]
  (q14 tr) (hk0 _ _ _ _ r h) ⟨rfl, rfl, uP, trivial, trivial, trivial⟩
theorem pl_LockPrepared_c11_ok {w0 W μ0} (hμ : Lt_ μ0 0) (r : (Bool)) (h : pl_LockPrepared_c11 = some r) : pl_LockPrepared_K1000011 w0 W μ0 r := by
 unfold pl_LockPrepared_c11 at h
 obtain ⟨y2, E1, h⟩ := bs_ h
 obtain rfl := si_ h
 exact rr_ [] 11 [.reg [(0, hC (pl_alive_v y2))]]
  (q6 (c_ (pl_alive_tri y2 E1) (r1_ tr)))
theorem pl_LockPrepared_l3_ok {w0 W μ0} (hμ : Lt_ μ0 0) (x : TX) (l : List (A8 (Int))) (t87 : Int) (y3 : (List (TA))) (k2 : (Int) → (UT) → (PT) → (PT) → Option ((Bool))) (hk2 : ∀ (t87 : Int) (us2 : UT) (m3 m4 : PT) (r : (Bool)), k2 t87 us2 m3 m4 = some r → pl_LockPrepared_K2 w0 W μ0 x l y3 t87 us2 m3 m4 r) : ∀ (fuel : Nat) (t109 : List (TX)) (t110 t111 : Int) (us4 : UT) (m5 m6 : PT) (r : (Bool)), pl_LockPrepared_l3 x l t87 y3 k2 fuel t109 t110 t111 us4 m5 m6 = some r → pl_LockPrepared_K3 w0 W μ0 x l t87 y3 t109 t110 t111 us4 m5 m6 r := by
 intro fuel
 induction fuel with
 | zero => intro t109 t110 t111 us4 m5 m6 r h; rw [pl_LockPrepared_l3] at h; cases h
 | succ fuel ih =>
  intro t109 t110 t111 us4 m5 m6 r h
  rw [pl_LockPrepared_l3] at h
  rcases it_ h with ⟨C1, h⟩ | ⟨C1, h⟩
  ·obtain ⟨G2, h⟩ := gs_ h
   rcases it_ h with ⟨C3, h⟩ | ⟨C3, h⟩
   ·obtain rfl := si_ h
    exact rr_ [] 28 [.go, .reg [(0, hT)], .reg [], .reg [(2, hT)], .reg []]
     (q16 (f_ C1 tr) (q13 (a_ (Eq.refl 3) G2) (le_ 3 3 rfl) (q18 (Eq.refl 3) (le_ 3 3 rfl) (Eq.refl 0))) (m_ 3 3 rfl (m_ 3 3 rfl (a_ (a_ tr (a_ (LV.Le.trans (leB (k_TX (t109.getD t111.toNat default) x)) (leB C3)) tr)) tr))) (q19 tr))
   ·exact rt_ hμ [0, 1, 2, 3, 4, 5] 29 [.go, .reg [(0, hT)], .reg [], .reg [(2, hF)], .reg []]
     (q0 (f_ C1 tr) (q13 (a_ (Eq.refl 3) G2) (le_ 3 3 rfl) (q18 (Eq.refl 3) (le_ 3 3 rfl) (Eq.refl 0))) (m_ 3 3 rfl (m_ 3 3 rfl (a_ (a_ tr (a_ (LV.Le.trans (leB (k_TX (t109.getD t111.toNat default) x)) (leB C3)) tr)) tr))) (q14 tr)) (ih _ _ _ _ _ _ r h) ⟨rfl, rfl, fun _ _ => rfl, uP, trivial, trivial, trivial⟩
  ·exact rt_ hμ [0, 1, 2, 3, 4, 5] 19 [.go, .reg [(0, hF)], .reg []]
    (q3 (f_ C1 tr) (r2_ tr)) (hk2 _ _ _ _ r h) ⟨rfl, rfl, fun _ _ => rfl, uP, trivial, trivial, trivial⟩
theorem pl_LockPrepared_c28_ok {w0 W μ0} (hμ : Lt_ μ0 0) (x : TX) (l : List (A8 (Int))) (t87 : Int) (y3 : (List (TA))) (k2 : (Int) → (UT) → (PT) → (PT) → Option ((Bool))) (hk2 : ∀ (t87 : Int) (us2 : UT) (m3 m4 : PT) (r : (Bool)), k2 t87 us2 m3 m4 = some r → pl_LockPrepared_K2 w0 W μ0 x l y3 t87 us2 m3 m4 r) (Wounded : List (TX)) (Granted : List (TG)) (us3 : UT) (q3 q4 : Bag (TL × Int)) (r : (Bool)) (h : pl_LockPrepared_c28 x l t87 y3 k2 Wounded Granted us3 q3 q4 = some r) : pl_LockPrepared_K1000028 w0 W μ0 x l t87 y3 Wounded Granted us3 q3 q4 r := by
 unfold pl_LockPrepared_c28 at h
 refine k_bagM v_TL (LV.int .u8) (ag := true) (ks := ks2) (c := 5) (q := q3) (by kernel_rfl) (by kernel_rfl) (fun l1 hC28_2 => ?_)
 replace h := agreeB_some h hC28_2
 subst hC28_2
 refine k_bagM v_TL (LV.int .u8) (ag := true) (ks := ks2) (c := 6) (q := q4) (by kernel_rfl) (by kernel_rfl) (fun l3 hC28_4 => ?_)
 replace h := agreeB_some h hC28_4
 subst hC28_4
 exact rt_ hμ [0, 1, 2, 4, 5, 6] 13 [.reg []]
  (q19 (l_ 0 2 rfl (r2_ tr))) (pl_LockPrepared_l3_ok hμ x l t87 y3 k2 hk2 big _ _ _ _ _ _ r h) ⟨rfl, rfl, fun _ _ => rfl, uP, trivial, trivial, trivial⟩
theorem pl_LockPrepared_l4_ok {w0 W μ0} (hμ : Lt_ μ0 0) (x : TX) (l : List (A8 (Int))) (us2 : UT) (m3 m4 : PT) : ∀ (fuel : Nat) (t122 : Int) (r : (Bool)), pl_LockPrepared_l4 x l us2 m3 m4 fuel t122 = some r → pl_LockPrepared_K4 w0 W μ0 x l us2 m3 m4 t122 r := by
 intro fuel
 induction fuel with
 | zero => intro t122 r h; rw [pl_LockPrepared_l4] at h; cases h
 | succ fuel ih =>
  intro t122 r h
  rw [pl_LockPrepared_l4] at h
  rcases it_ h with ⟨C1, h⟩ | ⟨C1, h⟩
  ·obtain ⟨G2, h⟩ := gs_ h
   obtain ⟨y4, E3, h⟩ := bs_ h
   rcases it_ h with ⟨C5, h⟩ | ⟨C5, h⟩
   ·obtain rfl := si_ h
    exact rr_ [] 28 [.go, .reg [(0, hT)], .reg [], .reg [(3, hk_ (hK_ [1, 3, 4, 5] (lT_Mode_v y4) (lT_Mode_objs us2 m3 m4) (lT_Mode_up us2 m3 m4 y4))), (4, hT)], .reg []]
     (q1 (q11 (f_ C1 tr) (ld_ 8 G2 tr (r1_ (a_ (a_ (a_ (Eq.refl 8) (a_ (le_ 8 8 rfl) (Eq.refl 0))) tr) tr))) (m_ 3 3 rfl (m_ 8 8 rfl (a_ (a_ (a_ (lT_Mode_ok us2 m3 m4 x (l.getD t122.toNat default) y4 E3 (sel [1, 3, 4, 5]) sj_) (o4_ [.map 3, .map 4, .map 5] us2 m3 m4)) tr) (f_ C5 tr)))) (q19 tr)))
   ·exact rt_ hμ [0, 1, 2, 3, 4, 5] 29 [.go, .reg [(0, hT)], .reg [], .reg [(3, hk_ (hK_ [1, 3, 4, 5] (lT_Mode_v y4) (lT_Mode_objs us2 m3 m4) (lT_Mode_up us2 m3 m4 y4))), (4, hF)], .reg []]
     (q11 (f_ C1 tr) (ld_ 8 G2 tr (r1_ (a_ (a_ (a_ (Eq.refl 8) (a_ (le_ 8 8 rfl) (Eq.refl 0))) tr) tr))) (m_ 3 3 rfl (m_ 8 8 rfl (a_ (a_ (a_ (lT_Mode_ok us2 m3 m4 x (l.getD t122.toNat default) y4 E3 (sel [1, 3, 4, 5]) sj_) (o4_ [.map 3, .map 4, .map 5] us2 m3 m4)) tr) (f_ C5 tr)))) (q14 tr)) (ih _ r h) ⟨rfl, rfl, fun _ _ => rfl, uP, trivial, trivial, trivial⟩
  ·obtain ⟨y3, E2, h⟩ := bs_ h
   rcases it_ h with ⟨C4, h⟩ | ⟨C4, h⟩
   ·obtain ⟨y6, E5, h⟩ := bs_ h
    rcases it_ h with ⟨C7, h⟩ | ⟨C7, h⟩
    ·obtain ⟨y9, E8, h⟩ := bs_ h
     obtain rfl := si_ h
     exact rr_ [] 19 [.go, .reg [(0, hF)], .reg [(2, hk_ (hK_ [1, 3, 4, 5] (lT_Prepared_v y3) (lT_Prepared_objs us2 m3 m4) (lT_Prepared_up us2 m3 m4 y3))), (3, hT), (6, hk_ (hK_ [1, 3, 4, 5] (lT_Waits_v y6) (lT_Waits_objs us2 m3 m4) (lT_Waits_up us2 m3 m4 y6))), (9, hT), (10, hC (pl_alive_v y9))]]
      (q9 (f_ C1 tr) (r1_ (m_ 3 3 rfl (a_ (a_ (a_ (lT_Prepared_ok us2 m3 m4 x y3 E2 (sel [1, 3, 4, 5]) sj_) (o4_ [.map 3, .map 4, .map 5] us2 m3 m4)) tr) (f_ C4 (r1_ (m_ 3 3 rfl (a_ (a_ (a_ (lT_Waits_ok us2 m3 m4 x y6 E5 (sel [1, 3, 4, 5]) sj_) (o4_ [.map 3, .map 4, .map 5] us2 m3 m4)) tr) (r2_ (f_ C7 (c_ (pl_alive_tri y9 E8) (r2_ tr))))))))))))
    ·obtain rfl := si_ h
     exact rr_ [] 19 [.go, .reg [(0, hF)], .reg [(2, hk_ (hK_ [1, 3, 4, 5] (lT_Prepared_v y3) (lT_Prepared_objs us2 m3 m4) (lT_Prepared_up us2 m3 m4 y3))), (3, hT), (6, hk_ (hK_ [1, 3, 4, 5] (lT_Waits_v y6) (lT_Waits_objs us2 m3 m4) (lT_Waits_up us2 m3 m4 y6))), (9, hF)]]
      (q9 (f_ C1 tr) (r1_ (m_ 3 3 rfl (a_ (a_ (a_ (lT_Prepared_ok us2 m3 m4 x y3 E2 (sel [1, 3, 4, 5]) sj_) (o4_ [.map 3, .map 4, .map 5] us2 m3 m4)) tr) (f_ C4 (r1_ (m_ 3 3 rfl (a_ (a_ (a_ (lT_Waits_ok us2 m3 m4 x y6 E5 (sel [1, 3, 4, 5]) sj_) (o4_ [.map 3, .map 4, .map 5] us2 m3 m4)) tr) (r2_ (f_ C7 (a_ tr (r2_ tr))))))))))))
   ·obtain rfl := si_ h
    exact rr_ [] 19 [.go, .reg [(0, hF)], .reg [(2, hk_ (hK_ [1, 3, 4, 5] (lT_Prepared_v y3) (lT_Prepared_objs us2 m3 m4) (lT_Prepared_up us2 m3 m4 y3))), (3, hF)]]
     (q9 (f_ C1 tr) (r1_ (m_ 3 3 rfl (a_ (a_ (a_ (lT_Prepared_ok us2 m3 m4 x y3 E2 (sel [1, 3, 4, 5]) sj_) (o4_ [.map 3, .map 4, .map 5] us2 m3 m4)) tr) (f_ C4 (t4_ (r2_ (a_ tr (r2_ tr)))))))))
theorem pl_LockPrepared_l2_ok {w0 W μ0} (hμ : Lt_ μ0 0) (x : TX) (l : List (A8 (Int))) (yL1_3 : (List (TA))) : ∀ (fuel : Nat) (t87 : Int) (us2 : UT) (m3 m4 : PT) (r : (Bool)), pl_LockPrepared_l2 x l yL1_3 fuel t87 us2 m3 m4 = some r → pl_LockPrepared_K2 w0 W μ0 x l yL1_3 t87 us2 m3 m4 r := by
 intro fuel
 induction fuel with
 | zero => intro t87 us2 m3 m4 r h; rw [pl_LockPrepared_l2] at h; cases h
 | succ fuel ih =>
  intro t87 us2 m3 m4 r h
  rw [pl_LockPrepared_l2] at h
  rcases it_ h with ⟨C1, h⟩ | ⟨C1, h⟩
  ·obtain ⟨G2, h⟩ := gs_ h
   obtain ⟨yL2_3, E4, h⟩ := bs_ h
   rcases it_ h with ⟨C5, h⟩ | ⟨C5, h⟩
   ·rcases it_ h with ⟨C6, h⟩ | ⟨C6, h⟩
    ·exact rt_ hμ [0, 1, 2, 3, 4, 5] 29 [.go, .reg [(0, hT)], .reg [], .reg [(2, hv_ (.int .u8 yL2_3)), (4, hT), (9, hv_ (.bool (decide ((yL1_3.getD t87.toNat default).f_Stamp.f_Tx = x)))), (10, hT)], .reg []]
      (q11 (f_ C1 tr) (q13 (a_ (Eq.refl 15) G2) (le_ 15 15 rfl) (q18 (Eq.refl 15) (le_ 15 15 rfl) (Eq.refl 0))) (l_ 0 15 rfl (a_ (a_ (ne0 5 rfl) (a_ (le_nm (LV.int .u8) E4) tr)) (r1_ (f_ C5 (r2_ (m_ 5 15 rfl (m_ 3 3 rfl (a_ (a_ tr (a_ (leB (k_TX (yL1_3.getD t87.toNat default).f_Stamp.f_Tx x)) tr)) (f_ C6 tr))))))))) (q14 tr)) (ih _ _ _ _ r h) ⟨rfl, rfl, fun _ _ => rfl, uP, trivial, trivial, trivial⟩
    ·obtain ⟨y8, E7, h⟩ := bs_ h
     exact rt_ hμ [0, 1, 2, 7, 3, 4, 5] 31 [.go, .reg [(0, hT)], .reg [], .reg [(2, hv_ (.int .u8 yL2_3)), (4, hT), (9, hv_ (.bool (decide ((yL1_3.getD t87.toNat default).f_Stamp.f_Tx = x)))), (10, hF)], .reg [(2, hk_ (hK_ [1, 3, 4, 5] (pl_does_v y8) (pl_does_objs us2 m3 m4) (pl_does_up y8)))]]
      (q11 (f_ C1 tr) (q13 (a_ (Eq.refl 15) G2) (le_ 15 15 rfl) (q18 (Eq.refl 15) (le_ 15 15 rfl) (Eq.refl 0))) (l_ 0 15 rfl (a_ (a_ (ne0 5 rfl) (a_ (le_nm (LV.int .u8) E4) tr)) (r1_ (f_ C5 (r2_ (m_ 5 15 rfl (m_ 3 3 rfl (a_ (a_ tr (a_ (leB (k_TX (yL1_3.getD t87.toNat default).f_Stamp.f_Tx x)) tr)) (f_ C6 tr))))))))) (q19 (m_ 15 15 rfl (a_ (a_ (a_ (pl_does_ok us2 m3 m4 (yL1_3.getD t87.toNat default) y8 E7 (sel [1, 3, 4, 5]) sj_) (o4_ [.map 3, .map 4, .map 5] us2 m3 m4)) tr) (r4_ (a_ (a_ (a_ (Eq.refl 2) (a_ (le_ 2 2 rfl) (Eq.refl 0))) tr) (r1_ tr))))))) (pl_LockPrepared_c28_ok hμ x l t87 yL1_3 (pl_LockPrepared_l2 x l yL1_3 fuel) ih _ _ _ _ _ r h) ⟨rfl, rfl, fun _ _ => rfl, rfl, uP, trivial, trivial, trivial⟩
   ·obtain ⟨y7, E6, h⟩ := bs_ h
    exact rt_ hμ [0, 1, 2, 7, 3, 4, 5] 31 [.go, .reg [(0, hT)], .reg [], .reg [(2, hv_ (.int .u8 yL2_3)), (4, hF)], .reg [(2, hk_ (hK_ [1, 3, 4, 5] (pl_does_v y7) (pl_does_objs us2 m3 m4) (pl_does_up y7)))]]
     (q11 (f_ C1 tr) (q13 (a_ (Eq.refl 15) G2) (le_ 15 15 rfl) (q18 (Eq.refl 15) (le_ 15 15 rfl) (Eq.refl 0))) (l_ 0 15 rfl (a_ (a_ (ne0 5 rfl) (a_ (le_nm (LV.int .u8) E4) tr)) (r1_ (f_ C5 (a_ tr (t4_ (r1_ tr))))))) (q19 (m_ 15 15 rfl (a_ (a_ (a_ (pl_does_ok us2 m3 m4 (yL1_3.getD t87.toNat default) y7 E6 (sel [1, 3, 4, 5]) sj_) (o4_ [.map 3, .map 4, .map 5] us2 m3 m4)) tr) (r4_ (a_ (a_ (a_ (Eq.refl 2) (a_ (le_ 2 2 rfl) (Eq.refl 0))) tr) (r1_ tr))))))) (pl_LockPrepared_c28_ok hμ x l t87 yL1_3 (pl_LockPrepared_l2 x l yL1_3 fuel) ih _ _ _ _ _ r h) ⟨rfl, rfl, fun _ _ => rfl, rfl, uP, trivial, trivial, trivial⟩
  ·exact rt_ hμ [0, 1, 2, 3, 4, 5] 22 [.go, .reg [(0, hF)], .reg []]
    (q3 (f_ C1 tr) (q2 tr)) (pl_LockPrepared_l4_ok hμ x l us2 m3 m4 big _ r h) ⟨rfl, rfl, fun _ _ => rfl, uP, trivial, trivial, trivial⟩
theorem pl_LockPrepared_l1_ok {w0 W μ0} (hμ : Lt_ μ0 0) (more : List (TA)) (x : TX) (yL0_3 : (TO) × (Int) × (UT) × (PT) × (PT)) (y2 : (List (A8 (Int)))) (yC12_4 : (List (A8 (Int)))) : ∀ (fuel : Nat) (t67 : Int) (l : List (A8 (Int))) (r : (Bool)), pl_LockPrepared_l1 more x yL0_3 y2 yC12_4 fuel t67 l = some r → pl_LockPrepared_K1 w0 W μ0 more x yL0_3 y2 yC12_4 t67 l r := by
 intro fuel
 induction fuel with
 | zero => intro t67 l r h; rw [pl_LockPrepared_l1] at h; cases h
 | succ fuel ih =>
  intro t67 l r h
  rw [pl_LockPrepared_l1] at h
  rcases it_ h with ⟨C1, h⟩ | ⟨C1, h⟩
  ·obtain ⟨G2, h⟩ := gs_ h
   obtain ⟨yL1_4, E3, h⟩ := bs_ h
   rcases it_ h with ⟨C5, h⟩ | ⟨C5, h⟩
   ·obtain rfl := si_ h
    exact rr_ [] 32 [.go, .reg [(0, hT)], .reg [], .reg [(3, hk_ (hK_ [1, 4, 5, 6] (lT_Mode_v yL1_4) (lT_Mode_objs yL0_3.2.2.1 yL0_3.2.2.2.1 yL0_3.2.2.2.2) (lT_Mode_up yL0_3.2.2.1 yL0_3.2.2.2.1 yL0_3.2.2.2.2 yL1_4)))], .reg [(1, hT)], .reg []]
     (q1 (q11 (f_ C1 tr) (ld_ 8 G2 tr (r1_ (a_ (a_ (a_ (Eq.refl 8) (a_ (le_ 8 8 rfl) (Eq.refl 0))) tr) tr))) (m_ 3 3 rfl (m_ 8 8 rfl (a_ (a_ (a_ (lT_Mode_ok yL0_3.2.2.1 yL0_3.2.2.2.1 yL0_3.2.2.2.2 x ((y2 ++ yC12_4).getD t67.toNat default) yL1_4 E3 (sel [1, 4, 5, 6]) sj_) (o4_ [.map 4, .map 5, .map 6] yL0_3.2.2.1 yL0_3.2.2.2.1 yL0_3.2.2.2.2)) tr) tr))) (q27 (f_ C5 tr) (r1_ tr))))
   ·rcases it_ h with ⟨C6, h⟩ | ⟨C6, h⟩
    ·obtain ⟨G7, h⟩ := gs_ h
     exact rt_ hμ [0, 1, 9, 3, 4, 5, 6] 39 [.go, .reg [(0, hT)], .reg [], .reg [(3, hk_ (hK_ [1, 4, 5, 6] (lT_Mode_v yL1_4) (lT_Mode_objs yL0_3.2.2.1 yL0_3.2.2.2.1 yL0_3.2.2.2.2) (lT_Mode_up yL0_3.2.2.1 yL0_3.2.2.2.1 yL0_3.2.2.2.2 yL1_4)))], .reg [(1, hF)], .reg [(1, hT)], .reg [(2, { os := [(8, .gr 8 (([((y2 ++ yC12_4).getD t67.toNat default)] : List (A8 (Int)))).length (rowF (fun z_ : A8 (Int) => [.int .u8 z_.a0, .int .u8 z_.a1, .int .u8 z_.a2, .int .u8 z_.a3, .int .u8 z_.a4, .int .u8 z_.a5, .int .u8 z_.a6, .int .u8 z_.a7]) default ([((y2 ++ yC12_4).getD t67.toNat default)] : List (A8 (Int)))))], v := some (.gs 8 (([((y2 ++ yC12_4).getD t67.toNat default)] : List (A8 (Int)))).length) }), (3, { app := 3, os := [(9, .gr 8 ((l ++ ([((y2 ++ yC12_4).getD t67.toNat default)] : List (A8 (Int))))).length (rowF (fun z_ : A8 (Int) => [.int .u8 z_.a0, .int .u8 z_.a1, .int .u8 z_.a2, .int .u8 z_.a3, .int .u8 z_.a4, .int .u8 z_.a5, .int .u8 z_.a6, .int .u8 z_.a7]) default (l ++ ([((y2 ++ yC12_4).getD t67.toNat default)] : List (A8 (Int))))))], v := some (.gs 9 ((l ++ ([((y2 ++ yC12_4).getD t67.toNat default)] : List (A8 (Int))))).length) })], .reg []]
      (q11 (f_ C1 tr) (ld_ 8 G2 tr (r1_ (a_ (a_ (a_ (Eq.refl 8) (a_ (le_ 8 8 rfl) (Eq.refl 0))) tr) tr))) (m_ 3 3 rfl (m_ 8 8 rfl (a_ (a_ (a_ (lT_Mode_ok yL0_3.2.2.1 yL0_3.2.2.2.1 yL0_3.2.2.2.2 x ((y2 ++ yC12_4).getD t67.toNat default) yL1_4 E3 (sel [1, 4, 5, 6]) sj_) (o4_ [.map 4, .map 5, .map 6] yL0_3.2.2.1 yL0_3.2.2.2.1 yL0_3.2.2.2.2)) tr) tr))) (q25 (f_ C5 tr) (f_ C6 tr) (r1_ (m_ 8 8 rfl (a_ (a_ (a_ (Eq.refl true) (a_ (Eq.refl 8) (a_ (lt_ 0 8 rfl) (le_ 8 16777216 rfl)))) (a_ (le_sl_gs 8 1 (some 1) rfl) (a_ (sub_lit (fun z_ : A8 (Int) => [.int .u8 z_.a0, .int .u8 z_.a1, .int .u8 z_.a2, .int .u8 z_.a3, .int .u8 z_.a4, .int .u8 z_.a5, .int .u8 z_.a6, .int .u8 z_.a7]) default 8 (fun _ => rfl) ([((y2 ++ yC12_4).getD t67.toNat default)] : List (A8 (Int)))) tr))) (a_ (a_ (a_ (a_ (Eq.refl 8) (Nat.le_refl (([((y2 ++ yC12_4).getD t67.toNat default)] : List (A8 (Int)))).length)) (a_ (a_ (lt_ 0 8 rfl) (a_ (lt_ 0 8 rfl) (a_ G7 (a_ (Eq.refl 8) (Eq.refl true))))) (a_ (Eq.refl 8) (Nat.le_refl (l).length)))) (a_ (le_gs_app 9 l ([((y2 ++ yC12_4).getD t67.toNat default)] : List (A8 (Int)))) (a_ (sub_app (fun z_ : A8 (Int) => [.int .u8 z_.a0, .int .u8 z_.a1, .int .u8 z_.a2, .int .u8 z_.a3, .int .u8 z_.a4, .int .u8 z_.a5, .int .u8 z_.a6, .int .u8 z_.a7]) default 8 l ([((y2 ++ yC12_4).getD t67.toNat default)] : List (A8 (Int)))) tr))) (r1_ tr))))) (q14 tr))) (ih _ _ r h) ⟨rfl, rfl, fun _ _ => rfl, fun _ _ => rfl, uP, trivial, trivial, trivial⟩
    ·exact rt_ hμ [0, 1, 2, 3, 4, 5, 6] 38 [.go, .reg [(0, hT)], .reg [], .reg [(3, hk_ (hK_ [1, 4, 5, 6] (lT_Mode_v yL1_4) (lT_Mode_objs yL0_3.2.2.1 yL0_3.2.2.2.1 yL0_3.2.2.2.2) (lT_Mode_up yL0_3.2.2.1 yL0_3.2.2.2.1 yL0_3.2.2.2.2 yL1_4)))], .reg [(1, hF)], .reg [(1, hF)], .reg []]
      (q11 (f_ C1 tr) (ld_ 8 G2 tr (r1_ (a_ (a_ (a_ (Eq.refl 8) (a_ (le_ 8 8 rfl) (Eq.refl 0))) tr) tr))) (m_ 3 3 rfl (m_ 8 8 rfl (a_ (a_ (a_ (lT_Mode_ok yL0_3.2.2.1 yL0_3.2.2.2.1 yL0_3.2.2.2.2 x ((y2 ++ yC12_4).getD t67.toNat default) yL1_4 E3 (sel [1, 4, 5, 6]) sj_) (o4_ [.map 4, .map 5, .map 6] yL0_3.2.2.1 yL0_3.2.2.2.1 yL0_3.2.2.2.2)) tr) tr))) (q25 (f_ C5 tr) (f_ C6 tr) (r2_ tr) tr)) (ih _ _ r h) ⟨rfl, rfl, fun _ _ => rfl, fun _ _ => rfl, uP, trivial, trivial, trivial⟩
  ·obtain ⟨yL1_3, E2, h⟩ := bs_ h
   exact rt_ hμ [0, 1, 2, 4, 5, 6] 22 [.go, .reg [(0, hF)], .reg [(1, hC (pl_short_v yL1_3))]]
    (q3 (f_ C1 tr) (r1_ (c_ (pl_short_tri more yL1_3 E2) (r2_ tr)))) (pl_LockPrepared_l2_ok hμ x l yL1_3 big _ _ _ _ r h) ⟨rfl, rfl, fun _ _ => rfl, uP, trivial, trivial, trivial⟩
theorem pl_LockPrepared_c12_ok {w0 W μ0} (hμ : Lt_ μ0 0) (script more : List (TA)) (x : TX) (y3 : (TO) × (Int) × (UT) × (PT) × (PT)) (r : (Bool)) (h : pl_LockPrepared_c12 script more x y3 = some r) : pl_LockPrepared_K1000012 w0 W μ0 script more x y3 r := by
 unfold pl_LockPrepared_c12 at h
 obtain ⟨y2, E1, h⟩ := bs_ h
 obtain ⟨y4, E3, h⟩ := bs_ h
 obtain ⟨G5, h⟩ := gs_ h
 exact rt_ hμ [0, 1, 8, 7, 2, 3, 4] 21 [.reg [(1, hk_ (hK_ [5] (pl_keys_v y2) [] (pl_keys_up y2))), (3, hk_ (hK_ [6] (pl_keys_v y4) [] (pl_keys_up y4))), (4, { app := 3, os := [(7, .gr 8 ((y2 ++ y4)).length (rowF (fun z_ : A8 (Int) => [.int .u8 z_.a0, .int .u8 z_.a1, .int .u8 z_.a2, .int .u8 z_.a3, .int .u8 z_.a4, .int .u8 z_.a5, .int .u8 z_.a6, .int .u8 z_.a7]) default (y2 ++ y4)))], v := some (.gs 7 ((y2 ++ y4)).length) })], .void (.gr 8 (([] : List (A8 (Int)))).length (rowF (fun z_ : A8 (Int) => [.int .u8 z_.a0, .int .u8 z_.a1, .int .u8 z_.a2, .int .u8 z_.a3, .int .u8 z_.a4, .int .u8 z_.a5, .int .u8 z_.a6, .int .u8 z_.a7]) default ([] : List (A8 (Int))))), .reg [(0, hv_ (.gs 8 (([] : List (A8 (Int)))).length))], .reg []]
  (q0 (r1_ (q4 (q1 (pl_keys_ok script y2 E1 (sel [5]) sj_)) (q8 (q6 (pl_keys_ok more y4 E3 (sel [6]) sj_)) (q0 (q0 (a_ (Eq.refl 8) (Nat.le_refl (y4).length)) (q0 (lt_ 0 8 rfl) (lt_ 0 8 rfl) G5 (a_ (Eq.refl 8) (Eq.refl true))) (Eq.refl 8) (Nat.le_refl (y2).length)) (le_gs_app 7 y2 y4) (sub_app (fun z_ : A8 (Int) => [.int .u8 z_.a0, .int .u8 z_.a1, .int .u8 z_.a2, .int .u8 z_.a3, .int .u8 z_.a4, .int .u8 z_.a5, .int .u8 z_.a6, .int .u8 z_.a7]) default 8 y2 y4) tr) (r1_ tr)))) (Eq.refl 0) (q9 tr (le_nil_gs 8)) (q17 tr)) (pl_LockPrepared_l1_ok hμ more x y3 y2 y4 big _ _ r h) ⟨rfl, rfl, fun _ _ => rfl, fun _ _ => rfl, uP, trivial, trivial, trivial⟩
theorem pl_LockPrepared_l0_ok {w0 W μ0} (hμ : Lt_ μ0 0) (script more : List (TA)) (x : TX) (y11 : (List (TA))) : ∀ (fuel : Nat) (t43 : Int) (us : UT) (m m2 : PT) (r : (Bool)), pl_LockPrepared_l0 script more x y11 fuel t43 us m m2 = some r → pl_LockPrepared_K0 w0 W μ0 script more x y11 t43 us m m2 r := by
 intro fuel
 induction fuel with
 | zero => intro t43 us m m2 r h; rw [pl_LockPrepared_l0] at h; cases h
 | succ fuel ih =>
  intro t43 us m m2 r h
  rw [pl_LockPrepared_l0] at h
  rcases it_ h with ⟨C1, h⟩ | ⟨C1, h⟩
  ·obtain ⟨G2, h⟩ := gs_ h
   obtain ⟨y4, E3, h⟩ := bs_ h
   exact rt_ hμ [0, 1, 2, 3, 4] 24 [.go, .reg [(0, hT)], .reg [], .reg [(2, hk_ (hK_ [1, 2, 3, 4] (pl_does_v y4) (pl_does_objs us m m2) (pl_does_up y4)))]]
    (q11 (f_ C1 tr) (q13 (a_ (Eq.refl 15) G2) (le_ 15 15 rfl) (q18 (Eq.refl 15) (le_ 15 15 rfl) (Eq.refl 0))) (m_ 15 15 rfl (a_ (a_ (a_ (pl_does_ok us m m2 (y11.getD t43.toNat default) y4 E3 (sel [1, 2, 3, 4]) sj_) (o4_ [.map 2, .map 3, .map 4] us m m2)) tr) tr)) tr) (pl_LockPrepared_c8_ok hμ script more x t43 y11 y4 (pl_LockPrepared_l0 script more x y11 fuel) ih _ _ r h) ⟨rfl, rfl, uP, trivial, trivial, trivial⟩
  ·obtain ⟨y3, E2, h⟩ := bs_ h
   rcases it_ h with ⟨C4, h⟩ | ⟨C4, h⟩
   ·exact rt_ hμ [] 25 [.go, .reg [(0, hF)], .reg [(2, hk_ (hK_ [1, 2, 3, 4] (lT_Prepare_v y3) (lT_Prepare_objs us m m2) (lT_Prepare_up y3)))], .reg [(1, hT)]]
     (q7 (f_ C1 tr) (m_ 3 3 rfl (a_ (a_ (a_ (lT_Prepare_ok us m m2 x y3 E2 (sel [1, 2, 3, 4]) sj_) (o4_ [.map 2, .map 3, .map 4] us m m2)) tr) (r4_ (a_ (a_ (a_ (Eq.refl 2) (a_ (le_ 2 2 rfl) (Eq.refl 0))) tr) (r1_ tr))))) (r1_ (f_ C4 tr)) tr) (pl_LockPrepared_c11_ok hμ r h) trivial
   ·exact rt_ hμ [0, 1, 2, 3, 4] 26 [.go, .reg [(0, hF)], .reg [(2, hk_ (hK_ [1, 2, 3, 4] (lT_Prepare_v y3) (lT_Prepare_objs us m m2) (lT_Prepare_up y3)))], .reg [(1, hF)]]
     (q7 (f_ C1 tr) (m_ 3 3 rfl (a_ (a_ (a_ (lT_Prepare_ok us m m2 x y3 E2 (sel [1, 2, 3, 4]) sj_) (o4_ [.map 2, .map 3, .map 4] us m m2)) tr) (r4_ (a_ (a_ (a_ (Eq.refl 2) (a_ (le_ 2 2 rfl) (Eq.refl 0))) tr) (r1_ tr))))) (r1_ (f_ C4 tr)) tr) (pl_LockPrepared_c12_ok hμ script more x y3 r h) ⟨rfl, rfl, uP, trivial, trivial, trivial⟩
theorem pl_LockPrepared_ok (script more : List (TA)) (x : TX) (r : (Bool)) (h : pl_LockPrepared script more x = some r) : ∀ σ, Inj 0 σ → FnTri Tryz.prog 3 (renL σ [.ds 15 (script).length (rowF c_TA default script), .ds 15 (more).length (rowF c_TA default more), v_TX x]) (preOf σ 0 []) ((pl_LockPrepared_v r).ren σ) (upOf σ []) := by
 refine fo_ Tryz.func3 trivial trivial ?_
 intro w0 W μ0 hμ
 unfold pl_LockPrepared at h
 obtain ⟨y2, e1, h⟩ := bs_ h
 obtain ⟨y4, e3, h⟩ := bs_ h
 rcases it_ h with ⟨c5, h⟩ | ⟨c5, h⟩
 ·obtain ⟨y7, e6, h⟩ := bs_ h
  obtain rfl := si_ h
  exact rr_ [] 23 [.reg [], .reg [(0, hk_ (hK_ [1, 2, 3, 4] (lock_New_v y2) [] (lock_New_up y2)))], .reg [(4, hC (pl_far_v y4)), (6, hT)], .reg [(3, hC (pl_alive_v y7))]]
   (q16 (r2_ tr) (q4 (q1 (lock_New_ok y2 e1 (sel [1, 2, 3, 4]) sj_)) tr) (r4_ (c_ (pl_far_tri script y4 e3) (r1_ (f_ c5 (t2_ (r1_ tr)))))) (q17 (c_ (pl_alive_tri y7 e6) (r2_ tr))))
 ·obtain ⟨y7, e6, h⟩ := bs_ h
  rcases it_ h with ⟨c8, h⟩ | ⟨c8, h⟩
  ·obtain ⟨y10, e9, h⟩ := bs_ h
   obtain rfl := si_ h
   exact rr_ [] 23 [.reg [], .reg [(0, hk_ (hK_ [1, 2, 3, 4] (lock_New_v y2) [] (lock_New_up y2)))], .reg [(4, hC (pl_far_v y4)), (6, hF), (8, hC (pl_far_v y7)), (9, hT)], .reg [(3, hC (pl_alive_v y10))]]
    (q16 (r2_ tr) (q4 (q1 (lock_New_ok y2 e1 (sel [1, 2, 3, 4]) sj_)) tr) (r4_ (c_ (pl_far_tri script y4 e3) (r1_ (f_ c5 (r1_ (c_ (pl_far_tri more y7 e6) (f_ c8 tr))))))) (q17 (c_ (pl_alive_tri y10 e9) (r2_ tr))))
  ·obtain ⟨y11, e9, h⟩ := bs_ h
   exact rt_ hμ [0, 1, 2, 3, 4] 27 [.reg [], .reg [(0, hk_ (hK_ [1, 2, 3, 4] (lock_New_v y2) [] (lock_New_up y2)))], .reg [(4, hC (pl_far_v y4)), (6, hF), (8, hC (pl_far_v y7)), (9, hF)], .reg [(1, hC (pl_short_v y11))]]
    (q0 (r2_ tr) (q4 (q1 (lock_New_ok y2 e1 (sel [1, 2, 3, 4]) sj_)) tr) (r4_ (c_ (pl_far_tri script y4 e3) (r1_ (f_ c5 (r1_ (c_ (pl_far_tri more y7 e6) (f_ c8 tr))))))) (q19 (c_ (pl_short_tri script y11 e9) (r2_ tr)))) (pl_LockPrepared_l0_ok hμ script more x y11 big _ _ _ _ r h) ⟨rfl, rfl, uP, trivial, trivial, trivial⟩
theorem pl_LockPrepared_tri (script more : List (TA)) (x : TX) (r : (Bool)) (h : pl_LockPrepared script more x = some r) : FnTri Tryz.prog 3 [.ds 15 (script).length (rowF c_TA default script), .ds 15 (more).length (rowF c_TA default more), v_TX x] [] (pl_LockPrepared_v r) [] := FnTri.none (pl_LockPrepared_ok script more x r h) rfl rfl
end
end Go.Proofs.YtddgjfclpknkcaaGreatDoor.Wk
