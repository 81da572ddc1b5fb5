import Derived.Test.YtljjdeanilgloaaGreatDoorTxWb
namespace Go.Proofs.YtljjdeanilgloaaGreatDoor.Wk
open Go Go.Cn Go.RowKit
set_option maxRecDepth 100000
set_option maxHeartbeats 4000000
set_option linter.unusedVariables false
set_option linter.unusedSimpArgs false
noncomputable section
def AR_v (r : (Int) × C_) : LV := .int .i64 r.1
def AR_up (slots : A_) (pu : B_) (r : (Int) × C_) : Upd := [(1, some (oP2 slots [])), (2, some (oM4 pu)), (3, some (oM5 r.2))]
def AR_objs (ti : Bi) (slots : A_) (key : Bh) (re : D_) (pu : B_) (co : C_) : List LO := [.row 33 1 (fun _ => (cT_60 ti (.map 1) key .any re (.map 2) (.map 3))) false, oP2 slots [], oM4 pu, oM5 co]
def AR_c5 (ti : Bi) (slots : A_) (key : Bh) (re : D_) (pu : B_) (co : C_) (x_k : I_) (c : Bg) : Option ((Int) × C_) :=
 some (17, co)
def AR_c9 (ti : Bi) (slots : A_) (key : Bh) (re : D_) (pu : B_) (co : C_) (x_k : I_) (c : Bg) (y8 : (Int)) : Option ((Int) × C_) :=
 some (y8, co)
def AR_c11 (ti : Bi) (slots : A_) (key : Bh) (re : D_) (pu : B_) (co : C_) (x_k : I_) (c : Bg) : Option ((Int) × C_) :=
 some (16, co)
def AR_c12 (ti : Bi) (slots : A_) (key : Bh) (re : D_) (pu : B_) (co : C_) (x_k : I_) (c : Bg) : Option ((Int) × C_) :=
 some (0, (mset co x_k c))
def AR_c6 (ti : Bi) (slots : A_) (key : Bh) (re : D_) (pu : B_) (co : C_) (x_k : I_) (c : Bg) : Option ((Int) × C_) :=
 (Ad ti slots key re pu co x_k).bind fun y2 =>
 if (y2.1 : Bool) then
  if mget slots y2.2.1.1 = some (Bf.mk y2.2.1.2.1 y2.2.1.2.2.1 y2.2.1.2.2.2.1 y2.2.1.2.2.2.2.1 y2.2.1.2.2.2.2.2) then
  (AP (Bf.mk y2.2.1.2.1 y2.2.1.2.2.1 y2.2.1.2.2.2.1 y2.2.1.2.2.2.2.1 y2.2.1.2.2.2.2.2)).bind fun y6 =>
  (BN y6 c).bind fun y8 =>
  if ((y8 != 0) : Bool) then
   AR_c9 ti slots key re pu co x_k c y8
  else
   (Aj (Bf.mk y2.2.1.2.1 y2.2.1.2.2.1 y2.2.1.2.2.2.1 y2.2.1.2.2.2.2.1 y2.2.1.2.2.2.2.2)).bind fun y11 =>
   (BA c y11).bind fun y13 =>
   if ((!y13) : Bool) then
    AR_c11 ti slots key re pu co x_k c
   else
    AR_c12 ti slots key re pu co x_k c
  else none
 else
  none
def AR (ti : Bi) (slots : A_) (key : Bh) (re : D_) (pu : B_) (co : C_) (x_k : I_) (c : Bg) : Option ((Int) × C_) :=
 (Ai ti slots key re pu co x_k).bind fun y2 =>
 if ((y2 != 0) : Bool) then
  some (y2, co)
 else
  (As ti slots key re pu co x_k).bind fun y5 =>
  if (y5 : Bool) then
   AR_c5 ti slots key re pu co x_k c
  else
   AR_c6 ti slots key re pu co x_k c
abbrev AR_K1000005 (w0 : World) (W : Nat → Prop) (μ0 : Emb) (ti : Bi) (slots : A_) (key : Bh) (re : D_) (pu : B_) (co : C_) (r : (Int) × C_) : Prop := Kt_ w0 W μ0 Tryz.f25 4 4 (AR_v r) (AR_up slots pu r) (kAtR (bodyOf Tryz.f25) 5) (n_ 42 []) [some (.row 33 1 (fun _ => (cT_60 ti (.map 1) key .any re (.map 2) (.map 3))) false), some (oP2 slots []), some (oM4 pu), some (oM5 co)]
abbrev AR_K1000009 (w0 : World) (W : Nat → Prop) (μ0 : Emb) (ti : Bi) (slots : A_) (key : Bh) (re : D_) (pu : B_) (co : C_) (y8 : (Int)) (r : (Int) × C_) : Prop := Kt_ w0 W μ0 Tryz.f25 4 4 (AR_v r) (AR_up slots pu r) (kAtR (bodyOf Tryz.f25) 9) (n_ 9 ((.int .i64 y8) :: n_ 32 [])) [some (.row 33 1 (fun _ => (cT_60 ti (.map 1) key .any re (.map 2) (.map 3))) false), some (oP2 slots []), some (oM4 pu), some (oM5 co)]
abbrev AR_K1000011 (w0 : World) (W : Nat → Prop) (μ0 : Emb) (ti : Bi) (slots : A_) (key : Bh) (re : D_) (pu : B_) (co : C_) (r : (Int) × C_) : Prop := Kt_ w0 W μ0 Tryz.f25 4 4 (AR_v r) (AR_up slots pu r) (kAtR (bodyOf Tryz.f25) 11) (n_ 42 []) [some (.row 33 1 (fun _ => (cT_60 ti (.map 1) key .any re (.map 2) (.map 3))) false), some (oP2 slots []), some (oM4 pu), some (oM5 co)]
abbrev AR_K1000012 (w0 : World) (W : Nat → Prop) (μ0 : Emb) (ti : Bi) (slots : A_) (key : Bh) (re : D_) (pu : B_) (co : C_) (x_k : I_) (c : Bg) (r : (Int) × C_) : Prop := Kt_ w0 W μ0 Tryz.f25 4 4 (AR_v r) (AR_up slots pu r) (kAtR (bodyOf Tryz.f25) 12) ((.ptr 0 0 0) :: .any :: .any :: .any :: (.ptr 4 0 0) :: (.ptr 5 0 0) :: n_ 36 []) [some (.row 33 1 (fun _ => (cT_60 ti (.map 1) key .any re (.map 2) (.map 3))) false), some (oP2 slots []), some (oM4 pu), some (oM5 co), some (.var [.int .u8 x_k.a0, .int .u8 x_k.a1, .int .u8 x_k.a2, .int .u8 x_k.a3, .int .u8 x_k.a4, .int .u8 x_k.a5, .int .u8 x_k.a6, .int .u8 x_k.a7]), some (.var (c_Bg c))]
abbrev AR_K1000006 (w0 : World) (W : Nat → Prop) (μ0 : Emb) (ti : Bi) (slots : A_) (key : Bh) (re : D_) (pu : B_) (co : C_) (x_k : I_) (c : Bg) (r : (Int) × C_) : Prop := Kt_ w0 W μ0 Tryz.f25 4 4 (AR_v r) (AR_up slots pu r) (kAtR (bodyOf Tryz.f25) 6) ((.ptr 0 0 0) :: .any :: .any :: .any :: (.ptr 4 0 0) :: (.ptr 5 0 0) :: n_ 36 []) [some (.row 33 1 (fun _ => (cT_60 ti (.map 1) key .any re (.map 2) (.map 3))) false), some (oP2 slots []), some (oM4 pu), some (oM5 co), some (.var [.int .u8 x_k.a0, .int .u8 x_k.a1, .int .u8 x_k.a2, .int .u8 x_k.a3, .int .u8 x_k.a4, .int .u8 x_k.a5, .int .u8 x_k.a6, .int .u8 x_k.a7]), some (.var (c_Bg c))]
theorem AR_c5_ok {w0 W μ0} (hμ : Lt_ μ0 4) (ti : Bi) (slots : A_) (key : Bh) (re : D_) (pu : B_) (co : C_) (x_k : I_) (c : Bg) (r : (Int) × C_) (h : AR_c5 ti slots key re pu co x_k c = some r) : AR_K1000005 w0 W μ0 ti slots key re pu co r := by
 unfold AR_c5 at h
 obtain rfl := si_ h
 exact rr_ [] 11 [.reg []]
  (a_ (a_ (r1_ tr) tr) tr)
theorem AR_c9_ok {w0 W μ0} (hμ : Lt_ μ0 4) (ti : Bi) (slots : A_) (key : Bh) (re : D_) (pu : B_) (co : C_) (x_k : I_) (c : Bg) (y8 : (Int)) (r : (Int) × C_) (h : AR_c9 ti slots key re pu co x_k c y8 = some r) : AR_K1000009 w0 W μ0 ti slots key re pu co y8 r := by
 unfold AR_c9 at h
 obtain rfl := si_ h
 exact rr_ [] 11 [.reg []]
  (a_ (a_ (r2_ tr) tr) tr)
theorem AR_c11_ok {w0 W μ0} (hμ : Lt_ μ0 4) (ti : Bi) (slots : A_) (key : Bh) (re : D_) (pu : B_) (co : C_) (x_k : I_) (c : Bg) (r : (Int) × C_) (h : AR_c11 ti slots key re pu co x_k c = some r) : AR_K1000011 w0 W μ0 ti slots key re pu co r := by
 unfold AR_c11 at h
 obtain rfl := si_ h
 exact rr_ [] 11 [.reg []]
  (a_ (a_ (r1_ tr) tr) tr)
theorem AR_c12_ok {w0 W μ0} (hμ : Lt_ μ0 4) (ti : Bi) (slots : A_) (key : Bh) (re : D_) (pu : B_) (co : C_) (x_k : I_) (c : Bg) (r : (Int) × C_) (h : AR_c12 ti slots key re pu co x_k c = some r) : AR_K1000012 w0 W μ0 ti slots key re pu co x_k c r := by
 unfold AR_c12 at h
 obtain rfl := si_ h
 exact rr_ [] 14 [.reg [(6, { os := [(3, oM5 (mset co x_k c))] })], .reg []]
  (a_ (a_ (r1_ (r2_ (a_ (a_ (a_ (lt_ 0 1 rfl) (lt_ 32 33 rfl)) tr) (m_ 8 8 rfl (m_ 11 11 rfl (a_ (a_ (a_ (Eq.refl true) (Eq.refl true)) (a_ (sub_upd (fun z_ : I_ => LV.agg [.int .u8 z_.a0, .int .u8 z_.a1, .int .u8 z_.a2, .int .u8 z_.a3, .int .u8 z_.a4, .int .u8 z_.a5, .int .u8 z_.a6, .int .u8 z_.a7]) v_Bg (k_arr8 .u8) true ks3 co x_k c) tr)) tr)))))) (a_ (r1_ tr) tr)) tr)
theorem AR_c6_ok {w0 W μ0} (hμ : Lt_ μ0 4) (ti : Bi) (slots : A_) (key : Bh) (re : D_) (pu : B_) (co : C_) (x_k : I_) (c : Bg) (r : (Int) × C_) (h : AR_c6 ti slots key re pu co x_k c = some r) : AR_K1000006 w0 W μ0 ti slots key re pu co x_k c r := by
 unfold AR_c6 at h
 obtain ⟨y2, E1, h⟩ := bs_ h
 rcases it_ h with ⟨C3, h⟩ | ⟨C3, h⟩
 ·obtain ⟨G4, h⟩ := gs_ h
  obtain ⟨y6, E5, h⟩ := bs_ h
  obtain ⟨y8, E7, h⟩ := bs_ h
  rcases it_ h with ⟨C9, h⟩ | ⟨C9, h⟩
  ·exact rt_ hμ [] 22 [.reg [(2, hk_ (hK_ [0, 1, 2, 3, 6] (Ad_vA y2.2.1) (Ad_objs ti slots key re pu co) (Ad_upA slots pu co y2.2.1)))], .reg [(1, hk_ (hK_ [6] (AP_v y6) (AP_objs (Bf.mk y2.2.1.2.1 y2.2.1.2.2.1 y2.2.1.2.2.2.1 y2.2.1.2.2.2.2.1 y2.2.1.2.2.2.2.2)) (AP_up y6))), (3, hC (BN_v y8))], .reg [(1, hT)], .x (.p (.pc 1)), .wk [] [(1, oP2 slots [])]]
    (a_ (r1_ (m_ 8 8 rfl (a_ (a_ (a_ (Ad_okA ti slots key re pu co x_k y2.2.1 y2.2.2 (altA E1 C3) (sel [0, 1, 2, 3, 6]) sj_) (a_ (rl_ (.row 33 1 (fun _ => (cT_60 ti (.map 1) key .any re (.map 2) (.map 3))) false)) (a_ (Eq.refl (oP2 slots [] : LO)) (a_ (rl_ (oM4 pu)) (a_ (rl_ (oM5 co)) tr))))) tr) (r1_ tr)))) (a_ (r1_ (a_ (a_ (a_ (AP_ok (Bf.mk y2.2.1.2.1 y2.2.1.2.2.1 y2.2.1.2.2.2.1 y2.2.1.2.2.2.2.1 y2.2.1.2.2.2.2.2) y6 E5 (sel [6]) sj_) (a_ (LO.Le.ofVar (c_Bf (Bf.mk y2.2.1.2.1 y2.2.1.2.2.1 y2.2.1.2.2.2.1 y2.2.1.2.2.2.2.1 y2.2.1.2.2.2.2.2))) tr)) tr) (m_ 11 11 rfl (c_ (BN_tri y6 c y8 E7) (r1_ tr))))) (a_ (r1_ (f_ C9 tr)) (a_ (a_ (getP_enc v_Bh c_Bf k_Bh slots y2.2.1.1 G4) (a_ (Eq.refl true) (a_ (Eq.refl true) (show 1 ≠ 6 from by decide)))) (a_ (a_ tr (a_ (pm_same v_Bh c_Bf k_Bh true ks1 [] (m := slots) (k := y2.2.1.1) G4) tr)) tr))))) (AR_c9_ok hμ ti slots key re pu co x_k c y8 r h) ⟨fun _ _ => rfl, uP, trivial, trivial, trivial⟩
  ·obtain ⟨y11, E10, h⟩ := bs_ h
   obtain ⟨y13, E12, h⟩ := bs_ h
   rcases it_ h with ⟨C14, h⟩ | ⟨C14, h⟩
   ·exact rt_ hμ [] 28 [.reg [(2, hk_ (hK_ [0, 1, 2, 3, 6] (Ad_vA y2.2.1) (Ad_objs ti slots key re pu co) (Ad_upA slots pu co y2.2.1)))], .reg [(1, hk_ (hK_ [6] (AP_v y6) (AP_objs (Bf.mk y2.2.1.2.1 y2.2.1.2.2.1 y2.2.1.2.2.2.1 y2.2.1.2.2.2.2.1 y2.2.1.2.2.2.2.2)) (AP_up y6))), (3, hC (BN_v y8))], .reg [(1, hF)], .reg [(2, hk_ (hK_ [6] (Aj_v y11) (Aj_objs (Bf.mk y2.2.1.2.1 y2.2.1.2.2.1 y2.2.1.2.2.2.1 y2.2.1.2.2.2.2.1 y2.2.1.2.2.2.2.2)) (Aj_up y11))), (3, hC (BA_v y13)), (4, hT)], .x (.p (.pc 1)), .wk [] [(1, oP2 slots [])]]
     (a_ (r1_ (m_ 8 8 rfl (a_ (a_ (a_ (Ad_okA ti slots key re pu co x_k y2.2.1 y2.2.2 (altA E1 C3) (sel [0, 1, 2, 3, 6]) sj_) (a_ (rl_ (.row 33 1 (fun _ => (cT_60 ti (.map 1) key .any re (.map 2) (.map 3))) false)) (a_ (Eq.refl (oP2 slots [] : LO)) (a_ (rl_ (oM4 pu)) (a_ (rl_ (oM5 co)) tr))))) tr) (r1_ tr)))) (a_ (r1_ (a_ (a_ (a_ (AP_ok (Bf.mk y2.2.1.2.1 y2.2.1.2.2.1 y2.2.1.2.2.2.1 y2.2.1.2.2.2.2.1 y2.2.1.2.2.2.2.2) y6 E5 (sel [6]) sj_) (a_ (LO.Le.ofVar (c_Bf (Bf.mk y2.2.1.2.1 y2.2.1.2.2.1 y2.2.1.2.2.2.1 y2.2.1.2.2.2.2.1 y2.2.1.2.2.2.2.2))) tr)) tr) (m_ 11 11 rfl (c_ (BN_tri y6 c y8 E7) (r1_ tr))))) (a_ (r1_ (f_ C9 tr)) (a_ (m_ 11 11 rfl (r1_ (a_ (a_ (a_ (Aj_ok (Bf.mk y2.2.1.2.1 y2.2.1.2.2.1 y2.2.1.2.2.2.1 y2.2.1.2.2.2.2.1 y2.2.1.2.2.2.2.2) y11 E10 (sel [6]) sj_) (a_ (LO.Le.ofVar (c_Bf (Bf.mk y2.2.1.2.1 y2.2.1.2.2.1 y2.2.1.2.2.2.1 y2.2.1.2.2.2.2.1 y2.2.1.2.2.2.2.2))) tr)) tr) (c_ (BA_tri c y11 y13 E12) (f_ C14 tr))))) (a_ (a_ (getP_enc v_Bh c_Bf k_Bh slots y2.2.1.1 G4) (a_ (Eq.refl true) (a_ (Eq.refl true) (show 1 ≠ 6 from by decide)))) (a_ (a_ tr (a_ (pm_same v_Bh c_Bf k_Bh true ks1 [] (m := slots) (k := y2.2.1.1) G4) tr)) tr)))))) (AR_c11_ok hμ ti slots key re pu co x_k c r h) ⟨fun _ _ => rfl, uP, trivial, trivial, trivial⟩
   ·exact rt_ hμ [4, 5] 29 [.reg [(2, hk_ (hK_ [0, 1, 2, 3, 6] (Ad_vA y2.2.1) (Ad_objs ti slots key re pu co) (Ad_upA slots pu co y2.2.1)))], .reg [(1, hk_ (hK_ [6] (AP_v y6) (AP_objs (Bf.mk y2.2.1.2.1 y2.2.1.2.2.1 y2.2.1.2.2.2.1 y2.2.1.2.2.2.2.1 y2.2.1.2.2.2.2.2)) (AP_up y6))), (3, hC (BN_v y8))], .reg [(1, hF)], .reg [(2, hk_ (hK_ [6] (Aj_v y11) (Aj_objs (Bf.mk y2.2.1.2.1 y2.2.1.2.2.1 y2.2.1.2.2.2.1 y2.2.1.2.2.2.2.1 y2.2.1.2.2.2.2.2)) (Aj_up y11))), (3, hC (BA_v y13)), (4, hF)], .x (.p (.pc 1)), .wk [] [(1, oP2 slots [])]]
     (a_ (r1_ (m_ 8 8 rfl (a_ (a_ (a_ (Ad_okA ti slots key re pu co x_k y2.2.1 y2.2.2 (altA E1 C3) (sel [0, 1, 2, 3, 6]) sj_) (a_ (rl_ (.row 33 1 (fun _ => (cT_60 ti (.map 1) key .any re (.map 2) (.map 3))) false)) (a_ (Eq.refl (oP2 slots [] : LO)) (a_ (rl_ (oM4 pu)) (a_ (rl_ (oM5 co)) tr))))) tr) (r1_ tr)))) (a_ (r1_ (a_ (a_ (a_ (AP_ok (Bf.mk y2.2.1.2.1 y2.2.1.2.2.1 y2.2.1.2.2.2.1 y2.2.1.2.2.2.2.1 y2.2.1.2.2.2.2.2) y6 E5 (sel [6]) sj_) (a_ (LO.Le.ofVar (c_Bf (Bf.mk y2.2.1.2.1 y2.2.1.2.2.1 y2.2.1.2.2.2.1 y2.2.1.2.2.2.2.1 y2.2.1.2.2.2.2.2))) tr)) tr) (m_ 11 11 rfl (c_ (BN_tri y6 c y8 E7) (r1_ tr))))) (a_ (r1_ (f_ C9 tr)) (a_ (m_ 11 11 rfl (r1_ (a_ (a_ (a_ (Aj_ok (Bf.mk y2.2.1.2.1 y2.2.1.2.2.1 y2.2.1.2.2.2.1 y2.2.1.2.2.2.2.1 y2.2.1.2.2.2.2.2) y11 E10 (sel [6]) sj_) (a_ (LO.Le.ofVar (c_Bf (Bf.mk y2.2.1.2.1 y2.2.1.2.2.1 y2.2.1.2.2.2.1 y2.2.1.2.2.2.2.1 y2.2.1.2.2.2.2.2))) tr)) tr) (c_ (BA_tri c y11 y13 E12) (f_ C14 tr))))) (a_ (a_ (getP_enc v_Bh c_Bf k_Bh slots y2.2.1.1 G4) (a_ (Eq.refl true) (a_ (Eq.refl true) (show 1 ≠ 6 from by decide)))) (a_ (a_ tr (a_ (pm_same v_Bh c_Bf k_Bh true ks1 [] (m := slots) (k := y2.2.1.1) G4) tr)) tr)))))) (AR_c12_ok hμ ti slots key re pu co x_k c r h) ⟨fun _ _ => rfl, uP, trivial, trivial, rfl, rfl, trivial⟩
 ·cases h
theorem AR_ok (ti : Bi) (slots : A_) (key : Bh) (re : D_) (pu : B_) (co : C_) (x_k : I_) (c : Bg) (r : (Int) × C_) (h : AR ti slots key re pu co x_k c = some r) : ∀ σ, Inj 4 σ → FnTri Tryz.prog 25 (renL σ [.ptr 0 0 0, .agg [.int .u8 x_k.a0, .int .u8 x_k.a1, .int .u8 x_k.a2, .int .u8 x_k.a3, .int .u8 x_k.a4, .int .u8 x_k.a5, .int .u8 x_k.a6, .int .u8 x_k.a7], v_Bg c]) (preOf σ 0 (AR_objs ti slots key re pu co)) ((AR_v r).ren σ) (upOf σ (AR_up slots pu r)) := by
 refine fo_ Tryz.func25 ⟨fun _ _ => rfl, uP, trivial, trivial, trivial⟩ ⟨uP, trivial, trivial, trivial⟩ ?_
 intro w0 W μ0 hμ
 unfold AR at h
 obtain ⟨y2, e1, h⟩ := bs_ h
 rcases it_ h with ⟨c3, h⟩ | ⟨c3, h⟩
 ·obtain rfl := si_ h
  exact rr_ [] 24 [.reg [], .reg [(2, hk_ (hK_ [0, 1, 2, 3] (Ai_v y2) (Ai_objs ti slots key re pu co) (Ai_up pu co y2)))], .reg [(2, hT)], .reg []]
   (a_ (a_ (r1_ (r2_ tr)) (a_ (r1_ (m_ 8 8 rfl (a_ (a_ (a_ (Ai_ok ti slots key re pu co x_k y2 e1 (sel [0, 1, 2, 3]) sj_) (a_ (rl_ (.row 33 1 (fun _ => (cT_60 ti (.map 1) key .any re (.map 2) (.map 3))) false)) (a_ (le_pmP v_Bh c_Bf (ag := true) (ks := ks1) (m := slots) (opn := [])) (a_ (rl_ (oM4 pu)) (a_ (rl_ (oM5 co)) tr))))) tr) (r1_ tr)))) (a_ (r2_ (f_ c3 tr)) (a_ (r2_ tr) tr)))) tr)
 ·obtain ⟨y5, e4, h⟩ := bs_ h
  rcases it_ h with ⟨c6, h⟩ | ⟨c6, h⟩
  ·exact rt_ hμ [] 26 [.reg [], .reg [(2, hk_ (hK_ [0, 1, 2, 3] (Ai_v y2) (Ai_objs ti slots key re pu co) (Ai_up pu co y2)))], .reg [(2, hF)], .reg [(2, hk_ (hK_ [0, 1, 2, 3] (As_v y5) (As_objs ti slots key re pu co) (As_up slots pu co y5))), (3, hT)]]
    (a_ (r1_ (r2_ tr)) (a_ (r1_ (m_ 8 8 rfl (a_ (a_ (a_ (Ai_ok ti slots key re pu co x_k y2 e1 (sel [0, 1, 2, 3]) sj_) (a_ (rl_ (.row 33 1 (fun _ => (cT_60 ti (.map 1) key .any re (.map 2) (.map 3))) false)) (a_ (le_pmP v_Bh c_Bf (ag := true) (ks := ks1) (m := slots) (opn := [])) (a_ (rl_ (oM4 pu)) (a_ (rl_ (oM5 co)) tr))))) tr) (r1_ tr)))) (a_ (r2_ (f_ c3 tr)) (a_ (r1_ (m_ 8 8 rfl (a_ (a_ (a_ (As_ok ti slots key re pu co x_k y5 e4 (sel [0, 1, 2, 3]) sj_) (a_ (rl_ (.row 33 1 (fun _ => (cT_60 ti (.map 1) key .any re (.map 2) (.map 3))) false)) (a_ (Eq.refl (oP2 slots [] : LO)) (a_ (rl_ (oM4 pu)) (a_ (rl_ (oM5 co)) tr))))) tr) (f_ c6 tr)))) tr)))) (AR_c5_ok hμ ti slots key re pu co x_k c r h) ⟨fun _ _ => rfl, uP, trivial, trivial, trivial⟩
  ·exact rt_ hμ [4, 5] 28 [.reg [], .reg [(2, hk_ (hK_ [0, 1, 2, 3] (Ai_v y2) (Ai_objs ti slots key re pu co) (Ai_up pu co y2)))], .reg [(2, hF)], .reg [(2, hk_ (hK_ [0, 1, 2, 3] (As_v y5) (As_objs ti slots key re pu co) (As_up slots pu co y5))), (3, hF)]]
    (a_ (r1_ (r2_ tr)) (a_ (r1_ (m_ 8 8 rfl (a_ (a_ (a_ (Ai_ok ti slots key re pu co x_k y2 e1 (sel [0, 1, 2, 3]) sj_) (a_ (rl_ (.row 33 1 (fun _ => (cT_60 ti (.map 1) key .any re (.map 2) (.map 3))) false)) (a_ (le_pmP v_Bh c_Bf (ag := true) (ks := ks1) (m := slots) (opn := [])) (a_ (rl_ (oM4 pu)) (a_ (rl_ (oM5 co)) tr))))) tr) (r1_ tr)))) (a_ (r2_ (f_ c3 tr)) (a_ (r1_ (m_ 8 8 rfl (a_ (a_ (a_ (As_ok ti slots key re pu co x_k y5 e4 (sel [0, 1, 2, 3]) sj_) (a_ (rl_ (.row 33 1 (fun _ => (cT_60 ti (.map 1) key .any re (.map 2) (.map 3))) false)) (a_ (Eq.refl (oP2 slots [] : LO)) (a_ (rl_ (oM4 pu)) (a_ (rl_ (oM5 co)) tr))))) tr) (f_ c6 tr)))) tr)))) (AR_c6_ok hμ ti slots key re pu co x_k c r h) ⟨fun _ _ => rfl, uP, trivial, trivial, rfl, rfl, trivial⟩
def BY_v (r : I_ × (Int) × (Bool)) : LV := .tup [.agg [.int .u8 r.1.a0, .int .u8 r.1.a1, .int .u8 r.1.a2, .int .u8 r.1.a3, .int .u8 r.1.a4, .int .u8 r.1.a5, .int .u8 r.1.a6, .int .u8 r.1.a7], .int .u8 r.2.1, .bool r.2.2]
def BY_up (ti : Bi) (slots : A_) (key : Bh) (ga : E_) (re : D_) (pu : B_) (co : C_) (r : I_ × (Int) × (Bool)) : Upd := [(0, some (.var (cT_60 ti (.map 1) key (.op 2 (ga).isSome) re (.map 3) (.map 4)))), (1, some (oP2 slots [])), (2, some (.vo (ga).isSome (c_Bf ((ga).getD default)))), (3, some (oM4 pu)), (4, some (oM5 co))]
def BY_objs (ti : Bi) (slots : A_) (key : Bh) (ga : E_) (re : D_) (pu : B_) (co : C_) : List LO := [.var (cT_60 ti (.map 1) key (.op 2 (ga).isSome) re (.map 3) (.map 4)), oP2 slots [], .vo (ga).isSome (c_Bf ((ga).getD default)), oM4 pu, oM5 co]
def BY (ti : Bi) (slots : A_) (key : Bh) (ga : E_) (re : D_) (pu : B_) (co : C_) : Option (I_ × (Int) × (Bool)) :=
 (AT ti slots key re pu co).bind fun y2 =>
 if (((ga).isSome) : Bool) then
  (ga).bind fun y4 =>
  some (key.f_key, key.f_mode, true)
 else
  some (key.f_key, key.f_mode, false)
theorem BY_ok (ti : Bi) (slots : A_) (key : Bh) (ga : E_) (re : D_) (pu : B_) (co : C_) (r : I_ × (Int) × (Bool)) (h : BY ti slots key ga re pu co = some r) : ∀ σ, Inj 5 σ → FnTri Tryz.prog 12 (renL σ [.ptr 0 0 0]) (preOf σ 0 (BY_objs ti slots key ga re pu co)) ((BY_v r).ren σ) (upOf σ (BY_up ti slots key ga re pu co r)) := by
 refine fo_ Tryz.func12 ⟨rfl, uP, rfl, trivial, trivial, trivial⟩ ⟨rfl, uP, rfl, trivial, trivial, trivial⟩ ?_
 intro w0 W μ0 hμ
 unfold BY at h
 obtain ⟨y2, e1, h⟩ := bs_ h
 rcases it_ h with ⟨c3, h⟩ | ⟨c3, h⟩
 ·obtain ⟨y4, e5, h⟩ := bs_ h
  obtain rfl := si_ h
  exact rr_ [] 23 [.reg [], .reg [(1, hk_ (hK_ [0, 1, 3, 4] (AT_v y2) (AT_objs ti slots key re pu co) (AT_up pu co y2)))], .wk [] [(0, .var (cT_60 ti (.map 1) key (.ptr 2 0 0) re (.map 3) (.map 4))), (2, .var (c_Bf y4))], .reg [], .wk [] [(0, .var (cT_60 ti (.map 1) key (.op 2 (ga).isSome) re (.map 3) (.map 4))), (2, .vo (ga).isSome (c_Bf ((ga).getD default)))]]
   (a_ (a_ (r1_ (r2_ tr)) (a_ (r1_ (a_ (a_ (a_ (AT_ok ti slots key re pu co y2 e1 (sel [0, 1, 3, 4]) sj_) (a_ (LO.Le.ofVarL (lel_set (cT_60 ti (.map 1) key (.op 2 (ga).isSome) re (.map 3) (.map 4)) 14 (.op 2 (ga).isSome) .any rfl (le_any _))) (a_ (le_pmR v_Bh c_Bf (ag := true) (ks := ks1) (m := slots) (opn := [])) (a_ (rl_ (oM4 pu)) (a_ (rl_ (oM5 co)) tr))))) tr) (r1_ tr))) (a_ (a_ tr (a_ (LO.Sub.var (lel_set (cT_60 ti (.map 1) key (.op 2 (ga).isSome) re (.map 3) (.map 4)) 14 (.op 2 (ga).isSome) (.ptr 2 0 0) rfl (le_op_ptr (isS_of e5)))) (a_ (sub_vo_var c_Bf e5) tr))) (a_ (r4_ (m_ 13 33 rfl (r4_ (l_ 13 33 rfl (r1_ (r2_ (l_ 14 33 rfl (r1_ (a_ (a_ (a_ (Eq.refl 8) (a_ (le_ 8 8 rfl) (Eq.refl 0))) tr) (r2_ tr)))))))))) (a_ (a_ tr (a_ (LO.Sub.var (lel_set (cT_60 ti (.map 1) key (.ptr 2 0 0) re (.map 3) (.map 4)) 14 (.ptr 2 0 0) (.op 2 (ga).isSome) rfl (le_ptr_op (isS_of e5)))) (a_ (sub_var_vo c_Bf e5) tr))) tr))))) (a_ (a_ tr (le_ 8 8 rfl)) tr))
 ·obtain rfl := si_ h
  exact rr_ [] 23 [.reg [], .reg [(1, hk_ (hK_ [0, 1, 3, 4] (AT_v y2) (AT_objs ti slots key re pu co) (AT_up pu co y2)))], .wk [] [(0, .var (cT_60 ti (.map 1) key .nilptr re (.map 3) (.map 4)))], .reg [], .wk [] [(0, .var (cT_60 ti (.map 1) key (.op 2 (ga).isSome) re (.map 3) (.map 4)))]]
   (a_ (a_ (r1_ (r2_ tr)) (a_ (r1_ (a_ (a_ (a_ (AT_ok ti slots key re pu co y2 e1 (sel [0, 1, 3, 4]) sj_) (a_ (LO.Le.ofVarL (lel_set (cT_60 ti (.map 1) key (.op 2 (ga).isSome) re (.map 3) (.map 4)) 14 (.op 2 (ga).isSome) .any rfl (le_any _))) (a_ (le_pmR v_Bh c_Bf (ag := true) (ks := ks1) (m := slots) (opn := [])) (a_ (rl_ (oM4 pu)) (a_ (rl_ (oM5 co)) tr))))) tr) (r1_ tr))) (a_ (a_ tr (a_ (LO.Sub.var (lel_set (cT_60 ti (.map 1) key (.op 2 (ga).isSome) re (.map 3) (.map 4)) 14 (.op 2 (ga).isSome) (.nilptr) rfl (le_op_nil c3))) tr)) (a_ (r4_ (m_ 13 33 rfl (r4_ (l_ 13 33 rfl (r1_ (r2_ (l_ 14 33 rfl (r1_ (a_ (a_ (a_ (Eq.refl 8) (a_ (le_ 8 8 rfl) (Eq.refl 0))) tr) (r2_ tr)))))))))) (a_ (a_ tr (a_ (LO.Sub.var (lel_set (cT_60 ti (.map 1) key .nilptr re (.map 3) (.map 4)) 14 (.nilptr) (.op 2 (ga).isSome) rfl (le_nil_op c3))) tr)) tr))))) (a_ (a_ tr (le_ 8 8 rfl)) tr))
def Am_v (r : (Int)) : LV := .int .u64 r
def Am_l0 (c : Bg) : Nat → (Int) → (Int) → Option ((Int))
 | 0, _, _ => none
 | fuel + 1, set, t8 =>
  if ((decide (t8 < 8)) : Bool) then
   if 0 ≤ t8 ∧ t8 < 8 then
   if ((decide (0 < (A8.get c.f_Votes t8.toNat))) : Bool) then
    if 0 ≤ t8 then
    Am_l0 c fuel (IntKind.wrap .u64 ((BitVec.ofInt (IntKind.bits .u64) set ||| BitVec.ofInt (IntKind.bits .u64) (IntKind.wrap .u64 (1 * 2 ^ (min (Int.toNat t8) (IntKind.bits .u64))))).toNat : Int)) (IntKind.wrap .i64 (t8 + 1))
    else none
   else
    Am_l0 c fuel set (IntKind.wrap .i64 (t8 + 1))
   else none
  else
   some set
def Am (c : Bg) : Option ((Int)) :=
 Am_l0 c big 0 0
abbrev Am_K0 (w0 : World) (W : Nat → Prop) (μ0 : Emb) (c : Bg) (set t8 : Int) (r : (Int)) : Prop := Kt_ w0 W μ0 Tryz.f68 0 0 (Am_v r) [] (kAt (bodyOf Tryz.f68) 0) (.any :: .any :: .any :: (.int .u64 set) :: .any :: .any :: .any :: (.agg [.int .u8 c.f_Votes.a0, .int .u8 c.f_Votes.a1, .int .u8 c.f_Votes.a2, .int .u8 c.f_Votes.a3, .int .u8 c.f_Votes.a4, .int .u8 c.f_Votes.a5, .int .u8 c.f_Votes.a6, .int .u8 c.f_Votes.a7]) :: (.int .i64 t8) :: n_ 11 []) []
theorem Am_l0_ok {w0 W μ0} (hμ : Lt_ μ0 0) (c : Bg) : ∀ (fuel : Nat) (set t8 : Int) (r : (Int)), Am_l0 c fuel set t8 = some r → Am_K0 w0 W μ0 c set t8 r := by
 intro fuel
 induction fuel with
 | zero => intro set t8 r h; rw [Am_l0] at h; cases h
 | succ fuel ih =>
  intro set t8 r h
  rw [Am_l0] at h
  rcases it_ h with ⟨C1, h⟩ | ⟨C1, h⟩
  ·obtain ⟨G2, h⟩ := gs_ h
   rcases it_ h with ⟨C3, h⟩ | ⟨C3, h⟩
   ·obtain ⟨G4, h⟩ := gs_ h
    exact rt_ hμ [] 30 [.go, .reg [(0, hT)], .reg [(1, hv_ (.int .u8 (A8.get c.f_Votes t8.toNat)))], .reg [(1, hT)], .reg [], .reg []]
     (a_ (f_ C1 tr) (a_ (r1_ (a_ (a_ (a_ G2 (ix8lt G2 1 8 rfl rfl)) (a_ (ix8s (cInt .u8) 1 (fun _ => rfl) c.f_Votes t8.toNat (lt8N G2) (le_ 1 1 rfl)) tr)) (r2_ tr))) (a_ (r1_ (f_ C3 tr)) (a_ (r2_ (a_ (a_ G4 tr) (r2_ tr))) (a_ (r2_ tr) tr))))) (ih _ _ r h) trivial
   ·exact rt_ hμ [] 29 [.go, .reg [(0, hT)], .reg [(1, hv_ (.int .u8 (A8.get c.f_Votes t8.toNat)))], .reg [(1, hF)], .reg []]
     (a_ (f_ C1 tr) (a_ (r1_ (a_ (a_ (a_ G2 (ix8lt G2 1 8 rfl rfl)) (a_ (ix8s (cInt .u8) 1 (fun _ => rfl) c.f_Votes t8.toNat (lt8N G2) (le_ 1 1 rfl)) tr)) (r2_ tr))) (a_ (r1_ (f_ C3 tr)) (a_ (r2_ tr) tr)))) (ih _ _ r h) trivial
  ·obtain rfl := si_ h
   exact rr_ [] 19 [.go, .reg [(0, hF)], .reg []]
    (a_ (a_ (f_ C1 tr) (a_ (r2_ tr) tr)) tr)
theorem Am_ok (c : Bg) (r : (Int)) (h : Am c = some r) : ∀ σ, Inj 0 σ → FnTri Tryz.prog 68 (renL σ [v_Bg c]) (preOf σ 0 []) ((Am_v r).ren σ) (upOf σ []) := by
 refine fo_ Tryz.func68 trivial trivial ?_
 intro w0 W μ0 hμ
 unfold Am at h
 exact rt_ hμ [] 21 [.reg [], .reg [], .reg []]
  (a_ (r2_ tr) (a_ (r1_ tr) (a_ (r1_ (m_ 11 11 rfl (r1_ tr))) tr))) (Am_l0_ok hμ c big _ _ r h) trivial
theorem Am_tri (c : Bg) (r : (Int)) (h : Am c = some r) : FnTri Tryz.prog 68 [v_Bg c] [] (Am_v r) [] := FnTri.none (Am_ok c r h) rfl rfl
def AQ_v (r : (List (Int))) : LV := .ds 1 (r).length (rowF (cInt .u8) default r)
def AQ_up (r : (List (Int))) : Upd := []
def AQ_objs (g : Bf) : List LO := [.row 142 1 (fun _ => c_Bf g) false]
def AQ_l1 (g : Bf) (set : Int) : Nat → (Int) → (List (Int)) → Option ((List (Int)))
 | 0, _, _ => none
 | fuel + 1, t39, l =>
  if ((decide (t39 < (((bitsL (IntKind.wrap .u64 ((BitVec.ofInt (IntKind.bits .u64) set &&& ~~~ BitVec.ofInt (IntKind.bits .u64) g.f_nodes).toNat : Int)))).length : Int))) : Bool) then
   if 0 ≤ t39 ∧ t39 < ((((bitsL (IntKind.wrap .u64 ((BitVec.ofInt (IntKind.bits .u64) set &&& ~~~ BitVec.ofInt (IntKind.bits .u64) g.f_nodes).toNat : Int)))).length : Nat) : Int) then
   if ((l).length + (([(IntKind.wrap .u8 ((bitsL (IntKind.wrap .u64 ((BitVec.ofInt (IntKind.bits .u64) set &&& ~~~ BitVec.ofInt (IntKind.bits .u64) g.f_nodes).toNat : Int))).getD t39.toNat default))] : List (Int))).length) * 1 ≤ 140737488351232 then
   AQ_l1 g set fuel (IntKind.wrap .i64 (t39 + 1)) (l ++ ([(IntKind.wrap .u8 ((bitsL (IntKind.wrap .u64 ((BitVec.ofInt (IntKind.bits .u64) set &&& ~~~ BitVec.ofInt (IntKind.bits .u64) g.f_nodes).toNat : Int))).getD t39.toNat default))] : List (Int)))
   else none
   else none
  else
   some l
def AQ_l0 (g : Bf) : Nat → (Int) → (Int) → Option ((List (Int)))
 | 0, _, _ => none
 | fuel + 1, set, t22 =>
  if ((decide (t22 < ((g.f_more).length : Int))) : Bool) then
   if 0 ≤ t22 ∧ t22 < (((g.f_more).length : Nat) : Int) then
   (Am (g.f_more.getD t22.toNat default)).bind fun y4 =>
   AQ_l0 g fuel (IntKind.wrap .u64 ((BitVec.ofInt (IntKind.bits .u64) set ||| BitVec.ofInt (IntKind.bits .u64) y4).toNat : Int)) (IntKind.wrap .i64 (t22 + 1))
   else none
  else
   if 0 ≤ (IntKind.wrap .u64 ((BitVec.ofInt (IntKind.bits .u64) set &&& ~~~ BitVec.ofInt (IntKind.bits .u64) g.f_nodes).toNat : Int)) ∧ (IntKind.wrap .u64 ((BitVec.ofInt (IntKind.bits .u64) set &&& ~~~ BitVec.ofInt (IntKind.bits .u64) g.f_nodes).toNat : Int)) < 18446744073709551616 then
   AQ_l1 g set big 0 ([] : List (Int))
   else none
def AQ (g : Bf) : Option ((List (Int))) :=
 (AC g).bind fun y2 =>
 if ((!y2) : Bool) then
  some ([] : List (Int))
 else
  (Am g.f_conf).bind fun y5 =>
  AQ_l0 g big y5 0
abbrev AQ_K1 (w0 : World) (W : Nat → Prop) (μ0 : Emb) (g : Bf) (set t39 : Int) (l : List (Int)) (r : (List (Int))) : Prop := Kt_ w0 W μ0 Tryz.f35 1 1 (AQ_v r) (AQ_up r) (kAt (bodyOf Tryz.f35) 1) (n_ 6 ((.gs 1 (l).length) :: n_ 30 ((.ds 1 ((bitsL (IntKind.wrap .u64 ((BitVec.ofInt (IntKind.bits .u64) set &&& ~~~ BitVec.ofInt (IntKind.bits .u64) g.f_nodes).toNat : Int)))).length (rowF (cInt .i64) default (bitsL (IntKind.wrap .u64 ((BitVec.ofInt (IntKind.bits .u64) set &&& ~~~ BitVec.ofInt (IntKind.bits .u64) g.f_nodes).toNat : Int))))) :: (.int .i64 (((bitsL (IntKind.wrap .u64 ((BitVec.ofInt (IntKind.bits .u64) set &&& ~~~ BitVec.ofInt (IntKind.bits .u64) g.f_nodes).toNat : Int)))).length : Int)) :: (.int .i64 t39) :: n_ 10 []))) [some (.row 142 1 (fun _ => c_Bf g) false), some (.gr 1 (l).length (rowF (cInt .u8) default l))]
abbrev AQ_K0 (w0 : World) (W : Nat → Prop) (μ0 : Emb) (g : Bf) (set t22 : Int) (r : (List (Int))) : Prop := Kt_ w0 W μ0 Tryz.f35 1 1 (AQ_v r) (AQ_up r) (kAt (bodyOf Tryz.f35) 0) ((.ptr 0 0 0) :: .any :: .any :: (.int .u64 set) :: n_ 16 ((.ds 11 (g.f_more).length (rowF c_Bg default g.f_more)) :: (.int .i64 ((g.f_more).length : Int)) :: (.int .i64 t22) :: n_ 27 [])) [some (.row 142 1 (fun _ => c_Bf g) false)]
theorem AQ_l1_ok {w0 W μ0} (hμ : Lt_ μ0 1) (g : Bf) (set : Int) : ∀ (fuel : Nat) (t39 : Int) (l : List (Int)) (r : (List (Int))), AQ_l1 g set fuel t39 l = some r → AQ_K1 w0 W μ0 g set t39 l r := by
 intro fuel
 induction fuel with
 | zero => intro t39 l r h; rw [AQ_l1] at h; cases h
 | succ fuel ih =>
  intro t39 l r h
  rw [AQ_l1] at h
  rcases it_ h with ⟨C1, h⟩ | ⟨C1, h⟩
  ·obtain ⟨G2, h⟩ := gs_ h
   obtain ⟨G3, h⟩ := gs_ h
   exact rt_ hμ [3] 26 [.go, .reg [(0, hT)], .reg [], .reg [(3, { os := [(2, .gr 1 (([(IntKind.wrap .u8 ((bitsL (IntKind.wrap .u64 ((BitVec.ofInt (IntKind.bits .u64) set &&& ~~~ BitVec.ofInt (IntKind.bits .u64) g.f_nodes).toNat : Int))).getD t39.toNat default))] : List (Int))).length (rowF (cInt .u8) default ([(IntKind.wrap .u8 ((bitsL (IntKind.wrap .u64 ((BitVec.ofInt (IntKind.bits .u64) set &&& ~~~ BitVec.ofInt (IntKind.bits .u64) g.f_nodes).toNat : Int))).getD t39.toNat default))] : List (Int))))], v := some (.gs 2 (([(IntKind.wrap .u8 ((bitsL (IntKind.wrap .u64 ((BitVec.ofInt (IntKind.bits .u64) set &&& ~~~ BitVec.ofInt (IntKind.bits .u64) g.f_nodes).toNat : Int))).getD t39.toNat default))] : List (Int))).length) }), (4, { app := 3, os := [(3, .gr 1 ((l ++ ([(IntKind.wrap .u8 ((bitsL (IntKind.wrap .u64 ((BitVec.ofInt (IntKind.bits .u64) set &&& ~~~ BitVec.ofInt (IntKind.bits .u64) g.f_nodes).toNat : Int))).getD t39.toNat default))] : List (Int)))).length (rowF (cInt .u8) default (l ++ ([(IntKind.wrap .u8 ((bitsL (IntKind.wrap .u64 ((BitVec.ofInt (IntKind.bits .u64) set &&& ~~~ BitVec.ofInt (IntKind.bits .u64) g.f_nodes).toNat : Int))).getD t39.toNat default))] : List (Int)))))], v := some (.gs 3 ((l ++ ([(IntKind.wrap .u8 ((bitsL (IntKind.wrap .u64 ((BitVec.ofInt (IntKind.bits .u64) set &&& ~~~ BitVec.ofInt (IntKind.bits .u64) g.f_nodes).toNat : Int))).getD t39.toNat default))] : List (Int)))).length) })], .reg []]
    (a_ (f_ C1 tr) (a_ (a_ (a_ (a_ (Eq.refl 1) G2) tr) (a_ (a_ (lt_ 0 1 rfl) tr) (r1_ tr))) (a_ (r1_ (r2_ (a_ (a_ (a_ (Eq.refl true) (a_ (Eq.refl 1) (a_ (lt_ 0 1 rfl) (le_ 1 16777216 rfl)))) (a_ (le_sl_gs 2 1 (some 1) rfl) (a_ (sub_lit (cInt .u8) default 1 (fun _ => rfl) ([(IntKind.wrap .u8 ((bitsL (IntKind.wrap .u64 ((BitVec.ofInt (IntKind.bits .u64) set &&& ~~~ BitVec.ofInt (IntKind.bits .u64) g.f_nodes).toNat : Int))).getD t39.toNat default))] : List (Int))) tr))) (a_ (a_ (a_ (a_ (Eq.refl 1) (Nat.le_refl (([(IntKind.wrap .u8 ((bitsL (IntKind.wrap .u64 ((BitVec.ofInt (IntKind.bits .u64) set &&& ~~~ BitVec.ofInt (IntKind.bits .u64) g.f_nodes).toNat : Int))).getD t39.toNat default))] : List (Int))).length)) (a_ (a_ (lt_ 0 1 rfl) (a_ (lt_ 0 1 rfl) (a_ G3 (a_ (Eq.refl 1) (Eq.refl true))))) (a_ (Eq.refl 1) (Nat.le_refl (l).length)))) (a_ (le_gs_app 3 l ([(IntKind.wrap .u8 ((bitsL (IntKind.wrap .u64 ((BitVec.ofInt (IntKind.bits .u64) set &&& ~~~ BitVec.ofInt (IntKind.bits .u64) g.f_nodes).toNat : Int))).getD t39.toNat default))] : List (Int))) (a_ (sub_app (cInt .u8) default 1 l ([(IntKind.wrap .u8 ((bitsL (IntKind.wrap .u64 ((BitVec.ofInt (IntKind.bits .u64) set &&& ~~~ BitVec.ofInt (IntKind.bits .u64) g.f_nodes).toNat : Int))).getD t39.toNat default))] : List (Int))) tr))) (r1_ tr))))) (a_ (r2_ tr) tr)))) (ih _ _ r h) ⟨fun _ _ => rfl, fun _ _ => rfl, trivial⟩
  ·obtain rfl := si_ h
   exact rr_ [] 20 [.go, .reg [(0, hF)], .reg [], .frz 1]
    (a_ (a_ (f_ C1 tr) (a_ (r2_ tr) (a_ (a_ (fz_row (enc := (cInt .u8)) (d := default) (fun _ => rfl) l) (a_ (Nat.le_refl (l).length) (a_ (Nat.le_refl (l).length) (a_ (Nat.le_refl (l).length) (a_ (ob_rov (c_Bf g) 1 1 (l).length (rowF (cInt .u8) default l) rfl) tr))))) tr))) tr)
theorem AQ_l0_ok {w0 W μ0} (hμ : Lt_ μ0 1) (g : Bf) : ∀ (fuel : Nat) (set t22 : Int) (r : (List (Int))), AQ_l0 g fuel set t22 = some r → AQ_K0 w0 W μ0 g set t22 r := by
 intro fuel
 induction fuel with
 | zero => intro set t22 r h; rw [AQ_l0] at h; cases h
 | succ fuel ih =>
  intro set t22 r h
  rw [AQ_l0] at h
  rcases it_ h with ⟨C1, h⟩ | ⟨C1, h⟩
  ·obtain ⟨G2, h⟩ := gs_ h
   obtain ⟨y4, E3, h⟩ := bs_ h
   exact rt_ hμ [] 26 [.go, .reg [(0, hT)], .reg [], .reg [(2, hC (Am_v y4))], .reg []]
    (a_ (f_ C1 tr) (a_ (a_ (a_ (a_ (Eq.refl 11) G2) tr) (a_ (a_ (le_ 11 11 rfl) tr) (r1_ (a_ (a_ (a_ (Eq.refl 11) (a_ (le_ 11 11 rfl) (Eq.refl 0))) tr) tr)))) (a_ (r1_ (m_ 11 11 rfl (a_ (a_ (a_ (Am_tri (g.f_more.getD t22.toNat default) y4 E3) tr) tr) (r2_ tr)))) (a_ (r2_ tr) tr)))) (ih _ _ r h) ⟨fun _ _ => rfl, trivial⟩
  ·obtain ⟨G2, h⟩ := gs_ h
   exact rt_ hμ [1] 26 [.go, .reg [(0, hF)], .void (.gr 1 (([] : List (Int))).length (rowF (cInt .u8) default ([] : List (Int)))), .reg [(0, hv_ (.gs 1 (([] : List (Int))).length))], .reg [(6, hC (.ds 1 ((bitsL (IntKind.wrap .u64 ((BitVec.ofInt (IntKind.bits .u64) set &&& ~~~ BitVec.ofInt (IntKind.bits .u64) g.f_nodes).toNat : Int)))).length (rowF (cInt .i64) default (bitsL (IntKind.wrap .u64 ((BitVec.ofInt (IntKind.bits .u64) set &&& ~~~ BitVec.ofInt (IntKind.bits .u64) g.f_nodes).toNat : Int))))))]]
    (a_ (f_ C1 tr) (a_ (Eq.refl 0) (a_ (a_ (a_ tr (a_ (le_nil_gs 1) tr)) tr) (a_ (r4_ (a_ (a_ (a_ (lt_ 0 1 rfl) (lt_ 141 142 rfl)) tr) (r1_ (a_ (a_ (a_ (bl67_tri rfl (IntKind.wrap .u64 ((BitVec.ofInt (IntKind.bits .u64) set &&& ~~~ BitVec.ofInt (IntKind.bits .u64) g.f_nodes).toNat : Int)) G2) tr) tr) (r2_ tr))))) tr)))) (AQ_l1_ok hμ g set big _ _ r h) ⟨fun _ _ => rfl, fun _ _ => rfl, trivial⟩
theorem AQ_ok (g : Bf) (r : (List (Int))) (h : AQ g = some r) : ∀ σ, Inj 1 σ → FnTri Tryz.prog 35 (renL σ [.ptr 0 0 0]) (preOf σ 0 (AQ_objs g)) ((AQ_v r).ren σ) (upOf σ (AQ_up r)) := by
 refine fo_ Tryz.func35 ⟨fun _ _ => rfl, trivial⟩ trivial ?_
 intro w0 W μ0 hμ
 unfold AQ at h
 obtain ⟨y2, e1, h⟩ := bs_ h
 rcases it_ h with ⟨c3, h⟩ | ⟨c3, h⟩
 ·obtain rfl := si_ h
  exact rr_ [] 20 [.reg [(0, hv_ (.ds 1 (([] : List (Int))).length (rowF (cInt .u8) default ([] : List (Int)))))], .reg [(1, hk_ (hK_ [0] (AC_v y2) (AC_objs g) (AC_up y2))), (2, hT)], .reg [(0, hv_ (.ds 1 (([] : List (Int))).length (rowF (cInt .u8) default ([] : List (Int)))))]]
   (a_ (a_ (a_ (a_ tr (a_ (le_nil_ds 1 (rowF (cInt .u8) default [])) tr)) tr) (a_ (r1_ (a_ (a_ (a_ (AC_ok g y2 e1 (sel [0]) sj_) (a_ (rl_ (.row 142 1 (fun _ => c_Bf g) false)) tr)) tr) (f_ c3 tr))) (a_ (a_ (a_ tr (a_ (le_nil_ds 1 (rowF (cInt .u8) default [])) tr)) tr) tr))) tr)
 ·obtain ⟨y5, e4, h⟩ := bs_ h
  exact rt_ hμ [] 27 [.reg [(0, hv_ (.ds 1 (([] : List (Int))).length (rowF (cInt .u8) default ([] : List (Int)))))], .reg [(1, hk_ (hK_ [0] (AC_v y2) (AC_objs g) (AC_up y2))), (2, hF)], .reg [(4, hC (Am_v y5))], .reg []]
   (a_ (a_ (a_ tr (a_ (le_nil_ds 1 (rowF (cInt .u8) default [])) tr)) tr) (a_ (r1_ (a_ (a_ (a_ (AC_ok g y2 e1 (sel [0]) sj_) (a_ (rl_ (.row 142 1 (fun _ => c_Bf g) false)) tr)) tr) (f_ c3 tr))) (a_ (r1_ (r2_ (a_ (a_ (a_ (lt_ 0 1 rfl) (le_ 12 142 rfl)) tr) (c_ (Am_tri g.f_conf y5 e4) (r1_ tr))))) (a_ (r1_ (r2_ (a_ (a_ (a_ (lt_ 0 1 rfl) (lt_ 12 142 rfl)) tr) (r2_ tr)))) tr)))) (AQ_l0_ok hμ g big _ _ r h) ⟨fun _ _ => rfl, trivial⟩
def BK_v (r : (List (Int))) : LV := .ds 1 (r).length (rowF (cInt .u8) default r)
def BK : Option ((List (Int))) :=
 (BD).bind fun y2 =>
 some ([] : List (Int))
theorem BK_ok (r : (List (Int))) (h : BK = some r) : ∀ σ, Inj 0 σ → FnTri Tryz.prog 35 (renL σ [.nilptr]) (preOf σ 0 []) ((BK_v r).ren σ) (upOf σ []) := by
 refine fo_ Tryz.func35 trivial trivial ?_
 intro w0 W μ0 hμ
 unfold BK at h
 obtain ⟨y2, e1, h⟩ := bs_ h
 obtain rfl := si_ h
 exact rr_ [] 20 [.reg [(0, hv_ (.ds 1 (([] : List (Int))).length (rowF (cInt .u8) default ([] : List (Int)))))], .reg [(1, hC (BD_v y2))], .reg [(0, hv_ (.ds 1 (([] : List (Int))).length (rowF (cInt .u8) default ([] : List (Int)))))]]
  (a_ (a_ (a_ (a_ tr (a_ (le_nil_ds 1 (rowF (cInt .u8) default [])) tr)) tr) (a_ (r1_ (c_ (BD_tri y2 e1) (r1_ tr))) (a_ (a_ (a_ tr (a_ (le_nil_ds 1 (rowF (cInt .u8) default [])) tr)) tr) tr))) tr)
theorem BK_tri (r : (List (Int))) (h : BK = some r) : FnTri Tryz.prog 35 [.nilptr] [] (BK_v r) [] := FnTri.none (BK_ok r h) rfl rfl
def Bb_v (r : (List (Int))) : LV := .ds 1 (r).length (rowF (cInt .u8) default r)
def Bb_up (ti : Bi) (slots : A_) (key : Bh) (ga : E_) (re : D_) (pu : B_) (co : C_) (r : (List (Int))) : Upd := [(0, some (.var (cT_60 ti (.map 1) key (.op 2 (ga).isSome) re (.map 3) (.map 4)))), (1, some (oP2 slots [])), (2, some (.vo (ga).isSome (c_Bf ((ga).getD default)))), (3, some (oM4 pu)), (4, some (oM5 co))]
def Bb_objs (ti : Bi) (slots : A_) (key : Bh) (ga : E_) (re : D_) (pu : B_) (co : C_) : List LO := [.var (cT_60 ti (.map 1) key (.op 2 (ga).isSome) re (.map 3) (.map 4)), oP2 slots [], .vo (ga).isSome (c_Bf ((ga).getD default)), oM4 pu, oM5 co]
def Bb (ti : Bi) (slots : A_) (key : Bh) (ga : E_) (re : D_) (pu : B_) (co : C_) : Option ((List (Int))) :=
 (AT ti slots key re pu co).bind fun y2 =>
 if (((ga).isSome) : Bool) then
  (ga).bind fun y4 =>
  (AQ y4).bind fun y7 =>
  some y7
 else
  (BK).bind fun y5 =>
  some y5
theorem Bb_ok (ti : Bi) (slots : A_) (key : Bh) (ga : E_) (re : D_) (pu : B_) (co : C_) (r : (List (Int))) (h : Bb ti slots key ga re pu co = some r) : ∀ σ, Inj 5 σ → FnTri Tryz.prog 16 (renL σ [.ptr 0 0 0]) (preOf σ 0 (Bb_objs ti slots key ga re pu co)) ((Bb_v r).ren σ) (upOf σ (Bb_up ti slots key ga re pu co r)) := by
 refine fo_ Tryz.func16 ⟨rfl, uP, rfl, trivial, trivial, trivial⟩ ⟨rfl, uP, rfl, trivial, trivial, trivial⟩ ?_
 intro w0 W μ0 hμ
 unfold Bb at h
 obtain ⟨y2, e1, h⟩ := bs_ h
 rcases it_ h with ⟨c3, h⟩ | ⟨c3, h⟩
 ·obtain ⟨y4, e5, h⟩ := bs_ h
  obtain ⟨y7, e6, h⟩ := bs_ h
  obtain rfl := si_ h
  exact rr_ [] 23 [.reg [(0, hv_ (.ds 1 (([] : List (Int))).length (rowF (cInt .u8) default ([] : List (Int)))))], .reg [(1, hk_ (hK_ [0, 1, 3, 4] (AT_v y2) (AT_objs ti slots key re pu co) (AT_up pu co y2)))], .wk [] [(0, .var (cT_60 ti (.map 1) key (.ptr 2 0 0) re (.map 3) (.map 4))), (2, .var (c_Bf y4))], .reg [(4, hk_ (hK_ [2] (AQ_v y7) (AQ_objs y4) (AQ_up y7)))], .wk [] [(0, .var (cT_60 ti (.map 1) key (.op 2 (ga).isSome) re (.map 3) (.map 4))), (2, .vo (ga).isSome (c_Bf ((ga).getD default)))]]
   (a_ (a_ (a_ (a_ tr (a_ (le_nil_ds 1 (rowF (cInt .u8) default [])) tr)) tr) (a_ (r1_ (a_ (a_ (a_ (AT_ok ti slots key re pu co y2 e1 (sel [0, 1, 3, 4]) sj_) (a_ (LO.Le.ofVarL (lel_set (cT_60 ti (.map 1) key (.op 2 (ga).isSome) re (.map 3) (.map 4)) 14 (.op 2 (ga).isSome) .any rfl (le_any _))) (a_ (le_pmR v_Bh c_Bf (ag := true) (ks := ks1) (m := slots) (opn := [])) (a_ (rl_ (oM4 pu)) (a_ (rl_ (oM5 co)) tr))))) tr) (r1_ tr))) (a_ (a_ tr (a_ (LO.Sub.var (lel_set (cT_60 ti (.map 1) key (.op 2 (ga).isSome) re (.map 3) (.map 4)) 14 (.op 2 (ga).isSome) (.ptr 2 0 0) rfl (le_op_ptr (isS_of e5)))) (a_ (sub_vo_var c_Bf e5) tr))) (a_ (r1_ (r2_ (l_ 14 33 rfl (a_ (a_ (a_ (AQ_ok y4 y7 e6 (sel [2]) sj_) (a_ (LO.Le.ofVar (c_Bf y4)) tr)) tr) (r1_ tr))))) (a_ (a_ tr (a_ (LO.Sub.var (lel_set (cT_60 ti (.map 1) key (.ptr 2 0 0) re (.map 3) (.map 4)) 14 (.ptr 2 0 0) (.op 2 (ga).isSome) rfl (le_ptr_op (isS_of e5)))) (a_ (sub_var_vo c_Bf e5) tr))) tr))))) tr)
 ·obtain ⟨y5, e4, h⟩ := bs_ h
  obtain rfl := si_ h
  exact rr_ [] 23 [.reg [(0, hv_ (.ds 1 (([] : List (Int))).length (rowF (cInt .u8) default ([] : List (Int)))))], .reg [(1, hk_ (hK_ [0, 1, 3, 4] (AT_v y2) (AT_objs ti slots key re pu co) (AT_up pu co y2)))], .wk [] [(0, .var (cT_60 ti (.map 1) key .nilptr re (.map 3) (.map 4)))], .reg [(4, hC (BK_v y5))], .wk [] [(0, .var (cT_60 ti (.map 1) key (.op 2 (ga).isSome) re (.map 3) (.map 4)))]]
   (a_ (a_ (a_ (a_ tr (a_ (le_nil_ds 1 (rowF (cInt .u8) default [])) tr)) tr) (a_ (r1_ (a_ (a_ (a_ (AT_ok ti slots key re pu co y2 e1 (sel [0, 1, 3, 4]) sj_) (a_ (LO.Le.ofVarL (lel_set (cT_60 ti (.map 1) key (.op 2 (ga).isSome) re (.map 3) (.map 4)) 14 (.op 2 (ga).isSome) .any rfl (le_any _))) (a_ (le_pmR v_Bh c_Bf (ag := true) (ks := ks1) (m := slots) (opn := [])) (a_ (rl_ (oM4 pu)) (a_ (rl_ (oM5 co)) tr))))) tr) (r1_ tr))) (a_ (a_ tr (a_ (LO.Sub.var (lel_set (cT_60 ti (.map 1) key (.op 2 (ga).isSome) re (.map 3) (.map 4)) 14 (.op 2 (ga).isSome) (.nilptr) rfl (le_op_nil c3))) tr)) (a_ (r1_ (r2_ (l_ 14 33 rfl (c_ (BK_tri y5 e4) (r1_ tr))))) (a_ (a_ tr (a_ (LO.Sub.var (lel_set (cT_60 ti (.map 1) key .nilptr re (.map 3) (.map 4)) 14 (.nilptr) (.op 2 (ga).isSome) rfl (le_nil_op c3))) tr)) tr))))) tr)
def Ao_v (r : I_ × (Int) × (Bq)) : LV := .tup [.agg [.int .u8 r.1.a0, .int .u8 r.1.a1, .int .u8 r.1.a2, .int .u8 r.1.a3, .int .u8 r.1.a4, .int .u8 r.1.a5, .int .u8 r.1.a6, .int .u8 r.1.a7], .int .u8 r.2.1, v_Bq r.2.2]
def Ao_c5 (a : Bl) (ask : List (Int)) (x_k : I_) (mode : Int) : Option (I_ × (Int) × (Bq)) :=
 some (x_k, mode, (Bq.mk (ask.getD 0 default) (Bj.mk 1 (IntKind.wrap .u32 ((IntKind.wrap .u32 (ask.getD 0 default)) + 1))) a.f_Got.f_Item))
def Ao (a : Bl) (ask : List (Int)) (x_k : I_) (mode : Int) : Option (I_ × (Int) × (Bq)) :=
 if (((Int.tmod a.f_Kind 6) != 5) : Bool) then
  some (a.f_Key, a.f_Mode, a.f_Got)
 else
  if ((((ask).length : Int) == 0) : Bool) then
   some (a.f_Key, a.f_Mode, a.f_Got)
  else
   if 0 ≤ (0 : Int) ∧ (0 : Int) < (((ask).length : Nat) : Int) then
   Ao_c5 a ask x_k mode
   else none
abbrev Ao_K1000005 (w0 : World) (W : Nat → Prop) (μ0 : Emb) (a : Bl) (ask : List (Int)) (x_k : I_) (mode : Int) (r : I_ × (Int) × (Bq)) : Prop := Kt_ w0 W μ0 Tryz.f26 0 0 (Ao_v r) [] (kAtR (bodyOf Tryz.f26) 5) (.any :: .any :: .any :: (.int .u8 mode) :: (.ptr 0 0 0) :: .any :: (.ptr 1 0 0) :: .any :: (.ptr 2 0 0) :: .any :: (.ptr 3 0 0) :: n_ 32 []) [some (.var (c_Bl (Bl.mk a.f_Kind a.f_Key a.f_Mode a.f_Conf a.f_More (Bq.mk (ask.getD 0 default) (Bj.mk 1 (IntKind.wrap .u32 ((IntKind.wrap .u32 (ask.getD 0 default)) + 1))) a.f_Got.f_Item) a.f_Text))), some (.var [.int .u8 x_k.a0, .int .u8 x_k.a1, .int .u8 x_k.a2, .int .u8 x_k.a3, .int .u8 x_k.a4, .int .u8 x_k.a5, .int .u8 x_k.a6, .int .u8 x_k.a7]), some (.var [.int .u8 0, .int .u8 0, .int .u8 0, .int .u8 0, .int .u8 0, .int .u8 0, .int .u8 0, .int .u8 0]), some (.var (c_Bq z6_))]
theorem Ao_c5_ok {w0 W μ0} (hμ : Lt_ μ0 0) (a : Bl) (ask : List (Int)) (x_k : I_) (mode : Int) (r : I_ × (Int) × (Bq)) (h : Ao_c5 a ask x_k mode = some r) : Ao_K1000005 w0 W μ0 a ask x_k mode r := by
 unfold Ao_c5 at h
 obtain rfl := si_ h
 exact rr_ [] 11 [.reg []]
  (a_ (a_ (m_ 8 8 rfl (r2_ (m_ 48 49 rfl (a_ (a_ (a_ (Eq.refl 8) (a_ (le_ 8 8 rfl) (Eq.refl 0))) tr) (r1_ (a_ (a_ (a_ (Eq.refl 16) (a_ (le_ 16 16 rfl) (Eq.refl 0))) tr) tr)))))) tr) (a_ (a_ tr (le_ 8 8 rfl)) (a_ (a_ tr (le_ 16 16 rfl)) tr)))
theorem Ao_ok (a : Bl) (ask : List (Int)) (x_k : I_) (mode : Int) (r : I_ × (Int) × (Bq)) (h : Ao a ask x_k mode = some r) : ∀ σ, Inj 0 σ → FnTri Tryz.prog 26 (renL σ [v_Bl a, .ds 1 (ask).length (rowF (cInt .u8) default ask), .agg [.int .u8 x_k.a0, .int .u8 x_k.a1, .int .u8 x_k.a2, .int .u8 x_k.a3, .int .u8 x_k.a4, .int .u8 x_k.a5, .int .u8 x_k.a6, .int .u8 x_k.a7], .int .u8 mode]) (preOf σ 0 []) ((Ao_v r).ren σ) (upOf σ []) := by
 refine fo_ Tryz.func26 trivial trivial ?_
 intro w0 W μ0 hμ
 unfold Ao at h
 rcases it_ h with ⟨c1, h⟩ | ⟨c1, h⟩
 ·obtain rfl := si_ h
  exact rr_ [] 20 [.reg [], .reg [(4, hT)], .reg []]
   (a_ (a_ (r1_ (r4_ tr)) (a_ (r1_ (l_ 0 49 rfl (a_ (a_ (ne0 6 rfl) tr) (r1_ (f_ c1 (a_ tr (t2_ (r1_ tr)))))))) (a_ (r1_ (m_ 9 49 rfl (r1_ (l_ 9 49 rfl (r1_ (m_ 48 49 rfl (a_ (a_ (a_ (Eq.refl 8) (a_ (le_ 8 8 rfl) (Eq.refl 0))) tr) (r1_ (a_ (a_ (a_ (Eq.refl 16) (a_ (le_ 16 16 rfl) (Eq.refl 0))) tr) tr))))))))) tr))) (a_ (a_ tr (le_ 8 8 rfl)) (a_ (a_ tr (le_ 16 16 rfl)) tr)))
 ·rcases it_ h with ⟨c2, h⟩ | ⟨c2, h⟩
  ·obtain rfl := si_ h
   exact rr_ [] 20 [.reg [], .reg [(4, hF), (8, hT)], .reg []]
    (a_ (a_ (r1_ (r4_ tr)) (a_ (r1_ (l_ 0 49 rfl (a_ (a_ (ne0 6 rfl) tr) (r1_ (f_ c1 (r1_ (r2_ (f_ c2 tr)))))))) (a_ (r1_ (m_ 9 49 rfl (r1_ (l_ 9 49 rfl (r1_ (m_ 48 49 rfl (a_ (a_ (a_ (Eq.refl 8) (a_ (le_ 8 8 rfl) (Eq.refl 0))) tr) (r1_ (a_ (a_ (a_ (Eq.refl 16) (a_ (le_ 16 16 rfl) (Eq.refl 0))) tr) tr))))))))) tr))) (a_ (a_ tr (le_ 8 8 rfl)) (a_ (a_ tr (le_ 16 16 rfl)) tr)))
  ·obtain ⟨g3, h⟩ := gs_ h
   exact rt_ hμ [0, 1, 2, 3] 25 [.reg [], .reg [(4, hF), (8, hF)], .reg [], .reg []]
    (a_ (r1_ (r4_ tr)) (a_ (r1_ (l_ 0 49 rfl (a_ (a_ (ne0 6 rfl) tr) (r1_ (f_ c1 (r1_ (r2_ (f_ c2 tr)))))))) (a_ (r1_ (a_ (a_ (a_ (Eq.refl 1) g3) tr) (a_ (a_ (lt_ 0 1 rfl) tr) (r2_ (a_ (a_ (a_ (Eq.refl 1) (a_ (le_ 33 49 rfl) (Eq.refl 0))) tr) tr))))) (a_ (r1_ (a_ (a_ (a_ (Eq.refl 1) g3) tr) (a_ (a_ (lt_ 0 1 rfl) tr) (r2_ (a_ (a_ (Eq.refl true) tr) (r2_ (a_ (a_ (a_ (Eq.refl 2) (a_ (le_ 35 49 rfl) (Eq.refl 0))) tr) tr))))))) tr)))) (Ao_c5_ok hμ a ask x_k mode r h) ⟨rfl, rfl, rfl, rfl, trivial⟩
theorem Ao_tri (a : Bl) (ask : List (Int)) (x_k : I_) (mode : Int) (r : I_ × (Int) × (Bq)) (h : Ao a ask x_k mode = some r) : FnTri Tryz.prog 26 [v_Bl a, .ds 1 (ask).length (rowF (cInt .u8) default ask), .agg [.int .u8 x_k.a0, .int .u8 x_k.a1, .int .u8 x_k.a2, .int .u8 x_k.a3, .int .u8 x_k.a4, .int .u8 x_k.a5, .int .u8 x_k.a6, .int .u8 x_k.a7], .int .u8 mode] [] (Ao_v r) [] := FnTri.none (Ao_ok a ask x_k mode r h) rfl rfl
def AZ_v (r : (Bool) × (Int) × (Bi) × (Bh) × D_ × A_ × B_ × C_ × E_) : LV := .tup [.bool r.1, .int .i64 r.2.1]
def AZ_up (r : (Bool) × (Int) × (Bi) × (Bh) × D_ × A_ × B_ × C_ × E_) : Upd := [(0, some (.var (cT_60 r.2.2.1 (.map 1) r.2.2.2.1 (.op 5 (r.2.2.2.2.2.2.2.2).isSome) r.2.2.2.2.1 (.map 3) (.map 4)))), (1, some (oP2 r.2.2.2.2.2.1 [])), (2, none), (3, some (oM4 r.2.2.2.2.2.2.1)), (4, some (oM5 r.2.2.2.2.2.2.2.1)), (5, some (.vo (r.2.2.2.2.2.2.2.2).isSome (c_Bf ((r.2.2.2.2.2.2.2.2).getD default))))]
def AZ_objs (ti : Bi) (slots : A_) (key : Bh) (ga : E_) (re : D_) (pu : B_) (co : C_) : List LO := [.var (cT_60 ti (.map 1) key (.op 2 (ga).isSome) re (.map 3) (.map 4)), oP2 slots [], .vo (ga).isSome (c_Bf ((ga).getD default)), oM4 pu, oM5 co]
def AZ_c11 (ti : Bi) (slots : A_) (key : Bh) (ga : E_) (re : D_) (pu : B_) (co : C_) (a : Bl) (y7 : I_ × (Int) × (Bool)) : Option ((Bool) × (Int) × (Bi) × (Bh) × D_ × A_ × B_ × C_ × E_) :=
 (Bb ti slots key ga re pu co).bind fun y2 =>
 (Ao a y2 y7.1 y7.2.1).bind fun y4 =>
 (AH ti slots key ga re pu co y4.1 y4.2.1 (Bk.mk y4.2.2.f_Node y4.2.2.f_Reg y4.2.2.f_Item)).bind fun y6 =>
 some (y6.1, y6.2.1, y6.2.2.1, y6.2.2.2.1, y6.2.2.2.2.1, y6.2.2.2.2.2.1, pu, co, y6.2.2.2.2.2.2)
def AZ (ti : Bi) (slots : A_) (key : Bh) (ga : E_) (re : D_) (pu : B_) (co : C_) (a : Bl) : Option ((Bool) × (Int) × (Bi) × (Bh) × D_ × A_ × B_ × C_ × E_) :=
 if (((Int.tmod a.f_Kind 6) == 0) : Bool) then
  (AF ti slots key ga re pu co a.f_Key a.f_Mode a.f_Conf ([] : H_)).bind fun y3 =>
  some (false, y3.1, y3.2.1, y3.2.2.1, y3.2.2.2.1, y3.2.2.2.2.1, pu, co, y3.2.2.2.2.2)
 else
  if (((Int.tmod a.f_Kind 6) == 1) : Bool) then
   (AF ti slots key ga re pu co a.f_Key a.f_Mode a.f_Conf ([a.f_More] : H_)).bind fun y4 =>
   some (false, y4.1, y4.2.1, y4.2.2.1, y4.2.2.2.1, y4.2.2.2.2.1, pu, co, y4.2.2.2.2.2)
  else
   if (((Int.tmod a.f_Kind 6) == 3) : Bool) then
    (Al ti slots key re pu co a.f_Key a.f_Text).bind fun y5 =>
    some (false, y5.1, ti, key, re, slots, y5.2, co, ga)
   else
    if (((Int.tmod a.f_Kind 6) == 4) : Bool) then
     (AR ti slots key re pu co a.f_Key a.f_Conf).bind fun y6 =>
     some (false, y6.1, ti, key, re, slots, pu, y6.2, ga)
    else
     (BY ti slots key ga re pu co).bind fun y7 =>
     AZ_c11 ti slots key ga re pu co a y7
abbrev AZ_K1000011 (w0 : World) (W : Nat → Prop) (μ0 : Emb) (ti : Bi) (slots : A_) (key : Bh) (ga : E_) (re : D_) (pu : B_) (co : C_) (a : Bl) (y7 : I_ × (Int) × (Bool)) (r : (Bool) × (Int) × (Bi) × (Bh) × D_ × A_ × B_ × C_ × E_) : Prop := Kt_ w0 W μ0 Tryz.f9 5 6 (AZ_v r) (AZ_up r) (kAtR (bodyOf Tryz.f9) 11) ((.ptr 0 0 0) :: .any :: .any :: (.ptr 5 0 0) :: .any :: .any :: (.ptr 6 0 0) :: (.int .u8 y7.2.1) :: n_ 73 []) [some (.var (cT_60 ti (.map 1) key (.op 2 (ga).isSome) re (.map 3) (.map 4))), some (oP2 slots []), some (.vo (ga).isSome (c_Bf ((ga).getD default))), some (oM4 pu), some (oM5 co), some (.var (c_Bl a)), some (.var [.int .u8 y7.1.a0, .int .u8 y7.1.a1, .int .u8 y7.1.a2, .int .u8 y7.1.a3, .int .u8 y7.1.a4, .int .u8 y7.1.a5, .int .u8 y7.1.a6, .int .u8 y7.1.a7])]
theorem AZ_c11_ok {w0 W μ0} (hμ : Lt_ μ0 5) (ti : Bi) (slots : A_) (key : Bh) (ga : E_) (re : D_) (pu : B_) (co : C_) (a : Bl) (y7 : I_ × (Int) × (Bool)) (r : (Bool) × (Int) × (Bi) × (Bh) × D_ × A_ × B_ × C_ × E_) (h : AZ_c11 ti slots key ga re pu co a y7 = some r) : AZ_K1000011 w0 W μ0 ti slots key ga re pu co a y7 r := by
 unfold AZ_c11 at h
 obtain ⟨y2, E1, h⟩ := bs_ h
 obtain ⟨y4, E3, h⟩ := bs_ h
 obtain ⟨y6, E5, h⟩ := bs_ h
 obtain rfl := si_ h
 exact rr_ [9] 15 [.reg [(2, hk_ (hK_ [0, 1, 2, 3, 4] (Bb_v y2) (Bb_objs ti slots key ga re pu co) (Bb_up ti slots key ga re pu co y2))), (5, hC (Ao_v y4))], .reg [(10, hk_ (hK_ [0, 1, 2, 3, 4, 8] (AH_v y6) (AH_objs ti slots key ga re pu co) (AH_up pu co y6)))], .x (.mv 0 14)]
  (a_ (a_ (m_ 49 49 rfl (r1_ (a_ (a_ (a_ (Bb_ok ti slots key ga re pu co y2 E1 (sel [0, 1, 2, 3, 4]) sj_) (a_ (rl_ (.var (cT_60 ti (.map 1) key (.op 2 (ga).isSome) re (.map 3) (.map 4)))) (a_ (Eq.refl (oP2 slots [] : LO)) (a_ (rl_ (.vo (ga).isSome (c_Bf ((ga).getD default)))) (a_ (rl_ (oM4 pu)) (a_ (rl_ (oM5 co)) tr)))))) tr) (m_ 8 8 rfl (r1_ (c_ (Ao_tri a y2 y7.1 y7.2.1 y4 E3) (r1_ (r4_ (a_ (a_ (a_ (Eq.refl 8) (a_ (le_ 8 8 rfl) (Eq.refl 0))) tr) (r1_ (a_ (a_ (a_ (Eq.refl 16) (a_ (le_ 16 16 rfl) (Eq.refl 0))) tr) tr))))))))))) (a_ (r1_ (m_ 8 8 rfl (r2_ (l_ 0 16 rfl (r1_ (m_ 3 16 rfl (r1_ (m_ 16 16 rfl (a_ (a_ (Eq.refl true) tr) (a_ (a_ (a_ (AH_ok ti slots key ga re pu co y4.1 y4.2.1 (Bk.mk y4.2.2.f_Node y4.2.2.f_Reg y4.2.2.f_Item) y6 E5 (sel [0, 1, 2, 3, 4, 8]) sj_) (a_ (rl_ (.var (cT_60 ti (.map 1) key (.op 2 (ga).isSome) re (.map 3) (.map 4)))) (a_ (Eq.refl (oP2 slots [] : LO)) (a_ (rl_ (.vo (ga).isSome (c_Bf ((ga).getD default)))) (a_ (rl_ (oM4 pu)) (a_ (rl_ (oM5 co)) tr)))))) tr) (r4_ tr))))))))))) (a_ (show 8 ≠ 0 from by decide) tr))) tr)
theorem AZ_ok (ti : Bi) (slots : A_) (key : Bh) (ga : E_) (re : D_) (pu : B_) (co : C_) (a : Bl) (r : (Bool) × (Int) × (Bi) × (Bh) × D_ × A_ × B_ × C_ × E_) (h : AZ ti slots key ga re pu co a = some r) : ∀ σ, Inj 6 σ → FnTri Tryz.prog 9 (renL σ [.ptr 0 0 0, v_Bl a]) (preOf σ 0 (AZ_objs ti slots key ga re pu co)) ((AZ_v r).ren σ) (upOf σ (AZ_up r)) := by
 refine fo_ Tryz.func9 ⟨rfl, uP, rfl, trivial, trivial, trivial⟩ ⟨rfl, uP, trivial, trivial, rfl, trivial⟩ ?_
 intro w0 W μ0 hμ
 unfold AZ at h
 rcases it_ h with ⟨c1, h⟩ | ⟨c1, h⟩
 ·obtain ⟨y3, e2, h⟩ := bs_ h
  obtain rfl := si_ h
  exact rr_ [7] 25 [.reg [], .reg [], .reg [(1, hT)], .reg [(7, { call := some (hK_ [0, 1, 2, 3, 4, 6] (AF_v y3) (AF_objs ti slots key ga re pu co) (AF_up pu co y3)), cargs := some [.ptr 0 0 0, .agg [.int .u8 a.f_Key.a0, .int .u8 a.f_Key.a1, .int .u8 a.f_Key.a2, .int .u8 a.f_Key.a3, .int .u8 a.f_Key.a4, .int .u8 a.f_Key.a5, .int .u8 a.f_Key.a6, .int .u8 a.f_Key.a7], .int .u8 a.f_Mode, v_Bg a.f_Conf, .ds 11 (([] : H_)).length (rowF c_Bg default ([] : H_))] })], .x (.mv 0 14)]
   (a_ (a_ (r1_ (r2_ tr)) (a_ (r1_ (l_ 0 49 rfl (a_ (a_ (ne0 6 rfl) tr) tr))) (a_ (r1_ (f_ c1 tr)) (a_ (r2_ (m_ 9 49 rfl (r1_ (l_ 9 49 rfl (r1_ (m_ 21 49 rfl (a_ (a_ (a_ (AF_ok ti slots key ga re pu co a.f_Key a.f_Mode a.f_Conf ([] : H_) y3 e2 (sel [0, 1, 2, 3, 4, 6]) sj_) (a_ (a_ (vl_ (.ptr 0 0 0)) (a_ (vl_ (.agg [.int .u8 a.f_Key.a0, .int .u8 a.f_Key.a1, .int .u8 a.f_Key.a2, .int .u8 a.f_Key.a3, .int .u8 a.f_Key.a4, .int .u8 a.f_Key.a5, .int .u8 a.f_Key.a6, .int .u8 a.f_Key.a7])) (a_ (vl_ (.int .u8 a.f_Mode)) (a_ (vl_ (v_Bg a.f_Conf)) (a_ (le_nil_ds 11 (rowF c_Bg default [])) tr))))) (a_ (rl_ (.var (cT_60 ti (.map 1) key (.op 2 (ga).isSome) re (.map 3) (.map 4)))) (a_ (Eq.refl (oP2 slots [] : LO)) (a_ (rl_ (.vo (ga).isSome (c_Bf ((ga).getD default)))) (a_ (rl_ (oM4 pu)) (a_ (rl_ (oM5 co)) tr))))))) tr) (r2_ tr)))))))) (a_ (show 6 ≠ 0 from by decide) tr))))) tr)
 ·rcases it_ h with ⟨c2, h⟩ | ⟨c2, h⟩
  ·obtain ⟨y4, e3, h⟩ := bs_ h
   obtain rfl := si_ h
   exact rr_ [8] 29 [.reg [], .reg [], .reg [(1, hF)], .reg [(1, hT)], .reg [(9, { os := [(6, .gr 11 (([a.f_More] : H_)).length (rowF c_Bg default ([a.f_More] : H_)))], v := some (.gs 6 (([a.f_More] : H_)).length), fz := true }), (10, hk_ (hK_ [0, 1, 2, 3, 4, 7] (AF_v y4) (AF_objs ti slots key ga re pu co) (AF_up pu co y4)))], .x (.mv 0 14)]
    (a_ (a_ (r1_ (r2_ tr)) (a_ (r1_ (l_ 0 49 rfl (a_ (a_ (ne0 6 rfl) tr) tr))) (a_ (r1_ (f_ c1 tr)) (a_ (r1_ (f_ c2 tr)) (a_ (r2_ (m_ 9 49 rfl (r1_ (l_ 9 49 rfl (r1_ (m_ 21 49 rfl (r1_ (m_ 32 49 rfl (a_ (a_ (a_ (a_ (Eq.refl true) (a_ (Eq.refl 11) (a_ (lt_ 0 11 rfl) (le_ 11 16777216 rfl)))) (a_ (le_sl_gs 6 1 (some 1) rfl) (a_ (sub_lit c_Bg default 11 (fun _ => rfl) ([a.f_More] : H_)) tr))) (a_ (Nat.le_refl (([a.f_More] : H_)).length) (fz_row (enc := c_Bg) (d := default) (fun _ => rfl) ([a.f_More] : H_)))) (a_ (a_ (a_ (AF_ok ti slots key ga re pu co a.f_Key a.f_Mode a.f_Conf ([a.f_More] : H_) y4 e3 (sel [0, 1, 2, 3, 4, 7]) sj_) (a_ (rl_ (.var (cT_60 ti (.map 1) key (.op 2 (ga).isSome) re (.map 3) (.map 4)))) (a_ (Eq.refl (oP2 slots [] : LO)) (a_ (rl_ (.vo (ga).isSome (c_Bf ((ga).getD default)))) (a_ (rl_ (oM4 pu)) (a_ (rl_ (oM5 co)) tr)))))) tr) (r2_ tr))))))))))) (a_ (show 7 ≠ 0 from by decide) tr)))))) tr)
  ·rcases it_ h with ⟨c3, h⟩ | ⟨c3, h⟩
   ·obtain ⟨y5, e4, h⟩ := bs_ h
    obtain rfl := si_ h
    exact rr_ [6] 33 [.reg [], .reg [], .reg [(1, hF)], .reg [(1, hF)], .reg [(1, hT)], .reg [(5, hk_ (hK_ [0, 1, 3, 4] (Al_v y5) (Al_objs ti slots key re pu co) (Al_up slots co y5)))], .x (.mv 0 14)]
     (a_ (a_ (r1_ (r2_ tr)) (a_ (r1_ (l_ 0 49 rfl (a_ (a_ (ne0 6 rfl) tr) tr))) (a_ (r1_ (f_ c1 tr)) (a_ (r1_ (f_ c2 tr)) (a_ (r1_ (f_ c3 tr)) (a_ (r2_ (m_ 9 49 rfl (r1_ (l_ 48 49 rfl (a_ (a_ (a_ (Al_ok ti slots key re pu co a.f_Key a.f_Text y5 e4 (sel [0, 1, 3, 4]) sj_) (a_ (LO.Le.ofVarL (lel_set (cT_60 ti (.map 1) key (.op 2 (ga).isSome) re (.map 3) (.map 4)) 14 (.op 2 (ga).isSome) .any rfl (le_any _))) (a_ (Eq.refl (oP2 slots [] : LO)) (a_ (rl_ (oM4 pu)) (a_ (rl_ (oM5 co)) tr))))) tr) (r2_ tr)))))) (a_ (show 2 ≠ 0 from by decide) tr))))))) tr)
   ·rcases it_ h with ⟨c4, h⟩ | ⟨c4, h⟩
    ·obtain ⟨y6, e5, h⟩ := bs_ h
     obtain rfl := si_ h
     exact rr_ [6] 37 [.reg [], .reg [], .reg [(1, hF)], .reg [(1, hF)], .reg [(1, hF)], .reg [(1, hT)], .reg [(5, hk_ (hK_ [0, 1, 3, 4] (AR_v y6) (AR_objs ti slots key re pu co) (AR_up slots pu y6)))], .x (.mv 0 14)]
      (a_ (a_ (r1_ (r2_ tr)) (a_ (r1_ (l_ 0 49 rfl (a_ (a_ (ne0 6 rfl) tr) tr))) (a_ (r1_ (f_ c1 tr)) (a_ (r1_ (f_ c2 tr)) (a_ (r1_ (f_ c3 tr)) (a_ (r1_ (f_ c4 tr)) (a_ (r2_ (m_ 9 49 rfl (r1_ (m_ 21 49 rfl (a_ (a_ (a_ (AR_ok ti slots key re pu co a.f_Key a.f_Conf y6 e5 (sel [0, 1, 3, 4]) sj_) (a_ (LO.Le.ofVarL (lel_set (cT_60 ti (.map 1) key (.op 2 (ga).isSome) re (.map 3) (.map 4)) 14 (.op 2 (ga).isSome) .any rfl (le_any _))) (a_ (Eq.refl (oP2 slots [] : LO)) (a_ (rl_ (oM4 pu)) (a_ (rl_ (oM5 co)) tr))))) tr) (r2_ tr)))))) (a_ (show 2 ≠ 0 from by decide) tr)))))))) tr)
    ·obtain ⟨y7, e5, h⟩ := bs_ h
     exact rt_ hμ [5, 6] 39 [.reg [], .reg [], .reg [(1, hF)], .reg [(1, hF)], .reg [(1, hF)], .reg [(1, hF)], .reg [(1, hk_ (hK_ [0, 1, 2, 3, 4] (BY_v y7) (BY_objs ti slots key ga re pu co) (BY_up ti slots key ga re pu co y7)))]]
      (a_ (r1_ (r2_ tr)) (a_ (r1_ (l_ 0 49 rfl (a_ (a_ (ne0 6 rfl) tr) tr))) (a_ (r1_ (f_ c1 tr)) (a_ (r1_ (f_ c2 tr)) (a_ (r1_ (f_ c3 tr)) (a_ (r1_ (f_ c4 tr)) (a_ (r1_ (a_ (a_ (a_ (BY_ok ti slots key ga re pu co y7 e5 (sel [0, 1, 2, 3, 4]) sj_) (a_ (rl_ (.var (cT_60 ti (.map 1) key (.op 2 (ga).isSome) re (.map 3) (.map 4)))) (a_ (Eq.refl (oP2 slots [] : LO)) (a_ (rl_ (.vo (ga).isSome (c_Bf ((ga).getD default)))) (a_ (rl_ (oM4 pu)) (a_ (rl_ (oM5 co)) tr)))))) tr) (r1_ (r4_ (a_ (a_ (a_ (Eq.refl 8) (a_ (le_ 8 8 rfl) (Eq.refl 0))) tr) (r2_ tr)))))) tr))))))) (AZ_c11_ok hμ ti slots key ga re pu co a y7 r h) ⟨rfl, uP, rfl, trivial, trivial, rfl, rfl, trivial⟩
def AB_v (r : (Bool)) : LV := .bool r
def AB_c3 (y2 : Bool × (Unit) × ((Bi) × (Bh) × D_ × A_ × E_ × B_ × C_)) : Option ((Bool)) :=
 (AI).bind fun yC3_2 =>
 some yC3_2
def AB_l2 (t41 t64 t65 : Int) (l2 : List (Bl)) (y2 : (List (Bl))) (y4 : (Bool) × (Int) × (Bi) × (Bh) × D_ × A_ × B_ × C_ × E_) (k1 : (Int) → (Int) → (List (Bl)) → Option ((Bool))) : Nat → (Bool) → (Int) → Option ((Bool))
 | 0, _, _ => none
 | fuel + 1, last, t75 =>
  if ((decide (t75 < ((((l2).length - ((IntKind.wrap .i64 (t65 + 1))).toNat) : Nat) : Int))) : Bool) then
   if 0 ≤ t75 ∧ t75 < ((((l2).length - ((IntKind.wrap .i64 (t65 + 1))).toNat) : Nat) : Int) then
   if (last : Bool) then
    AB_l2 t41 t64 t65 l2 y2 y4 k1 fuel (!decide ((l2.getD (((IntKind.wrap .i64 (t65 + 1))).toNat + t75.toNat) default).f_Key = (l2.getD t65.toNat default).f_Key)) (IntKind.wrap .i64 (t75 + 1))
   else
    AB_l2 t41 t64 t65 l2 y2 y4 k1 fuel false (IntKind.wrap .i64 (t75 + 1))
   else none
  else
   (AY y4.2.2.1 y4.2.2.2.2.2.1 y4.2.2.2.1 y4.2.2.2.2.1 y4.2.2.2.2.2.2.1 y4.2.2.2.2.2.2.2.1 (l2.getD t65.toNat default).f_Key).bind fun y3 =>
   if (last : Bool) then
    if ((!y3.2) : Bool) then
     some false
    else
     if ((!(y3.1 == (l2.getD t65.toNat default).f_Text)) : Bool) then
      some false
     else
      (AM y4.2.2.1 y4.2.2.2.2.2.1 y4.2.2.2.1 y4.2.2.2.2.1 y4.2.2.2.2.2.2.1 y4.2.2.2.2.2.2.2.1 (l2.getD t65.toNat default).f_Key).bind fun y8 =>
      if ((y8 != 2) : Bool) then
       some false
      else
       k1 t64 (IntKind.wrap .i64 (t65 + 1)) l2
   else
    k1 t64 (IntKind.wrap .i64 (t65 + 1)) l2
def AB_l1 (t41 : Int) (y2 : (List (Bl))) (y4 : (Bool) × (Int) × (Bi) × (Bh) × D_ × A_ × B_ × C_ × E_) (k0 : (Int) → (Bi) → (Bh) → D_ → (List (Bl)) → A_ → E_ → B_ → C_ → Option ((Bool))) : Nat → (Int) → (Int) → (List (Bl)) → Option ((Bool))
 | 0, _, _, _ => none
 | fuel + 1, t64, t65, l2 =>
  if ((decide (t65 < t64)) : Bool) then
   if 0 ≤ t65 ∧ t65 < (((l2).length : Nat) : Int) then
   if 0 ≤ (IntKind.wrap .i64 (t65 + 1)) ∧ (IntKind.wrap .i64 (t65 + 1)) ≤ (((l2).length : Nat) : Int) ∧ (l2).length ≠ 0 then
   AB_l2 t41 t64 t65 l2 y2 y4 (AB_l1 t41 y2 y4 k0 fuel) big true 0
   else none
   else none
  else
   k0 (IntKind.wrap .i64 (t41 + 1)) y4.2.2.1 y4.2.2.2.1 y4.2.2.2.2.1 l2 y4.2.2.2.2.2.1 y4.2.2.2.2.2.2.2.2 y4.2.2.2.2.2.2.1 y4.2.2.2.2.2.2.2.1
def AB_l0 (y2 : (List (Bl))) : Nat → (Int) → (Bi) → (Bh) → D_ → (List (Bl)) → A_ → E_ → B_ → C_ → Option ((Bool))
 | 0, _, _, _, _, _, _, _, _, _ => none
 | fuel + 1, t41, ti, key, re, l, us, g, m, m2 =>
  if ((decide (t41 < ((y2).length : Int))) : Bool) then
   if 0 ≤ t41 ∧ t41 < (((y2).length : Nat) : Int) then
   (AZ ti us key g re m m2 (y2.getD t41.toNat default)).bind fun y4 =>
   if (((Int.tmod (y2.getD t41.toNat default).f_Kind 6) == 3) : Bool) then
    if ((y4.2.1 == 0) : Bool) then
     if ((l).length + (([(y2.getD t41.toNat default)] : List (Bl))).length) * 120 ≤ 140737488351232 then
     AB_l1 t41 y2 y4 (AB_l0 y2 fuel) big (((l ++ ([(y2.getD t41.toNat default)] : List (Bl)))).length : Int) 0 (l ++ ([(y2.getD t41.toNat default)] : List (Bl)))
     else none
    else
     AB_l1 t41 y2 y4 (AB_l0 y2 fuel) big ((l).length : Int) 0 l
   else
    AB_l1 t41 y2 y4 (AB_l0 y2 fuel) big ((l).length : Int) 0 l
   else none
  else
   (AI).bind fun y3 =>
   some y3
def AB_c4 (script : List (Bl)) (y2 : Bool × (Unit) × ((Bi) × (Bh) × D_ × A_ × E_ × B_ × C_)) : Option ((Bool)) :=
 (Az script).bind fun yC4_2 =>
 AB_l0 yC4_2 big 0 y2.2.2.1 y2.2.2.2.1 y2.2.2.2.2.1 ([] : List (Bl)) y2.2.2.2.2.2.1 y2.2.2.2.2.2.2.1 y2.2.2.2.2.2.2.2.1 y2.2.2.2.2.2.2.2.2
def AB (script : List (Bl)) : Option ((Bool)) :=
 (BL (Bi.mk 0 (Br.mk 0 1 1))).bind fun y2 =>
 if (y2.1 : Bool) then
  some false
 else
  (Ae script).bind fun y5 =>
  if (y5 : Bool) then
   AB_c3 y2
  else
   AB_c4 script y2
abbrev AB_K1000003 (w0 : World) (W : Nat → Prop) (μ0 : Emb) (y2 : Bool × (Unit) × ((Bi) × (Bh) × D_ × A_ × E_ × B_ × C_)) (r : (Bool)) : Prop := Kt_ w0 W μ0 Tryz.f3 0 0 (AB_v r) [] (kAtR (bodyOf Tryz.f3) 3) (.any :: .any :: .any :: (.ptr 0 0 0) :: n_ 112 []) [some (.var (cT_60 y2.2.2.1 (.map 1) y2.2.2.2.1 (.op 2 (y2.2.2.2.2.2.2.1).isSome) y2.2.2.2.2.1 (.map 3) (.map 4))), some (oP2 y2.2.2.2.2.2.1 []), some (.vo (y2.2.2.2.2.2.2.1).isSome (c_Bf ((y2.2.2.2.2.2.2.1).getD default))), some (oM4 y2.2.2.2.2.2.2.2.1), some (oM5 y2.2.2.2.2.2.2.2.2)]
abbrev AB_K2 (w0 : World) (W : Nat → Prop) (μ0 : Emb) (t41 t64 t65 : Int) (l2 : List (Bl)) (y2 : (List (Bl))) (y4 : (Bool) × (Int) × (Bi) × (Bh) × D_ × A_ × B_ × C_ × E_) (last : Bool) (t75 : Int) (r : (Bool)) : Prop := Kt_ w0 W μ0 Tryz.f3 0 0 (AB_v r) [] (kAt (bodyOf Tryz.f3) 2) (.any :: .any :: .any :: (.ptr 0 0 0) :: .any :: (.gs 1 (l2).length) :: n_ 5 ((.ptr 2 0 0) :: (.bool last) :: n_ 26 ((.ds 49 (y2).length (rowF c_Bl default y2)) :: (.int .i64 ((y2).length : Int)) :: (.int .i64 t41) :: n_ 21 ((.gs 1 (l2).length) :: (.int .i64 t64) :: (.int .i64 t65) :: n_ 7 ((.sl 1 ((IntKind.wrap .i64 (t65 + 1))).toNat 0 false ((l2).length - ((IntKind.wrap .i64 (t65 + 1))).toNat) none) :: (.int .i64 ((((l2).length - ((IntKind.wrap .i64 (t65 + 1))).toNat) : Nat) : Int)) :: (.int .i64 t75) :: n_ 40 []))))) [some (.var (cT_60 y4.2.2.1 (.map 3) y4.2.2.2.1 (.op 4 (y4.2.2.2.2.2.2.2.2).isSome) y4.2.2.2.2.1 (.map 5) (.map 6))), some (.gr 49 (l2).length (rowF c_Bl default l2)), some (.var (c_Bl (l2.getD t65.toNat default))), some (oP2 y4.2.2.2.2.2.1 []), some (.vo (y4.2.2.2.2.2.2.2.2).isSome (c_Bf ((y4.2.2.2.2.2.2.2.2).getD default))), some (oM4 y4.2.2.2.2.2.2.1), some (oM5 y4.2.2.2.2.2.2.2.1)]
abbrev AB_K1 (w0 : World) (W : Nat → Prop) (μ0 : Emb) (t41 : Int) (y2 : (List (Bl))) (y4 : (Bool) × (Int) × (Bi) × (Bh) × D_ × A_ × B_ × C_ × E_) (t64 t65 : Int) (l2 : List (Bl)) (r : (Bool)) : Prop := Kt_ w0 W μ0 Tryz.f3 0 0 (AB_v r) [] (kAt (bodyOf Tryz.f3) 1) (.any :: .any :: .any :: (.ptr 0 0 0) :: .any :: (.gs 1 (l2).length) :: n_ 33 ((.ds 49 (y2).length (rowF c_Bl default y2)) :: (.int .i64 ((y2).length : Int)) :: (.int .i64 t41) :: n_ 21 ((.gs 1 (l2).length) :: (.int .i64 t64) :: (.int .i64 t65) :: n_ 50 []))) [some (.var (cT_60 y4.2.2.1 (.map 2) y4.2.2.2.1 (.op 3 (y4.2.2.2.2.2.2.2.2).isSome) y4.2.2.2.2.1 (.map 4) (.map 5))), some (.gr 49 (l2).length (rowF c_Bl default l2)), some (oP2 y4.2.2.2.2.2.1 []), some (.vo (y4.2.2.2.2.2.2.2.2).isSome (c_Bf ((y4.2.2.2.2.2.2.2.2).getD default))), some (oM4 y4.2.2.2.2.2.2.1), some (oM5 y4.2.2.2.2.2.2.2.1)]
abbrev AB_K0 (w0 : World) (W : Nat → Prop) (μ0 : Emb) (y2 : (List (Bl))) (t41 : Int) (ti : Bi) (key : Bh) (re : D_) (l : List (Bl)) (us : A_) (g : E_) (m : B_) (m2 : C_) (r : (Bool)) : Prop := Kt_ w0 W μ0 Tryz.f3 0 0 (AB_v r) [] (kAt (bodyOf Tryz.f3) 0) (.any :: .any :: .any :: (.ptr 0 0 0) :: .any :: (.gs 1 (l).length) :: n_ 33 ((.ds 49 (y2).length (rowF c_Bl default y2)) :: (.int .i64 ((y2).length : Int)) :: (.int .i64 t41) :: n_ 74 [])) [some (.var (cT_60 ti (.map 2) key (.op 3 (g).isSome) re (.map 4) (.map 5))), some (.gr 49 (l).length (rowF c_Bl default l)), some (oP2 us []), some (.vo (g).isSome (c_Bf ((g).getD default))), some (oM4 m), some (oM5 m2)]
abbrev AB_K1000004 (w0 : World) (W : Nat → Prop) (μ0 : Emb) (script : List (Bl)) (y2 : Bool × (Unit) × ((Bi) × (Bh) × D_ × A_ × E_ × B_ × C_)) (r : (Bool)) : Prop := Kt_ w0 W μ0 Tryz.f3 0 0 (AB_v r) [] (kAtR (bodyOf Tryz.f3) 4) ((.ds 49 (script).length (rowF c_Bl default script)) :: .any :: .any :: (.ptr 0 0 0) :: n_ 112 []) [some (.var (cT_60 y2.2.2.1 (.map 1) y2.2.2.2.1 (.op 2 (y2.2.2.2.2.2.2.1).isSome) y2.2.2.2.2.1 (.map 3) (.map 4))), some (oP2 y2.2.2.2.2.2.1 []), some (.vo (y2.2.2.2.2.2.2.1).isSome (c_Bf ((y2.2.2.2.2.2.2.1).getD default))), some (oM4 y2.2.2.2.2.2.2.2.1), some (oM5 y2.2.2.2.2.2.2.2.2)]
theorem AB_c3_ok {w0 W μ0} (hμ : Lt_ μ0 0) (y2 : Bool × (Unit) × ((Bi) × (Bh) × D_ × A_ × E_ × B_ × C_)) (r : (Bool)) (h : AB_c3 y2 = some r) : AB_K1000003 w0 W μ0 y2 r := by
 unfold AB_c3 at h
 obtain ⟨yC3_2, E1, h⟩ := bs_ h
 obtain rfl := si_ h
 exact rr_ [] 11 [.reg [(3, hC (AI_v yC3_2))]]
  (a_ (a_ (r1_ (r2_ (c_ (AI_tri yC3_2 E1) (r2_ tr)))) tr) tr)
theorem AB_l2_ok {w0 W μ0} (hμ : Lt_ μ0 0) (t41 t64 t65 : Int) (l2 : List (Bl)) (y2 : (List (Bl))) (y4 : (Bool) × (Int) × (Bi) × (Bh) × D_ × A_ × B_ × C_ × E_) (k1 : (Int) → (Int) → (List (Bl)) → Option ((Bool))) (hk1 : ∀ (t64 t65 : Int) (l2 : List (Bl)) (r : (Bool)), k1 t64 t65 l2 = some r → AB_K1 w0 W μ0 t41 y2 y4 t64 t65 l2 r) : ∀ (fuel : Nat) (last : Bool) (t75 : Int) (r : (Bool)), AB_l2 t41 t64 t65 l2 y2 y4 k1 fuel last t75 = some r → AB_K2 w0 W μ0 t41 t64 t65 l2 y2 y4 last t75 r := by
 intro fuel
 induction fuel with
 | zero => intro last t75 r h; rw [AB_l2] at h; cases h
 | succ fuel ih =>
  intro last t75 r h
  rw [AB_l2] at h
  rcases it_ h with ⟨C1, h⟩ | ⟨C1, h⟩
  ·obtain ⟨G2, h⟩ := gs_ h
   rcases it_ h with ⟨C3, h⟩ | ⟨C3, h⟩
   ·exact rt_ hμ [0, 1, 2, 3, 4, 5, 6] 26 [.go, .reg [(0, hT)], .reg [], .reg [(1, hT), (6, hv_ (.bool (!decide ((l2.getD (((IntKind.wrap .i64 (t65 + 1))).toNat + t75.toNat) default).f_Key = (l2.getD t65.toNat default).f_Key))))], .reg []]
     (a_ (f_ C1 tr) (a_ (a_ (a_ (a_ (Eq.refl 49) G2) tr) (a_ (a_ (a_ (ltD G2) (le_ 49 49 rfl)) tr) (r1_ (a_ (a_ (a_ (Eq.refl 49) (a_ (le_ 49 49 rfl) (Eq.refl 0))) tr) tr)))) (a_ (r1_ (f_ C3 (r1_ (m_ 9 49 rfl (r1_ (m_ 9 49 rfl (a_ (a_ tr (a_ (leB (congrArg not ((k_arr8 .u8) (l2.getD (((IntKind.wrap .i64 (t65 + 1))).toNat + t75.toNat) default).f_Key (l2.getD t65.toNat default).f_Key))) tr)) (r2_ tr)))))))) (a_ (r2_ tr) tr)))) (ih _ _ r h) ⟨rfl, fun _ _ => rfl, rfl, uP, rfl, trivial, trivial, trivial⟩
   ·exact rt_ hμ [0, 1, 2, 3, 4, 5, 6] 26 [.go, .reg [(0, hT)], .reg [], .reg [(1, hF)], .reg []]
     (a_ (f_ C1 tr) (a_ (a_ (a_ (a_ (Eq.refl 49) G2) tr) (a_ (a_ (a_ (ltD G2) (le_ 49 49 rfl)) tr) (r1_ (a_ (a_ (a_ (Eq.refl 49) (a_ (le_ 49 49 rfl) (Eq.refl 0))) tr) tr)))) (a_ (r1_ (f_ C3 (a_ tr (t4_ (r2_ tr))))) (a_ (r2_ tr) tr)))) (ih _ _ r h) ⟨rfl, fun _ _ => rfl, rfl, uP, rfl, trivial, trivial, trivial⟩
  ·obtain ⟨y3, E2, h⟩ := bs_ h
   rcases it_ h with ⟨C4, h⟩ | ⟨C4, h⟩
   ·rcases it_ h with ⟨C5, h⟩ | ⟨C5, h⟩
    ·obtain rfl := si_ h
     exact rr_ [] 26 [.go, .reg [(0, hF)], .reg [(3, hk_ (hK_ [0, 3, 5, 6] (AY_v y3) (AY_objs y4.2.2.1 y4.2.2.2.2.2.1 y4.2.2.2.1 y4.2.2.2.2.1 y4.2.2.2.2.2.2.1 y4.2.2.2.2.2.2.2.1) (AY_up y4.2.2.2.2.2.1 y4.2.2.2.2.2.2.1 y4.2.2.2.2.2.2.2.1 y3)))], .reg [(1, hT), (4, hT)], .reg []]
      (a_ (a_ (f_ C1 tr) (a_ (r2_ (m_ 9 49 rfl (a_ (a_ (a_ (AY_ok y4.2.2.1 y4.2.2.2.2.2.1 y4.2.2.2.1 y4.2.2.2.2.1 y4.2.2.2.2.2.2.1 y4.2.2.2.2.2.2.2.1 (l2.getD t65.toNat default).f_Key y3 E2 (sel [0, 3, 5, 6]) sj_) (a_ (LO.Le.ofVarL (lel_set (cT_60 y4.2.2.1 (.map 3) y4.2.2.2.1 (.op 4 (y4.2.2.2.2.2.2.2.2).isSome) y4.2.2.2.2.1 (.map 5) (.map 6)) 14 (.op 4 (y4.2.2.2.2.2.2.2.2).isSome) .any rfl (le_any _))) (a_ (Eq.refl (oP2 y4.2.2.2.2.2.1 [] : LO)) (a_ (rl_ (oM4 y4.2.2.2.2.2.2.1)) (a_ (rl_ (oM5 y4.2.2.2.2.2.2.2.1)) tr))))) tr) (r1_ (r4_ tr))))) (a_ (r1_ (f_ C4 (r2_ (f_ C5 (t4_ (r2_ (a_ tr (t4_ (r2_ tr))))))))) (a_ (r1_ tr) tr)))) tr)
    ·rcases it_ h with ⟨C6, h⟩ | ⟨C6, h⟩
     ·obtain rfl := si_ h
      exact rr_ [] 26 [.go, .reg [(0, hF)], .reg [(3, hk_ (hK_ [0, 3, 5, 6] (AY_v y3) (AY_objs y4.2.2.1 y4.2.2.2.2.2.1 y4.2.2.2.1 y4.2.2.2.2.1 y4.2.2.2.2.2.2.1 y4.2.2.2.2.2.2.2.1) (AY_up y4.2.2.2.2.2.1 y4.2.2.2.2.2.2.1 y4.2.2.2.2.2.2.2.1 y3)))], .reg [(1, hT), (4, hF), (10, hT)], .reg []]
       (a_ (a_ (f_ C1 tr) (a_ (r2_ (m_ 9 49 rfl (a_ (a_ (a_ (AY_ok y4.2.2.1 y4.2.2.2.2.2.1 y4.2.2.2.1 y4.2.2.2.2.1 y4.2.2.2.2.2.2.1 y4.2.2.2.2.2.2.2.1 (l2.getD t65.toNat default).f_Key y3 E2 (sel [0, 3, 5, 6]) sj_) (a_ (LO.Le.ofVarL (lel_set (cT_60 y4.2.2.1 (.map 3) y4.2.2.2.1 (.op 4 (y4.2.2.2.2.2.2.2.2).isSome) y4.2.2.2.2.1 (.map 5) (.map 6)) 14 (.op 4 (y4.2.2.2.2.2.2.2.2).isSome) .any rfl (le_any _))) (a_ (Eq.refl (oP2 y4.2.2.2.2.2.1 [] : LO)) (a_ (rl_ (oM4 y4.2.2.2.2.2.2.1)) (a_ (rl_ (oM5 y4.2.2.2.2.2.2.2.1)) tr))))) tr) (r1_ (r4_ tr))))) (a_ (r1_ (f_ C4 (r2_ (f_ C5 (r2_ (l_ 48 49 rfl (r2_ (f_ C6 (a_ tr (t4_ (r2_ tr))))))))))) (a_ (r1_ tr) tr)))) tr)
     ·obtain ⟨y8, E7, h⟩ := bs_ h
      rcases it_ h with ⟨C9, h⟩ | ⟨C9, h⟩
      ·obtain rfl := si_ h
       exact rr_ [] 26 [.go, .reg [(0, hF)], .reg [(3, hk_ (hK_ [0, 3, 5, 6] (AY_v y3) (AY_objs y4.2.2.1 y4.2.2.2.2.2.1 y4.2.2.2.1 y4.2.2.2.2.1 y4.2.2.2.2.2.2.1 y4.2.2.2.2.2.2.2.1) (AY_up y4.2.2.2.2.2.1 y4.2.2.2.2.2.2.1 y4.2.2.2.2.2.2.2.1 y3)))], .reg [(1, hT), (4, hF), (10, hF), (14, hk_ (hK_ [0, 3, 5, 6] (AM_v y8) (AM_objs y4.2.2.1 y4.2.2.2.2.2.1 y4.2.2.2.1 y4.2.2.2.2.1 y4.2.2.2.2.2.2.1 y4.2.2.2.2.2.2.2.1) (AM_up y4.2.2.2.2.2.2.1 y4.2.2.2.2.2.2.2.1 y8))), (17, hT)], .reg []]
        (a_ (a_ (f_ C1 tr) (a_ (r2_ (m_ 9 49 rfl (a_ (a_ (a_ (AY_ok y4.2.2.1 y4.2.2.2.2.2.1 y4.2.2.2.1 y4.2.2.2.2.1 y4.2.2.2.2.2.2.1 y4.2.2.2.2.2.2.2.1 (l2.getD t65.toNat default).f_Key y3 E2 (sel [0, 3, 5, 6]) sj_) (a_ (LO.Le.ofVarL (lel_set (cT_60 y4.2.2.1 (.map 3) y4.2.2.2.1 (.op 4 (y4.2.2.2.2.2.2.2.2).isSome) y4.2.2.2.2.1 (.map 5) (.map 6)) 14 (.op 4 (y4.2.2.2.2.2.2.2.2).isSome) .any rfl (le_any _))) (a_ (Eq.refl (oP2 y4.2.2.2.2.2.1 [] : LO)) (a_ (rl_ (oM4 y4.2.2.2.2.2.2.1)) (a_ (rl_ (oM5 y4.2.2.2.2.2.2.2.1)) tr))))) tr) (r1_ (r4_ tr))))) (a_ (r1_ (f_ C4 (r2_ (f_ C5 (r2_ (l_ 48 49 rfl (r2_ (f_ C6 (r2_ (m_ 9 49 rfl (a_ (a_ (a_ (AM_ok y4.2.2.1 y4.2.2.2.2.2.1 y4.2.2.2.1 y4.2.2.2.2.1 y4.2.2.2.2.2.2.1 y4.2.2.2.2.2.2.2.1 (l2.getD t65.toNat default).f_Key y8 E7 (sel [0, 3, 5, 6]) sj_) (a_ (LO.Le.ofVarL (lel_set (cT_60 y4.2.2.1 (.map 3) y4.2.2.2.1 (.op 4 (y4.2.2.2.2.2.2.2.2).isSome) y4.2.2.2.2.1 (.map 5) (.map 6)) 14 (.op 4 (y4.2.2.2.2.2.2.2.2).isSome) .any rfl (le_any _))) (a_ (le_pmP v_Bh c_Bf (ag := true) (ks := ks1) (m := y4.2.2.2.2.2.1) (opn := [])) (a_ (rl_ (oM4 y4.2.2.2.2.2.2.1)) (a_ (rl_ (oM5 y4.2.2.2.2.2.2.2.1)) tr))))) tr) (r2_ (f_ C9 tr))))))))))))) (a_ (r1_ tr) tr)))) tr)
      ·exact rt_ hμ [0, 1, 3, 4, 5, 6] 27 [.go, .reg [(0, hF)], .reg [(3, hk_ (hK_ [0, 3, 5, 6] (AY_v y3) (AY_objs y4.2.2.1 y4.2.2.2.2.2.1 y4.2.2.2.1 y4.2.2.2.2.1 y4.2.2.2.2.2.2.1 y4.2.2.2.2.2.2.2.1) (AY_up y4.2.2.2.2.2.1 y4.2.2.2.2.2.2.1 y4.2.2.2.2.2.2.2.1 y3)))], .reg [(1, hT), (4, hF), (10, hF), (14, hk_ (hK_ [0, 3, 5, 6] (AM_v y8) (AM_objs y4.2.2.1 y4.2.2.2.2.2.1 y4.2.2.2.1 y4.2.2.2.2.1 y4.2.2.2.2.2.2.1 y4.2.2.2.2.2.2.2.1) (AM_up y4.2.2.2.2.2.2.1 y4.2.2.2.2.2.2.2.1 y8))), (17, hF)], .reg []]
        (a_ (f_ C1 tr) (a_ (r2_ (m_ 9 49 rfl (a_ (a_ (a_ (AY_ok y4.2.2.1 y4.2.2.2.2.2.1 y4.2.2.2.1 y4.2.2.2.2.1 y4.2.2.2.2.2.2.1 y4.2.2.2.2.2.2.2.1 (l2.getD t65.toNat default).f_Key y3 E2 (sel [0, 3, 5, 6]) sj_) (a_ (LO.Le.ofVarL (lel_set (cT_60 y4.2.2.1 (.map 3) y4.2.2.2.1 (.op 4 (y4.2.2.2.2.2.2.2.2).isSome) y4.2.2.2.2.1 (.map 5) (.map 6)) 14 (.op 4 (y4.2.2.2.2.2.2.2.2).isSome) .any rfl (le_any _))) (a_ (Eq.refl (oP2 y4.2.2.2.2.2.1 [] : LO)) (a_ (rl_ (oM4 y4.2.2.2.2.2.2.1)) (a_ (rl_ (oM5 y4.2.2.2.2.2.2.2.1)) tr))))) tr) (r1_ (r4_ tr))))) (a_ (r1_ (f_ C4 (r2_ (f_ C5 (r2_ (l_ 48 49 rfl (r2_ (f_ C6 (r2_ (m_ 9 49 rfl (a_ (a_ (a_ (AM_ok y4.2.2.1 y4.2.2.2.2.2.1 y4.2.2.2.1 y4.2.2.2.2.1 y4.2.2.2.2.2.2.1 y4.2.2.2.2.2.2.2.1 (l2.getD t65.toNat default).f_Key y8 E7 (sel [0, 3, 5, 6]) sj_) (a_ (LO.Le.ofVarL (lel_set (cT_60 y4.2.2.1 (.map 3) y4.2.2.2.1 (.op 4 (y4.2.2.2.2.2.2.2.2).isSome) y4.2.2.2.2.1 (.map 5) (.map 6)) 14 (.op 4 (y4.2.2.2.2.2.2.2.2).isSome) .any rfl (le_any _))) (a_ (le_pmP v_Bh c_Bf (ag := true) (ks := ks1) (m := y4.2.2.2.2.2.1) (opn := [])) (a_ (rl_ (oM4 y4.2.2.2.2.2.2.1)) (a_ (rl_ (oM5 y4.2.2.2.2.2.2.2.1)) tr))))) tr) (r2_ (f_ C9 tr))))))))))))) (a_ (r2_ tr) tr)))) (hk1 _ _ _ r h) ⟨rfl, fun _ _ => rfl, uP, rfl, trivial, trivial, trivial⟩
   ·exact rt_ hμ [0, 1, 3, 4, 5, 6] 27 [.go, .reg [(0, hF)], .reg [(3, hk_ (hK_ [0, 3, 5, 6] (AY_v y3) (AY_objs y4.2.2.1 y4.2.2.2.2.2.1 y4.2.2.2.1 y4.2.2.2.2.1 y4.2.2.2.2.2.2.1 y4.2.2.2.2.2.2.2.1) (AY_up y4.2.2.2.2.2.1 y4.2.2.2.2.2.2.1 y4.2.2.2.2.2.2.2.1 y3)))], .reg [(1, hF)], .reg []]
     (a_ (f_ C1 tr) (a_ (r2_ (m_ 9 49 rfl (a_ (a_ (a_ (AY_ok y4.2.2.1 y4.2.2.2.2.2.1 y4.2.2.2.1 y4.2.2.2.2.1 y4.2.2.2.2.2.2.1 y4.2.2.2.2.2.2.2.1 (l2.getD t65.toNat default).f_Key y3 E2 (sel [0, 3, 5, 6]) sj_) (a_ (LO.Le.ofVarL (lel_set (cT_60 y4.2.2.1 (.map 3) y4.2.2.2.1 (.op 4 (y4.2.2.2.2.2.2.2.2).isSome) y4.2.2.2.2.1 (.map 5) (.map 6)) 14 (.op 4 (y4.2.2.2.2.2.2.2.2).isSome) .any rfl (le_any _))) (a_ (Eq.refl (oP2 y4.2.2.2.2.2.1 [] : LO)) (a_ (rl_ (oM4 y4.2.2.2.2.2.2.1)) (a_ (rl_ (oM5 y4.2.2.2.2.2.2.2.1)) tr))))) tr) (r1_ (r4_ tr))))) (a_ (r1_ (f_ C4 (a_ tr (t2_ (t4_ (t8_ (r1_ tr))))))) (a_ (r2_ tr) tr)))) (hk1 _ _ _ r h) ⟨rfl, fun _ _ => rfl, uP, rfl, trivial, trivial, trivial⟩
theorem AB_l1_ok {w0 W μ0} (hμ : Lt_ μ0 0) (t41 : Int) (y2 : (List (Bl))) (y4 : (Bool) × (Int) × (Bi) × (Bh) × D_ × A_ × B_ × C_ × E_) (k0 : (Int) → (Bi) → (Bh) → D_ → (List (Bl)) → A_ → E_ → B_ → C_ → Option ((Bool))) (hk0 : ∀ (t41 : Int) (ti : Bi) (key : Bh) (re : D_) (l : List (Bl)) (us : A_) (g : E_) (m : B_) (m2 : C_) (r : (Bool)), k0 t41 ti key re l us g m m2 = some r → AB_K0 w0 W μ0 y2 t41 ti key re l us g m m2 r) : ∀ (fuel : Nat) (t64 t65 : Int) (l2 : List (Bl)) (r : (Bool)), AB_l1 t41 y2 y4 k0 fuel t64 t65 l2 = some r → AB_K1 w0 W μ0 t41 y2 y4 t64 t65 l2 r := by
 intro fuel
 induction fuel with
 | zero => intro t64 t65 l2 r h; rw [AB_l1] at h; cases h
 | succ fuel ih =>
  intro t64 t65 l2 r h
  rw [AB_l1] at h
  rcases it_ h with ⟨C1, h⟩ | ⟨C1, h⟩
  ·obtain ⟨G2, h⟩ := gs_ h
   obtain ⟨G3, h⟩ := gs_ h
   exact rt_ hμ [0, 1, 6, 2, 3, 4, 5] 30 [.go, .reg [(0, hT)], .reg [], .reg [], .reg []]
    (a_ (f_ C1 tr) (a_ (r1_ (a_ (a_ (a_ (Eq.refl 49) G2) tr) (a_ (a_ (a_ (ltN G2) (le_ 49 49 rfl)) tr) (r2_ (a_ (a_ (a_ (Eq.refl 49) (a_ (le_ 49 49 rfl) (Eq.refl 0))) tr) tr))))) (a_ (r1_ tr) (a_ (r1_ (r2_ (a_ (a_ (a_ (Eq.refl 49) G3) tr) (r2_ tr)))) tr)))) (AB_l2_ok hμ t41 t64 t65 l2 y2 y4 (AB_l1 t41 y2 y4 k0 fuel) ih big _ _ r h) ⟨rfl, fun _ _ => rfl, rfl, uP, rfl, trivial, trivial, trivial⟩
  ·exact rt_ hμ [0, 1, 2, 3, 4, 5] 19 [.go, .reg [(0, hF)], .reg []]
    (a_ (f_ C1 tr) (a_ (r2_ tr) tr)) (hk0 _ _ _ _ _ _ _ _ _ r h) ⟨rfl, fun _ _ => rfl, uP, rfl, trivial, trivial, trivial⟩
theorem AB_l0_ok {w0 W μ0} (hμ : Lt_ μ0 0) (y2 : (List (Bl))) : ∀ (fuel : Nat) (t41 : Int) (ti : Bi) (key : Bh) (re : D_) (l : List (Bl)) (us : A_) (g : E_) (m : B_) (m2 : C_) (r : (Bool)), AB_l0 y2 fuel t41 ti key re l us g m m2 = some r → AB_K0 w0 W μ0 y2 t41 ti key re l us g m m2 r := by
 intro fuel
 induction fuel with
 | zero => intro t41 ti key re l us g m m2 r h; rw [AB_l0] at h; cases h
 | succ fuel ih =>
  intro t41 ti key re l us g m m2 r h
  rw [AB_l0] at h
  rcases it_ h with ⟨C1, h⟩ | ⟨C1, h⟩
  ·obtain ⟨G2, h⟩ := gs_ h
   obtain ⟨y4, E3, h⟩ := bs_ h
   rcases it_ h with ⟨C5, h⟩ | ⟨C5, h⟩
   ·rcases it_ h with ⟨C6, h⟩ | ⟨C6, h⟩
    ·obtain ⟨G7, h⟩ := gs_ h
     exact rt_ hμ [0, 9, 2, 7, 4, 5] 36 [.go, .reg [(0, hT)], .reg [], .reg [(2, hk_ (hK_ [0, 2, 3, 4, 5, 7] (AZ_v y4) (AZ_objs ti us key g re m m2) (AZ_up y4)))], .reg [(4, hT), (7, hT)], .reg [(2, { os := [(8, .gr 49 (([(y2.getD t41.toNat default)] : List (Bl))).length (rowF c_Bl default ([(y2.getD t41.toNat default)] : List (Bl))))], v := some (.gs 8 (([(y2.getD t41.toNat default)] : List (Bl))).length) }), (3, { app := 3, os := [(9, .gr 49 ((l ++ ([(y2.getD t41.toNat default)] : List (Bl)))).length (rowF c_Bl default (l ++ ([(y2.getD t41.toNat default)] : List (Bl)))))], v := some (.gs 9 ((l ++ ([(y2.getD t41.toNat default)] : List (Bl)))).length) })], .reg []]
      (a_ (f_ C1 tr) (a_ (a_ (a_ (a_ (Eq.refl 49) G2) tr) (a_ (a_ (le_ 49 49 rfl) tr) (r1_ (a_ (a_ (a_ (Eq.refl 49) (a_ (le_ 49 49 rfl) (Eq.refl 0))) tr) tr)))) (a_ (r1_ (m_ 49 49 rfl (a_ (a_ (a_ (AZ_ok ti us key g re m m2 (y2.getD t41.toNat default) y4 E3 (sel [0, 2, 3, 4, 5, 7]) sj_) (a_ (rl_ (.var (cT_60 ti (.map 2) key (.op 3 (g).isSome) re (.map 4) (.map 5)))) (a_ (Eq.refl (oP2 us [] : LO)) (a_ (rl_ (.vo (g).isSome (c_Bf ((g).getD default)))) (a_ (rl_ (oM4 m)) (a_ (rl_ (oM5 m2)) tr)))))) tr) (r1_ (r4_ tr))))) (a_ (r1_ (l_ 0 49 rfl (a_ (a_ (ne0 6 rfl) tr) (r1_ (f_ C5 (r2_ (f_ C6 tr))))))) (a_ (r1_ (m_ 49 49 rfl (a_ (a_ (a_ (Eq.refl true) (a_ (Eq.refl 49) (a_ (lt_ 0 49 rfl) (le_ 49 16777216 rfl)))) (a_ (le_sl_gs 8 1 (some 1) rfl) (a_ (sub_lit c_Bl default 49 (fun _ => rfl) ([(y2.getD t41.toNat default)] : List (Bl))) tr))) (a_ (a_ (a_ (a_ (Eq.refl 49) (Nat.le_refl (([(y2.getD t41.toNat default)] : List (Bl))).length)) (a_ (a_ (lt_ 0 49 rfl) (a_ (lt_ 0 120 rfl) (a_ G7 (a_ (Eq.refl 49) (Eq.refl true))))) (a_ (Eq.refl 49) (Nat.le_refl (l).length)))) (a_ (le_gs_app 9 l ([(y2.getD t41.toNat default)] : List (Bl))) (a_ (sub_app c_Bl default 49 l ([(y2.getD t41.toNat default)] : List (Bl))) tr))) (r1_ tr))))) (a_ (r1_ (r2_ tr)) tr)))))) (AB_l1_ok hμ t41 y2 y4 (AB_l0 y2 fuel) ih big _ _ _ r h) ⟨rfl, fun _ _ => rfl, uP, rfl, trivial, trivial, trivial⟩
    ·exact rt_ hμ [0, 1, 2, 7, 4, 5] 35 [.go, .reg [(0, hT)], .reg [], .reg [(2, hk_ (hK_ [0, 2, 3, 4, 5, 7] (AZ_v y4) (AZ_objs ti us key g re m m2) (AZ_up y4)))], .reg [(4, hT), (7, hF)], .reg []]
      (a_ (f_ C1 tr) (a_ (a_ (a_ (a_ (Eq.refl 49) G2) tr) (a_ (a_ (le_ 49 49 rfl) tr) (r1_ (a_ (a_ (a_ (Eq.refl 49) (a_ (le_ 49 49 rfl) (Eq.refl 0))) tr) tr)))) (a_ (r1_ (m_ 49 49 rfl (a_ (a_ (a_ (AZ_ok ti us key g re m m2 (y2.getD t41.toNat default) y4 E3 (sel [0, 2, 3, 4, 5, 7]) sj_) (a_ (rl_ (.var (cT_60 ti (.map 2) key (.op 3 (g).isSome) re (.map 4) (.map 5)))) (a_ (Eq.refl (oP2 us [] : LO)) (a_ (rl_ (.vo (g).isSome (c_Bf ((g).getD default)))) (a_ (rl_ (oM4 m)) (a_ (rl_ (oM5 m2)) tr)))))) tr) (r1_ (r4_ tr))))) (a_ (r1_ (l_ 0 49 rfl (a_ (a_ (ne0 6 rfl) tr) (r1_ (f_ C5 (r2_ (f_ C6 tr))))))) (a_ (r1_ (r2_ tr)) tr))))) (AB_l1_ok hμ t41 y2 y4 (AB_l0 y2 fuel) ih big _ _ _ r h) ⟨rfl, fun _ _ => rfl, uP, rfl, trivial, trivial, trivial⟩
   ·exact rt_ hμ [0, 1, 2, 7, 4, 5] 35 [.go, .reg [(0, hT)], .reg [], .reg [(2, hk_ (hK_ [0, 2, 3, 4, 5, 7] (AZ_v y4) (AZ_objs ti us key g re m m2) (AZ_up y4)))], .reg [(4, hF)], .reg []]
     (a_ (f_ C1 tr) (a_ (a_ (a_ (a_ (Eq.refl 49) G2) tr) (a_ (a_ (le_ 49 49 rfl) tr) (r1_ (a_ (a_ (a_ (Eq.refl 49) (a_ (le_ 49 49 rfl) (Eq.refl 0))) tr) tr)))) (a_ (r1_ (m_ 49 49 rfl (a_ (a_ (a_ (AZ_ok ti us key g re m m2 (y2.getD t41.toNat default) y4 E3 (sel [0, 2, 3, 4, 5, 7]) sj_) (a_ (rl_ (.var (cT_60 ti (.map 2) key (.op 3 (g).isSome) re (.map 4) (.map 5)))) (a_ (Eq.refl (oP2 us [] : LO)) (a_ (rl_ (.vo (g).isSome (c_Bf ((g).getD default)))) (a_ (rl_ (oM4 m)) (a_ (rl_ (oM5 m2)) tr)))))) tr) (r1_ (r4_ tr))))) (a_ (r1_ (l_ 0 49 rfl (a_ (a_ (ne0 6 rfl) tr) (r1_ (f_ C5 (t2_ (r1_ tr))))))) (a_ (r1_ (r2_ tr)) tr))))) (AB_l1_ok hμ t41 y2 y4 (AB_l0 y2 fuel) ih big _ _ _ r h) ⟨rfl, fun _ _ => rfl, uP, rfl, trivial, trivial, trivial⟩
  ·obtain ⟨y3, E2, h⟩ := bs_ h
   obtain rfl := si_ h
   exact rr_ [] 19 [.go, .reg [(0, hF)], .reg [(0, hC (AI_v y3))]]
    (a_ (a_ (f_ C1 tr) (a_ (c_ (AI_tri y3 E2) (r1_ tr)) tr)) tr)
theorem AB_c4_ok {w0 W μ0} (hμ : Lt_ μ0 0) (script : List (Bl)) (y2 : Bool × (Unit) × ((Bi) × (Bh) × D_ × A_ × E_ × B_ × C_)) (r : (Bool)) (h : AB_c4 script y2 = some r) : AB_K1000004 w0 W μ0 script y2 r := by
 unfold AB_c4 at h
 obtain ⟨yC4_2, E1, h⟩ := bs_ h
 exact rt_ hμ [0, 5, 1, 2, 3, 4] 18 [.void (.gr 49 (([] : List (Bl))).length (rowF c_Bl default ([] : List (Bl)))), .reg [(0, hv_ (.gs 5 (([] : List (Bl))).length))], .reg [(1, hC (Az_v yC4_2))]]
  (a_ (Eq.refl 0) (a_ (a_ (a_ tr (a_ (le_nil_gs 5) tr)) tr) (a_ (r1_ (c_ (Az_tri script yC4_2 E1) (r2_ tr))) tr))) (AB_l0_ok hμ yC4_2 big _ _ _ _ _ _ _ _ _ r h) ⟨rfl, fun _ _ => rfl, uP, rfl, trivial, trivial, trivial⟩
theorem AB_ok (script : List (Bl)) (r : (Bool)) (h : AB script = some r) : ∀ σ, Inj 0 σ → FnTri Tryz.prog 3 (renL σ [.ds 49 (script).length (rowF c_Bl default script)]) (preOf σ 0 []) ((AB_v r).ren σ) (upOf σ []) := by
 refine fo_ Tryz.func3 trivial trivial ?_
 intro w0 W μ0 hμ
 unfold AB at h
 obtain ⟨y2, e1, h⟩ := bs_ h
 rcases it_ h with ⟨c3, h⟩ | ⟨c3, h⟩
 ·obtain rfl := si_ h
  exact rr_ [] 23 [.reg [], .reg [(2, hC (BL_vA y2.2.1))], .reg [], .reg []]
   (a_ (a_ (r1_ tr) (a_ (a_ (a_ (Eq.refl true) tr) (a_ (a_ (Eq.refl true) tr) (a_ (a_ (a_ (BL_triA (Bi.mk 0 (Br.mk 0 1 1)) y2.2.1 y2.2.2 (altA e1 c3)) tr) tr) (r1_ (r4_ tr))))) (a_ (r1_ (r2_ (t2_ (r2_ (t2_ (r1_ tr)))))) (a_ (r1_ (r2_ (a_ tr (r2_ tr)))) tr)))) tr)
 ·obtain ⟨y5, e4, h⟩ := bs_ h
  rcases it_ h with ⟨c6, h⟩ | ⟨c6, h⟩
  ·exact rt_ hμ [0, 1, 2, 3, 4] 21 [.reg [], .reg [(2, hk_ (hK_ [0, 1, 2, 3, 4] (BL_vB y2.2.2) [] (BL_upB y2.2.2)))], .reg [(8, hC (Ae_v y5)), (9, hT)]]
    (a_ (r1_ tr) (a_ (a_ (a_ (Eq.refl true) tr) (a_ (a_ (Eq.refl true) tr) (a_ (a_ (a_ (BL_okB (Bi.mk 0 (Br.mk 0 1 1)) y2.2.2 y2.2.1 (altB e1 c3) (sel [0, 1, 2, 3, 4]) sj_) tr) tr) (r1_ (r4_ tr))))) (a_ (r8_ (c_ (Ae_tri script y5 e4) (f_ c6 tr))) tr))) (AB_c3_ok hμ y2 r h) ⟨rfl, uP, rfl, trivial, trivial, trivial⟩
  ·exact rt_ hμ [0, 1, 2, 3, 4] 22 [.reg [], .reg [(2, hk_ (hK_ [0, 1, 2, 3, 4] (BL_vB y2.2.2) [] (BL_upB y2.2.2)))], .reg [(8, hC (Ae_v y5)), (9, hF)]]
    (a_ (r1_ tr) (a_ (a_ (a_ (Eq.refl true) tr) (a_ (a_ (Eq.refl true) tr) (a_ (a_ (a_ (BL_okB (Bi.mk 0 (Br.mk 0 1 1)) y2.2.2 y2.2.1 (altB e1 c3) (sel [0, 1, 2, 3, 4]) sj_) tr) tr) (r1_ (r4_ tr))))) (a_ (r8_ (c_ (Ae_tri script y5 e4) (f_ c6 tr))) tr))) (AB_c4_ok hμ script y2 r h) ⟨rfl, uP, rfl, trivial, trivial, trivial⟩
theorem AB_tri (script : List (Bl)) (r : (Bool)) (h : AB script = some r) : FnTri Tryz.prog 3 [.ds 49 (script).length (rowF c_Bl default script)] [] (AB_v r) [] := FnTri.none (AB_ok script r h) rfl rfl
end
end Go.Proofs.YtljjdeanilgloaaGreatDoor.Wk
